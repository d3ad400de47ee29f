/- 'ref.ReadCode'. Conditions: the text is at most as long as the bound. -/
import Derived.Test.YtjegfimagjmpdaaGreatDoorCrR
import Derived.Test.YtjegfimagjmpdaaGreatDoorCsR
import Derived.Test.YtjegfimagjmpdaaGreatDoorTextU
set_option maxRecDepth 100000
namespace Go.Proofs.YtjegfimagjmpdaaGreatDoor
open Go.ChangeShapes Go.WideShapes Go.ChangeAt Go.RowKit
theorem cutG_le {c : UInt8} : ∀ (L cur : List UInt8), (∀ p ∈ cutG c L cur, p.length ≤ cur.length + L.length) ∧ (cutG c L cur).length ≤ L.length + 1
  | [], cur => by simp [cutG]
  | a :: L, cur => by
    unfold cutG
    split
    · obtain ⟨h1, h2⟩ := cutG_le (c := c) L []
      refine ⟨fun p hp => ?_, by simp; omega⟩
      rcases List.mem_cons.1 hp with rfl | hp
      · simp
      · have := h1 p hp
        simp at this ⊢
        omega
    · obtain ⟨h1, h2⟩ := cutG_le (c := c) L (cur ++ [a])
      refine ⟨fun p hp => ?_, by simp; omega⟩
      have := h1 p hp
      simp at this ⊢
      omega
theorem cutG_last (c : UInt8) (L : List UInt8) : ∃ Q x, cutG c L [] = Q ++ [x] := by
  obtain ⟨a, t, h⟩ := cutG_pos c L
  rw [h]
  exact ⟨(a :: t).dropLast, (a :: t).getLast (by simp), (List.dropLast_concat_getLast _).symm⟩
section
variable {op : List UInt8 → Option Nat} {K : KK} {l : List UInt8}
theorem doc_text (h : isTx l = true) : lineC op false K l = match unq (l.drop 5) with | none => none | some t => some { K with texts := K.texts ++ [⟨t.toArray⟩] } := by
  unfold lineC
  rw [if_pos h]
  cases unq (l.drop 5) with
  | none => rfl
  | some t => exact if_neg fun h => by simp at h
theorem doc_func (h : isTx l = false) {n x y z : List UInt8} (hP : cutG 32 l [] = [[102, 117, 110, 99], n, x, y, z]) : lineC op false K l = match numsL [x, y, z] with | some [p, s, c] => some { K with funcs := K.funcs ++ [⟨⟨n.toArray⟩, p, s, c, []⟩] } | _ => none := by
  rw [line_o h]
  unfold lineO
  rw [hP]
  exact if_pos rfl
theorem doc_ins (h : isTx l = false) {o x1 x2 x3 x4 x5 : List UInt8} (hP : cutG 32 l [] = [[], [], o, x1, x2, x3, x4, x5]) (hf : K.funcs ≠ []) : lineC op false K l = match op o, numsL [x1, x2, x3, x4, x5] with | some k, some [z1, z2, z3, z4, z5] => some { K with funcs := addIns K.funcs ⟨(k : Int), z1, z2, z3, z4, z5⟩ } | _, _ => none := by
  rw [line_o h]
  unfold lineO
  rw [hP]
  exact if_pos ⟨rfl, rfl, hf⟩
theorem doc_else (h : isTx l = false) {p0 : List UInt8} {P : List (List UInt8)} (hP : cutG 32 l [] = p0 :: P) (h5 : P.length = 4 → p0 ≠ [102, 117, 110, 99]) (h8 : P.length = 7 → p0 = [] → P.head? = some [] → K.funcs = []) : lineC op false K l = none := by
  rw [line_o h]
  unfold lineO
  rw [hP]
  split
  · rename_i a n x y z hc
    injection hc with h1 h2
    subst h1 h2
    exact if_neg (h5 rfl)
  · rename_i a b o x1 x2 x3 x4 x5 hc
    injection hc with h1 h2
    subst h1 h2
    exact if_neg fun hh => hh.2.2 (h8 rfl hh.1 (by rw [hh.2.1]; rfl))
  · rfl
end
theorem isTx_of {l p0 : List UInt8} {P : List (List UInt8)} (hP : cutG 32 l [] = p0 :: P) : isTx l = decide (p0 = [116, 101, 120, 116] ∧ 5 < l.length) := by
  unfold isTx
  rw [hP]
  simp
theorem fold_step {op : List UInt8 → Option Nat} {st : Bool} {K : KK} {Ls : List (List UInt8)} {k : Nat} {l : List UInt8} (h : Ls[k]? = some l) : foldC op st K (Ls.drop k) = (lineC op st K l).bind fun K' => foldC op st K' (Ls.drop (k + 1)) := by
  obtain ⟨hk, e⟩ := List.getElem?_eq_some_iff.1 h
  rw [List.drop_eq_getElem_cons hk, e]
  rfl
/-- The reader's box, the bad code's box, the rows: all but the code's box stays. -/
def Ky (g : Nat) (W w : World) : Prop := w.os = W.os ∧ w.tape = W.tape ∧ w.output = W.output ∧ W.heap.size ≤ w.heap.size ∧ ∀ k, k < W.heap.size → k ≠ g → w.heap[k]? = W.heap[k]?
theorem Ky.refl {g : Nat} {W : World} : Ky g W W := ⟨rfl, rfl, rfl, Nat.le_refl _, fun _ _ _ => rfl⟩
theorem Ky.below {g : Nat} {W w w' : World} (h : Ky g W w) (hb : Below w.heap.size w w') : Ky g W w' :=
  ⟨hb.os.trans h.1, hb.tape.trans h.2.1, hb.output.trans h.2.2.1, Nat.le_trans h.2.2.2.1 hb.size, fun k hk hn => (hb.block k (Nat.lt_of_lt_of_le hk h.2.2.2.1)).trans (h.2.2.2.2 k hk hn)⟩
theorem Ky.grown {g : Nat} {W w w' : World} (h : Ky g W w) {row : Option Nat} (hg : w.grownBy w' row) (hr : ∀ q, row = some q → W.heap.size ≤ q) : Ky g W w' :=
  ⟨hg.os.trans h.1, hg.tape.trans h.2.1, hg.output.trans h.2.2.1, Nat.le_trans h.2.2.2.1 hg.size, fun k hk hn => (hg.block k (Nat.lt_of_lt_of_le hk h.2.2.2.1) (fun e => by have := hr k e.symm; omega)).trans (h.2.2.2.2 k hk hn)⟩
theorem Ky.alloc {g : Nat} {W w : World} (h : Ky g W w) (o : Obj) : Ky g W (w.alloc o) := h.below (al o)
theorem Ky.set {g : Nat} {W w : World} (h : Ky g W w) (o : Nat) (v : Value) : Ky g W (w.setCell ⟨g, o, none⟩ v) :=
  ⟨h.1, h.2.1, h.2.2.1, by simpa [World.setCell] using h.2.2.2.1, fun k hk hn => (Below.heap_setCell _ _ _ _ (fun e => hn e)).trans (h.2.2.2.2 k hk hn)⟩
theorem Ky.setN {g b : Nat} {W w : World} (h : Ky g W w) (o : Nat) (v : Value) (hb : W.heap.size ≤ b) : Ky g W (w.setCell ⟨b, o, none⟩ v) :=
  ⟨h.1, h.2.1, h.2.2.1, by simpa [World.setCell] using h.2.2.2.1, fun k hk hn => (Below.heap_setCell _ _ _ _ (fun e => by have e' : k = b := e; omega)).trans (h.2.2.2.2 k hk hn)⟩
theorem Ky.cell {g : Nat} {W w : World} (h : Ky g W w) {p : Addr} (hp : p.block < W.heap.size) (hn : p.block ≠ g) : w.cell? p = W.cell? p := World.cell?_of_block (h.2.2.2.2 p.block hp hn)
theorem Ky.le {g : Nat} {W w : World} (h : Ky g W w) : W.heap.size ≤ w.heap.size := h.2.2.2.1
theorem Ky.bel {g B : Nat} {W w : World} (h : Ky g W w) (hg : B ≤ g) (hB : B ≤ W.heap.size) : Below B W w := ⟨h.1, h.2.1, h.2.2.1, h.2.2.2.1, fun k hk => h.2.2.2.2 k (by omega) (by omega)⟩
theorem box_cells {P g : Nat} {W w : World} (hP : W.heap[P]? = some (.cells #[.slice none 0 0, .slice none 0 0] 25 (0, 0))) (hK : Ky g W w) (hne : P ≠ g) : w.cell? ⟨P, 0, none⟩ = some (.slice none 0 0) ∧ w.cell? ⟨P, 1, none⟩ = some (.slice none 0 0) ∧ w.frozen? ⟨P, 0, none⟩ = false ∧ w.frozen? ⟨P, 1, none⟩ = false ∧ P < w.heap.size := by
  have h := (hK.2.2.2.2 P (lt_size hP) hne).trans hP
  exact ⟨by rw [Lib.cell_of_heap h]; rfl, by rw [Lib.cell_of_heap h]; rfl, Lib.frozen_of_heap h 0, Lib.frozen_of_heap h 1, lt_size h⟩
theorem bad_of {s : List UInt8} {op : List UInt8 → Option Nat} {K : KK} {l : List UInt8} {o : Option KK} {F : KK → Option KK} (h1 : chkC s o = readC s) (h2 : o = (lineC op false K l).bind F) (h3 : lineC op false K l = none) : readC s = none := by
  rw [← h1, h2, h3]
  rfl
theorem rd_drop {w : World} {pg po d n : Nat} {L : List (List UInt8)} (hb : pg < w.heap.size) (h : ∀ j p, L[j]? = some p → w.cell? ⟨pg, po + j, none⟩ = some (.string ⟨p.toArray⟩)) (hn : (L.drop d).length = n) : Rd w w.heap.size 1 (some ⟨pg, po + d, none⟩) n (strs (L.drop d)) := by
  refine ⟨by unfold strs; rw [List.length_map, hn]; simp, fun _ => ⟨pg, po + d, rfl, hb, fun j u hu => ?_⟩⟩
  unfold strs at hu
  rw [List.getElem?_map] at hu
  cases hp : (L.drop d)[j]? with
  | none => rw [hp] at hu; cases hu
  | some p =>
    rw [hp] at hu
    injection hu with hu
    subst hu
    rw [List.getElem?_drop] at hp
    have := h (d + j) p hp
    rwa [← Nat.add_assoc] at this
theorem row_head {row : List UInt8} {u : Value} {kw : ByteArray} (hn : 0 < (cutG 32 row []).length) (hu : (strs (cutG 32 row []))[0]? = some u) (hk : kw = ⟨((cutG 32 row []).headD []).toArray⟩) : u = .string kw := by
  have h2 := strs_get hn hu
  rw [h2, hk]
  cases cutG 32 row [] <;> rfl
theorem op_more {r j : Nat} {o : List UInt8} (h : (r = 0 ∧ ∀ q, 1 ≤ q → q ≤ j → wordL q ≠ o) ∨ (1 ≤ r ∧ r ≤ 41 ∧ wordL r = o)) (hj : wordL (j + 1) ≠ o) : (r = 0 ∧ ∀ q, 1 ≤ q → q ≤ j + 1 → wordL q ≠ o) ∨ (1 ≤ r ∧ r ≤ 41 ∧ wordL r = o) := by
  rcases h with ⟨h1, h2⟩ | h
  · refine .inl ⟨h1, fun q a b => ?_⟩
    by_cases e : q = j + 1
    · rw [e]; exact hj
    · exact h2 q a (by omega)
  · exact .inr h
/-- A row that is cut in the midst of a region: is it cut? -/
def RwI (b : Bool) (B : Nat) (W : World) (rb ro rn : Nat) (kw : ByteArray) (w : World) : Prop := (b = false → w = W) ∧ (b = true → Below B W w ∧ w.cell? ⟨rb, ro, none⟩ = some (.string kw) ∧ 0 < rn)
section
variable {b : Bool} {B : Nat} {W w : World} {rb ro rn : Nat} {kw : ByteArray}
theorem RwI.zero : RwI false B W rb ro rn kw W := ⟨fun _ => rfl, (fun h => by cases h)⟩
theorem RwI.one (hb : Below W.heap.size W w) (h : w.cell? ⟨rb, ro, none⟩ = some (.string kw)) (hn : 0 < rn) (hB : B ≤ W.heap.size) : RwI true B W rb ro rn kw w := ⟨(fun h => by cases h), fun _ => ⟨hb.mono hB, h, hn⟩⟩
theorem RwI.w0 (h : RwI b B W rb ro rn kw w) (hb : b = false) : w = W := h.1 hb
theorem RwI.w1 (h : RwI b B W rb ro rn kw w) (hb : b = true) : Below B W w ∧ w.cell? ⟨rb, ro, none⟩ = some (.string kw) ∧ 0 < rn := h.2 hb
theorem RwI.cell (h : RwI b B W rb ro rn kw w) {p : Addr} {u : Value} (hp : W.cell? p = some u) (hB : p.block < B) : w.cell? p = some u := by
  cases b with
  | false => rw [h.w0 rfl]; exact hp
  | true => exact ((h.w1 rfl).1.cell hB).trans hp
end
def Rc19I (s : ByteArray) (w00 : World) (u3 : Value) (rg : Nat) (rc : Nat) (lg : Nat) (lo : Nat) (nL : Nat) (lc : Nat) (ls : ByteArray) (pg : Nat) (po : Nat) (pc : Nat) (u11 : Value) (u12 : Value) (lb : Nat) (l0 : Nat) (c3 : Nat) (u15 : Value) (u16 : Value) (u17 : Value) (u18 : Value) (u19 : Value) (u20 : Value) (k : Nat) (u39 : Value) (u50 : Value) (u51 : Value) (u52 : Value) (u53 : Value) (u54 : Value) (u55 : Value) (u56 : Value) (u57 : Value) (u58 : Value) (u59 : Value) (u60 : Value) (u61 : Value) (u62 : Value) (u63 : Value) (u64 : Value) (u83 : Value) (u84 : Value) (u85 : Value) (u86 : Value) (u87 : Value) (u88 : Value) (u89 : Value) (u90 : Value) (u91 : Value) (u92 : Value) (u93 : Value) (u94 : Value) (u95 : Value) (u96 : Value) (u97 : Value) (u98 : Value) (u99 : Value) (u100 : Value) (u101 : Value) (u102 : Value) (u103 : Value) (u104 : Value) (u105 : Value) (u106 : Value) (u107 : Value) (u108 : Value) (u109 : Value) (u110 : Value) (u111 : Value) (u112 : Value) (u113 : Value) (u114 : Value) (u115 : Value) (u116 : Value) (u117 : Value) (u118 : Value) (u119 : Value) (u120 : Value) (u121 : Value) (u122 : Value) (u123 : Value) (u124 : Value) (u125 : Value) (u126 : Value) (u127 : Value) (u128 : Value) (u129 : Value) (u130 : Value) (u131 : Value) (u132 : Value) (u133 : Value) (u134 : Value) (u135 : Value) (u136 : Value) (u137 : Value) (u138 : Value) (u139 : Value) (u140 : Value) (u141 : Value) (u142 : Value) (u143 : Value) (u144 : Value) (u145 : Value) (u146 : Value) (u147 : Value) (u148 : Value) (u149 : Value) (u150 : Value) (u151 : Value) (u152 : Value) (u153 : Value) (u154 : Value) (u155 : Value) (u156 : Value) (u157 : Value) (u158 : Value) (u159 : Value) (u160 : Value) (u161 : Value) (u162 : Value) (u163 : Value) (u164 : Value) (u165 : Value) (u166 : Value) (u167 : Value) (u168 : Value) (u169 : Value) (u170 : Value) (u171 : Value) (u172 : Value) (u173 : Value) (u174 : Value) (u175 : Value) (u176 : Value) (u177 : Value) (u178 : Value) (u179 : Value) (u180 : Value) (u181 : Value) (u182 : Value) (u183 : Value) (u184 : Value) (u185 : Value) (u186 : Value) (u187 : Value) (u188 : Value) (FA : Option Addr) (nf : Nat) (fc : Nat) (nm : ByteArray) (z1 : Int) (z2 : Int) (z3 : Int) (w4 : World) (w2 : World) (K : KK) (ds : List Value) (L : Array Bool) (a : Act) (w : World) : Prop :=
  ∃ (b0 b1 b2 b3 b4 b5 b6 b7 b8 b9 b10 b11 b12 b13 b14 b15 b16 b17 b18 : Bool) (A5 : Option Addr) (c5 : Nat), L = #[b0, b1, b2, b3, b4, b5, b6, b7, b8, b9, b10, b11, b12, b13, b14, b15, b16, b17, b18] ∧ a = { tmps := #[Value.string s, undef, Value.pointer (some { block := w00.heap.size, off := 0 }), u3, Value.pointer (some { block := w00.heap.size + 1, off := 0 }), Value.pointer (some { block := w00.heap.size + 1 + 1, off := 0 }), Value.slice (some { block := rg, off := 0 }) 41 rc, Value.slice (some { block := lg, off := lo }) (nL + 1) lc, undef, Value.string ls, Value.slice (some { block := pg, off := po }) 5 pc, u11, u12, Value.slice (some { block := lb, off := l0 }) 3 c3, Value.bool true, u15, u16, u17, u18, u19, u20, undef, undef, Value.agg #[Value.slice none 0 0, Value.slice none 0 0], Value.slice (some { block := rg, off := 0 }) 41 rc, Value.string s, Value.slice (some { block := lg, off := lo }) (nL + 1) lc, Value.slice (some { block := lg, off := lo }) (nL + 1) lc, Value.slice (some { block := lg, off := lo }) (nL + 1) lc, Value.int IntKind.i64 (↑nL + 1), Value.int IntKind.i64 ↑nL, Value.slice (some { block := lg, off := lo }) nL lc, Value.int IntKind.i64 ↑nL, Value.int IntKind.i64 ↑k, Value.bool true, Value.pointer (some { block := lg, off := lo + k }), Value.string ls, Value.string ls, Value.slice (some { block := pg, off := po }) 5 pc, u39, Value.bool false, Value.slice (some { block := pg, off := po }) 5 pc, Value.pointer (some { block := pg, off := po }), Value.string { data := #[102, 117, 110, 99] }, Value.bool false, Value.bool false, undef, undef, undef, Value.bool false, u50, u51, u52, u53, u54, u55, u56, u57, u58, u59, u60, u61, u62, u63, u64, Value.bool true, Value.slice (some { block := pg, off := po }) 5 pc, Value.pointer (some { block := pg, off := po }), Value.string { data := #[102, 117, 110, 99] }, Value.bool true, Value.bool true, Value.slice (some { block := pg, off := po }) 5 pc, Value.int IntKind.i64 5, Value.bool true, Value.bool true, Value.tuple #[Value.slice (some { block := lb, off := l0 }) 3 c3, Value.bool true], Value.slice (some { block := pg, off := po }) 5 pc, Value.slice (some { block := pg, off := po + 2 }) 3 (pc - 2), Value.tuple #[Value.slice (some { block := lb, off := l0 }) 3 c3, Value.bool true], Value.slice (some { block := lb, off := l0 }) 3 c3, Value.bool true, Value.bool true, Value.bool false, u83, pkd b0 (.pointer (some ⟨w00.heap.size + 1, 0, none⟩)) (u84), pkd b1 (.slice FA nf fc) (u85), pkd b2 (.slice (some ⟨pg, po, none⟩) 5 pc) (u86), pkd b3 (.pointer (some ⟨pg, po + 1, none⟩)) (u87), pkd b4 (.string nm) (u88), pkd b5 (.slice (some ⟨lb, l0, none⟩) 3 c3) (u89), pkd b6 (.pointer (some ⟨lb, l0, none⟩)) (u90), pkd b7 (.int .i64 z1) (u91), pkd b8 (.slice (some ⟨lb, l0, none⟩) 3 c3) (u92), pkd b9 (.pointer (some ⟨lb, l0 + 1, none⟩)) (u93), pkd b10 (.int .i64 z2) (u94), pkd b11 (.slice (some ⟨lb, l0, none⟩) 3 c3) (u95), pkd b12 (.pointer (some ⟨lb, l0 + 2, none⟩)) (u96), pkd b13 (.int .i64 z3) (u97), pkd b14 (.agg #[.string nm, .int .i64 z1, .int .i64 z2, .int .i64 z3, .slice none 0 0]) (u98), pkd b15 (.slice (some ⟨w4.heap.size, 0, none⟩) 1 1) (u99), pkd b16 (.slice A5 (nf + 1) c5) (u100), pkd b17 (.pointer (some ⟨w00.heap.size + 1, 0, none⟩)) (u101), u102, u103, u104, u105, u106, u107, u108, u109, u110, u111, u112, u113, u114, u115, u116, u117, u118, u119, u120, u121, u122, u123, u124, u125, u126, u127, u128, u129, u130, u131, u132, u133, u134, u135, u136, u137, u138, u139, u140, u141, u142, u143, u144, u145, u146, u147, u148, u149, u150, u151, u152, u153, u154, u155, u156, u157, u158, u159, u160, u161, u162, u163, u164, u165, u166, u167, u168, u169, u170, u171, u172, u173, u174, u175, u176, u177, u178, u179, u180, u181, u182, u183, u184, u185, u186, u187, u188, undef, undef, undef, undef, undef, undef, undef, undef, undef, undef, undef, undef, undef, undef], defers := [] } ∧ (ApI b15 b16 b18 w4.drew (.cells #[.string nm, .int .i64 z1, .int .i64 z2, .int .i64 z3, .slice none 0 0] 44) w2.heap.size 44 5 (.slice FA nf fc) nf (fzL K.funcs ds ++ [.string nm, .int .i64 z1, .int .i64 z2, .int .i64 z3, .slice none 0 0]) ⟨w00.heap.size + 1, 0, none⟩ (.slice A5 (nf + 1) c5) w)
def Rc26I (s : ByteArray) (w00 : World) (u3 : Value) (rg : Nat) (rc : Nat) (lg : Nat) (lo : Nat) (nL : Nat) (lc : Nat) (ls : ByteArray) (pg : Nat) (po : Nat) (pc : Nat) (u11 : Value) (u12 : Value) (u13 : Value) (u14 : Value) (sl : Value) (ok : Bool) (r : Nat) (j : Nat) (row : List UInt8) (u20 : Value) (k : Nat) (u39 : Value) (u50 : Value) (u51 : Value) (u52 : Value) (u53 : Value) (u54 : Value) (u55 : Value) (u56 : Value) (u57 : Value) (u58 : Value) (u59 : Value) (u60 : Value) (u61 : Value) (u62 : Value) (u63 : Value) (u64 : Value) (u75 : Value) (u76 : Value) (u77 : Value) (u78 : Value) (u79 : Value) (u80 : Value) (u81 : Value) (u82 : Value) (u83 : Value) (u84 : Value) (u85 : Value) (u86 : Value) (u87 : Value) (u88 : Value) (u89 : Value) (u90 : Value) (u91 : Value) (u92 : Value) (u93 : Value) (u94 : Value) (u95 : Value) (u96 : Value) (u97 : Value) (u98 : Value) (u99 : Value) (u100 : Value) (u101 : Value) (FA : Option Addr) (nf : Nat) (fc : Nat) (u137 : Value) (u138 : Value) (u139 : Value) (u140 : Value) (u141 : Value) (u142 : Value) (u143 : Value) (u144 : Value) (u145 : Value) (u146 : Value) (u147 : Value) (u148 : Value) (u149 : Value) (u150 : Value) (u151 : Value) (u152 : Value) (u153 : Value) (u154 : Value) (u155 : Value) (u156 : Value) (u157 : Value) (u158 : Value) (u159 : Value) (u160 : Value) (u161 : Value) (u162 : Value) (u163 : Value) (u164 : Value) (u165 : Value) (u166 : Value) (u167 : Value) (u168 : Value) (u169 : Value) (u170 : Value) (u171 : Value) (u172 : Value) (u173 : Value) (u174 : Value) (u175 : Value) (u176 : Value) (u177 : Value) (u178 : Value) (u179 : Value) (u180 : Value) (u181 : Value) (u182 : Value) (u183 : Value) (u184 : Value) (u185 : Value) (u186 : Value) (u187 : Value) (u188 : Value) (kw : ByteArray) (os : ByteArray) (bq : Bool) (wr : World) (L : Array Bool) (a : Act) (w : World) : Prop :=
  ∃ (b0 b1 b2 b3 b4 b5 b6 b7 : Bool) (rb ro rn rc9 : Nat), L = #[b0, b1, b2, b3, b4, b5, b6, b7] ∧ a = { tmps := #[Value.string s, undef, Value.pointer (some { block := w00.heap.size, off := 0 }), u3, Value.pointer (some { block := w00.heap.size + 1, off := 0 }), Value.pointer (some { block := w00.heap.size + 1 + 1, off := 0 }), Value.slice (some { block := rg, off := 0 }) 41 rc, Value.slice (some { block := lg, off := lo }) (nL + 1) lc, undef, Value.string ls, Value.slice (some { block := pg, off := po }) 8 pc, u11, u12, u13, u14, sl, Value.bool ok, Value.int IntKind.i64 ↑r, Value.int IntKind.i64 ↑j, Value.string { data := row.toArray }, u20, undef, undef, Value.agg #[Value.slice none 0 0, Value.slice none 0 0], Value.slice (some { block := rg, off := 0 }) 41 rc, Value.string s, Value.slice (some { block := lg, off := lo }) (nL + 1) lc, Value.slice (some { block := lg, off := lo }) (nL + 1) lc, Value.slice (some { block := lg, off := lo }) (nL + 1) lc, Value.int IntKind.i64 (↑nL + 1), Value.int IntKind.i64 ↑nL, Value.slice (some { block := lg, off := lo }) nL lc, Value.int IntKind.i64 ↑nL, Value.int IntKind.i64 ↑k, Value.bool true, Value.pointer (some { block := lg, off := lo + k }), Value.string ls, Value.string ls, Value.slice (some { block := pg, off := po }) 8 pc, u39, Value.bool false, Value.slice (some { block := pg, off := po }) 8 pc, Value.pointer (some { block := pg, off := po }), Value.string { data := #[] }, Value.bool false, Value.bool false, undef, undef, undef, Value.bool false, u50, u51, u52, u53, u54, u55, u56, u57, u58, u59, u60, u61, u62, u63, u64, Value.bool false, Value.slice (some { block := pg, off := po }) 8 pc, Value.pointer (some { block := pg, off := po }), Value.string { data := #[] }, Value.bool false, Value.bool false, undef, undef, undef, Value.bool false, u75, u76, u77, u78, u79, u80, u81, u82, u83, u84, u85, u86, u87, u88, u89, u90, u91, u92, u93, u94, u95, u96, u97, u98, u99, u100, u101, Value.bool true, Value.slice (some { block := pg, off := po }) 8 pc, Value.int IntKind.i64 8, Value.bool true, Value.bool true, Value.slice (some { block := pg, off := po }) 8 pc, Value.pointer (some { block := pg, off := po }), Value.string { data := #[] }, Value.bool true, Value.bool true, Value.bool true, Value.slice (some { block := pg, off := po }) 8 pc, Value.pointer (some { block := pg, off := po + 1 }), Value.string { data := #[] }, Value.bool true, Value.bool true, Value.bool true, Value.pointer (some { block := w00.heap.size + 1, off := 0 }), Value.slice FA nf fc, Value.int IntKind.i64 ↑nf, Value.bool true, Value.bool true, Value.tuple #[sl, Value.bool ok], Value.slice (some { block := pg, off := po }) 8 pc, Value.slice (some { block := pg, off := po + 3 }) 5 (pc - 3), Value.tuple #[sl, Value.bool ok], sl, Value.bool ok, Value.slice (some { block := rg, off := 0 }) 41 rc, Value.int IntKind.i64 41, Value.int IntKind.i64 ↑j, Value.bool true, Value.int IntKind.i64 ↑j, Value.pointer (some { block := rg, off := j }), Value.string { data := row.toArray }, pkd b0 (.string ⟨row.toArray⟩) (u137), pkd b1 (.slice (some ⟨rb, ro, none⟩) rn rc9) (u138), pkd b2 (.pointer (some ⟨rb, ro, none⟩)) (u139), pkd b3 (.string kw) (u140), pkd b4 (.slice (some ⟨pg, po, none⟩) 8 pc) (u141), pkd b5 (.pointer (some ⟨pg, po + 2, none⟩)) (u142), pkd b6 (.string os) (u143), pkd b7 (.bool bq) (u144), u145, u146, u147, u148, u149, u150, u151, u152, u153, u154, u155, u156, u157, u158, u159, u160, u161, u162, u163, u164, u165, u166, u167, u168, u169, u170, u171, u172, u173, u174, u175, u176, u177, u178, u179, u180, u181, u182, u183, u184, u185, u186, u187, u188, undef, undef, undef, undef, undef, undef, undef, undef, undef, undef, undef, undef, undef, undef], defers := [] } ∧ (RwI b1 wr.heap.size wr.drew rb ro rn kw w)
def Rc32I (s : ByteArray) (w00 : World) (u3 : Value) (rg : Nat) (rc : Nat) (lg : Nat) (lo : Nat) (nL : Nat) (lc : Nat) (ls : ByteArray) (pg : Nat) (po : Nat) (pc : Nat) (u11 : Value) (u12 : Value) (u13 : Value) (u14 : Value) (lb : Nat) (l0 : Nat) (c3 : Nat) (r : Nat) (u18 : Value) (u19 : Value) (b : Nat) (nl : Nat) (k : Nat) (u39 : Value) (u50 : Value) (u51 : Value) (u52 : Value) (u53 : Value) (u54 : Value) (u55 : Value) (u56 : Value) (u57 : Value) (u58 : Value) (u59 : Value) (u60 : Value) (u61 : Value) (u62 : Value) (u63 : Value) (u64 : Value) (u75 : Value) (u76 : Value) (u77 : Value) (u78 : Value) (u79 : Value) (u80 : Value) (u81 : Value) (u82 : Value) (u83 : Value) (u84 : Value) (u85 : Value) (u86 : Value) (u87 : Value) (u88 : Value) (u89 : Value) (u90 : Value) (u91 : Value) (u92 : Value) (u93 : Value) (u94 : Value) (u95 : Value) (u96 : Value) (u97 : Value) (u98 : Value) (u99 : Value) (u100 : Value) (u101 : Value) (fc : Nat) (u134 : Value) (u135 : Value) (u136 : Value) (u137 : Value) (u138 : Value) (u139 : Value) (u140 : Value) (u141 : Value) (u142 : Value) (u143 : Value) (u144 : Value) (u145 : Value) (u146 : Value) (u147 : Value) (u154 : Value) (u162 : Value) (u163 : Value) (u164 : Value) (u165 : Value) (u166 : Value) (u167 : Value) (u168 : Value) (u169 : Value) (u170 : Value) (u171 : Value) (u172 : Value) (u173 : Value) (u174 : Value) (u175 : Value) (u176 : Value) (u177 : Value) (u178 : Value) (u179 : Value) (u180 : Value) (u181 : Value) (u182 : Value) (u183 : Value) (u184 : Value) (u185 : Value) (u186 : Value) (u187 : Value) (u188 : Value) (DA : Option Addr) (ml : Nat) (DC : Nat) (z1 : Int) (z2 : Int) (z3 : Int) (z4 : Int) (z5 : Int) (wr : World) (w2 : World) (f : FF) (L : Array Bool) (a : Act) (w : World) : Prop :=
  ∃ (b0 b1 b2 b3 b4 b5 b6 b7 b8 b9 b10 b11 b12 b13 b14 b15 b16 b17 b18 b19 b20 b21 b22 b23 b24 b25 b26 : Bool) (A5 : Option Addr) (c5 : Nat), L = #[b0, b1, b2, b3, b4, b5, b6, b7, b8, b9, b10, b11, b12, b13, b14, b15, b16, b17, b18, b19, b20, b21, b22, b23, b24, b25, b26] ∧ a = { tmps := #[Value.string s, undef, Value.pointer (some { block := w00.heap.size, off := 0 }), u3, Value.pointer (some { block := w00.heap.size + 1, off := 0 }), Value.pointer (some { block := w00.heap.size + 1 + 1, off := 0 }), Value.slice (some { block := rg, off := 0 }) 41 rc, Value.slice (some { block := lg, off := lo }) (nL + 1) lc, undef, Value.string ls, Value.slice (some { block := pg, off := po }) 8 pc, u11, u12, u13, u14, Value.slice (some { block := lb, off := l0 }) 5 c3, Value.bool true, Value.int IntKind.i64 ↑r, u18, u19, Value.pointer (some { block := b, off := nl * 5 }), undef, undef, Value.agg #[Value.slice none 0 0, Value.slice none 0 0], Value.slice (some { block := rg, off := 0 }) 41 rc, Value.string s, Value.slice (some { block := lg, off := lo }) (nL + 1) lc, Value.slice (some { block := lg, off := lo }) (nL + 1) lc, Value.slice (some { block := lg, off := lo }) (nL + 1) lc, Value.int IntKind.i64 (↑nL + 1), Value.int IntKind.i64 ↑nL, Value.slice (some { block := lg, off := lo }) nL lc, Value.int IntKind.i64 ↑nL, Value.int IntKind.i64 ↑k, Value.bool true, Value.pointer (some { block := lg, off := lo + k }), Value.string ls, Value.string ls, Value.slice (some { block := pg, off := po }) 8 pc, u39, Value.bool false, Value.slice (some { block := pg, off := po }) 8 pc, Value.pointer (some { block := pg, off := po }), Value.string { data := #[] }, Value.bool false, Value.bool false, undef, undef, undef, Value.bool false, u50, u51, u52, u53, u54, u55, u56, u57, u58, u59, u60, u61, u62, u63, u64, Value.bool false, Value.slice (some { block := pg, off := po }) 8 pc, Value.pointer (some { block := pg, off := po }), Value.string { data := #[] }, Value.bool false, Value.bool false, undef, undef, undef, Value.bool false, u75, u76, u77, u78, u79, u80, u81, u82, u83, u84, u85, u86, u87, u88, u89, u90, u91, u92, u93, u94, u95, u96, u97, u98, u99, u100, u101, Value.bool true, Value.slice (some { block := pg, off := po }) 8 pc, Value.int IntKind.i64 8, Value.bool true, Value.bool true, Value.slice (some { block := pg, off := po }) 8 pc, Value.pointer (some { block := pg, off := po }), Value.string { data := #[] }, Value.bool true, Value.bool true, Value.bool true, Value.slice (some { block := pg, off := po }) 8 pc, Value.pointer (some { block := pg, off := po + 1 }), Value.string { data := #[] }, Value.bool true, Value.bool true, Value.bool true, Value.pointer (some { block := w00.heap.size + 1, off := 0 }), Value.slice (some { block := b, off := 0 }) (nl + 1) fc, Value.int IntKind.i64 (↑nl + 1), Value.bool true, Value.bool true, Value.tuple #[Value.slice (some { block := lb, off := l0 }) 5 c3, Value.bool true], Value.slice (some { block := pg, off := po }) 8 pc, Value.slice (some { block := pg, off := po + 3 }) 5 (pc - 3), Value.tuple #[Value.slice (some { block := lb, off := l0 }) 5 c3, Value.bool true], Value.slice (some { block := lb, off := l0 }) 5 c3, Value.bool true, Value.slice (some { block := rg, off := 0 }) 41 rc, Value.int IntKind.i64 41, Value.int IntKind.i64 41, Value.bool false, u134, u135, u136, u137, u138, u139, u140, u141, u142, u143, u144, u145, u146, u147, Value.bool true, Value.bool false, Value.bool false, Value.int IntKind.i64 ↑r, Value.bool false, Value.bool false, u154, Value.pointer (some { block := w00.heap.size + 1, off := 0 }), Value.slice (some { block := b, off := 0 }) (nl + 1) fc, Value.pointer (some { block := w00.heap.size + 1, off := 0 }), Value.slice (some { block := b, off := 0 }) (nl + 1) fc, Value.int IntKind.i64 (↑nl + 1), Value.int IntKind.i64 ↑nl, Value.pointer (some { block := b, off := nl * 5 }), pkd b0 (.pointer (some ⟨b, nl * 5, none⟩)) (u162), pkd b1 (.pointer (some ⟨b, nl * 5, none⟩)) (u163), pkd b2 (.pointer (some ⟨b, nl * 5, none⟩)) (u164), pkd b3 (.pointer (some ⟨b, nl * 5 + 4, none⟩)) (u165), pkd b4 (.slice DA ml DC) (u166), pkd b5 (.int .i64 (r : Int)) (u167), pkd b6 (.slice (some ⟨lb, l0, none⟩) 5 c3) (u168), pkd b7 (.pointer (some ⟨lb, l0, none⟩)) (u169), pkd b8 (.int .i64 z1) (u170), pkd b9 (.slice (some ⟨lb, l0, none⟩) 5 c3) (u171), pkd b10 (.pointer (some ⟨lb, l0 + 1, none⟩)) (u172), pkd b11 (.int .i64 z2) (u173), pkd b12 (.slice (some ⟨lb, l0, none⟩) 5 c3) (u174), pkd b13 (.pointer (some ⟨lb, l0 + 2, none⟩)) (u175), pkd b14 (.int .i64 z3) (u176), pkd b15 (.slice (some ⟨lb, l0, none⟩) 5 c3) (u177), pkd b16 (.pointer (some ⟨lb, l0 + 3, none⟩)) (u178), pkd b17 (.int .i64 z4) (u179), pkd b18 (.slice (some ⟨lb, l0, none⟩) 5 c3) (u180), pkd b19 (.pointer (some ⟨lb, l0 + 4, none⟩)) (u181), pkd b20 (.int .i64 z5) (u182), pkd b21 (.agg #[.int .i64 (r : Int), .int .i64 z1, .int .i64 z2, .int .i64 z3, .int .i64 z4, .int .i64 z5]) (u183), pkd b22 (.slice (some ⟨wr.heap.size, 0, none⟩) 1 1) (u184), pkd b23 (.slice A5 (ml + 1) c5) (u185), pkd b24 (.pointer (some ⟨b, nl * 5, none⟩)) (u186), pkd b25 (.pointer (some ⟨b, nl * 5 + 4, none⟩)) (u187), u188, undef, undef, undef, undef, undef, undef, undef, undef, undef, undef, undef, undef, undef, undef], defers := [] } ∧ (ApI b22 b23 b26 wr.drew (.cells #[.int .i64 (r : Int), .int .i64 z1, .int .i64 z2, .int .i64 z3, .int .i64 z4, .int .i64 z5] 47) w2.heap.size 47 6 (.slice DA ml DC) ml (inL f.ins ++ [.int .i64 (r : Int), .int .i64 z1, .int .i64 z2, .int .i64 z3, .int .i64 z4, .int .i64 z5]) ⟨b, nl * 5 + 4, none⟩ (.slice A5 (ml + 1) c5) w)
set_option maxHeartbeats 400000000 in
theorem refReadCode_any (s : ByteArray) (w : World) (hs : s.size ≤ 1048576) : Calls Tryz.prog 5 #[.string s] w (RdAns s.data.toList w) := by
  obtain ⟨s0, hsi, sz0, sz1, sz2⟩ := info_parts info_str
  obtain ⟨i0, hi, hz0, hz1, hz2⟩ := info_parts info_ins
  obtain ⟨j0, hj, jz0, jz1, jz2⟩ := info_parts info_fn
  obtain ⟨Ls, xl, hQ⟩ := cutG_last 10 s.data.toList
  have HDOC := Lib.hid (readC_doc hQ)
  have hle := cutG_le (c := 10) s.data.toList []
  rw [hQ] at hle
  have hsl : s.data.toList.length = s.size := rfl
  have HLE := Lib.hid (show ∀ p ∈ Ls, p.length ≤ 1048576 from fun p hp => by have := hle.1 p (by simp [hp]); simp at this; omega)
  obtain ⟨nL, hnL⟩ : ∃ n, n = Ls.length := ⟨_, rfl⟩
  have hnl : nL ≤ 1048576 := by have := hle.2; simp at this; omega
  have hca := fun W => cutAt_any s 10 10 (Lib.hid rfl) (by omega) W
  have hll : (Ls ++ [xl]).length = nL + 1 := by simp [hnL]
  rw [hQ, hll] at hca
  have HCA := Lib.hid hca
  have HNL := Lib.hid hnL
  clear hca hll hnL hle hsl hQ
  go_enter Tryz.func5, Tryz.ntmps5
  go_wp2_with fail
  generalize hW : ((w.alloc (.cells #[.slice none 0 0, .slice none 0 0] 25)).alloc (.cells #[.slice none 0 0, .slice none 0 0] 25)).alloc (.cells #[.slice none 0 0, .slice none 0 0] 25) = W
  have HPX : Hid (W.heap[w.heap.size]? = some (.cells #[.slice none 0 0, .slice none 0 0] 25 (0, 0)) ∧ W.heap[w.heap.size + 1]? = some (.cells #[.slice none 0 0, .slice none 0 0] 25 (0, 0)) ∧ W.heap[w.heap.size + 1 + 1]? = some (.cells #[.slice none 0 0, .slice none 0 0] 25 (0, 0))) := Lib.hid (by
    subst hW
    have e1 := heap_alloc_new w (.cells #[.slice none 0 0, .slice none 0 0] 25)
    have e2 := heap_alloc_new (w.alloc (.cells #[.slice none 0 0, .slice none 0 0] 25)) (.cells #[.slice none 0 0, .slice none 0 0] 25)
    have e3 := heap_alloc_new ((w.alloc (.cells #[.slice none 0 0, .slice none 0 0] 25)).alloc (.cells #[.slice none 0 0, .slice none 0 0] 25)) (.cells #[.slice none 0 0, .slice none 0 0] 25)
    refine ⟨?_, ?_, ?_⟩
    · rw [Lib.alloc_old _ _ _ (by simp; omega), Lib.alloc_old _ _ _ (by simp)]; exact e1
    · rw [Lib.alloc_old _ _ _ (by simp)]; simpa using e2
    · simpa using e3)
  have HWB := Lib.hid (show Below w.heap.size w W by subst hW; exact sq (sq (al _) (al _)) (al _))
  have hws : W.heap.size = w.heap.size + 3 := by subst hW; simp
  clear hW
  refine Calls.mono (cutAt_rowsO W) ?_
  rintro e w1 ⟨rg, rc, cur, rfl, hrg, hcur, hb1⟩
  go_wp2_with fail
  refine Calls.mono (HCA.out w1) ?_
  rintro e w2 ⟨LA, lc, rfl, hown, hb2⟩
  have hcap := (own_cap hown).1
  obtain ⟨lg, lo, hLA, hlg, hlc⟩ := (Rd.of_own hown).2 (by omega)
  subst hLA
  have hbs1 := hb1.size
  have hbs2 := hb2.size
  have HRG := Lib.hid ((hb2.block rg (lt_size hrg)).trans hrg)
  have hrgl : rg < w2.heap.size := Nat.lt_of_lt_of_le (lt_size hrg) hbs2
  have HCUR := Lib.hid hcur
  have HB2 := Lib.hid (HWB.out.trans ((hb1.trans (hb2.mono hb1.size)).mono (by omega)))
  have HLC := Lib.hid (fun j l (h : Ls[j]? = some l) => hlc j _ (strs_at (show (Ls ++ [xl])[j]? = some l by rw [List.getElem?_append_left (List.getElem?_eq_some_iff.1 h).1]; exact h)))
  have HPY : Hid (w2.heap[w.heap.size]? = some (.cells #[.slice none 0 0, .slice none 0 0] 25 (0, 0)) ∧ w2.heap[w.heap.size + 1]? = some (.cells #[.slice none 0 0, .slice none 0 0] 25 (0, 0)) ∧ w2.heap[w.heap.size + 1 + 1]? = some (.cells #[.slice none 0 0, .slice none 0 0] 25 (0, 0))) := Lib.hid ⟨(hb2.block _ (by omega)).trans ((hb1.block _ (by omega)).trans HPX.out.1), (hb2.block _ (by omega)).trans ((hb1.block _ (by omega)).trans HPX.out.2.1), (hb2.block _ (by omega)).trans ((hb1.block _ (by omega)).trans HPX.out.2.2)⟩
  have hrne : rg ≠ w.heap.size + 1 := fun e => by
    have h1 := HPY.out.2.1
    rw [← e, HRG.out] at h1
    injection h1 with h1
    injection h1 with _ h1
    exact tne1 h1
  have hlne : lg ≠ w.heap.size + 1 := fun e => by
    obtain ⟨c2, h2⟩ := own_ty hown (b := lg) rfl
    have h1 := HPY.out.2.1
    rw [← e, h2] at h1
    injection h1 with h1
    injection h1 with _ h1
    exact tne1 h1
  have hl2 : w.heap.size + 3 ≤ w2.heap.size := by omega
  clear hb1 hb2 hown hrg hcur hlc HPX HCA
  go_wp2_with fail
  go_loopw [33] (fun i wr => ∃ (k : Nat) (K : KK), i = .int .i64 (k : Int) ∧ k ≤ nL ∧ Hid (foldC opW false ⟨[], []⟩ Ls = foldC opW false K (Ls.drop k)) ∧ Hid (CdO w2.heap.size (w.heap.size + 1) K wr) ∧ Hid (cntK K ≤ k) ∧ Hid (Ky (w.heap.size + 1) w2 wr)) (fun i _ => nL - (intOf i).toNat)
  case atStart => exact ⟨0, ⟨[], []⟩, rfl, Nat.zero_le _, Lib.hid rfl, Lib.hid ⟨_, _, _, CdC.start HPY.out.2.1⟩, Lib.hid (by simp [cntK]), Lib.hid Ky.refl⟩
  case round =>
    obtain ⟨k, K, rfl, hk, HFO, HCO, HCN, HKY⟩ := hrel
    have hky := HKY.out.le
    obtain ⟨FA, fc, TA, tc, ds, hcd⟩ := HCO.out.form
    obtain ⟨nf, hnf⟩ : ∃ n, n = K.funcs.length := ⟨_, rfl⟩
    obtain ⟨nt, hnt⟩ : ∃ n, n = K.texts.length := ⟨_, rfl⟩
    have HNF := Lib.hid hnf
    have HNT := Lib.hid hnt
    clear HCO
    by_cases hkl : k < nL
    · obtain ⟨l, hl⟩ : ∃ l, Ls[k]? = some l := ⟨Ls[k]'(by rw [← HNL.out]; exact hkl), List.getElem?_eq_getElem _⟩
      have hll : l.length ≤ 1048576 := HLE.out l (List.mem_of_getElem? hl)
      have HFS := Lib.hid (HFO.out.trans (fold_step hl))
      have hlcell := (HKY.out.cell (p := ⟨lg, lo + k, none⟩) hlg hlne).trans (HLC.out k l hl)
      have hki : (k : Int) < (nL : Int) := by omega
      rw [← hnf, ← hnt] at hcd
      have HCD := Lib.hid hcd
      have hfl : nf ≤ 1048576 := by
        have : ∀ l : List FF, l.length ≤ (l.map fun f => 1 + f.ins.length).sum := fun l => by
          induction l with
          | nil => simp
          | cons a l ih => simp only [List.length_cons, List.map_cons, List.sum_cons]; omega
        have := this K.funcs
        have := HCN.out
        unfold cntK at this
        omega
      have htl : nt ≤ 1048576 := by have := HCN.out; unfold cntK at this; omega
      clear hnf hnt hl HFO hcd
      obtain ⟨p0, P, hP⟩ := cutG_pos 32 l
      obtain ⟨np, hnp⟩ : ∃ n, n = P.length := ⟨_, rfl⟩
      have hnpl : np ≤ 1048576 := by
        have := (cutG_le (c := 32) l []).2
        rw [hP] at this
        simp at this
        omega
      have hcl := fun W => cutAt_any ⟨l.toArray⟩ 32 32 (Lib.hid rfl) (by show l.length ≤ _; omega) W
      rw [show (⟨l.toArray⟩ : ByteArray).data.toList = l from rfl, hP, show (p0 :: P).length = np + 1 by simp [hnp]] at hcl
      have HCL := Lib.hid hcl
      have HP := Lib.hid hP
      have HNP := Lib.hid hnp
      obtain ⟨ls, hls⟩ : ∃ ls : ByteArray, ls = ⟨l.toArray⟩ := ⟨_, rfl⟩
      have HLZ := Lib.hid (show ls.size = l.length by rw [hls]; rfl)
      have hlsm : ls.size ≤ 1048576 := by have := HLZ.out; omega
      have HLS := Lib.hid hls
      rw [← hls] at HCL hlcell
      clear hcl hP hnp hls
      go_wp2_with fail
      refine Calls.mono (HCL.out _) ?_
      rintro e w3 ⟨PA, pc, rfl, hpo, hb3⟩
      obtain ⟨pg, po, hPA, hpg, hpc⟩ := (Rd.of_own hpo).2 (by omega)
      subst hPA
      have hpcap := (own_cap hpo).1
      have HPC := Lib.hid (fun j p (h : (p0 :: P)[j]? = some p) => hpc j _ (strs_at h))
      have HPO := Lib.hid hpo
      have HCD3 := Lib.hid (HCD.out.below hb3)
      have HK3 := Lib.hid (HKY.out.below hb3)
      have hb3l := HK3.out.le
      have c0 : w3.cell? ⟨pg, po, none⟩ = some (.string ⟨p0.toArray⟩) := HPC.out 0 p0 rfl
      have g0 := HCD3.out.c0
      have g1 := HCD3.out.c1
      have HPN : Hid (w3.heap[w.heap.size]? = some (.cells #[.slice none 0 0, .slice none 0 0] 25 (0, 0)) ∧ w3.heap[w.heap.size + 1 + 1]? = some (.cells #[.slice none 0 0, .slice none 0 0] 25 (0, 0))) := Lib.hid ⟨(HK3.out.2.2.2.2 _ (by omega) (by omega)).trans HPY.out.1, (HK3.out.2.2.2.2 _ (by omega) (by omega)).trans HPY.out.2.2⟩
      clear hpo hpc hb3 hlcell HCL
      by_cases hT : isTx l = true
      · have hp := hT
        rw [isTx_of HP.out] at hp
        obtain ⟨rfl, h5⟩ := of_decide_eq_true hp
        have c0' : w3.cell? ⟨pg, po, none⟩ = some (.string ⟨#[116, 101, 120, 116]⟩) := c0
        have h5i : (5 : Int) < (ls.size : Int) := by have := HLZ.out; omega
        have h5n : 5 ≤ ls.size := by omega
        obtain ⟨X, hX⟩ : ∃ X, X = ls.extract 5 ls.size := ⟨_, rfl⟩
        have HX := Lib.hid (show X.data.toList = l.drop 5 by
          rw [hX, extract_list, HLS.out]
          show (List.take l.length l).drop 5 = _
          rw [List.take_length])
        have hxs : X.size ≤ 1048576 := by rw [hX, ByteArray.size_extract]; omega
        have HLN := Lib.hid (doc_text (op := opW) (K := K) hT)
        have hX' := hX.symm
        clear hp hX c0 hT
        go_wp2_with fail
        refine (refUnquote_any X (by omega) _).mono ?_
        rintro e w5 ⟨rfl, nd, rfl⟩
        have hbd : Below w3.heap.size w3 (w3.drewN nd) := ⟨rfl, rfl, rfl, Nat.le_refl _, fun _ _ => rfl⟩
        have HK4 := Lib.hid (HK3.out.below hbd)
        have HCD4 := Lib.hid (HCD3.out.below hbd)
        have hb4l := HK4.out.le
        generalize w3.drewN nd = w4 at *
        clear hbd g0 g1 c0'
        cases hu : unq X.data.toList with
        | none =>
          rw [unqV_none hu]
          rw [HX.out] at hu
          have HU := Lib.hid hu
          clear hu
          have HKV := Lib.hid HK4.out
          have HBAD := Lib.hid (bad_of HDOC.out HFS.out (by rw [HLN.out, HU.out]))
          clear HCN
          have HBX := Lib.hid (HB2.out.trans (HKV.out.bel (Nat.le_succ _) (by omega)))
          obtain ⟨r0, r1, f0, f1, _⟩ := box_cells HPY.out.1 HKV.out (by omega)
          obtain ⟨z0', z1', _, _, _⟩ := box_cells HPY.out.2.2 HKV.out (by omega)
          go_upto_region 13 with (fail)
          iterate 17 go_step
          exact bodyPost_ret (v := .tuple #[.agg #[.slice none 0 0, .slice none 0 0], .int .i64 6]) (by simp [results, Tryz.results5, go_sem, r0, r1]) rfl ⟨none, 0, none, 0, ⟨[], []⟩, 6, rfl, KR.nil _ _, .inr ⟨HBAD.out, rfl, rfl⟩, (HBX.out.setCell (p := ⟨w.heap.size, 0, none⟩) (Nat.le_refl _) _).setCell (p := ⟨w.heap.size, 1, none⟩) (Nat.le_refl _) _⟩
        | some t =>
          rw [unqV_some hu]
          have htz := unq_le hu
          rw [HX.out] at hu
          have HLN2 := Lib.hid (show lineC opW false K l = some { K with texts := K.texts ++ [⟨t.toArray⟩] } by rw [HLN.out, hu])
          have HTZ := Lib.hid (show (⟨t.toArray⟩ : ByteArray).size ≤ 1048576 by show t.length ≤ _; omega)
          have g1 := HCD4.out.c1
          have HTX := Lib.hid (show w4.ownsRow w2.heap.size 9 1 (.slice TA nt tc) nt (K.texts.map Value.string) by have := HCD4.out.tx; rwa [← HNT.out] at this)
          clear hu htz
          go_wp2_with (at_builtin; refine wpList_append_rd _ rfl _ _ 23 rfl w2.heap.size 9 s0 _ 1 16 Tryz.underlying23 hsi sz0 sz1 sz2 rfl (by omega) _ _ _ rfl (HTX.out.alloc _) _ _ 1 1 [_] rfl (Rd.lit1 _ _ _) (one1 rfl) (by unfold maxLen; omega) (by omega) (by simp; omega) ?_; intro A3 c3 w5 hown3 hgrow3 _; have hb5 := HCD4.out.grewT hgrow3; have d1 : w5.cell? ⟨w.heap.size + 1, 1, none⟩ = some (.slice TA nt tc) := (by rw [Lib.cell_of_heap hb5]; rfl); have f1 : w5.frozen? ⟨w.heap.size + 1, 1, none⟩ = false := Lib.frozen_of_heap hb5 1)
          have HKN := Lib.hid (((HK4.out.alloc _).grown hgrow3 (fun q hq => (HTX.out.lt q hq).1)).set 1 (.slice A3 (nt + 1) c3))
          have HCO5 := Lib.hid (show CdO w2.heap.size (w.heap.size + 1) _ _ from ⟨_, _, _, HCD4.out.text HNT.out hown3 hgrow3 HTZ.out⟩)
          have HFN := Lib.hid (show foldC opW false ⟨[], []⟩ Ls = foldC opW false _ (Ls.drop (k + 1)) from HFS.out.trans (by rw [HLN2.out]; rfl))
          have HCC := Lib.hid (show cntK _ ≤ k + 1 from Nat.le_trans (cnt_line HLN2.out) (Nat.succ_le_succ HCN.out))
          clear hown3 hgrow3 hb5 d1 f1
          go_roundw
          case rel => exact ⟨k + 1, _, by go_num, by omega, HFN, HCO5, HCC, HKN⟩
          case measure => simp [intOf]; omega
      · have hT : isTx l = false := by simpa using hT
        by_cases hF : p0 = [102, 117, 110, 99] ∧ np = 4
        · obtain ⟨rfl, rfl⟩ := hF
          obtain ⟨n0, x, y, z, rfl⟩ : ∃ a b c d, P = [a, b, c, d] := by
            match P, HNP.out with
            | [a, b, c, d], _ => exact ⟨a, b, c, d, rfl⟩
          have HLN := Lib.hid (doc_func (op := opW) (K := K) hT HP.out)
          have HN1 := Lib.hid (HPC.out 1 n0 rfl)
          have HRW := Lib.hid (rd_drop (d := 2) (n := 3) hpg HPC.out rfl)
          have hns : n0.length ≤ 1048576 := by
            have := (cutG_le (c := 32) l []).1 n0 (by rw [HP.out]; simp)
            simp at this
            omega
          have c0' : w3.cell? ⟨pg, po, none⟩ = some (.string ⟨#[102, 117, 110, 99]⟩) := c0
          clear hT c0
          go_wp2_with fail
          refine (numbersOf_any _ 3 _ [x, y, z] w3 HRW.out rfl (by omega)).mono ?_
          rintro e w4 ⟨⟨hno, rfl⟩ | ⟨zs, A3, c3, hyes, hzl, hri, rfl, hrd⟩, hb4⟩
          · have HE := Lib.hid hno
            have HK4 := Lib.hid (HK3.out.below hb4)
            have hb4l := HK4.out.le
            clear hno hb4 g0 g1 c0'
            have HKV := Lib.hid HK4.out
            have HBAD := Lib.hid (bad_of HDOC.out HFS.out (by rw [HLN.out, HE.out]))
            clear HCN
            have HBX := Lib.hid (HB2.out.trans (HKV.out.bel (Nat.le_succ _) (by omega)))
            obtain ⟨r0, r1, f0, f1, _⟩ := box_cells HPY.out.1 HKV.out (by omega)
            obtain ⟨z0', z1', _, _, _⟩ := box_cells HPY.out.2.2 HKV.out (by omega)
            go_upto_region 18 with (fail)
            iterate 17 go_step
            exact bodyPost_ret (v := .tuple #[.agg #[.slice none 0 0, .slice none 0 0], .int .i64 6]) (by simp [results, Tryz.results5, go_sem, r0, r1]) rfl ⟨none, 0, none, 0, ⟨[], []⟩, 6, rfl, KR.nil _ _, .inr ⟨HBAD.out, rfl, rfl⟩, (HBX.out.setCell (p := ⟨w.heap.size, 0, none⟩) (Nat.le_refl _) _).setCell (p := ⟨w.heap.size, 1, none⟩) (Nat.le_refl _) _⟩
          · obtain ⟨z1, z2, z3, rfl⟩ : ∃ z1 z2 z3, zs = [z1, z2, z3] := by
              match zs, hzl with
              | [a, b, c], _ => exact ⟨a, b, c, rfl⟩
            have HE := Lib.hid hyes
            have HRI := Lib.hid hri
            have HK4 := Lib.hid (HK3.out.below hb4)
            have hb4l := HK4.out.le
            have HCD4 := Lib.hid (HCD3.out.below (hb4.drew))
            have HKD := Lib.hid (HK3.out.below hb4.drew)
            obtain ⟨lb, l0, hAl, hlb, hlc⟩ := hrd.2 (by simp)
            subst hAl
            have n0' : w4.cell? ⟨lb, l0, none⟩ = some (.int .i64 z1) := hlc 0 _ rfl
            have n1 : w4.cell? ⟨lb, l0 + 1, none⟩ = some (.int .i64 z2) := hlc 1 _ rfl
            have n2 : w4.cell? ⟨lb, l0 + 2, none⟩ = some (.int .i64 z3) := hlc 2 _ rfl
            have m1 : w4.cell? ⟨pg, po + 1, none⟩ = some (.string ⟨n0.toArray⟩) := (hb4.cell (p := ⟨pg, po + 1, none⟩) hpg).trans HN1.out
            have g0' : w4.cell? ⟨w.heap.size + 1, 0, none⟩ = some (.slice FA nf fc) := (hb4.cell (p := ⟨w.heap.size + 1, 0, none⟩) HCD3.out.lt).trans g0
            obtain ⟨nm, hnm⟩ : ∃ nm : ByteArray, nm = ⟨n0.toArray⟩ := ⟨_, rfl⟩
            have hnz : nm.size ≤ 1048576 := by rw [hnm]; show n0.length ≤ _; omega
            rw [← hnm] at m1
            have HLN2 := Lib.hid (show lineC opW false K l = some { K with funcs := K.funcs ++ [⟨nm, z1, z2, z3, []⟩] } by rw [HLN.out, HE.out, hnm])
            have HRO := Lib.hid (show w4.drew.ownsRow w2.heap.size 44 5 (.slice FA nf fc) nf (fzL K.funcs ds) by have := HCD4.out.row; rwa [← HNF.out] at this)
            have HFN := Lib.hid (show foldC opW false ⟨[], []⟩ Ls = foldC opW false _ (Ls.drop (k + 1)) from HFS.out.trans (by rw [HLN2.out]; rfl))
            have HCC := Lib.hid (show cntK _ ≤ k + 1 from Nat.le_trans (cnt_line HLN2.out) (Nat.succ_le_succ HCN.out))
            clear hyes hri hb4 hrd hlc hzl hnm g0 g1 c0'
            go_wp2_with fail
            have hpt := pkd_t
            refine wp_region_any (by kernel_rfl) ?_
            refine wpAny_inv2 (Rc19I s w u3 rg rc lg lo nL lc ls pg po pc u11 u12 lb l0 c3 u15 u16 u17 u18 u19 u20 k u39 u50 u51 u52 u53 u54 u55 u56 u57 u58 u59 u60 u61 u62 u63 u64 u83 u84 u85 u86 u87 u88 u89 u90 u91 u92 u93 u94 u95 u96 u97 u98 u99 u100 u101 u102 u103 u104 u105 u106 u107 u108 u109 u110 u111 u112 u113 u114 u115 u116 u117 u118 u119 u120 u121 u122 u123 u124 u125 u126 u127 u128 u129 u130 u131 u132 u133 u134 u135 u136 u137 u138 u139 u140 u141 u142 u143 u144 u145 u146 u147 u148 u149 u150 u151 u152 u153 u154 u155 u156 u157 u158 u159 u160 u161 u162 u163 u164 u165 u166 u167 u168 u169 u170 u171 u172 u173 u174 u175 u176 u177 u178 u179 u180 u181 u182 u183 u184 u185 u186 u187 u188 FA nf fc nm z1 z2 z3 w4 w2 K ds) ?done ?step _ _ _ _ (by simp) (by simp [left]) ?init (shut_start _ _ _)
            case init => exact ⟨false, false, false, false, false, false, false, false, false, false, false, false, false, false, false, false, false, false, false, none, 0, rfl, rfl, ApI.zero⟩
            case done =>
              rintro L a w' ⟨b0, b1, b2, b3, b4, b5, b6, b7, b8, b9, b10, b11, b12, b13, b14, b15, b16, b17, b18, A5, c5, rfl, rfl, hI⟩ hsh hs hr
              have hno : ∀ i, i ∉ Region.ready Region.Mode.any _ _ := fun i hi => by rw [hr] at hi; cases hi
              have hall : b0 = true ∧ b1 = true ∧ b2 = true ∧ b3 = true ∧ b4 = true ∧ b5 = true ∧ b6 = true ∧ b7 = true ∧ b8 = true ∧ b9 = true ∧ b10 = true ∧ b11 = true ∧ b12 = true ∧ b13 = true ∧ b14 = true ∧ b15 = true ∧ b16 = true ∧ b17 = true ∧ b18 = true := by
                have q0 := hno 0
                have q1 := hno 1
                have q2 := hno 2
                have q3 := hno 3
                have q4 := hno 4
                have q5 := hno 5
                have q6 := hno 6
                have q7 := hno 7
                have q8 := hno 8
                have q9 := hno 9
                have q10 := hno 10
                have q11 := hno 11
                have q12 := hno 12
                have q13 := hno 13
                have q14 := hno 14
                have q15 := hno 15
                have q16 := hno 16
                have q17 := hno 17
                have q18 := hno 18
                clear hno hr hs hsh hI
                simp [Region.ready, List.mem_filter, Region.binds] at q0 q1 q2 q3 q4 q5 q6 q7 q8 q9 q10 q11 q12 q13 q14 q15 q16 q17 q18
                simp_all
              obtain ⟨rfl, rfl, rfl, rfl, rfl, rfl, rfl, rfl, rfl, rfl, rfl, rfl, rfl, rfl, rfl, rfl, rfl, rfl, rfl⟩ := hall
              clear hr hs hsh hno
              simp only [pkd_t]
              obtain ⟨w9, hG, rfl⟩ := hI.done
              have HGG := Lib.hid hG
              clear hI hG
              have HKN := Lib.hid (((HKD.out.alloc _).grown HGG.out.2.1 (fun q hq => (HRO.out.lt q hq).1)).set 0 (.slice A5 (nf + 1) c5))
              have HCO5 := Lib.hid (show CdO w2.heap.size (w.heap.size + 1) _ _ from ⟨_, _, _, HCD4.out.func HNF.out HGG.out.1 HGG.out.2.1 (f := ⟨nm, z1, z2, z3, []⟩) ⟨HRI.out z1 (by simp), HRI.out z2 (by simp), HRI.out z3 (by simp), hnz, fun _ h => by simp at h⟩ rfl⟩)
              go_wp2_with fail
              go_roundw
              case rel => exact ⟨k + 1, _, by go_num, by omega, HFN, HCO5, HCC, HKN⟩
              case measure => simp [intOf]; omega
            case step =>
              rintro L a w' i ⟨b0, b1, b2, b3, b4, b5, b6, b7, b8, b9, b10, b11, b12, b13, b14, b15, b16, b17, b18, A5, c5, rfl, rfl, hI⟩ hsh hs hi
              have hi16 := (ready_mem hi).1
              simp only [List.size_toArray, List.length_cons, List.length_nil] at hi16
              obtain rfl | rfl | rfl | rfl | rfl | rfl | rfl | rfl | rfl | rfl | rfl | rfl | rfl | rfl | rfl | rfl | rfl | rfl | rfl : i = 0 ∨ i = 1 ∨ i = 2 ∨ i = 3 ∨ i = 4 ∨ i = 5 ∨ i = 6 ∨ i = 7 ∨ i = 8 ∨ i = 9 ∨ i = 10 ∨ i = 11 ∨ i = 12 ∨ i = 13 ∨ i = 14 ∨ i = 15 ∨ i = 16 ∨ i = 17 ∨ i = 18 := by omega
              · simp [Region.ready, List.mem_filter, Region.binds] at hi
                have hall : b0 = false := by simp [hi]
                clear hi
                subst hall
                clear hs hi16 hsh
                refine wpOp_run rfl rfl ?_
                go_simp
                exact ⟨true, b1, b2, b3, b4, b5, b6, b7, b8, b9, b10, b11, b12, b13, b14, b15, b16, b17, b18, A5, c5, rfl, rfl, hI⟩
              · simp [Region.ready, List.mem_filter, Region.binds] at hi
                have hall : b1 = false ∧ b0 = true := by simp [hi]
                clear hi
                obtain ⟨rfl, rfl⟩ := hall
                have z16 : b16 = false := by
                  have q := hsh 16 _ rfl
                  simp [Region.binds] at q
                  cases b16
                  · rfl
                  · simp at q
                subst z16
                clear hs hi16 hsh
                have qc := hI.cell rfl (show w4.drew.cell? _ = _ from g0')
                refine wpOp_run rfl rfl ?_
                go_simp
                exact ⟨true, true, b2, b3, b4, b5, b6, b7, b8, b9, b10, b11, b12, b13, b14, b15, false, b17, b18, A5, c5, rfl, rfl, hI⟩
              · simp [Region.ready, List.mem_filter, Region.binds] at hi
                have hall : b2 = false := by simp [hi]
                clear hi
                subst hall
                clear hs hi16 hsh
                refine wpOp_run rfl rfl ?_
                go_simp
                exact ⟨b0, b1, true, b3, b4, b5, b6, b7, b8, b9, b10, b11, b12, b13, b14, b15, b16, b17, b18, A5, c5, rfl, rfl, hI⟩
              · simp [Region.ready, List.mem_filter, Region.binds] at hi
                have hall : b3 = false ∧ b2 = true := by simp [hi]
                clear hi
                obtain ⟨rfl, rfl⟩ := hall
                clear hs hi16 hsh
                refine wpOp_run rfl rfl ?_
                go_simp
                exact ⟨b0, b1, true, true, b4, b5, b6, b7, b8, b9, b10, b11, b12, b13, b14, b15, b16, b17, b18, A5, c5, rfl, rfl, hI⟩
              · simp [Region.ready, List.mem_filter, Region.binds] at hi
                have hall : b4 = false ∧ b3 = true := by simp [hi]
                clear hi
                obtain ⟨rfl, rfl⟩ := hall
                have z14 : b14 = false := by
                  have q := hsh 14 _ rfl
                  simp [Region.binds] at q
                  cases b14
                  · rfl
                  · simp at q
                subst z14
                have z15 : b15 = false := by
                  have q := hsh 15 _ rfl
                  simp [Region.binds] at q
                  cases b15
                  · rfl
                  · simp at q
                subst z15
                have z16 : b16 = false := by
                  have q := hsh 16 _ rfl
                  simp [Region.binds] at q
                  cases b16
                  · rfl
                  · simp at q
                subst z16
                clear hs hi16 hsh
                have qc := hI.cell rfl (show w4.drew.cell? _ = _ from m1)
                refine wpOp_run rfl rfl ?_
                go_simp
                exact ⟨b0, b1, b2, true, true, b5, b6, b7, b8, b9, b10, b11, b12, b13, false, false, false, b17, b18, A5, c5, rfl, rfl, hI⟩
              · simp [Region.ready, List.mem_filter, Region.binds] at hi
                have hall : b5 = false := by simp [hi]
                clear hi
                subst hall
                clear hs hi16 hsh
                refine wpOp_run rfl rfl ?_
                go_simp
                exact ⟨b0, b1, b2, b3, b4, true, b6, b7, b8, b9, b10, b11, b12, b13, b14, b15, b16, b17, b18, A5, c5, rfl, rfl, hI⟩
              · simp [Region.ready, List.mem_filter, Region.binds] at hi
                have hall : b6 = false ∧ b5 = true := by simp [hi]
                clear hi
                obtain ⟨rfl, rfl⟩ := hall
                clear hs hi16 hsh
                refine wpOp_run rfl rfl ?_
                go_simp
                exact ⟨b0, b1, b2, b3, b4, true, true, b7, b8, b9, b10, b11, b12, b13, b14, b15, b16, b17, b18, A5, c5, rfl, rfl, hI⟩
              · simp [Region.ready, List.mem_filter, Region.binds] at hi
                have hall : b7 = false ∧ b6 = true := by simp [hi]
                clear hi
                obtain ⟨rfl, rfl⟩ := hall
                have z14 : b14 = false := by
                  have q := hsh 14 _ rfl
                  simp [Region.binds] at q
                  cases b14
                  · rfl
                  · simp at q
                subst z14
                have z15 : b15 = false := by
                  have q := hsh 15 _ rfl
                  simp [Region.binds] at q
                  cases b15
                  · rfl
                  · simp at q
                subst z15
                have z16 : b16 = false := by
                  have q := hsh 16 _ rfl
                  simp [Region.binds] at q
                  cases b16
                  · rfl
                  · simp at q
                subst z16
                clear hs hi16 hsh
                have qc := hI.cell rfl (show w4.drew.cell? _ = _ from n0')
                refine wpOp_run rfl rfl ?_
                go_simp
                exact ⟨b0, b1, b2, b3, b4, b5, true, true, b8, b9, b10, b11, b12, b13, false, false, false, b17, b18, A5, c5, rfl, rfl, hI⟩
              · simp [Region.ready, List.mem_filter, Region.binds] at hi
                have hall : b8 = false := by simp [hi]
                clear hi
                subst hall
                clear hs hi16 hsh
                refine wpOp_run rfl rfl ?_
                go_simp
                exact ⟨b0, b1, b2, b3, b4, b5, b6, b7, true, b9, b10, b11, b12, b13, b14, b15, b16, b17, b18, A5, c5, rfl, rfl, hI⟩
              · simp [Region.ready, List.mem_filter, Region.binds] at hi
                have hall : b9 = false ∧ b8 = true := by simp [hi]
                clear hi
                obtain ⟨rfl, rfl⟩ := hall
                clear hs hi16 hsh
                refine wpOp_run rfl rfl ?_
                go_simp
                exact ⟨b0, b1, b2, b3, b4, b5, b6, b7, true, true, b10, b11, b12, b13, b14, b15, b16, b17, b18, A5, c5, rfl, rfl, hI⟩
              · simp [Region.ready, List.mem_filter, Region.binds] at hi
                have hall : b10 = false ∧ b9 = true := by simp [hi]
                clear hi
                obtain ⟨rfl, rfl⟩ := hall
                have z14 : b14 = false := by
                  have q := hsh 14 _ rfl
                  simp [Region.binds] at q
                  cases b14
                  · rfl
                  · simp at q
                subst z14
                have z15 : b15 = false := by
                  have q := hsh 15 _ rfl
                  simp [Region.binds] at q
                  cases b15
                  · rfl
                  · simp at q
                subst z15
                have z16 : b16 = false := by
                  have q := hsh 16 _ rfl
                  simp [Region.binds] at q
                  cases b16
                  · rfl
                  · simp at q
                subst z16
                clear hs hi16 hsh
                have qc := hI.cell rfl (show w4.drew.cell? _ = _ from n1)
                refine wpOp_run rfl rfl ?_
                go_simp
                exact ⟨b0, b1, b2, b3, b4, b5, b6, b7, b8, true, true, b11, b12, b13, false, false, false, b17, b18, A5, c5, rfl, rfl, hI⟩
              · simp [Region.ready, List.mem_filter, Region.binds] at hi
                have hall : b11 = false := by simp [hi]
                clear hi
                subst hall
                clear hs hi16 hsh
                refine wpOp_run rfl rfl ?_
                go_simp
                exact ⟨b0, b1, b2, b3, b4, b5, b6, b7, b8, b9, b10, true, b12, b13, b14, b15, b16, b17, b18, A5, c5, rfl, rfl, hI⟩
              · simp [Region.ready, List.mem_filter, Region.binds] at hi
                have hall : b12 = false ∧ b11 = true := by simp [hi]
                clear hi
                obtain ⟨rfl, rfl⟩ := hall
                clear hs hi16 hsh
                refine wpOp_run rfl rfl ?_
                go_simp
                exact ⟨b0, b1, b2, b3, b4, b5, b6, b7, b8, b9, b10, true, true, b13, b14, b15, b16, b17, b18, A5, c5, rfl, rfl, hI⟩
              · simp [Region.ready, List.mem_filter, Region.binds] at hi
                have hall : b13 = false ∧ b12 = true := by simp [hi]
                clear hi
                obtain ⟨rfl, rfl⟩ := hall
                have z14 : b14 = false := by
                  have q := hsh 14 _ rfl
                  simp [Region.binds] at q
                  cases b14
                  · rfl
                  · simp at q
                subst z14
                have z15 : b15 = false := by
                  have q := hsh 15 _ rfl
                  simp [Region.binds] at q
                  cases b15
                  · rfl
                  · simp at q
                subst z15
                have z16 : b16 = false := by
                  have q := hsh 16 _ rfl
                  simp [Region.binds] at q
                  cases b16
                  · rfl
                  · simp at q
                subst z16
                clear hs hi16 hsh
                have qc := hI.cell rfl (show w4.drew.cell? _ = _ from n2)
                refine wpOp_run rfl rfl ?_
                go_simp
                exact ⟨b0, b1, b2, b3, b4, b5, b6, b7, b8, b9, b10, b11, true, true, false, false, false, b17, b18, A5, c5, rfl, rfl, hI⟩
              · simp [Region.ready, List.mem_filter, Region.binds] at hi
                have hall : b14 = false ∧ b4 = true ∧ b7 = true ∧ b10 = true ∧ b13 = true := by simp [hi]
                clear hi
                obtain ⟨rfl, rfl, rfl, rfl, rfl⟩ := hall
                clear hs hi16 hsh
                refine wpOp_run rfl rfl ?_
                go_simp
                exact ⟨b0, b1, b2, b3, true, b5, b6, true, b8, b9, true, b11, b12, true, true, b15, b16, b17, b18, A5, c5, rfl, rfl, hI⟩
              · simp [Region.ready, List.mem_filter, Region.binds] at hi
                have hall : b15 = false ∧ b14 = true := by simp [hi]
                clear hi
                obtain ⟨rfl, rfl⟩ := hall
                have z16 : b16 = false := by
                  have q := hsh 16 _ rfl
                  simp [Region.binds] at q
                  cases b16
                  · rfl
                  · simp at q
                subst z16
                have z18 : b18 = false := by
                  have q := hsh 18 _ rfl
                  simp [Region.binds] at q
                  cases b18
                  · rfl
                  · simp at q
                subst z18
                clear hs hi16 hsh
                obtain rfl := hI.w0 rfl rfl
                refine wpOp_run rfl rfl ?_
                go_simp
                exact ⟨b0, b1, b2, b3, b4, b5, b6, b7, b8, b9, b10, b11, b12, b13, true, true, false, b17, false, A5, c5, rfl, rfl, ApI.one⟩
              · simp [Region.ready, List.mem_filter, Region.binds] at hi
                have hall : b16 = false ∧ b1 = true ∧ b15 = true := by simp [hi]
                clear hi
                obtain ⟨rfl, rfl, rfl⟩ := hall
                have z18 : b18 = false := by
                  have q := hsh 18 _ rfl
                  simp [Region.binds] at q
                  cases b18
                  · rfl
                  · simp at q
                subst z18
                clear hs hi16 hsh
                obtain rfl := hI.w1 rfl rfl
                refine wpOp_run rfl rfl (wp_append_rd _ (.tmp 85) (.tmp 99) 22 rfl w2.heap.size 44 j0 _ 5 64 Tryz.underlying22 hj jz0 jz1 jz2 rfl (by omega) (.slice FA nf fc) nf (fzL K.funcs ds) rfl (HRO.out.alloc _) (w4.heap.size + 1) (some ⟨w4.heap.size, 0, none⟩) 1 1 [.string nm, .int .i64 z1, .int .i64 z2, .int .i64 z3, .slice none 0 0] rfl (Rd.lit w4.drew #[.string nm, .int .i64 z1, .int .i64 z2, .int .i64 z3, .slice none 0 0] 44 1 5 rfl) (by simp [Value.oneCell']) (by unfold maxLen; omega) (by omega) (by simp; omega) fun A' c' w' h2 h3 h4 => ?_)
                exact ⟨b0, true, b2, b3, b4, b5, b6, b7, b8, b9, b10, b11, b12, b13, b14, true, true, b17, false, A', c', rfl, rfl, ApI.two ⟨h2, h3, h4⟩⟩
              · simp [Region.ready, List.mem_filter, Region.binds] at hi
                have hall : b17 = false := by simp [hi]
                clear hi
                subst hall
                clear hs hi16 hsh
                refine wpOp_run rfl rfl ?_
                go_simp
                exact ⟨b0, b1, b2, b3, b4, b5, b6, b7, b8, b9, b10, b11, b12, b13, b14, b15, b16, true, b18, A5, c5, rfl, rfl, hI⟩
              · simp [Region.ready, List.mem_filter, Region.binds] at hi
                have hall : b18 = false ∧ b16 = true ∧ b17 = true := by simp [hi]
                clear hi
                obtain ⟨rfl, rfl, rfl⟩ := hall
                clear hs hi16 hsh
                have hG := hI.w2 rfl rfl
                have hb9 := HCD4.out.grewF hG.2.1
                have q1 : w'.cell? ⟨w.heap.size + 1, 0, none⟩ = some (.slice FA nf fc) := by rw [Lib.cell_of_heap hb9]; rfl
                have q2 : w'.frozen? ⟨w.heap.size + 1, 0, none⟩ = false := Lib.frozen_of_heap hb9 0
                refine wpOp_run rfl rfl ?_
                go_simp
                exact ⟨b0, b1, b2, b3, b4, b5, b6, b7, b8, b9, b10, b11, b12, b13, b14, b15, true, true, true, A5, c5, rfl, rfl, ApI.three hG⟩
        · by_cases hI : np = 7 ∧ p0 = [] ∧ P.head? = some [] ∧ nf ≠ 0
          · obtain ⟨rfl, rfl, hp1, hnf0⟩ := hI
            obtain ⟨o, x1, x2, x3, x4, x5, rfl⟩ : ∃ a b c d e f, P = [[], a, b, c, d, e, f] := by
              match P, HNP.out, hp1 with
              | [q, a, b, c, d, e, f], _, h => exact ⟨a, b, c, d, e, f, by rw [show q = [] by simpa using h]⟩
            have HFE := Lib.hid (show K.funcs ≠ [] from fun e => hnf0 (by rw [HNF.out, e]; rfl))
            have HLN := Lib.hid (doc_ins (op := opW) (K := K) hT HP.out HFE.out)
            have hnfi : (0 : Int) < (nf : Int) := by omega
            have c0' : w3.cell? ⟨pg, po, none⟩ = some (.string ⟨#[]⟩) := c0
            have c1' : w3.cell? ⟨pg, po + 1, none⟩ = some (.string ⟨#[]⟩) := HPC.out 1 [] rfl
            have HN2 := Lib.hid (HPC.out 2 o rfl)
            have HRW := Lib.hid (rd_drop (d := 3) (n := 5) hpg HPC.out rfl)
            clear hp1 hnf0 hT hF c0
            go_wp2_with fail
            refine (numbersOf_any _ 5 _ [x1, x2, x3, x4, x5] w3 HRW.out rfl (by omega)).mono ?_
            rintro e w4 ⟨hnu, hb4⟩
            obtain ⟨sl, ok, rfl, hok⟩ : ∃ sl ok, e = .returned (.tuple #[sl, .bool ok]) ∧ ((ok = false ∧ numsL [x1, x2, x3, x4, x5] = none) ∨ (ok = true ∧ ∃ (zs : List Int) (A : Option Addr) (c : Nat), numsL [x1, x2, x3, x4, x5] = some zs ∧ zs.length = 5 ∧ (∀ z ∈ zs, I6 z) ∧ sl = .slice A 5 c ∧ Rd w4 w4.heap.size 1 A 5 (zs.map (Value.int .i64)))) := by
              rcases hnu with ⟨hno, rfl⟩ | ⟨zs, A3, c3, hyes, hzl, hri, rfl, hrd⟩
              · exact ⟨_, _, rfl, .inl ⟨rfl, hno⟩⟩
              · exact ⟨_, _, rfl, .inr ⟨rfl, zs, A3, c3, hyes, hzl, hri, rfl, hrd⟩⟩
            have HOK := Lib.hid hok
            have HK4 := Lib.hid (HK3.out.below hb4)
            have hb4l := HK4.out.le
            have HCD4 := Lib.hid (HCD3.out.below hb4)
            have HM2 := Lib.hid ((hb4.cell (p := ⟨pg, po + 2, none⟩) hpg).trans HN2.out)
            have hpg4 : pg < w4.heap.size := Nat.lt_of_lt_of_le hpg hb4.size
            have HRG4 := Lib.hid ((HK4.out.2.2.2.2 rg hrgl hrne).trans HRG.out)
            clear hnu hok hb4 g0 g1 c0' c1'
            obtain ⟨os, hos⟩ : ∃ os : ByteArray, os = ⟨o.toArray⟩ := ⟨_, rfl⟩
            rw [← hos] at HM2
            have HOS := Lib.hid hos
            clear hos
            go_wp2_with fail
            go_loopw [17, 132] (fun ov i wr => ∃ (j r : Nat), i = .int .i64 (j : Int) ∧ j ≤ 41 ∧ ov = .int .i64 (r : Int) ∧ Hid ((r = 0 ∧ ∀ q, 1 ≤ q → q ≤ j → wordL q ≠ o) ∨ (1 ≤ r ∧ r ≤ 41 ∧ wordL r = o)) ∧ Hid (Below w4.heap.size w4 wr)) (fun _ i _ => 41 - (intOf i).toNat)
            case atStart => exact ⟨0, 0, rfl, by omega, rfl, Lib.hid (.inl ⟨rfl, fun q h1 h2 => by omega⟩), Lib.hid (Below.refl _ _)⟩
            case round =>
              obtain ⟨j, r, rfl, hj, rfl, HRR, HBI⟩ := hrel
              have hbil := HBI.out.size
              by_cases hj41 : j < 41
              · have hji : (j : Int) < 41 := by omega
                have hqr : j < rowsL.length := hj41
                have HWL := Lib.hid (show wordL (j + 1) = (cutG 32 (rowsL.getD j []) []).headD [] by unfold wordL; rw [show j + 1 - 1 = j by omega])
                have hcell : wr.cell? ⟨rg, j, none⟩ = some (.string ⟨(rowsL.getD j []).toArray⟩) := by
                  rw [Lib.cell_of_heap ((HBI.out.block rg (by omega)).trans HRG4.out)]
                  refine HCUR.out j _ ?_
                  unfold strs
                  rw [List.getElem?_map, List.getElem?_eq_getElem hqr, List.getD_eq_getElem?_getD, List.getElem?_eq_getElem hqr]
                  rfl
                have HRS := Lib.hid (rows_short (rowsL.getD j []) (by rw [List.getD_eq_getElem?_getD, List.getElem?_eq_getElem hqr]; exact List.getElem_mem _))
                have m2 : wr.cell? ⟨pg, po + 2, none⟩ = some (.string os) := (HBI.out.cell (p := ⟨pg, po + 2, none⟩) hpg4).trans HM2.out
                generalize rowsL.getD j [] = row at *
                have hpgr : pg < wr.heap.size := by omega
                clear hqr
                obtain ⟨bq, hbq⟩ : ∃ b, b = ((⟨(wordL (j + 1)).toArray⟩ : ByteArray).toList == os.toList) := ⟨_, rfl⟩
                have HQ := Lib.hid (show bq = decide (wordL (j + 1) = o) by
                  rw [hbq, ba_eq, HOS.out]
                  apply decide_eq_decide.2
                  constructor
                  · intro e; simpa using e
                  · intro e; rw [e])
                have hbt := hbq.symm
                obtain ⟨kw, hkw⟩ : ∃ kw : ByteArray, kw = ⟨(wordL (j + 1)).toArray⟩ := ⟨_, rfl⟩
                rw [← hkw] at hbt
                have HKW := Lib.hid (show kw = ⟨((cutG 32 row []).headD []).toArray⟩ by rw [hkw, HWL.out])
                clear hbq hkw
                go_wp2_with fail
                have hpt := pkd_t
                refine wp_region_any (by kernel_rfl) ?_
                refine wpAny_inv2 (Rc26I s w u3 rg rc lg lo nL lc ls pg po pc u11 u12 u13 u14 sl ok r j row u20 k u39 u50 u51 u52 u53 u54 u55 u56 u57 u58 u59 u60 u61 u62 u63 u64 u75 u76 u77 u78 u79 u80 u81 u82 u83 u84 u85 u86 u87 u88 u89 u90 u91 u92 u93 u94 u95 u96 u97 u98 u99 u100 u101 FA nf fc u137 u138 u139 u140 u141 u142 u143 u144 u145 u146 u147 u148 u149 u150 u151 u152 u153 u154 u155 u156 u157 u158 u159 u160 u161 u162 u163 u164 u165 u166 u167 u168 u169 u170 u171 u172 u173 u174 u175 u176 u177 u178 u179 u180 u181 u182 u183 u184 u185 u186 u187 u188 kw os bq wr) ?done ?step _ _ _ _ (by simp) (by simp [left]) ?init (shut_start _ _ _)
                case init => exact ⟨false, false, false, false, false, false, false, false, 0, 0, 0, 0, rfl, rfl, RwI.zero⟩
                case done =>
                  rintro L a w' ⟨b0, b1, b2, b3, b4, b5, b6, b7, rb, ro, rn, rc9, rfl, rfl, hI⟩ hsh hs hr
                  have hno : ∀ i, i ∉ Region.ready Region.Mode.any _ _ := fun i hi => by rw [hr] at hi; cases hi
                  have hall : b0 = true ∧ b1 = true ∧ b2 = true ∧ b3 = true ∧ b4 = true ∧ b5 = true ∧ b6 = true ∧ b7 = true := by
                    have q0 := hno 0
                    have q1 := hno 1
                    have q2 := hno 2
                    have q3 := hno 3
                    have q4 := hno 4
                    have q5 := hno 5
                    have q6 := hno 6
                    have q7 := hno 7
                    clear hno hr hs hsh hI
                    simp [Region.ready, List.mem_filter, Region.binds] at q0 q1 q2 q3 q4 q5 q6 q7
                    simp_all
                  obtain ⟨rfl, rfl, rfl, rfl, rfl, rfl, rfl, rfl⟩ := hall
                  clear hr hs hsh hno
                  simp only [pkd_t]
                  have HBN := Lib.hid (HBI.out.trans ((Below.drew (Below.refl w4.heap.size wr)).trans ((hI.w1 rfl).1.mono hbil)))
                  clear hI
                  by_cases hqq : wordL (j + 1) = o
                  · obtain rfl : bq = true := by rw [HQ.out]; exact decide_eq_true hqq
                    have HRN := Lib.hid (show (j + 1 = 0 ∧ ∀ q, 1 ≤ q → q ≤ j + 1 → wordL q ≠ o) ∨ (1 ≤ j + 1 ∧ j + 1 ≤ 41 ∧ wordL (j + 1) = o) from .inr ⟨by omega, by omega, hqq⟩)
                    clear hqq
                    go_wp2_with fail
                    go_roundw
                    case rel => exact ⟨j + 1, j + 1, by go_num, by omega, by go_num, HRN, HBN⟩
                    case measure => simp [intOf]; omega
                  · obtain rfl : bq = false := by rw [HQ.out]; exact decide_eq_false hqq
                    have HRN := Lib.hid (op_more HRR.out hqq)
                    clear hqq
                    go_wp2_with fail
                    go_roundw
                    case rel => exact ⟨j + 1, r, by go_num, by omega, (by first | rfl | trivial), HRN, HBN⟩
                    case measure => simp [intOf]; omega
                case step =>
                  rintro L a w' i ⟨b0, b1, b2, b3, b4, b5, b6, b7, rb, ro, rn, rc9, rfl, rfl, hI⟩ hsh hs hi
                  have hi16 := (ready_mem hi).1
                  simp only [List.size_toArray, List.length_cons, List.length_nil] at hi16
                  obtain rfl | rfl | rfl | rfl | rfl | rfl | rfl | rfl : i = 0 ∨ i = 1 ∨ i = 2 ∨ i = 3 ∨ i = 4 ∨ i = 5 ∨ i = 6 ∨ i = 7 := by omega
                  · simp [Region.ready, List.mem_filter, Region.binds] at hi
                    have hall : b0 = false := by simp [hi]
                    clear hi
                    subst hall
                    clear hs hi16 hsh
                    refine wpOp_run rfl rfl ?_
                    go_simp
                    exact ⟨true, b1, b2, b3, b4, b5, b6, b7, rb, ro, rn, rc9, rfl, rfl, hI⟩
                  · simp [Region.ready, List.mem_filter, Region.binds] at hi
                    have hall : b1 = false ∧ b0 = true := by simp [hi]
                    clear hi
                    obtain ⟨rfl, rfl⟩ := hall
                    have z2 : b2 = false := by
                      have q := hsh 2 _ rfl
                      simp [Region.binds] at q
                      cases b2
                      · rfl
                      · simp at q
                    subst z2
                    have z3 : b3 = false := by
                      have q := hsh 3 _ rfl
                      simp [Region.binds] at q
                      cases b3
                      · rfl
                      · simp at q
                    subst z3
                    clear hs hi16 hsh
                    obtain rfl := hI.w0 rfl
                    refine wpOp_run rfl rfl ?_
                    go_simp
                    refine Calls.mono (cutAt_row row HRS.out _) ?_
                    rintro r9 w5 ⟨RA, rn', rc', rfl, hrn, hr1, hr2, hrd, hb5⟩
                    obtain ⟨rb', ro', u, hRA, hrb, hu, hrc⟩ := (hrd.rd (B := w5.heap.size) (fun b hb => hb.2)).at1 (k := 0) hr1
                    subst hRA
                    have hul := row_head (by omega) hu HKW.out
                    subst hul
                    clear hrn
                    go_simp
                    exact ⟨true, true, false, false, b4, b5, b6, b7, rb', ro', rn', rc', rfl, rfl, RwI.one hb5 (by simpa using hrc) hr1 (Nat.le_refl _)⟩
                  · simp [Region.ready, List.mem_filter, Region.binds] at hi
                    have hall : b2 = false ∧ b1 = true := by simp [hi]
                    clear hi
                    obtain ⟨rfl, rfl⟩ := hall
                    clear hs hi16 hsh
                    have hx3 := (hI.w1 rfl).2.2
                    have hx4 : (0 : Int) < (rn : Int) := by omega
                    refine wpOp_run rfl rfl ?_
                    go_simp
                    exact ⟨b0, true, true, b3, b4, b5, b6, b7, rb, ro, rn, rc9, rfl, rfl, hI⟩
                  · simp [Region.ready, List.mem_filter, Region.binds] at hi
                    have hall : b3 = false ∧ b2 = true := by simp [hi]
                    clear hi
                    obtain ⟨rfl, rfl⟩ := hall
                    have b1t : b1 = true := by
                      have q := hsh 2 _ rfl
                      simpa [Region.binds] using q
                    subst b1t
                    clear hs hi16 hsh
                    have hx2 := (hI.w1 rfl).2.1
                    refine wpOp_run rfl rfl ?_
                    go_simp
                    exact ⟨b0, true, true, true, b4, b5, b6, b7, rb, ro, rn, rc9, rfl, rfl, hI⟩
                  · simp [Region.ready, List.mem_filter, Region.binds] at hi
                    have hall : b4 = false := by simp [hi]
                    clear hi
                    subst hall
                    clear hs hi16 hsh
                    refine wpOp_run rfl rfl ?_
                    go_simp
                    exact ⟨b0, b1, b2, b3, true, b5, b6, b7, rb, ro, rn, rc9, rfl, rfl, hI⟩
                  · simp [Region.ready, List.mem_filter, Region.binds] at hi
                    have hall : b5 = false ∧ b4 = true := by simp [hi]
                    clear hi
                    obtain ⟨rfl, rfl⟩ := hall
                    clear hs hi16 hsh
                    refine wpOp_run rfl rfl ?_
                    go_simp
                    exact ⟨b0, b1, b2, b3, true, true, b6, b7, rb, ro, rn, rc9, rfl, rfl, hI⟩
                  · simp [Region.ready, List.mem_filter, Region.binds] at hi
                    have hall : b6 = false ∧ b5 = true := by simp [hi]
                    clear hi
                    obtain ⟨rfl, rfl⟩ := hall
                    clear hs hi16 hsh
                    have qc := hI.cell (show wr.drew.cell? _ = _ from m2) hpgr
                    refine wpOp_run rfl rfl ?_
                    go_simp
                    exact ⟨b0, b1, b2, b3, b4, true, true, b7, rb, ro, rn, rc9, rfl, rfl, hI⟩
                  · simp [Region.ready, List.mem_filter, Region.binds] at hi
                    have hall : b7 = false ∧ b3 = true ∧ b6 = true := by simp [hi]
                    clear hi
                    obtain ⟨rfl, rfl, rfl⟩ := hall
                    clear hs hi16 hsh
                    refine wpOp_run rfl rfl ?_
                    go_simp
                    exact ⟨b0, b1, b2, true, b4, b5, true, true, rb, ro, rn, rc9, rfl, rfl, hI⟩
              · obtain rfl : j = 41 := by omega
                rcases HOK.out with ⟨rfl, hno⟩ | ⟨rfl, zs, A3, c3, hyes, hzl, hri, rfl, hrd⟩
                · have HE := Lib.hid hno
                  have HK5 := Lib.hid (HK4.out.below HBI.out)
                  have hb5l := HK5.out.le
                  clear hno hj41
                  have HKV := Lib.hid HK5.out
                  have HBAD := Lib.hid (bad_of HDOC.out HFS.out (by rw [HLN.out, HE.out]; cases opW o <;> rfl))
                  clear HCN
                  have HBX := Lib.hid (HB2.out.trans (HKV.out.bel (Nat.le_succ _) (by omega)))
                  obtain ⟨r0, r1, f0, f1, _⟩ := box_cells HPY.out.1 HKV.out (by omega)
                  obtain ⟨z0', z1', _, _, _⟩ := box_cells HPY.out.2.2 HKV.out (by omega)
                  go_upto_region 30 with (fail)
                  iterate 17 go_step
                  exact bodyPost_ret (v := .tuple #[.agg #[.slice none 0 0, .slice none 0 0], .int .i64 6]) (by simp [results, Tryz.results5, go_sem, r0, r1]) rfl ⟨none, 0, none, 0, ⟨[], []⟩, 6, rfl, KR.nil _ _, .inr ⟨HBAD.out, rfl, rfl⟩, (HBX.out.setCell (p := ⟨w.heap.size, 0, none⟩) (Nat.le_refl _) _).setCell (p := ⟨w.heap.size, 1, none⟩) (Nat.le_refl _) _⟩
                · by_cases hr0 : r = 0
                  · subst hr0
                    have HE := Lib.hid (show opW o = none from opW_none (by
                      rcases HRR.out with ⟨_, h⟩ | ⟨h, _⟩
                      · exact fun q h1 h2 => h q h1 h2
                      · omega))
                    have HK5 := Lib.hid (HK4.out.below HBI.out)
                    have hb5l := HK5.out.le
                    clear hyes hzl hri hrd hj41
                    have HKV := Lib.hid HK5.out
                    have HBAD := Lib.hid (bad_of HDOC.out HFS.out (by rw [HLN.out, HE.out]))
                    clear HCN
                    have HBX := Lib.hid (HB2.out.trans (HKV.out.bel (Nat.le_succ _) (by omega)))
                    obtain ⟨r0, r1, f0, f1, _⟩ := box_cells HPY.out.1 HKV.out (by omega)
                    obtain ⟨z0', z1', _, _, _⟩ := box_cells HPY.out.2.2 HKV.out (by omega)
                    go_upto_region 30 with (fail)
                    iterate 17 go_step
                    exact bodyPost_ret (v := .tuple #[.agg #[.slice none 0 0, .slice none 0 0], .int .i64 6]) (by simp [results, Tryz.results5, go_sem, r0, r1]) rfl ⟨none, 0, none, 0, ⟨[], []⟩, 6, rfl, KR.nil _ _, .inr ⟨HBAD.out, rfl, rfl⟩, (HBX.out.setCell (p := ⟨w.heap.size, 0, none⟩) (Nat.le_refl _) _).setCell (p := ⟨w.heap.size, 1, none⟩) (Nat.le_refl _) _⟩
                  · obtain ⟨hr1, hr41, hrw⟩ : 1 ≤ r ∧ r ≤ 41 ∧ wordL r = o := by
                      rcases HRR.out with ⟨h, _⟩ | h
                      · exact absurd h hr0
                      · exact h
                    have HOP := Lib.hid (opW_some hr1 hr41 hrw)
                    have hrz : ((r : Int) == 0) = false := by simp; omega
                    obtain ⟨z1, z2, z3, z4, z5, rfl⟩ : ∃ z1 z2 z3 z4 z5, zs = [z1, z2, z3, z4, z5] := by
                      match zs, hzl with
                      | [a, b, c, d, e], _ => exact ⟨a, b, c, d, e, rfl⟩
                    have HE := Lib.hid hyes
                    have HRI := Lib.hid hri
                    have HK5 := Lib.hid (HK4.out.below HBI.out)
                    have hb5l := HK5.out.le
                    have hcd5 := HCD4.out.below HBI.out
                    obtain ⟨lb, l0, hAl, hlb, hlc⟩ := hrd.2 (by simp)
                    subst hAl
                    have n0 : wr.cell? ⟨lb, l0, none⟩ = some (.int .i64 z1) := (HBI.out.cell (p := ⟨lb, l0, none⟩) hlb).trans (hlc 0 _ rfl)
                    have n1 : wr.cell? ⟨lb, l0 + 1, none⟩ = some (.int .i64 z2) := (HBI.out.cell (p := ⟨lb, l0 + 1, none⟩) hlb).trans (hlc 1 _ rfl)
                    have n2 : wr.cell? ⟨lb, l0 + 2, none⟩ = some (.int .i64 z3) := (HBI.out.cell (p := ⟨lb, l0 + 2, none⟩) hlb).trans (hlc 2 _ rfl)
                    have n3 : wr.cell? ⟨lb, l0 + 3, none⟩ = some (.int .i64 z4) := (HBI.out.cell (p := ⟨lb, l0 + 3, none⟩) hlb).trans (hlc 3 _ rfl)
                    have n4 : wr.cell? ⟨lb, l0 + 4, none⟩ = some (.int .i64 z5) := (HBI.out.cell (p := ⟨lb, l0 + 4, none⟩) hlb).trans (hlc 4 _ rfl)
                    obtain ⟨b, c, F, f, D, d, hfv, hds, hlast⟩ := hcd5.last HFE.out
                    injection hfv with hfa hfn hfc
                    subst hfa hfc
                    obtain ⟨nl, hnl⟩ : ∃ n, n = F.length := ⟨_, rfl⟩
                    rw [← hnl] at hfn
                    subst hfn
                    have hat := hlast.at4
                    rw [← hnl] at hat
                    obtain ⟨d4, f4, hbb, hbl⟩ := hat
                    have how := hlast.own
                    obtain ⟨DA, DC, hdv⟩ := own_form how
                    obtain ⟨ml, hml⟩ : ∃ n, n = f.ins.length := ⟨_, rfl⟩
                    rw [← hml] at how hdv
                    subst hdv
                    have hmll : ml ≤ 1048576 := by
                      have h1 := HCN.out
                      unfold cntK at h1
                      rw [hlast.fs] at h1
                      simp at h1
                      omega
                    have HLA4 := Lib.hid (hlast.below (Below.refl _ wr).drew)
                    have HKD := Lib.hid (HK4.out.below (HBI.out.trans (Below.drew (Below.refl _ wr))))
                    have HML := Lib.hid hml
                    have HNF2 := Lib.hid hnl
                    have HRO := Lib.hid (show wr.drew.ownsRow w2.heap.size 47 6 (.slice DA ml DC) ml (inL f.ins) from how)
                    have g0 := hcd5.c0
                    have hwr : IntKind.i64.wrap (nl : Int) = nl := IntWalk.i64_in _ (by omega)
                    have HLN2 := Lib.hid (show lineC opW false K l = some { K with funcs := addIns K.funcs ⟨(r : Int), z1, z2, z3, z4, z5⟩ } by rw [HLN.out, HOP.out, HE.out])
                    have HFN := Lib.hid (show foldC opW false ⟨[], []⟩ Ls = foldC opW false _ (Ls.drop (k + 1)) from HFS.out.trans (by rw [HLN2.out]; rfl))
                    have HCC := Lib.hid (show cntK _ ≤ k + 1 from Nat.le_trans (cnt_line HLN2.out) (Nat.succ_le_succ HCN.out))
                    clear hyes hri hrd hlc hzl hcd5 hds hlast how hml hnl hj41 hr0 hrw
                    go_wp2_with fail
                    have hpt := pkd_t
                    refine wp_region_any (by kernel_rfl) ?_
                    refine wpAny_inv2 (Rc32I s w u3 rg rc lg lo nL lc ls pg po pc u11 u12 u13 u14 lb l0 c3 r u18 u19 b nl k u39 u50 u51 u52 u53 u54 u55 u56 u57 u58 u59 u60 u61 u62 u63 u64 u75 u76 u77 u78 u79 u80 u81 u82 u83 u84 u85 u86 u87 u88 u89 u90 u91 u92 u93 u94 u95 u96 u97 u98 u99 u100 u101 fc u134 u135 u136 u137 u138 u139 u140 u141 u142 u143 u144 u145 u146 u147 u154 u162 u163 u164 u165 u166 u167 u168 u169 u170 u171 u172 u173 u174 u175 u176 u177 u178 u179 u180 u181 u182 u183 u184 u185 u186 u187 u188 DA ml DC z1 z2 z3 z4 z5 wr w2 f) ?done ?step _ _ _ _ (by simp) (by simp [left]) ?init (shut_start _ _ _)
                    case init => exact ⟨false, false, false, false, false, false, false, false, false, false, false, false, false, false, false, false, false, false, false, false, false, false, false, false, false, false, false, none, 0, rfl, rfl, ApI.zero⟩
                    case done =>
                      rintro L a w' ⟨b0, b1, b2, b3, b4, b5, b6, b7, b8, b9, b10, b11, b12, b13, b14, b15, b16, b17, b18, b19, b20, b21, b22, b23, b24, b25, b26, A5, c5, rfl, rfl, hI⟩ hsh hs hr
                      have hno : ∀ i, i ∉ Region.ready Region.Mode.any _ _ := fun i hi => by rw [hr] at hi; cases hi
                      have hall : b0 = true ∧ b1 = true ∧ b2 = true ∧ b3 = true ∧ b4 = true ∧ b5 = true ∧ b6 = true ∧ b7 = true ∧ b8 = true ∧ b9 = true ∧ b10 = true ∧ b11 = true ∧ b12 = true ∧ b13 = true ∧ b14 = true ∧ b15 = true ∧ b16 = true ∧ b17 = true ∧ b18 = true ∧ b19 = true ∧ b20 = true ∧ b21 = true ∧ b22 = true ∧ b23 = true ∧ b24 = true ∧ b25 = true ∧ b26 = true := by
                        have q0 := hno 0
                        have q1 := hno 1
                        have q2 := hno 2
                        have q3 := hno 3
                        have q4 := hno 4
                        have q5 := hno 5
                        have q6 := hno 6
                        have q7 := hno 7
                        have q8 := hno 8
                        have q9 := hno 9
                        have q10 := hno 10
                        have q11 := hno 11
                        have q12 := hno 12
                        have q13 := hno 13
                        have q14 := hno 14
                        have q15 := hno 15
                        have q16 := hno 16
                        have q17 := hno 17
                        have q18 := hno 18
                        have q19 := hno 19
                        have q20 := hno 20
                        have q21 := hno 21
                        have q22 := hno 22
                        have q23 := hno 23
                        have q24 := hno 24
                        have q25 := hno 25
                        have q26 := hno 26
                        clear hno hr hs hsh hI
                        simp [Region.ready, List.mem_filter, Region.binds] at q0 q1 q2 q3 q4 q5 q6 q7 q8 q9 q10 q11 q12 q13 q14 q15 q16 q17 q18 q19 q20 q21 q22 q23 q24 q25 q26
                        simp_all
                      obtain ⟨rfl, rfl, rfl, rfl, rfl, rfl, rfl, rfl, rfl, rfl, rfl, rfl, rfl, rfl, rfl, rfl, rfl, rfl, rfl, rfl, rfl, rfl, rfl, rfl, rfl, rfl, rfl⟩ := hall
                      clear hr hs hsh hno
                      simp only [pkd_t]
                      obtain ⟨w9, hG, rfl⟩ := hI.done
                      have HGG := Lib.hid hG
                      clear hI hG
                      have hr6 : I6 (r : Int) := ⟨by omega, by omega⟩
                      have HCI := Lib.hid (HLA4.out.ins HML.out HGG.out.1 HGG.out.2.1 HGG.out.2.2 (x := ⟨(r : Int), z1, z2, z3, z4, z5⟩) ⟨hr6, HRI.out z1 (by simp), HRI.out z2 (by simp), HRI.out z3 (by simp), HRI.out z4 (by simp), HRI.out z5 (by simp)⟩)
                      rw [← HNF2.out] at HCI
                      have HKN := Lib.hid (((HKD.out.alloc _).grown HGG.out.2.1 (fun q hq => (HRO.out.lt q hq).1)).setN (nl * 5 + 4) (.slice A5 (ml + 1) c5) hbb)
                      have HCO5 := Lib.hid (show CdO w2.heap.size (w.heap.size + 1) _ _ from ⟨_, _, _, HCI.out⟩)
                      clear hr6
                      go_wp2_with fail
                      go_roundw
                      case rel => exact ⟨k + 1, _, by go_num, by omega, HFN, HCO5, HCC, HKN⟩
                      case measure => simp [intOf]; omega
                    case step =>
                      rintro L a w' i ⟨b0, b1, b2, b3, b4, b5, b6, b7, b8, b9, b10, b11, b12, b13, b14, b15, b16, b17, b18, b19, b20, b21, b22, b23, b24, b25, b26, A5, c5, rfl, rfl, hI⟩ hsh hs hi
                      have hi16 := (ready_mem hi).1
                      simp only [List.size_toArray, List.length_cons, List.length_nil] at hi16
                      obtain rfl | rfl | rfl | rfl | rfl | rfl | rfl | rfl | rfl | rfl | rfl | rfl | rfl | rfl | rfl | rfl | rfl | rfl | rfl | rfl | rfl | rfl | rfl | rfl | rfl | rfl | rfl : i = 0 ∨ i = 1 ∨ i = 2 ∨ i = 3 ∨ i = 4 ∨ i = 5 ∨ i = 6 ∨ i = 7 ∨ i = 8 ∨ i = 9 ∨ i = 10 ∨ i = 11 ∨ i = 12 ∨ i = 13 ∨ i = 14 ∨ i = 15 ∨ i = 16 ∨ i = 17 ∨ i = 18 ∨ i = 19 ∨ i = 20 ∨ i = 21 ∨ i = 22 ∨ i = 23 ∨ i = 24 ∨ i = 25 ∨ i = 26 := by omega
                      · simp [Region.ready, List.mem_filter, Region.binds] at hi
                        have hall : b0 = false := by simp [hi]
                        clear hi
                        subst hall
                        clear hs hi16 hsh
                        refine wpOp_run rfl rfl ?_
                        go_simp
                        exact ⟨true, b1, b2, b3, b4, b5, b6, b7, b8, b9, b10, b11, b12, b13, b14, b15, b16, b17, b18, b19, b20, b21, b22, b23, b24, b25, b26, A5, c5, rfl, rfl, hI⟩
                      · simp [Region.ready, List.mem_filter, Region.binds] at hi
                        have hall : b1 = false := by simp [hi]
                        clear hi
                        subst hall
                        clear hs hi16 hsh
                        refine wpOp_run rfl rfl ?_
                        go_simp
                        exact ⟨b0, true, b2, b3, b4, b5, b6, b7, b8, b9, b10, b11, b12, b13, b14, b15, b16, b17, b18, b19, b20, b21, b22, b23, b24, b25, b26, A5, c5, rfl, rfl, hI⟩
                      · simp [Region.ready, List.mem_filter, Region.binds] at hi
                        have hall : b2 = false ∧ b1 = true := by simp [hi]
                        clear hi
                        obtain ⟨rfl, rfl⟩ := hall
                        clear hs hi16 hsh
                        refine wpOp_run rfl rfl ?_
                        go_simp
                        exact ⟨b0, true, true, b3, b4, b5, b6, b7, b8, b9, b10, b11, b12, b13, b14, b15, b16, b17, b18, b19, b20, b21, b22, b23, b24, b25, b26, A5, c5, rfl, rfl, hI⟩
                      · simp [Region.ready, List.mem_filter, Region.binds] at hi
                        have hall : b3 = false ∧ b2 = true := by simp [hi]
                        clear hi
                        obtain ⟨rfl, rfl⟩ := hall
                        clear hs hi16 hsh
                        refine wpOp_run rfl rfl ?_
                        go_simp
                        exact ⟨b0, b1, true, true, b4, b5, b6, b7, b8, b9, b10, b11, b12, b13, b14, b15, b16, b17, b18, b19, b20, b21, b22, b23, b24, b25, b26, A5, c5, rfl, rfl, hI⟩
                      · simp [Region.ready, List.mem_filter, Region.binds] at hi
                        have hall : b4 = false ∧ b3 = true := by simp [hi]
                        clear hi
                        obtain ⟨rfl, rfl⟩ := hall
                        have z23 : b23 = false := by
                          have q := hsh 23 _ rfl
                          simp [Region.binds] at q
                          cases b23
                          · rfl
                          · simp at q
                        subst z23
                        clear hs hi16 hsh
                        have qc := hI.cell rfl (show wr.drew.cell? _ = _ from d4)
                        refine wpOp_run rfl rfl ?_
                        go_simp
                        exact ⟨b0, b1, b2, true, true, b5, b6, b7, b8, b9, b10, b11, b12, b13, b14, b15, b16, b17, b18, b19, b20, b21, b22, false, b24, b25, b26, A5, c5, rfl, rfl, hI⟩
                      · simp [Region.ready, List.mem_filter, Region.binds] at hi
                        have hall : b5 = false := by simp [hi]
                        clear hi
                        subst hall
                        clear hs hi16 hsh
                        refine wpOp_run rfl rfl ?_
                        go_simp
                        exact ⟨b0, b1, b2, b3, b4, true, b6, b7, b8, b9, b10, b11, b12, b13, b14, b15, b16, b17, b18, b19, b20, b21, b22, b23, b24, b25, b26, A5, c5, rfl, rfl, hI⟩
                      · simp [Region.ready, List.mem_filter, Region.binds] at hi
                        have hall : b6 = false := by simp [hi]
                        clear hi
                        subst hall
                        clear hs hi16 hsh
                        refine wpOp_run rfl rfl ?_
                        go_simp
                        exact ⟨b0, b1, b2, b3, b4, b5, true, b7, b8, b9, b10, b11, b12, b13, b14, b15, b16, b17, b18, b19, b20, b21, b22, b23, b24, b25, b26, A5, c5, rfl, rfl, hI⟩
                      · simp [Region.ready, List.mem_filter, Region.binds] at hi
                        have hall : b7 = false ∧ b6 = true := by simp [hi]
                        clear hi
                        obtain ⟨rfl, rfl⟩ := hall
                        clear hs hi16 hsh
                        refine wpOp_run rfl rfl ?_
                        go_simp
                        exact ⟨b0, b1, b2, b3, b4, b5, true, true, b8, b9, b10, b11, b12, b13, b14, b15, b16, b17, b18, b19, b20, b21, b22, b23, b24, b25, b26, A5, c5, rfl, rfl, hI⟩
                      · simp [Region.ready, List.mem_filter, Region.binds] at hi
                        have hall : b8 = false ∧ b7 = true := by simp [hi]
                        clear hi
                        obtain ⟨rfl, rfl⟩ := hall
                        have z21 : b21 = false := by
                          have q := hsh 21 _ rfl
                          simp [Region.binds] at q
                          cases b21
                          · rfl
                          · simp at q
                        subst z21
                        have z22 : b22 = false := by
                          have q := hsh 22 _ rfl
                          simp [Region.binds] at q
                          cases b22
                          · rfl
                          · simp at q
                        subst z22
                        have z23 : b23 = false := by
                          have q := hsh 23 _ rfl
                          simp [Region.binds] at q
                          cases b23
                          · rfl
                          · simp at q
                        subst z23
                        clear hs hi16 hsh
                        have qc := hI.cell rfl (show wr.drew.cell? _ = _ from n0)
                        refine wpOp_run rfl rfl ?_
                        go_simp
                        exact ⟨b0, b1, b2, b3, b4, b5, b6, true, true, b9, b10, b11, b12, b13, b14, b15, b16, b17, b18, b19, b20, false, false, false, b24, b25, b26, A5, c5, rfl, rfl, hI⟩
                      · simp [Region.ready, List.mem_filter, Region.binds] at hi
                        have hall : b9 = false := by simp [hi]
                        clear hi
                        subst hall
                        clear hs hi16 hsh
                        refine wpOp_run rfl rfl ?_
                        go_simp
                        exact ⟨b0, b1, b2, b3, b4, b5, b6, b7, b8, true, b10, b11, b12, b13, b14, b15, b16, b17, b18, b19, b20, b21, b22, b23, b24, b25, b26, A5, c5, rfl, rfl, hI⟩
                      · simp [Region.ready, List.mem_filter, Region.binds] at hi
                        have hall : b10 = false ∧ b9 = true := by simp [hi]
                        clear hi
                        obtain ⟨rfl, rfl⟩ := hall
                        clear hs hi16 hsh
                        refine wpOp_run rfl rfl ?_
                        go_simp
                        exact ⟨b0, b1, b2, b3, b4, b5, b6, b7, b8, true, true, b11, b12, b13, b14, b15, b16, b17, b18, b19, b20, b21, b22, b23, b24, b25, b26, A5, c5, rfl, rfl, hI⟩
                      · simp [Region.ready, List.mem_filter, Region.binds] at hi
                        have hall : b11 = false ∧ b10 = true := by simp [hi]
                        clear hi
                        obtain ⟨rfl, rfl⟩ := hall
                        have z21 : b21 = false := by
                          have q := hsh 21 _ rfl
                          simp [Region.binds] at q
                          cases b21
                          · rfl
                          · simp at q
                        subst z21
                        have z22 : b22 = false := by
                          have q := hsh 22 _ rfl
                          simp [Region.binds] at q
                          cases b22
                          · rfl
                          · simp at q
                        subst z22
                        have z23 : b23 = false := by
                          have q := hsh 23 _ rfl
                          simp [Region.binds] at q
                          cases b23
                          · rfl
                          · simp at q
                        subst z23
                        clear hs hi16 hsh
                        have qc := hI.cell rfl (show wr.drew.cell? _ = _ from n1)
                        refine wpOp_run rfl rfl ?_
                        go_simp
                        exact ⟨b0, b1, b2, b3, b4, b5, b6, b7, b8, b9, true, true, b12, b13, b14, b15, b16, b17, b18, b19, b20, false, false, false, b24, b25, b26, A5, c5, rfl, rfl, hI⟩
                      · simp [Region.ready, List.mem_filter, Region.binds] at hi
                        have hall : b12 = false := by simp [hi]
                        clear hi
                        subst hall
                        clear hs hi16 hsh
                        refine wpOp_run rfl rfl ?_
                        go_simp
                        exact ⟨b0, b1, b2, b3, b4, b5, b6, b7, b8, b9, b10, b11, true, b13, b14, b15, b16, b17, b18, b19, b20, b21, b22, b23, b24, b25, b26, A5, c5, rfl, rfl, hI⟩
                      · simp [Region.ready, List.mem_filter, Region.binds] at hi
                        have hall : b13 = false ∧ b12 = true := by simp [hi]
                        clear hi
                        obtain ⟨rfl, rfl⟩ := hall
                        clear hs hi16 hsh
                        refine wpOp_run rfl rfl ?_
                        go_simp
                        exact ⟨b0, b1, b2, b3, b4, b5, b6, b7, b8, b9, b10, b11, true, true, b14, b15, b16, b17, b18, b19, b20, b21, b22, b23, b24, b25, b26, A5, c5, rfl, rfl, hI⟩
                      · simp [Region.ready, List.mem_filter, Region.binds] at hi
                        have hall : b14 = false ∧ b13 = true := by simp [hi]
                        clear hi
                        obtain ⟨rfl, rfl⟩ := hall
                        have z21 : b21 = false := by
                          have q := hsh 21 _ rfl
                          simp [Region.binds] at q
                          cases b21
                          · rfl
                          · simp at q
                        subst z21
                        have z22 : b22 = false := by
                          have q := hsh 22 _ rfl
                          simp [Region.binds] at q
                          cases b22
                          · rfl
                          · simp at q
                        subst z22
                        have z23 : b23 = false := by
                          have q := hsh 23 _ rfl
                          simp [Region.binds] at q
                          cases b23
                          · rfl
                          · simp at q
                        subst z23
                        clear hs hi16 hsh
                        have qc := hI.cell rfl (show wr.drew.cell? _ = _ from n2)
                        refine wpOp_run rfl rfl ?_
                        go_simp
                        exact ⟨b0, b1, b2, b3, b4, b5, b6, b7, b8, b9, b10, b11, b12, true, true, b15, b16, b17, b18, b19, b20, false, false, false, b24, b25, b26, A5, c5, rfl, rfl, hI⟩
                      · simp [Region.ready, List.mem_filter, Region.binds] at hi
                        have hall : b15 = false := by simp [hi]
                        clear hi
                        subst hall
                        clear hs hi16 hsh
                        refine wpOp_run rfl rfl ?_
                        go_simp
                        exact ⟨b0, b1, b2, b3, b4, b5, b6, b7, b8, b9, b10, b11, b12, b13, b14, true, b16, b17, b18, b19, b20, b21, b22, b23, b24, b25, b26, A5, c5, rfl, rfl, hI⟩
                      · simp [Region.ready, List.mem_filter, Region.binds] at hi
                        have hall : b16 = false ∧ b15 = true := by simp [hi]
                        clear hi
                        obtain ⟨rfl, rfl⟩ := hall
                        clear hs hi16 hsh
                        refine wpOp_run rfl rfl ?_
                        go_simp
                        exact ⟨b0, b1, b2, b3, b4, b5, b6, b7, b8, b9, b10, b11, b12, b13, b14, true, true, b17, b18, b19, b20, b21, b22, b23, b24, b25, b26, A5, c5, rfl, rfl, hI⟩
                      · simp [Region.ready, List.mem_filter, Region.binds] at hi
                        have hall : b17 = false ∧ b16 = true := by simp [hi]
                        clear hi
                        obtain ⟨rfl, rfl⟩ := hall
                        have z21 : b21 = false := by
                          have q := hsh 21 _ rfl
                          simp [Region.binds] at q
                          cases b21
                          · rfl
                          · simp at q
                        subst z21
                        have z22 : b22 = false := by
                          have q := hsh 22 _ rfl
                          simp [Region.binds] at q
                          cases b22
                          · rfl
                          · simp at q
                        subst z22
                        have z23 : b23 = false := by
                          have q := hsh 23 _ rfl
                          simp [Region.binds] at q
                          cases b23
                          · rfl
                          · simp at q
                        subst z23
                        clear hs hi16 hsh
                        have qc := hI.cell rfl (show wr.drew.cell? _ = _ from n3)
                        refine wpOp_run rfl rfl ?_
                        go_simp
                        exact ⟨b0, b1, b2, b3, b4, b5, b6, b7, b8, b9, b10, b11, b12, b13, b14, b15, true, true, b18, b19, b20, false, false, false, b24, b25, b26, A5, c5, rfl, rfl, hI⟩
                      · simp [Region.ready, List.mem_filter, Region.binds] at hi
                        have hall : b18 = false := by simp [hi]
                        clear hi
                        subst hall
                        clear hs hi16 hsh
                        refine wpOp_run rfl rfl ?_
                        go_simp
                        exact ⟨b0, b1, b2, b3, b4, b5, b6, b7, b8, b9, b10, b11, b12, b13, b14, b15, b16, b17, true, b19, b20, b21, b22, b23, b24, b25, b26, A5, c5, rfl, rfl, hI⟩
                      · simp [Region.ready, List.mem_filter, Region.binds] at hi
                        have hall : b19 = false ∧ b18 = true := by simp [hi]
                        clear hi
                        obtain ⟨rfl, rfl⟩ := hall
                        clear hs hi16 hsh
                        refine wpOp_run rfl rfl ?_
                        go_simp
                        exact ⟨b0, b1, b2, b3, b4, b5, b6, b7, b8, b9, b10, b11, b12, b13, b14, b15, b16, b17, true, true, b20, b21, b22, b23, b24, b25, b26, A5, c5, rfl, rfl, hI⟩
                      · simp [Region.ready, List.mem_filter, Region.binds] at hi
                        have hall : b20 = false ∧ b19 = true := by simp [hi]
                        clear hi
                        obtain ⟨rfl, rfl⟩ := hall
                        have z21 : b21 = false := by
                          have q := hsh 21 _ rfl
                          simp [Region.binds] at q
                          cases b21
                          · rfl
                          · simp at q
                        subst z21
                        have z22 : b22 = false := by
                          have q := hsh 22 _ rfl
                          simp [Region.binds] at q
                          cases b22
                          · rfl
                          · simp at q
                        subst z22
                        have z23 : b23 = false := by
                          have q := hsh 23 _ rfl
                          simp [Region.binds] at q
                          cases b23
                          · rfl
                          · simp at q
                        subst z23
                        clear hs hi16 hsh
                        have qc := hI.cell rfl (show wr.drew.cell? _ = _ from n4)
                        refine wpOp_run rfl rfl ?_
                        go_simp
                        exact ⟨b0, b1, b2, b3, b4, b5, b6, b7, b8, b9, b10, b11, b12, b13, b14, b15, b16, b17, b18, true, true, false, false, false, b24, b25, b26, A5, c5, rfl, rfl, hI⟩
                      · simp [Region.ready, List.mem_filter, Region.binds] at hi
                        have hall : b21 = false ∧ b5 = true ∧ b8 = true ∧ b11 = true ∧ b14 = true ∧ b17 = true ∧ b20 = true := by simp [hi]
                        clear hi
                        obtain ⟨rfl, rfl, rfl, rfl, rfl, rfl, rfl⟩ := hall
                        clear hs hi16 hsh
                        refine wpOp_run rfl rfl ?_
                        go_simp
                        exact ⟨b0, b1, b2, b3, b4, true, b6, b7, true, b9, b10, true, b12, b13, true, b15, b16, true, b18, b19, true, true, b22, b23, b24, b25, b26, A5, c5, rfl, rfl, hI⟩
                      · simp [Region.ready, List.mem_filter, Region.binds] at hi
                        have hall : b22 = false ∧ b21 = true := by simp [hi]
                        clear hi
                        obtain ⟨rfl, rfl⟩ := hall
                        have z23 : b23 = false := by
                          have q := hsh 23 _ rfl
                          simp [Region.binds] at q
                          cases b23
                          · rfl
                          · simp at q
                        subst z23
                        have z26 : b26 = false := by
                          have q := hsh 26 _ rfl
                          simp [Region.binds] at q
                          cases b26
                          · rfl
                          · simp at q
                        subst z26
                        clear hs hi16 hsh
                        obtain rfl := hI.w0 rfl rfl
                        refine wpOp_run rfl rfl ?_
                        go_simp
                        exact ⟨b0, b1, b2, b3, b4, b5, b6, b7, b8, b9, b10, b11, b12, b13, b14, b15, b16, b17, b18, b19, b20, true, true, false, b24, b25, false, A5, c5, rfl, rfl, ApI.one⟩
                      · simp [Region.ready, List.mem_filter, Region.binds] at hi
                        have hall : b23 = false ∧ b4 = true ∧ b22 = true := by simp [hi]
                        clear hi
                        obtain ⟨rfl, rfl, rfl⟩ := hall
                        have z26 : b26 = false := by
                          have q := hsh 26 _ rfl
                          simp [Region.binds] at q
                          cases b26
                          · rfl
                          · simp at q
                        subst z26
                        clear hs hi16 hsh
                        obtain rfl := hI.w1 rfl rfl
                        refine wpOp_run rfl rfl (wp_append_rd _ (.tmp 166) (.tmp 184) 42 rfl w2.heap.size 47 i0 _ 6 48 Tryz.underlying42 hi hz0 hz1 hz2 rfl (by omega) (.slice DA ml DC) ml (inL f.ins) rfl (HRO.out.alloc _) (wr.heap.size + 1) (some ⟨wr.heap.size, 0, none⟩) 1 1 [.int .i64 (r : Int), .int .i64 z1, .int .i64 z2, .int .i64 z3, .int .i64 z4, .int .i64 z5] rfl (Rd.lit wr.drew #[.int .i64 (r : Int), .int .i64 z1, .int .i64 z2, .int .i64 z3, .int .i64 z4, .int .i64 z5] 47 1 6 rfl) (by simp [Value.oneCell']) (by unfold maxLen; omega) (by omega) (by simp; omega) fun A' c' w' h2 h3 h4 => ?_)
                        exact ⟨b0, b1, b2, b3, true, b5, b6, b7, b8, b9, b10, b11, b12, b13, b14, b15, b16, b17, b18, b19, b20, b21, true, true, b24, b25, false, A', c', rfl, rfl, ApI.two ⟨h2, h3, h4⟩⟩
                      · simp [Region.ready, List.mem_filter, Region.binds] at hi
                        have hall : b24 = false ∧ b0 = true := by simp [hi]
                        clear hi
                        obtain ⟨rfl, rfl⟩ := hall
                        clear hs hi16 hsh
                        refine wpOp_run rfl rfl ?_
                        go_simp
                        exact ⟨true, b1, b2, b3, b4, b5, b6, b7, b8, b9, b10, b11, b12, b13, b14, b15, b16, b17, b18, b19, b20, b21, b22, b23, true, b25, b26, A5, c5, rfl, rfl, hI⟩
                      · simp [Region.ready, List.mem_filter, Region.binds] at hi
                        have hall : b25 = false ∧ b24 = true := by simp [hi]
                        clear hi
                        obtain ⟨rfl, rfl⟩ := hall
                        clear hs hi16 hsh
                        refine wpOp_run rfl rfl ?_
                        go_simp
                        exact ⟨b0, b1, b2, b3, b4, b5, b6, b7, b8, b9, b10, b11, b12, b13, b14, b15, b16, b17, b18, b19, b20, b21, b22, b23, true, true, b26, A5, c5, rfl, rfl, hI⟩
                      · simp [Region.ready, List.mem_filter, Region.binds] at hi
                        have hall : b26 = false ∧ b23 = true ∧ b25 = true := by simp [hi]
                        clear hi
                        obtain ⟨rfl, rfl, rfl⟩ := hall
                        clear hs hi16 hsh
                        have hG := hI.w2 rfl rfl
                        obtain ⟨q1, q2⟩ := HLA4.out.grew hG.2.1
                        rw [← HNF2.out] at q1 q2
                        refine wpOp_run rfl rfl ?_
                        go_simp
                        exact ⟨b0, b1, b2, b3, b4, b5, b6, b7, b8, b9, b10, b11, b12, b13, b14, b15, b16, b17, b18, b19, b20, b21, b22, true, b24, true, true, A5, c5, rfl, rfl, ApI.three hG⟩
          · have HLN := Lib.hid (doc_else (op := opW) (K := K) hT HP.out (fun h4 e => hF ⟨e, by rw [HNP.out]; exact h4⟩) (fun h7 e0 e1 => List.length_eq_zero_iff.1 (by
              have := HNF.out
              by_cases h0 : nf = 0
              · omega
              · exact absurd ⟨by rw [HNP.out]; exact h7, e0, e1, h0⟩ hI)))
            have hTD := hT
            rw [isTx_of HP.out] at hTD
            have hTD := of_decide_eq_false hTD
            clear hT
            have HBQ := Lib.hid (fun (p q : List UInt8) (h : p ≠ q) => show ((⟨p.toArray⟩ : ByteArray).toList == q) = false by
              rw [ByteArray.toList_eq]
              exact beq_eq_false_iff_ne.2 (fun e => h e))
            have HBE := Lib.hid (fun (p : List UInt8) (h : p ≠ []) => show (⟨p.toArray⟩ : ByteArray).toList.isEmpty = false by
              rw [ByteArray.toList_eq]
              show p.isEmpty = false
              cases p with
              | nil => exact absurd rfl h
              | cons a b => rfl)
            have hn8 : ((np : Int) + 1 == 8) = true ∨ ((np : Int) + 1 == 8) = false := by cases ((np : Int) + 1 == 8) <;> simp
            have e8 : ((np : Int) + 1 == 8) = decide (np = 7) := by rw [Bool.eq_iff_iff]; simp; omega
            by_cases t1 : p0 = [116, 101, 120, 116]
            · subst t1
              have h5f : ¬ (5 : Int) < (ls.size : Int) := by have := HLZ.out; have h5 : ¬ 5 < l.length := fun h => hTD ⟨rfl, h⟩; omega
              have c0' : w3.cell? ⟨pg, po, none⟩ = some (.string ⟨#[116, 101, 120, 116]⟩) := c0
              clear c0 hTD e8 HBQ HBE
              rcases hn8 with hn8 | hn8
              all_goals
                have HKV := Lib.hid HK3.out
                have HBAD := Lib.hid (bad_of HDOC.out HFS.out (HLN.out))
                clear HCN
                have HBX := Lib.hid (HB2.out.trans (HKV.out.bel (Nat.le_succ _) (by omega)))
                obtain ⟨r0, r1, f0, f1, _⟩ := box_cells HPY.out.1 HKV.out (by omega)
                obtain ⟨z0', z1', _, _, _⟩ := box_cells HPY.out.2.2 HKV.out (by omega)
                go_upto_region 9 with (fail)
                iterate 17 go_step
                exact bodyPost_ret (v := .tuple #[.agg #[.slice none 0 0, .slice none 0 0], .int .i64 6]) (by simp [results, Tryz.results5, go_sem, r0, r1]) rfl ⟨none, 0, none, 0, ⟨[], []⟩, 6, rfl, KR.nil _ _, .inr ⟨HBAD.out, rfl, rfl⟩, (HBX.out.setCell (p := ⟨w.heap.size, 0, none⟩) (Nat.le_refl _) _).setCell (p := ⟨w.heap.size, 1, none⟩) (Nat.le_refl _) _⟩
            · by_cases t2 : p0 = [102, 117, 110, 99]
              · subst t2
                have h5f : ((np : Int) + 1 == 5) = false := by
                  have h4 : np ≠ 4 := fun h => hF ⟨rfl, h⟩
                  rw [beq_eq_false_iff_ne]
                  omega
                have c0' : w3.cell? ⟨pg, po, none⟩ = some (.string ⟨#[102, 117, 110, 99]⟩) := c0
                clear c0 hTD e8 HBQ HBE hF t1
                rcases hn8 with hn8 | hn8
                all_goals
                  have HKV := Lib.hid HK3.out
                  have HBAD := Lib.hid (bad_of HDOC.out HFS.out (HLN.out))
                  clear HCN
                  have HBX := Lib.hid (HB2.out.trans (HKV.out.bel (Nat.le_succ _) (by omega)))
                  obtain ⟨r0, r1, f0, f1, _⟩ := box_cells HPY.out.1 HKV.out (by omega)
                  obtain ⟨z0', z1', _, _, _⟩ := box_cells HPY.out.2.2 HKV.out (by omega)
                  go_upto_region 9 with (fail)
                  iterate 17 go_step
                  exact bodyPost_ret (v := .tuple #[.agg #[.slice none 0 0, .slice none 0 0], .int .i64 6]) (by simp [results, Tryz.results5, go_sem, r0, r1]) rfl ⟨none, 0, none, 0, ⟨[], []⟩, 6, rfl, KR.nil _ _, .inr ⟨HBAD.out, rfl, rfl⟩, (HBX.out.setCell (p := ⟨w.heap.size, 0, none⟩) (Nat.le_refl _) _).setCell (p := ⟨w.heap.size, 1, none⟩) (Nat.le_refl _) _⟩
              · by_cases t3 : p0 = []
                · subst t3
                  have c0' : w3.cell? ⟨pg, po, none⟩ = some (.string ⟨#[]⟩) := c0
                  by_cases h7 : np = 7
                  · obtain ⟨p1, P', hP1⟩ : ∃ p1 P', P = p1 :: P' := by
                      have := HNP.out
                      match P, this with
                      | [], h => simp at h; omega
                      | a :: b, _ => exact ⟨a, b, rfl⟩
                    have c1' : w3.cell? ⟨pg, po + 1, none⟩ = some (.string ⟨p1.toArray⟩) := HPC.out 1 p1 (by rw [hP1]; rfl)
                    by_cases h1 : p1 = []
                    · subst h1
                      have c2' : w3.cell? ⟨pg, po + 1, none⟩ = some (.string ⟨#[]⟩) := c1'
                      have hnf0 : ¬ (0 : Int) < (nf : Int) := by
                        by_cases h0 : nf = 0
                        · omega
                        · exact absurd ⟨h7, rfl, by rw [hP1]; rfl, h0⟩ hI
                      subst h7
                      clear c0 c1' hTD e8 HBQ HBE hF t1 t2 hn8 hP1 hI
                      have HKV := Lib.hid HK3.out
                      have HBAD := Lib.hid (bad_of HDOC.out HFS.out (HLN.out))
                      clear HCN
                      have HBX := Lib.hid (HB2.out.trans (HKV.out.bel (Nat.le_succ _) (by omega)))
                      obtain ⟨r0, r1, f0, f1, _⟩ := box_cells HPY.out.1 HKV.out (by omega)
                      obtain ⟨z0', z1', _, _, _⟩ := box_cells HPY.out.2.2 HKV.out (by omega)
                      go_upto_region 9 with (fail)
                      iterate 17 go_step
                      exact bodyPost_ret (v := .tuple #[.agg #[.slice none 0 0, .slice none 0 0], .int .i64 6]) (by simp [results, Tryz.results5, go_sem, r0, r1]) rfl ⟨none, 0, none, 0, ⟨[], []⟩, 6, rfl, KR.nil _ _, .inr ⟨HBAD.out, rfl, rfl⟩, (HBX.out.setCell (p := ⟨w.heap.size, 0, none⟩) (Nat.le_refl _) _).setCell (p := ⟨w.heap.size, 1, none⟩) (Nat.le_refl _) _⟩
                    · have e1' := HBQ.out p1 [] h1
                      have e2' := HBE.out p1 h1
                      generalize (⟨p1.toArray⟩ : ByteArray) = y1 at *
                      subst h7
                      clear c0 hTD e8 HBQ HBE hF t1 t2 hn8 hP1 hI h1
                      have HKV := Lib.hid HK3.out
                      have HBAD := Lib.hid (bad_of HDOC.out HFS.out (HLN.out))
                      clear HCN
                      have HBX := Lib.hid (HB2.out.trans (HKV.out.bel (Nat.le_succ _) (by omega)))
                      obtain ⟨r0, r1, f0, f1, _⟩ := box_cells HPY.out.1 HKV.out (by omega)
                      obtain ⟨z0', z1', _, _, _⟩ := box_cells HPY.out.2.2 HKV.out (by omega)
                      go_upto_region 9 with (fail)
                      iterate 17 go_step
                      exact bodyPost_ret (v := .tuple #[.agg #[.slice none 0 0, .slice none 0 0], .int .i64 6]) (by simp [results, Tryz.results5, go_sem, r0, r1]) rfl ⟨none, 0, none, 0, ⟨[], []⟩, 6, rfl, KR.nil _ _, .inr ⟨HBAD.out, rfl, rfl⟩, (HBX.out.setCell (p := ⟨w.heap.size, 0, none⟩) (Nat.le_refl _) _).setCell (p := ⟨w.heap.size, 1, none⟩) (Nat.le_refl _) _⟩
                  · rw [decide_eq_false h7] at e8
                    clear c0 hTD HBQ HBE hF t1 t2 hn8 hI h7
                    have HKV := Lib.hid HK3.out
                    have HBAD := Lib.hid (bad_of HDOC.out HFS.out (HLN.out))
                    clear HCN
                    have HBX := Lib.hid (HB2.out.trans (HKV.out.bel (Nat.le_succ _) (by omega)))
                    obtain ⟨r0, r1, f0, f1, _⟩ := box_cells HPY.out.1 HKV.out (by omega)
                    obtain ⟨z0', z1', _, _, _⟩ := box_cells HPY.out.2.2 HKV.out (by omega)
                    go_upto_region 9 with (fail)
                    iterate 17 go_step
                    exact bodyPost_ret (v := .tuple #[.agg #[.slice none 0 0, .slice none 0 0], .int .i64 6]) (by simp [results, Tryz.results5, go_sem, r0, r1]) rfl ⟨none, 0, none, 0, ⟨[], []⟩, 6, rfl, KR.nil _ _, .inr ⟨HBAD.out, rfl, rfl⟩, (HBX.out.setCell (p := ⟨w.heap.size, 0, none⟩) (Nat.le_refl _) _).setCell (p := ⟨w.heap.size, 1, none⟩) (Nat.le_refl _) _⟩
                · have e1' := HBQ.out p0 _ t1
                  have e2' := HBQ.out p0 _ t2
                  have e3' := HBQ.out p0 _ t3
                  have e4' := HBE.out p0 t3
                  have c0' := c0
                  generalize (⟨p0.toArray⟩ : ByteArray) = y0 at *
                  clear c0 hTD HBQ HBE hF t1 t2 t3 e8 hI
                  rcases hn8 with hn8 | hn8
                  all_goals
                    have HKV := Lib.hid HK3.out
                    have HBAD := Lib.hid (bad_of HDOC.out HFS.out (HLN.out))
                    clear HCN
                    have HBX := Lib.hid (HB2.out.trans (HKV.out.bel (Nat.le_succ _) (by omega)))
                    obtain ⟨r0, r1, f0, f1, _⟩ := box_cells HPY.out.1 HKV.out (by omega)
                    obtain ⟨z0', z1', _, _, _⟩ := box_cells HPY.out.2.2 HKV.out (by omega)
                    go_upto_region 9 with (fail)
                    iterate 17 go_step
                    exact bodyPost_ret (v := .tuple #[.agg #[.slice none 0 0, .slice none 0 0], .int .i64 6]) (by simp [results, Tryz.results5, go_sem, r0, r1]) rfl ⟨none, 0, none, 0, ⟨[], []⟩, 6, rfl, KR.nil _ _, .inr ⟨HBAD.out, rfl, rfl⟩, (HBX.out.setCell (p := ⟨w.heap.size, 0, none⟩) (Nat.le_refl _) _).setCell (p := ⟨w.heap.size, 1, none⟩) (Nat.le_refl _) _⟩
    · obtain rfl : k = nL := by omega
      have HRK := Lib.hid (show readC s.data.toList = chkC s.data.toList (some K) by
        rw [← HDOC.out, HFO.out, List.drop_eq_nil_of_le (by have := HNL.out; omega)]
        rfl)
      have HKR := Lib.hid (hcd.kr (by have := HCN.out; omega))
      have c0 := hcd.c0
      have c1 := hcd.c1
      rw [← hnf] at c0
      rw [← hnt] at c1
      have hglt := hcd.lt
      clear hcd hnf hnt HFO HDOC hkl
      go_wp2_with fail
      refine Calls.mono (showCode_any FA TA fc tc K nf nt wr HNF.out HNT.out HKR.out) ?_
      rintro e w3 ⟨rfl, hb3⟩
      have HRC := Lib.hid (show readC s.data.toList = if (soundV K).1 = 0 ∧ showC K = s.data.toList then some K else none from HRK.out)
      have HKV := Lib.hid (HKY.out.below hb3)
      have HKR2 := Lib.hid ((HKR.out.into hb3).more hb3.size)
      have d0 : w3.cell? ⟨w.heap.size + 1, 0, none⟩ = some (.slice FA nf fc) := (hb3.cell (p := ⟨w.heap.size + 1, 0, none⟩) hglt).trans c0
      have d1 : w3.cell? ⟨w.heap.size + 1, 1, none⟩ = some (.slice TA nt tc) := (hb3.cell (p := ⟨w.heap.size + 1, 1, none⟩) hglt).trans c1
      have HX := Lib.hid ((HKV.out.2.2.2.2 _ (by omega) (by omega)).trans HPY.out.1)
      have HBX := Lib.hid (HB2.out.trans (HKV.out.bel (Nat.le_succ _) (by omega)))
      obtain ⟨r0, r1, f0, f1, _⟩ := box_cells HPY.out.1 HKV.out (by omega)
      obtain ⟨z0', z1', _, _, _⟩ := box_cells HPY.out.2.2 HKV.out (by omega)
      clear hb3 c0 c1 HKR HRK
      generalize (soundV K).1 = sv at *
      by_cases h1 : sv = 0
      · subst h1
        simp only [if_true]
        by_cases h2 : showC K = s.data.toList
        · have hst : (⟨(showC K).toArray⟩ : ByteArray) = s := by rw [h2]
          rw [hst]
          have HRS := Lib.hid (show readC s.data.toList = some K by rw [HRC.out]; exact if_pos ⟨rfl, h2⟩)
          clear HRC h2 hst
          go_upto_region 37 with (fail)
          repeat go_step
          refine bodyPost_ret (v := .tuple #[.agg #[.slice FA nf fc, .slice TA nt tc], .int .i64 0]) (by simp [results, Tryz.results5, go_sem, r0, r1]) rfl ⟨FA, fc, TA, tc, K, 0, by rw [HNF.out, HNT.out], ?_, .inl ⟨HRS.out, rfl⟩, (HBX.out.setCell (p := ⟨w.heap.size, 0, none⟩) (Nat.le_refl _) _).setCell (p := ⟨w.heap.size, 1, none⟩) (Nat.le_refl _) _⟩
          exact (HKR2.out.avoid (twoS HX.out) (w' := (w3.setCell ⟨w.heap.size, 0, none⟩ (.slice FA nf fc)).setCell ⟨w.heap.size, 1, none⟩ (.slice TA nt tc)) fun p _ hne => World.cell?_of_block (set2_keep _ _ _ hne)).more (by simp)
        · have HRS := Lib.hid (show readC s.data.toList = none by rw [HRC.out]; exact if_neg fun h => h2 h.2)
          have hbt : ((⟨(showC K).toArray⟩ : ByteArray).toList == s.toList) = false := by
            rw [ba_eq]
            exact decide_eq_false fun e => h2 (by rw [← e])
          generalize (⟨(showC K).toArray⟩ : ByteArray) = bk at *
          clear HRC h2
          go_upto_region 36 with (fail)
          repeat go_step
          exact bodyPost_ret (v := .tuple #[.agg #[.slice none 0 0, .slice none 0 0], .int .i64 6]) (by simp [results, Tryz.results5, go_sem, r0, r1]) rfl ⟨none, 0, none, 0, ⟨[], []⟩, 6, rfl, KR.nil _ _, .inr ⟨HRS.out, rfl, rfl⟩, (HBX.out.setCell (p := ⟨w.heap.size, 0, none⟩) (Nat.le_refl _) _).setCell (p := ⟨w.heap.size, 1, none⟩) (Nat.le_refl _) _⟩
      · have HRS := Lib.hid (show readC s.data.toList = none by rw [HRC.out]; exact if_neg fun h => h1 h.1)
        have b0 : (sv != 0) = true := by simpa using h1
        clear HRC
        generalize (⟨(if sv = 0 then showC K else []).toArray⟩ : ByteArray) = bk at *
        clear h1
        go_upto_region 36 with (fail)
        repeat go_step
        exact bodyPost_ret (v := .tuple #[.agg #[.slice none 0 0, .slice none 0 0], .int .i64 6]) (by simp [results, Tryz.results5, go_sem, r0, r1]) rfl ⟨none, 0, none, 0, ⟨[], []⟩, 6, rfl, KR.nil _ _, .inr ⟨HRS.out, rfl, rfl⟩, (HBX.out.setCell (p := ⟨w.heap.size, 0, none⟩) (Nat.le_refl _) _).setCell (p := ⟨w.heap.size, 1, none⟩) (Nat.le_refl _) _⟩
end Go.Proofs.YtjegfimagjmpdaaGreatDoor
