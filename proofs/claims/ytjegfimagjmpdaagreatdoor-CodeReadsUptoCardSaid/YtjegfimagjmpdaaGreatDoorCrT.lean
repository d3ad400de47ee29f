/- 'code.take': a line of a code's text. Conditions: the library's own number stands in its cell; the line is at most as long as the bound. -/
import Derived.Test.YtjegfimagjmpdaaGreatDoorCrN
import Derived.Test.YtjegfimagjmpdaaGreatDoorCutSp
import Derived.Deep.QuietTactic
import Derived.BigQuiet
set_option maxRecDepth 100000
namespace Go.Proofs.YtjegfimagjmpdaaGreatDoor
open Go.ChangeShapes Go.WideShapes Go.ChangeAt Go.RowKit
theorem cutSp_any (s : ByteArray) (hl : s.size ≤ 140737488351232) : ∃ A R : List UInt8, s.data.toList = A ++ R ∧ (32 : UInt8) ∉ A ∧ (R = [] ∨ ∃ B, R = 32 :: B) ∧ ∀ w : World, Calls Tryz.prog 7 #[.string s, .string ⟨#[32]⟩] w fun e w' => (∃ a b, e = .returned (.tuple #[.string ⟨A.toArray⟩, .string a, .bool b])) ∧ ∃ n, w' = w.drewN n := by
  by_cases h : (32 : UInt8) ∈ s.data.toList
  · obtain ⟨A, B, hs, hA⟩ := List.eq_append_cons_of_mem h
    exact ⟨A, 32 :: B, hs, hA, .inr ⟨B, rfl⟩, fun w => (cutSp_yes s A B hs hA hl w).mono fun e w' ⟨h1, h2⟩ => ⟨⟨_, _, h1⟩, h2⟩⟩
  · exact ⟨s.data.toList, [], by simp, h, .inl rfl, fun w => (cutSp_no s h w).mono fun e w' ⟨h1, h2⟩ => ⟨⟨⟨#[]⟩, false, h1⟩, h2⟩⟩
theorem line_insR {op : List UInt8 → Option Nat} {st : Bool} {K : KK} {A R : List UInt8} (hf : K.funcs ≠ []) (h : (32 : UInt8) ∉ A) (hR : R = [] ∨ ∃ B, R = 32 :: B) : lineC op st K ([32, 32] ++ (A ++ R)) = match op A, numM 5 R with | some k, some [z1, z2, z3, z4, z5] => some { K with funcs := addIns K.funcs ⟨(k : Int), z1, z2, z3, z4, z5⟩ } | _, _ => none := by
  rcases hR with rfl | ⟨B, rfl⟩
  · rw [List.append_nil, line_ins_no (.inr h), numM_no]
    cases op A <;> rfl
  · exact line_ins hf h
/-- The program's table, at its first row. -/
theorem run_word0 (w : World) : (Instr.index 52 (.agg wordArr) (.int .i64 0)).run Tryz.prog w = .ok (.string ⟨#[]⟩) w := by kernel_rfl
/-- What 'take' comes to. -/
def TkP (base g : Nat) (K : KK) (l : List UInt8) (w : World) (e : Ending) (w' : World) : Prop :=
  (∃ b, e = .returned (.bool b) ∧ (b = true → ∃ K', lineC opW true K l = some K' ∧ CdO base g K' w') ∧ (b = false → lineC opW true K l = none)) ∧ Below base w w'
theorem TkP.no {base g : Nat} {K : KK} {l : List UInt8} {w w' : World} (h : lineC opW true K l = none) (hb : Below base w w') : TkP base g K l w (.returned (.bool false)) w' := ⟨⟨false, rfl, (fun e => by cases e), fun _ => h⟩, hb⟩
theorem TkP.yes {base g : Nat} {K K' : KK} {l : List UInt8} {w w' : World} (h : lineC opW true K l = some K') (hc : CdO base g K' w') (hb : Below base w w') : TkP base g K l w (.returned (.bool true)) w' := ⟨⟨true, rfl, fun _ => ⟨K', h, hc⟩, (fun e => by cases e)⟩, hb⟩
theorem pfx_is {s p : ByteArray} (h : pfxB s p = true) : s.data.toList = p.data.toList ++ (cutP s p).data.toList ∧ (cutP s p).size ≤ s.size := by
  refine ⟨?_, ?_⟩
  · have hc : cutP s p = s.extract p.size s.size := by unfold cutP; rw [if_pos h]
    unfold pfxB at h
    rw [Bool.and_eq_true, decide_eq_true_eq, decide_eq_true_eq] at h
    have e1 : s.data.toList.take p.size = p.data.toList := by
      have h2 := congrArg (fun x => x.data.toList) h.2
      simp only [extract_list, List.drop_zero] at h2
      exact h2
    have e2 : (cutP s p).data.toList = s.data.toList.drop p.size := by
      rw [hc, extract_list]
      show (s.data.toList.take s.size).drop p.size = _
      rw [List.take_of_length_le (show s.data.toList.length ≤ s.size from Nat.le_refl _)]
    rw [e2]
    conv => lhs; rw [← List.take_append_drop p.size s.data.toList, e1]
  · rw [show cutP s p = s.extract p.size s.size by unfold cutP; rw [if_pos h], ByteArray.size_extract]
    omega
theorem pfx_not {s p : ByteArray} (h : pfxB s p = false) : ∀ t, s.data.toList ≠ p.data.toList ++ t := by
  intro t e
  have hl : s.size = p.size + t.length := by
    have h1 := congrArg List.length e
    rw [List.length_append] at h1
    exact h1
  have : s.extract 0 p.size = p := by
    rw [extract_list, List.drop_zero, e]
    show ByteArray.mk ((p.data.toList ++ t).take p.data.toList.length).toArray = p
    rw [List.take_left]
  unfold pfxB at h
  rw [decide_eq_true (show p.size ≤ s.size by omega), decide_eq_true this] at h
  cases h
theorem unq_le {l q : List UInt8} (h : unq l = some q) : q.length ≤ 200 := by
  unfold unq at h
  split at h
  · cases h
  · split at h
    · split at h
      · split at h
        · cases h
        · injection h with h
          subst h
          omega
      · cases h
    · cases h
theorem numM_len {n : Nat} {l : List UInt8} {z : List Int} (h : numM n l = some z) : z.length = n := by
  unfold numM at h
  split at h
  · rename_i hc
    rw [numsL_len _ _ h, List.length_tail, hc.1]
    rfl
  · cases h
theorem CdC.grewT {base g : Nat} {K : KK} {fv tv : Value} {ds : List Value} {w w' : World} {o : Obj} (h : CdC base g K fv tv ds w) (hg : (w.alloc o).grownBy w' tv.ownBlock) : w'.heap[g]? = some (.cells #[fv, tv] 25 (0, 0)) :=
  ((KT.row (h.tx.alloc o) hg).alloc g _ _ h.box (Ne.symm tne1)).trans h.box
theorem CdC.grewF {base g : Nat} {K : KK} {fv tv : Value} {ds : List Value} {w w' : World} {o : Obj} (h : CdC base g K fv tv ds w) (hg : (w.alloc o).grownBy w' fv.ownBlock) : w'.heap[g]? = some (.cells #[fv, tv] 25 (0, 0)) :=
  ((KT.row (h.row.alloc o) hg).alloc g _ _ h.box tne4).trans h.box
theorem bel_grown {base : Nat} {w w' : World} {o : Obj} {n size : Nat} {e : TypeId} {v : Value} {xs : List Value} (hb : base ≤ w.heap.size) (h : w.ownsRow base e size v n xs) (hg : (w.alloc o).grownBy w' v.ownBlock) : Below base w w' :=
  ((Below.refl base w).alloc hb o).grown hg (by simp; omega) (fun q hq => (h.lt q hq).1)
theorem LastC.below {base g b c : Nat} {K : KK} {F : List FF} {f : FF} {D : List Value} {d tv : Value} {w w' : World} (h : LastC base g K b c F f D d tv w) (hb : Below w.heap.size w w') : LastC base g K b c F f D d tv w' := ⟨h.fs, h.cd.below hb, h.len⟩
theorem LastC.grew {base g b c : Nat} {K : KK} {F : List FF} {f : FF} {D : List Value} {d tv : Value} {w w' : World} {o : Obj} (h : LastC base g K b c F f D d tv w) (hg : (w.alloc o).grownBy w' d.ownBlock) : w'.cell? ⟨b, F.length * 5 + 4, none⟩ = some d ∧ w'.frozen? ⟨b, F.length * 5 + 4, none⟩ = false := by
  obtain ⟨h1, _, _, _⟩ := h.at4
  obtain ⟨cur, hcb⟩ := own_ty h.cd.row rfl
  have e := (KT.row (h.own.alloc o) hg).alloc b _ _ hcb tne6
  exact ⟨(World.cell?_of_block e).trans h1, Lib.frozen_of_heap (e.trans hcb) _⟩
/-- What an append has made. -/
def ApG (W : World) (o : Obj) (base : Nat) (e : TypeId) (size : Nat) (v0 : Value) (n : Nat) (xs : List Value) (v : Value) (w : World) : Prop :=
  w.ownsRow base e size v (n + 1) xs ∧ (W.alloc o).grownBy w v0.ownBlock ∧ (v.ownBlock = v0.ownBlock ∨ v.ownBlock = some (W.alloc o).heap.size)
/-- An append in the midst: is the element laid; is it appended; is the slice stored? -/
def ApI (b1 b2 b3 : Bool) (W : World) (o : Obj) (base : Nat) (e : TypeId) (size : Nat) (v0 : Value) (n : Nat) (xs : List Value) (a : Addr) (v : Value) (w : World) : Prop :=
  (b1 = false → b2 = false → w = W) ∧ (b1 = true → b2 = false → w = W.alloc o) ∧ (b2 = true → b3 = false → ApG W o base e size v0 n xs v w) ∧ (b3 = true → ∃ w1 : World, ApG W o base e size v0 n xs v w1 ∧ w = w1.setCell a v)
section
variable {b1 b2 b3 : Bool} {W w : World} {o : Obj} {base : Nat} {e : TypeId} {size : Nat} {v0 : Value} {n : Nat} {xs : List Value} {a : Addr} {v : Value}
theorem ApI.zero : ApI false false false W o base e size v0 n xs a v W := ⟨(fun _ _ => rfl), (fun h => by cases h), (fun h => by cases h), (fun h => by cases h)⟩
theorem ApI.one : ApI true false false W o base e size v0 n xs a v (W.alloc o) := ⟨(fun h => by cases h), (fun _ _ => rfl), (fun h => by cases h), (fun h => by cases h)⟩
theorem ApI.two (h : ApG W o base e size v0 n xs v w) : ApI b1 true false W o base e size v0 n xs a v w := ⟨(fun _ h => by cases h), (fun _ h => by cases h), (fun _ _ => h), (fun h => by cases h)⟩
theorem ApI.three (h : ApG W o base e size v0 n xs v w) : ApI b1 true true W o base e size v0 n xs a v (w.setCell a v) := ⟨(fun _ h => by cases h), (fun _ h => by cases h), (fun _ h => by cases h), (fun _ => ⟨w, h, rfl⟩)⟩
theorem ApI.w0 (h : ApI b1 b2 b3 W o base e size v0 n xs a v w) (h1 : b1 = false) (h2 : b2 = false) : w = W := h.1 h1 h2
theorem ApI.w1 (h : ApI b1 b2 b3 W o base e size v0 n xs a v w) (h1 : b1 = true) (h2 : b2 = false) : w = W.alloc o := h.2.1 h1 h2
theorem ApI.w2 (h : ApI b1 b2 b3 W o base e size v0 n xs a v w) (h1 : b2 = true) (h2 : b3 = false) : ApG W o base e size v0 n xs v w := h.2.2.1 h1 h2
theorem ApI.done (h : ApI b1 b2 true W o base e size v0 n xs a v w) : ∃ w1 : World, ApG W o base e size v0 n xs v w1 ∧ w = w1.setCell a v := h.2.2.2 rfl
theorem ApI.cell (h : ApI b1 b2 b3 W o base e size v0 n xs a v w) (h2 : b2 = false) {p : Addr} {u : Value} (hp : W.cell? p = some u) : w.cell? p = some u := by
  cases b1 with
  | false => rw [h.w0 rfl h2]; exact hp
  | true => rw [h.w1 rfl h2]; exact (World.cell?_alloc_lt W o p (World.block_lt_of_cell? W p hp)).trans hp
end
def Tk13II (g : Nat) (s : ByteArray) (q1 : ByteArray) (q : ByteArray) (k : Nat) (lb : Nat) (lo : Nat) (c3 : Nat) (X : ByteArray) (w2 : World) (nm : ByteArray) (z1 : Int) (z2 : Int) (z3 : Int) (base : Nat) (FA : Option Addr) (nf : Nat) (fc : Nat) (K : KK) (ds : List Value) (L : Array Bool) (a : Act) (w : World) : Prop :=
  ∃ (b0 b1 b2 b3 b4 b5 b6 b7 b8 b9 b10 b11 b12 b13 b14 b15 b16 b17 b18 b19 b20 b21 b22 : Bool) (A5 : Option Addr) (c5 : Nat), L = #[b0, b1, b2, b3, b4, b5, b6, b7, b8, b9, b10, b11, b12, b13, b14, b15, b16, b17, b18, b19, b20, b21, b22] ∧ a = { tmps := #[Value.pointer (some { block := g, off := 0 }), Value.string s, undef, undef, Value.bool false, Value.string q1, Value.bool false, undef, undef, Value.string q, Value.bool true, Value.int IntKind.i64 ↑k, Value.slice (some { block := lb, off := lo }) 3 c3, Value.bool true, undef, undef, undef, undef, undef, undef, undef, undef, undef, undef, Value.tuple #[Value.string q1, Value.bool false], Value.string s, Value.tuple #[Value.string q1, Value.bool false], Value.string q1, Value.bool false, Value.bool false, undef, undef, undef, undef, undef, undef, undef, undef, undef, undef, undef, undef, undef, undef, undef, undef, undef, undef, undef, undef, undef, undef, undef, undef, undef, Value.tuple #[Value.string q, Value.bool true], Value.string s, Value.tuple #[Value.string q, Value.bool true], Value.string q, Value.bool true, Value.bool true, Value.string q, Value.int IntKind.i64 ↑k, Value.int IntKind.i64 ↑k, Value.bool (decide (↑k < 0)), Value.tuple #[Value.slice (some { block := lb, off := lo }) 3 c3, Value.bool true], Value.string q, Value.int IntKind.i64 ↑k, Value.string X, Value.tuple #[Value.slice (some { block := lb, off := lo }) 3 c3, Value.bool true], Value.slice (some { block := lb, off := lo }) 3 c3, Value.bool true, Value.bool true, pkd b0 (.pointer (some ⟨g, 0, none⟩)) (undef), pkd b1 (.pointer (some ⟨g, 0, none⟩)) (undef), pkd b2 (.pointer (some ⟨g, 0, none⟩)) (undef), pkd b3 (.pointer (some ⟨g, 0, none⟩)) (undef), pkd b4 (.slice FA nf fc) (undef), pkd b5 (.string q) (undef), pkd b6 (.int .i64 (k : Int)) (undef), pkd b7 (.string nm) (undef), pkd b8 (.slice (some ⟨lb, lo, none⟩) 3 c3) (undef), pkd b9 (.pointer (some ⟨lb, lo, none⟩)) (undef), pkd b10 (.int .i64 z1) (undef), pkd b11 (.slice (some ⟨lb, lo, none⟩) 3 c3) (undef), pkd b12 (.pointer (some ⟨lb, lo + 1, none⟩)) (undef), pkd b13 (.int .i64 z2) (undef), pkd b14 (.slice (some ⟨lb, lo, none⟩) 3 c3) (undef), pkd b15 (.pointer (some ⟨lb, lo + 2, none⟩)) (undef), pkd b16 (.int .i64 z3) (undef), pkd b17 (.agg #[.string nm, .int .i64 z1, .int .i64 z2, .int .i64 z3, .slice none 0 0]) (undef), pkd b18 (.slice (some ⟨w2.heap.size, 0, none⟩) 1 1) (undef), pkd b19 (.slice A5 (nf + 1) c5) (undef), pkd b20 (.pointer (some ⟨g, 0, none⟩)) (undef), pkd b21 (.pointer (some ⟨g, 0, none⟩)) (undef), undef, undef, undef, undef, undef, undef, undef, undef, undef, undef, undef, undef, undef, undef, undef, undef, undef, undef, undef, undef, undef, undef, undef, undef, undef, undef, undef, undef, undef, undef, undef, undef, undef, undef, undef, undef, undef, undef, undef, undef, undef, undef, undef, undef, undef, undef, undef, undef, undef, undef, undef, undef, undef, undef, undef, undef, undef, undef, undef, undef, undef, undef, undef, undef, undef, undef, undef, undef, undef, undef, undef, undef, undef, undef, undef, undef, undef, undef, undef, undef, undef, undef], defers := [] } ∧ (ApI b18 b19 b22 w2.drew (.cells #[.string nm, .int .i64 z1, .int .i64 z2, .int .i64 z3, .slice none 0 0] 44) base 44 5 (.slice FA nf fc) nf (fzL K.funcs ds ++ [.string nm, .int .i64 z1, .int .i64 z2, .int .i64 z3, .slice none 0 0]) ⟨g, 0, none⟩ (.slice A5 (nf + 1) c5) w)
def Tk26II (g : Nat) (s : ByteArray) (u4 : Value) (q1 : ByteArray) (q2 : ByteArray) (q : ByteArray) (wd : ByteArray) (ra : ByteArray) (rb : Bool) (k : Nat) (kw : ByteArray) (lb : Nat) (lo : Nat) (c3 : Nat) (b : Nat) (nl : Nat) (fc : Nat) (WA : Value) (X : ByteArray) (u149 : Value) (u150 : Value) (u151 : Value) (u152 : Value) (u153 : Value) (u154 : Value) (u155 : Value) (u156 : Value) (u157 : Value) (u158 : Value) (u159 : Value) (u160 : Value) (u161 : Value) (u162 : Value) (u163 : Value) (u164 : Value) (u165 : Value) (u166 : Value) (u167 : Value) (u168 : Value) (u169 : Value) (u170 : Value) (u171 : Value) (u172 : Value) (u173 : Value) (u174 : Value) (u175 : Value) (u176 : Value) (w4 : World) (z1 : Int) (z2 : Int) (z3 : Int) (z4 : Int) (z5 : Int) (base : Nat) (DA : Option Addr) (ml : Nat) (DC : Nat) (f : FF) (L : Array Bool) (a : Act) (w : World) : Prop :=
  ∃ (b0 b1 b2 b3 b4 b5 b6 b7 b8 b9 b10 b11 b12 b13 b14 b15 b16 b17 b18 b19 b20 b21 b22 b23 b24 b25 b26 : Bool) (A5 : Option Addr) (c5 : Nat), L = #[b0, b1, b2, b3, b4, b5, b6, b7, b8, b9, b10, b11, b12, b13, b14, b15, b16, b17, b18, b19, b20, b21, b22, b23, b24, b25, b26] ∧ a = { tmps := #[Value.pointer (some { block := g, off := 0 }), Value.string s, undef, undef, u4, Value.string q1, Value.bool false, undef, undef, Value.string q2, Value.bool false, undef, undef, undef, Value.string q, Value.bool true, Value.string wd, Value.string ra, Value.bool rb, Value.int IntKind.i64 ↑k, Value.string kw, Value.slice (some { block := lb, off := lo }) 5 c3, Value.bool true, Value.pointer (some { block := b, off := nl * 5 }), Value.tuple #[Value.string q1, Value.bool false], Value.string s, Value.tuple #[Value.string q1, Value.bool false], Value.string q1, Value.bool false, Value.bool false, undef, undef, undef, undef, undef, undef, undef, undef, undef, undef, undef, undef, undef, undef, undef, undef, undef, undef, undef, undef, undef, undef, undef, undef, undef, Value.tuple #[Value.string q2, Value.bool false], Value.string s, Value.tuple #[Value.string q2, Value.bool false], Value.string q2, Value.bool false, Value.bool false, undef, undef, undef, undef, undef, undef, undef, undef, undef, undef, undef, undef, undef, undef, undef, undef, undef, undef, undef, undef, undef, undef, undef, undef, undef, undef, undef, undef, undef, undef, undef, undef, undef, undef, undef, Value.tuple #[Value.string q, Value.bool true], Value.string s, Value.tuple #[Value.string q, Value.bool true], Value.string q, Value.bool true, Value.bool true, Value.bool false, Value.bool false, Value.pointer (some { block := g, off := 0 }), Value.pointer (some { block := g, off := 0 }), Value.pointer (some { block := g, off := 0 }), Value.slice (some { block := b, off := 0 }) (nl + 1) fc, Value.int IntKind.i64 (↑nl + 1), Value.bool false, Value.bool false, Value.tuple #[Value.string wd, Value.string ra, Value.bool rb], Value.string q, Value.tuple #[Value.string wd, Value.string ra, Value.bool rb], Value.string wd, Value.string ra, Value.bool rb, WA, Value.int IntKind.i64 ↑k, Value.bool true, Value.int IntKind.i64 ↑k, Value.string kw, Value.int IntKind.i64 ↑k, Value.bool true, Value.bool true, Value.string kw, Value.string wd, Value.bool true, Value.bool true, Value.tuple #[Value.slice (some { block := lb, off := lo }) 5 c3, Value.bool true], Value.string q, Value.string wd, Value.int IntKind.i64 ↑wd.size, Value.string X, Value.tuple #[Value.slice (some { block := lb, off := lo }) 5 c3, Value.bool true], Value.slice (some { block := lb, off := lo }) 5 c3, Value.bool true, Value.bool true, Value.pointer (some { block := g, off := 0 }), Value.pointer (some { block := g, off := 0 }), Value.pointer (some { block := g, off := 0 }), Value.slice (some { block := b, off := 0 }) (nl + 1) fc, Value.pointer (some { block := g, off := 0 }), Value.pointer (some { block := g, off := 0 }), Value.pointer (some { block := g, off := 0 }), Value.slice (some { block := b, off := 0 }) (nl + 1) fc, Value.int IntKind.i64 (↑nl + 1), Value.int IntKind.i64 ↑nl, Value.pointer (some { block := b, off := nl * 5 }), pkd b0 (.pointer (some ⟨b, nl * 5, none⟩)) (u149), pkd b1 (.pointer (some ⟨b, nl * 5, none⟩)) (u150), pkd b2 (.pointer (some ⟨b, nl * 5, none⟩)) (u151), pkd b3 (.pointer (some ⟨b, nl * 5 + 4, none⟩)) (u152), pkd b4 (.slice DA ml DC) (u153), pkd b5 (.int .i64 (k : Int)) (u154), pkd b6 (.slice (some ⟨lb, lo, none⟩) 5 c3) (u155), pkd b7 (.pointer (some ⟨lb, lo, none⟩)) (u156), pkd b8 (.int .i64 z1) (u157), pkd b9 (.slice (some ⟨lb, lo, none⟩) 5 c3) (u158), pkd b10 (.pointer (some ⟨lb, lo + 1, none⟩)) (u159), pkd b11 (.int .i64 z2) (u160), pkd b12 (.slice (some ⟨lb, lo, none⟩) 5 c3) (u161), pkd b13 (.pointer (some ⟨lb, lo + 2, none⟩)) (u162), pkd b14 (.int .i64 z3) (u163), pkd b15 (.slice (some ⟨lb, lo, none⟩) 5 c3) (u164), pkd b16 (.pointer (some ⟨lb, lo + 3, none⟩)) (u165), pkd b17 (.int .i64 z4) (u166), pkd b18 (.slice (some ⟨lb, lo, none⟩) 5 c3) (u167), pkd b19 (.pointer (some ⟨lb, lo + 4, none⟩)) (u168), pkd b20 (.int .i64 z5) (u169), pkd b21 (.agg #[.int .i64 (k : Int), .int .i64 z1, .int .i64 z2, .int .i64 z3, .int .i64 z4, .int .i64 z5]) (u170), pkd b22 (.slice (some ⟨w4.heap.size, 0, none⟩) 1 1) (u171), pkd b23 (.slice A5 (ml + 1) c5) (u172), pkd b24 (.pointer (some ⟨b, nl * 5, none⟩)) (u173), pkd b25 (.pointer (some ⟨b, nl * 5 + 4, none⟩)) (u174), u175, u176], defers := [] } ∧ (ApI b22 b23 b26 w4.drew (.cells #[.int .i64 (k : Int), .int .i64 z1, .int .i64 z2, .int .i64 z3, .int .i64 z4, .int .i64 z5] 47) base 47 6 (.slice DA ml DC) ml (inL f.ins ++ [.int .i64 (k : Int), .int .i64 z1, .int .i64 z2, .int .i64 z3, .int .i64 z4, .int .i64 z5]) ⟨b, nl * 5 + 4, none⟩ (.slice A5 (ml + 1) c5) w)
set_option maxHeartbeats 16000000 in
theorem codeTake_any (base g : Nat) (K : KK) (s : ByteArray) (m : Int) (w : World) (h : CdO base g K w) (hm : w.cell? ⟨0, 0, none⟩ = some (.int .i64 m)) (hs : s.size ≤ 1048576) (hc : cntK K ≤ 1048576) (hb : base ≤ w.heap.size) (hbg : base ≤ g) :
    Calls Tryz.prog 8 #[.pointer (some ⟨g, 0, none⟩), .string s] w (TkP base g K s.data.toList w) := by
  obtain ⟨s0, hsi, sz0, sz1, sz2⟩ := info_parts info_str
  obtain ⟨i0, hi, hz0, hz1, hz2⟩ := info_parts info_ins
  obtain ⟨j0, hj, jz0, jz1, jz2⟩ := info_parts info_fn
  obtain ⟨FA, fc, TA, tc, ds, hcd⟩ := h.form
  have hfl : K.funcs.length ≤ 1048576 := by
    have : ∀ l : List FF, l.length ≤ (l.map fun f => 1 + f.ins.length).sum := fun l => by
      induction l with
      | nil => simp
      | cons a l ih => simp only [List.length_cons, List.map_cons, List.sum_cons]; omega
    have := this K.funcs
    unfold cntK at hc
    omega
  have htl : K.texts.length ≤ 1048576 := by unfold cntK at hc; omega
  have HCN := Lib.hid hc
  have HB := Lib.hid hb
  have HM := Lib.hid hm
  have hglt := hcd.lt
  obtain ⟨nf, hnf⟩ : ∃ n, n = K.funcs.length := ⟨_, rfl⟩
  obtain ⟨nt, hnt⟩ : ∃ n, n = K.texts.length := ⟨_, rfl⟩
  rw [← hnf, ← hnt] at hcd
  rw [← hnf] at hfl
  rw [← hnt] at htl
  have HNF := Lib.hid hnf
  have HNT := Lib.hid hnt
  have HC := Lib.hid hcd
  clear h hm hc hb hcd hnf hnt
  go_enter Tryz.func8, Tryz.ntmps8
  go_wp2_with fail
  refine (cutPrefix_any s _ _).mono ?_
  rintro e w1 ⟨rfl, rfl⟩
  cases hp : pfxB s ⟨#[116, 101, 120, 116, 32]⟩ with
  | true =>
    obtain ⟨e1, e2⟩ := pfx_is hp
    generalize cutP s ⟨#[116, 101, 120, 116, 32]⟩ = q at *
    have hl0 := line_text (op := opW) (K := K) q.data.toList rfl
    rw [show [116, 101, 120, 116, 32] ++ q.data.toList = s.data.toList from e1.symm] at hl0
    have HL := Lib.hid hl0
    clear hl0
    clear hp e1
    go_wp2_with fail
    refine (scanUnquote_any q (by omega) _).mono ?_
    rintro e w1 ⟨rfl, hb1⟩
    have HC1 := Lib.hid (HC.out.below hb1)
    have HB1 := Lib.hid (hb1.mono HB.out)
    have hb1l := Nat.le_trans HB.out hb1.size
    have c1 := HC1.out.c1
    have c0 := HC1.out.c0
    have HTX := Lib.hid (show w1.ownsRow base 9 1 (.slice TA nt tc) nt (K.texts.map Value.string) by have := HC1.out.tx; rwa [← HNT.out] at this)
    clear hb1
    cases hu : unq q.data.toList with
    | none =>
      rw [unqV_none hu]
      have HU := Lib.hid hu
      clear hu
      go_wp2_with (at_builtin; refine wpList_append_rd _ rfl _ _ 23 rfl base 9 s0 _ 1 16 Tryz.underlying23 hsi sz0 sz1 sz2 rfl (by omega) _ _ _ rfl (HTX.out.alloc _) _ _ 1 1 [_] rfl (Rd.lit1 _ _ _) (one1 rfl) (by unfold maxLen; omega) (by omega) (by simp; omega) ?_; intro A3 c3 w3 hown3 hgrow3 _; have hb3 := HC1.out.grewT hgrow3; have d1 : w3.cell? ⟨g, 1, none⟩ = some (.slice TA nt tc) := (by rw [Lib.cell_of_heap hb3]; rfl); have f1 : w3.frozen? ⟨g, 1, none⟩ = false := Lib.frozen_of_heap hb3 1)
      go_returns
      exact TkP.no (by rw [HL.out, HU.out]) (HB1.out.trans ((bel_grown hb1l HC1.out.tx hgrow3).setCell hbg _))
    | some t =>
      rw [unqV_some hu]
      have HU := Lib.hid hu
      have htz : t.length ≤ 1048576 := by
        have := unq_le hu
        omega
      clear hu
      have HTZ := Lib.hid htz
      have hbf : (((nf : Int) == 0) = true ∧ K.funcs = []) ∨ (((nf : Int) == 0) = false ∧ K.funcs ≠ []) := by
        have := HNF.out
        by_cases h0 : nf = 0
        · exact .inl ⟨by simp [h0], List.length_eq_zero_iff.1 (by omega)⟩
        · exact .inr ⟨by simp; omega, fun e => h0 (by rw [this, e]; rfl)⟩
      rcases hbf with ⟨bf, hfs⟩ | ⟨bf, hfs⟩
      all_goals
        have HFS := Lib.hid hfs
        clear hfs htz
        go_wp2_with (at_builtin; refine wpList_append_rd _ rfl _ _ 23 rfl base 9 s0 _ 1 16 Tryz.underlying23 hsi sz0 sz1 sz2 rfl (by omega) _ _ _ rfl (HTX.out.alloc _) _ _ 1 1 [_] rfl (Rd.lit1 _ _ _) (one1 rfl) (by unfold maxLen; omega) (by omega) (by simp; omega) ?_; intro A3 c3 w3 hown3 hgrow3 _; have hb3 := HC1.out.grewT hgrow3; have d1 : w3.cell? ⟨g, 1, none⟩ = some (.slice TA nt tc) := (by rw [Lib.cell_of_heap hb3]; rfl); have f1 : w3.frozen? ⟨g, 1, none⟩ = false := Lib.frozen_of_heap hb3 1; have d0 : (w3.setCell ⟨g, 1, none⟩ (.slice A3 (nt + 1) c3)).cell? ⟨g, 0, none⟩ = some (.slice FA nf fc) := (by rw [Lib.cell_of_heap (heap_setN hb3 _)]; rfl))
        go_returns
      · exact TkP.yes (by rw [HL.out, HU.out]; exact if_neg (by simpa using HFS.out)) ⟨_, _, _, HC1.out.text HNT.out hown3 hgrow3 HTZ.out⟩ (HB1.out.trans ((bel_grown hb1l HC1.out.tx hgrow3).setCell hbg _))
      · exact TkP.no (by rw [HL.out, HU.out]; exact if_pos HFS.out) (HB1.out.trans ((bel_grown hb1l HC1.out.tx hgrow3).setCell hbg _))
  | false =>
    have HP1 := Lib.hid (pfx_not hp)
    clear hp
    generalize cutP s ⟨#[116, 101, 120, 116, 32]⟩ = q1 at *
    go_wp2_with fail
    refine (cutPrefix_any s _ _).mono ?_
    rintro e w1 ⟨rfl, rfl⟩
    cases hp : pfxB s ⟨#[102, 117, 110, 99, 32]⟩ with
    | true =>
      obtain ⟨e1, e2⟩ := pfx_is hp
      generalize cutP s ⟨#[102, 117, 110, 99, 32]⟩ = q at *
      clear hp
      have hq3 : q.data.toList.length = q.size := rfl
      go_wp2_with fail
      refine (Tryz.strings_IndexByte _ _ _).mono ?_
      rintro e w1 ⟨rfl, rfl⟩
      rw [show ((32 : Int).toNat.toUInt8) = 32 from rfl]
      by_cases hsp : (32 : UInt8) ∈ q.data.toList
      · obtain ⟨A, B, hAB, hA⟩ := List.eq_append_cons_of_mem hsp
        have hl0 := line_func (op := opW) (st := true) (K := K) (B := B) hA
        rw [show [102, 117, 110, 99, 32] ++ (A ++ 32 :: B) = s.data.toList by rw [e1, hAB]] at hl0
        have HL := Lib.hid hl0
        rw [hAB, ixb_yes hA]
        clear hl0
        have hkl : A.length ≤ q.size := by rw [← hq3, hAB]; simp
        have HX := Lib.hid (show (q.extract A.length q.size).data.toList = 32 :: B by
          rw [extract_list, ← hq3, List.take_length, hAB]
          show List.drop A.length (A ++ 32 :: B) = _
          rw [List.drop_left])
        have HA := Lib.hid (show q.extract 0 A.length = ⟨A.toArray⟩ by rw [extract_list, hAB]; simp)
        have hxs : (q.extract A.length q.size).size ≤ 1048576 := by rw [ByteArray.size_extract]; omega
        have HAZ := Lib.hid (show A.length ≤ 1048576 by omega)
        generalize hk : A.length = k at *
        clear hk hsp hAB hA e1
        obtain ⟨X, hX⟩ : ∃ X, X = q.extract k q.size := ⟨_, rfl⟩
        rw [← hX] at HX hxs
        have hX' := hX.symm
        clear hX
        go_wp2_with fail
        refine (codeNumbers_any X 3 3 m _ HM.out hxs (.inl rfl) rfl (.inr ⟨B, HX.out⟩)).mono ?_
        rw [HX.out]
        rintro e w2 ⟨⟨hno, rfl⟩ | ⟨zs, A3, c3, hyes, hzl, hri, rfl, hrd⟩, hb2⟩
        · have HE := Lib.hid hno
          have HB2 := Lib.hid (hb2.mono HB.out)
          clear hno hb2
          go_wp2_with fail
          go_returns
          exact TkP.no (by rw [HL.out, HE.out]) HB2.out
        · obtain ⟨z1, z2, z3, rfl⟩ : ∃ z1 z2 z3, zs = [z1, z2, z3] := by
            have := hzl
            match zs, this with
            | [a, b, c], _ => exact ⟨a, b, c, rfl⟩
          have HE := Lib.hid hyes
          have HRI := Lib.hid hri
          have HB2 := Lib.hid (hb2.mono HB.out)
          have hb2l := Nat.le_trans HB.out hb2.size
          have HC2 := Lib.hid (HC.out.below hb2)
          obtain ⟨lb, lo, hAl, hlb, hlc⟩ := hrd.2 (by simp)
          subst hAl
          have n0 : w2.cell? ⟨lb, lo, none⟩ = some (.int .i64 z1) := hlc 0 _ rfl
          have n1 : w2.cell? ⟨lb, lo + 1, none⟩ = some (.int .i64 z2) := hlc 1 _ rfl
          have n2 : w2.cell? ⟨lb, lo + 2, none⟩ = some (.int .i64 z3) := hlc 2 _ rfl
          have c0 := HC2.out.c0
          clear hyes hri hb2 hrd hlc hzl
          obtain ⟨nm, hnm⟩ : ∃ nm, nm = q.extract 0 k := ⟨_, rfl⟩
          have hnz : nm.size ≤ 1048576 := by rw [hnm, ByteArray.size_extract]; have := HAZ.out; omega
          rw [← hnm] at HA
          have hnm' := hnm.symm
          have HCD := Lib.hid (HC2.out.below (Below.refl _ w2).drew)
          have HRO := Lib.hid (show w2.drew.ownsRow base 44 5 (.slice FA nf fc) nf (fzL K.funcs ds) by have := HCD.out.row; rwa [← HNF.out] at this)
          clear hnm
          go_wp2_with fail
          have hpt := pkd_t
          refine wp_region_any (by kernel_rfl) ?_
          refine wpAny_inv2 (Tk13II g s q1 q k lb lo c3 X w2 nm z1 z2 z3 base FA nf fc K ds) ?done ?step _ _ _ _ (by simp) (by simp [left]) ?init (shut_start _ _ _)
          case init => exact ⟨false, false, false, false, false, false, false, false, false, false, false, false, false, false, false, false, false, false, false, false, false, false, false, none, 0, rfl, rfl, ApI.zero⟩
          case done =>
            rintro L a w' ⟨b0, b1, b2, b3, b4, b5, b6, b7, b8, b9, b10, b11, b12, b13, b14, b15, b16, b17, b18, b19, b20, b21, b22, A5, c5, rfl, rfl, hI⟩ hsh hs hr
            have hno : ∀ i, i ∉ Region.ready Region.Mode.any _ _ := fun i hi => by rw [hr] at hi; cases hi
            have hall : b0 = true ∧ b1 = true ∧ b2 = true ∧ b3 = true ∧ b4 = true ∧ b5 = true ∧ b6 = true ∧ b7 = true ∧ b8 = true ∧ b9 = true ∧ b10 = true ∧ b11 = true ∧ b12 = true ∧ b13 = true ∧ b14 = true ∧ b15 = true ∧ b16 = true ∧ b17 = true ∧ b18 = true ∧ b19 = true ∧ b20 = true ∧ b21 = true ∧ b22 = true := by
              have q0 := hno 0
              have q1 := hno 1
              have q2 := hno 2
              have q3 := hno 3
              have q4 := hno 4
              have q5 := hno 5
              have q6 := hno 6
              have q7 := hno 7
              have q8 := hno 8
              have q9 := hno 9
              have q10 := hno 10
              have q11 := hno 11
              have q12 := hno 12
              have q13 := hno 13
              have q14 := hno 14
              have q15 := hno 15
              have q16 := hno 16
              have q17 := hno 17
              have q18 := hno 18
              have q19 := hno 19
              have q20 := hno 20
              have q21 := hno 21
              have q22 := hno 22
              clear hno hr hs hsh hI
              simp [Region.ready, List.mem_filter, Region.binds] at q0 q1 q2 q3 q4 q5 q6 q7 q8 q9 q10 q11 q12 q13 q14 q15 q16 q17 q18 q19 q20 q21 q22
              simp_all
            obtain ⟨rfl, rfl, rfl, rfl, rfl, rfl, rfl, rfl, rfl, rfl, rfl, rfl, rfl, rfl, rfl, rfl, rfl, rfl, rfl, rfl, rfl, rfl, rfl⟩ := hall
            clear hr hs hsh hno
            simp only [pkd_t]
            obtain ⟨w9, hG, rfl⟩ := hI.done
            have HGG := Lib.hid hG
            clear hI hG
            go_wp2_with fail
            go_returns
            exact TkP.yes (by rw [HL.out, HE.out, HA.out]) ⟨_, _, _, HCD.out.func HNF.out HGG.out.1 HGG.out.2.1 (f := ⟨nm, z1, z2, z3, []⟩) ⟨HRI.out z1 (by simp), HRI.out z2 (by simp), HRI.out z3 (by simp), hnz, fun _ h => by simp at h⟩ rfl⟩ (HB2.out.trans ((Below.drew (Below.refl base w2)).trans ((bel_grown (w := w2.drew) hb2l HRO.out HGG.out.2.1).setCell hbg _)))
          case step =>
            rintro L a w' i ⟨b0, b1, b2, b3, b4, b5, b6, b7, b8, b9, b10, b11, b12, b13, b14, b15, b16, b17, b18, b19, b20, b21, b22, A5, c5, rfl, rfl, hI⟩ hsh hs hi
            have hi16 := (ready_mem hi).1
            simp only [List.size_toArray, List.length_cons, List.length_nil] at hi16
            obtain rfl | rfl | rfl | rfl | rfl | rfl | rfl | rfl | rfl | rfl | rfl | rfl | rfl | rfl | rfl | rfl | rfl | rfl | rfl | rfl | rfl | rfl | rfl : i = 0 ∨ i = 1 ∨ i = 2 ∨ i = 3 ∨ i = 4 ∨ i = 5 ∨ i = 6 ∨ i = 7 ∨ i = 8 ∨ i = 9 ∨ i = 10 ∨ i = 11 ∨ i = 12 ∨ i = 13 ∨ i = 14 ∨ i = 15 ∨ i = 16 ∨ i = 17 ∨ i = 18 ∨ i = 19 ∨ i = 20 ∨ i = 21 ∨ i = 22 := by omega
            · simp [Region.ready, List.mem_filter, Region.binds] at hi
              have hall : b0 = false := by simp [hi]
              clear hi
              subst hall
              clear hs hi16 hsh
              refine wpOp_run rfl rfl ?_
              go_simp
              exact ⟨true, b1, b2, b3, b4, b5, b6, b7, b8, b9, b10, b11, b12, b13, b14, b15, b16, b17, b18, b19, b20, b21, b22, A5, c5, rfl, rfl, hI⟩
            · simp [Region.ready, List.mem_filter, Region.binds] at hi
              have hall : b1 = false := by simp [hi]
              clear hi
              subst hall
              clear hs hi16 hsh
              refine wpOp_run rfl rfl ?_
              go_simp
              exact ⟨b0, true, b2, b3, b4, b5, b6, b7, b8, b9, b10, b11, b12, b13, b14, b15, b16, b17, b18, b19, b20, b21, b22, A5, c5, rfl, rfl, hI⟩
            · simp [Region.ready, List.mem_filter, Region.binds] at hi
              have hall : b2 = false ∧ b1 = true := by simp [hi]
              clear hi
              obtain ⟨rfl, rfl⟩ := hall
              clear hs hi16 hsh
              refine wpOp_run rfl rfl ?_
              go_simp
              exact ⟨b0, true, true, b3, b4, b5, b6, b7, b8, b9, b10, b11, b12, b13, b14, b15, b16, b17, b18, b19, b20, b21, b22, A5, c5, rfl, rfl, hI⟩
            · simp [Region.ready, List.mem_filter, Region.binds] at hi
              have hall : b3 = false ∧ b2 = true := by simp [hi]
              clear hi
              obtain ⟨rfl, rfl⟩ := hall
              clear hs hi16 hsh
              refine wpOp_run rfl rfl ?_
              go_simp
              exact ⟨b0, b1, true, true, b4, b5, b6, b7, b8, b9, b10, b11, b12, b13, b14, b15, b16, b17, b18, b19, b20, b21, b22, A5, c5, rfl, rfl, hI⟩
            · simp [Region.ready, List.mem_filter, Region.binds] at hi
              have hall : b4 = false ∧ b3 = true := by simp [hi]
              clear hi
              obtain ⟨rfl, rfl⟩ := hall
              have z19 : b19 = false := by
                have q := hsh 19 _ rfl
                simp [Region.binds] at q
                cases b19
                · rfl
                · simp at q
              subst z19
              clear hs hi16 hsh
              have qc := hI.cell rfl (show w2.drew.cell? _ = _ from c0)
              refine wpOp_run rfl rfl ?_
              go_simp
              exact ⟨b0, b1, b2, true, true, b5, b6, b7, b8, b9, b10, b11, b12, b13, b14, b15, b16, b17, b18, false, b20, b21, b22, A5, c5, rfl, rfl, hI⟩
            · simp [Region.ready, List.mem_filter, Region.binds] at hi
              have hall : b5 = false := by simp [hi]
              clear hi
              subst hall
              clear hs hi16 hsh
              refine wpOp_run rfl rfl ?_
              go_simp
              exact ⟨b0, b1, b2, b3, b4, true, b6, b7, b8, b9, b10, b11, b12, b13, b14, b15, b16, b17, b18, b19, b20, b21, b22, A5, c5, rfl, rfl, hI⟩
            · simp [Region.ready, List.mem_filter, Region.binds] at hi
              have hall : b6 = false := by simp [hi]
              clear hi
              subst hall
              clear hs hi16 hsh
              refine wpOp_run rfl rfl ?_
              go_simp
              exact ⟨b0, b1, b2, b3, b4, b5, true, b7, b8, b9, b10, b11, b12, b13, b14, b15, b16, b17, b18, b19, b20, b21, b22, A5, c5, rfl, rfl, hI⟩
            · simp [Region.ready, List.mem_filter, Region.binds] at hi
              have hall : b7 = false ∧ b5 = true ∧ b6 = true := by simp [hi]
              clear hi
              obtain ⟨rfl, rfl, rfl⟩ := hall
              clear hs hi16 hsh
              refine wpOp_run rfl rfl ?_
              go_simp
              exact ⟨b0, b1, b2, b3, b4, true, true, true, b8, b9, b10, b11, b12, b13, b14, b15, b16, b17, b18, b19, b20, b21, b22, A5, c5, rfl, rfl, hI⟩
            · simp [Region.ready, List.mem_filter, Region.binds] at hi
              have hall : b8 = false := by simp [hi]
              clear hi
              subst hall
              clear hs hi16 hsh
              refine wpOp_run rfl rfl ?_
              go_simp
              exact ⟨b0, b1, b2, b3, b4, b5, b6, b7, true, b9, b10, b11, b12, b13, b14, b15, b16, b17, b18, b19, b20, b21, b22, A5, c5, rfl, rfl, hI⟩
            · simp [Region.ready, List.mem_filter, Region.binds] at hi
              have hall : b9 = false ∧ b8 = true := by simp [hi]
              clear hi
              obtain ⟨rfl, rfl⟩ := hall
              clear hs hi16 hsh
              refine wpOp_run rfl rfl ?_
              go_simp
              exact ⟨b0, b1, b2, b3, b4, b5, b6, b7, true, true, b10, b11, b12, b13, b14, b15, b16, b17, b18, b19, b20, b21, b22, A5, c5, rfl, rfl, hI⟩
            · simp [Region.ready, List.mem_filter, Region.binds] at hi
              have hall : b10 = false ∧ b9 = true := by simp [hi]
              clear hi
              obtain ⟨rfl, rfl⟩ := hall
              have z17 : b17 = false := by
                have q := hsh 17 _ rfl
                simp [Region.binds] at q
                cases b17
                · rfl
                · simp at q
              subst z17
              have z18 : b18 = false := by
                have q := hsh 18 _ rfl
                simp [Region.binds] at q
                cases b18
                · rfl
                · simp at q
              subst z18
              have z19 : b19 = false := by
                have q := hsh 19 _ rfl
                simp [Region.binds] at q
                cases b19
                · rfl
                · simp at q
              subst z19
              clear hs hi16 hsh
              have qc := hI.cell rfl (show w2.drew.cell? _ = _ from n0)
              refine wpOp_run rfl rfl ?_
              go_simp
              exact ⟨b0, b1, b2, b3, b4, b5, b6, b7, b8, true, true, b11, b12, b13, b14, b15, b16, false, false, false, b20, b21, b22, A5, c5, rfl, rfl, hI⟩
            · simp [Region.ready, List.mem_filter, Region.binds] at hi
              have hall : b11 = false := by simp [hi]
              clear hi
              subst hall
              clear hs hi16 hsh
              refine wpOp_run rfl rfl ?_
              go_simp
              exact ⟨b0, b1, b2, b3, b4, b5, b6, b7, b8, b9, b10, true, b12, b13, b14, b15, b16, b17, b18, b19, b20, b21, b22, A5, c5, rfl, rfl, hI⟩
            · simp [Region.ready, List.mem_filter, Region.binds] at hi
              have hall : b12 = false ∧ b11 = true := by simp [hi]
              clear hi
              obtain ⟨rfl, rfl⟩ := hall
              clear hs hi16 hsh
              refine wpOp_run rfl rfl ?_
              go_simp
              exact ⟨b0, b1, b2, b3, b4, b5, b6, b7, b8, b9, b10, true, true, b13, b14, b15, b16, b17, b18, b19, b20, b21, b22, A5, c5, rfl, rfl, hI⟩
            · simp [Region.ready, List.mem_filter, Region.binds] at hi
              have hall : b13 = false ∧ b12 = true := by simp [hi]
              clear hi
              obtain ⟨rfl, rfl⟩ := hall
              have z17 : b17 = false := by
                have q := hsh 17 _ rfl
                simp [Region.binds] at q
                cases b17
                · rfl
                · simp at q
              subst z17
              have z18 : b18 = false := by
                have q := hsh 18 _ rfl
                simp [Region.binds] at q
                cases b18
                · rfl
                · simp at q
              subst z18
              have z19 : b19 = false := by
                have q := hsh 19 _ rfl
                simp [Region.binds] at q
                cases b19
                · rfl
                · simp at q
              subst z19
              clear hs hi16 hsh
              have qc := hI.cell rfl (show w2.drew.cell? _ = _ from n1)
              refine wpOp_run rfl rfl ?_
              go_simp
              exact ⟨b0, b1, b2, b3, b4, b5, b6, b7, b8, b9, b10, b11, true, true, b14, b15, b16, false, false, false, b20, b21, b22, A5, c5, rfl, rfl, hI⟩
            · simp [Region.ready, List.mem_filter, Region.binds] at hi
              have hall : b14 = false := by simp [hi]
              clear hi
              subst hall
              clear hs hi16 hsh
              refine wpOp_run rfl rfl ?_
              go_simp
              exact ⟨b0, b1, b2, b3, b4, b5, b6, b7, b8, b9, b10, b11, b12, b13, true, b15, b16, b17, b18, b19, b20, b21, b22, A5, c5, rfl, rfl, hI⟩
            · simp [Region.ready, List.mem_filter, Region.binds] at hi
              have hall : b15 = false ∧ b14 = true := by simp [hi]
              clear hi
              obtain ⟨rfl, rfl⟩ := hall
              clear hs hi16 hsh
              refine wpOp_run rfl rfl ?_
              go_simp
              exact ⟨b0, b1, b2, b3, b4, b5, b6, b7, b8, b9, b10, b11, b12, b13, true, true, b16, b17, b18, b19, b20, b21, b22, A5, c5, rfl, rfl, hI⟩
            · simp [Region.ready, List.mem_filter, Region.binds] at hi
              have hall : b16 = false ∧ b15 = true := by simp [hi]
              clear hi
              obtain ⟨rfl, rfl⟩ := hall
              have z17 : b17 = false := by
                have q := hsh 17 _ rfl
                simp [Region.binds] at q
                cases b17
                · rfl
                · simp at q
              subst z17
              have z18 : b18 = false := by
                have q := hsh 18 _ rfl
                simp [Region.binds] at q
                cases b18
                · rfl
                · simp at q
              subst z18
              have z19 : b19 = false := by
                have q := hsh 19 _ rfl
                simp [Region.binds] at q
                cases b19
                · rfl
                · simp at q
              subst z19
              clear hs hi16 hsh
              have qc := hI.cell rfl (show w2.drew.cell? _ = _ from n2)
              refine wpOp_run rfl rfl ?_
              go_simp
              exact ⟨b0, b1, b2, b3, b4, b5, b6, b7, b8, b9, b10, b11, b12, b13, b14, true, true, false, false, false, b20, b21, b22, A5, c5, rfl, rfl, hI⟩
            · simp [Region.ready, List.mem_filter, Region.binds] at hi
              have hall : b17 = false ∧ b7 = true ∧ b10 = true ∧ b13 = true ∧ b16 = true := by simp [hi]
              clear hi
              obtain ⟨rfl, rfl, rfl, rfl, rfl⟩ := hall
              clear hs hi16 hsh
              refine wpOp_run rfl rfl ?_
              go_simp
              exact ⟨b0, b1, b2, b3, b4, b5, b6, true, b8, b9, true, b11, b12, true, b14, b15, true, true, b18, b19, b20, b21, b22, A5, c5, rfl, rfl, hI⟩
            · simp [Region.ready, List.mem_filter, Region.binds] at hi
              have hall : b18 = false ∧ b17 = true := by simp [hi]
              clear hi
              obtain ⟨rfl, rfl⟩ := hall
              have z19 : b19 = false := by
                have q := hsh 19 _ rfl
                simp [Region.binds] at q
                cases b19
                · rfl
                · simp at q
              subst z19
              have z22 : b22 = false := by
                have q := hsh 22 _ rfl
                simp [Region.binds] at q
                cases b22
                · rfl
                · simp at q
              subst z22
              clear hs hi16 hsh
              obtain rfl := hI.w0 rfl rfl
              refine wpOp_run rfl rfl ?_
              go_simp
              exact ⟨b0, b1, b2, b3, b4, b5, b6, b7, b8, b9, b10, b11, b12, b13, b14, b15, b16, true, true, false, b20, b21, false, A5, c5, rfl, rfl, ApI.one⟩
            · simp [Region.ready, List.mem_filter, Region.binds] at hi
              have hall : b19 = false ∧ b4 = true ∧ b18 = true := by simp [hi]
              clear hi
              obtain ⟨rfl, rfl, rfl⟩ := hall
              have z22 : b22 = false := by
                have q := hsh 22 _ rfl
                simp [Region.binds] at q
                cases b22
                · rfl
                · simp at q
              subst z22
              clear hs hi16 hsh
              obtain rfl := hI.w1 rfl rfl
              refine wpOp_run rfl rfl (wp_append_rd _ (.tmp 77) (.tmp 91) 22 rfl base 44 j0 _ 5 64 Tryz.underlying22 hj jz0 jz1 jz2 rfl (by omega) (.slice FA nf fc) nf (fzL K.funcs ds) rfl (HRO.out.alloc _) (w2.heap.size + 1) (some ⟨w2.heap.size, 0, none⟩) 1 1 [.string nm, .int .i64 z1, .int .i64 z2, .int .i64 z3, .slice none 0 0] rfl (Rd.lit w2.drew #[.string nm, .int .i64 z1, .int .i64 z2, .int .i64 z3, .slice none 0 0] 44 1 5 rfl) (by simp [Value.oneCell']) (by unfold maxLen; omega) (by omega) (by simp; omega) fun A' c' w' h2 h3 h4 => ?_)
              exact ⟨b0, b1, b2, b3, true, b5, b6, b7, b8, b9, b10, b11, b12, b13, b14, b15, b16, b17, true, true, b20, b21, false, A', c', rfl, rfl, ApI.two ⟨h2, h3, h4⟩⟩
            · simp [Region.ready, List.mem_filter, Region.binds] at hi
              have hall : b20 = false ∧ b0 = true := by simp [hi]
              clear hi
              obtain ⟨rfl, rfl⟩ := hall
              clear hs hi16 hsh
              refine wpOp_run rfl rfl ?_
              go_simp
              exact ⟨true, b1, b2, b3, b4, b5, b6, b7, b8, b9, b10, b11, b12, b13, b14, b15, b16, b17, b18, b19, true, b21, b22, A5, c5, rfl, rfl, hI⟩
            · simp [Region.ready, List.mem_filter, Region.binds] at hi
              have hall : b21 = false ∧ b20 = true := by simp [hi]
              clear hi
              obtain ⟨rfl, rfl⟩ := hall
              clear hs hi16 hsh
              refine wpOp_run rfl rfl ?_
              go_simp
              exact ⟨b0, b1, b2, b3, b4, b5, b6, b7, b8, b9, b10, b11, b12, b13, b14, b15, b16, b17, b18, b19, true, true, b22, A5, c5, rfl, rfl, hI⟩
            · simp [Region.ready, List.mem_filter, Region.binds] at hi
              have hall : b22 = false ∧ b19 = true ∧ b21 = true := by simp [hi]
              clear hi
              obtain ⟨rfl, rfl, rfl⟩ := hall
              clear hs hi16 hsh
              have hG := hI.w2 rfl rfl
              have hb9 := HCD.out.grewF hG.2.1
              have q1 : w'.cell? ⟨g, 0, none⟩ = some (.slice FA nf fc) := by rw [Lib.cell_of_heap hb9]; rfl
              have q2 : w'.frozen? ⟨g, 0, none⟩ = false := Lib.frozen_of_heap hb9 0
              refine wpOp_run rfl rfl ?_
              go_simp
              exact ⟨b0, b1, b2, b3, b4, b5, b6, b7, b8, b9, b10, b11, b12, b13, b14, b15, b16, b17, b18, true, b20, true, true, A5, c5, rfl, rfl, ApI.three hG⟩
      · have HL := Lib.hid (show lineC opW true K s.data.toList = none by rw [e1]; exact line_func_no hsp)
        rw [ixb_no hsp]
        clear hsp e1
        go_wp2_with fail
        go_returns
        exact TkP.no HL.out (Below.refl _ _)
    | false =>
      have HP2 := Lib.hid (pfx_not hp)
      clear hp
      generalize cutP s ⟨#[102, 117, 110, 99, 32]⟩ = q2 at *
      go_wp2_with fail
      refine (cutPrefix_any s _ _).mono ?_
      rintro e w1 ⟨rfl, rfl⟩
      have c0 := HC.out.c0
      cases hp : pfxB s ⟨#[32, 32]⟩ with
      | false =>
        have HL := Lib.hid (show lineC opW true K s.data.toList = none from line_else HP1.out HP2.out (pfx_not hp))
        clear hp
        go_wp2_with fail
        go_returns
        exact TkP.no HL.out (Below.refl _ _)
      | true =>
        obtain ⟨e1, e2⟩ := pfx_is hp
        generalize cutP s ⟨#[32, 32]⟩ = q at *
        clear hp
        by_cases h0 : nf = 0
        · have bf : ((nf : Int) == 0) = true := by simp [h0]
          have HL := Lib.hid (show lineC opW true K s.data.toList = none by rw [e1]; exact line_ins_no (.inl (List.length_eq_zero_iff.1 (by have := HNF.out; omega))))
          clear h0 e1
          go_wp2_with fail
          go_returns
          exact TkP.no HL.out (Below.refl _ _)
        · have bf : ((nf : Int) == 0) = false := by simp; omega
          have HFS := Lib.hid (show K.funcs ≠ [] from fun e => h0 (by rw [HNF.out, e]; rfl))
          clear h0
          obtain ⟨A, R, hAR, hA, hR, hcut⟩ := cutSp_any q (by omega)
          have hl0 := line_insR (op := opW) (st := true) HFS.out hA hR
          rw [show [32, 32] ++ (A ++ R) = s.data.toList by rw [e1, hAR]] at hl0
          have HL := Lib.hid hl0
          clear hl0
          have hAl : A.length + R.length = q.size := by
            have h3 : q.data.toList.length = q.size := rfl
            rw [← h3, hAR, List.length_append]
          have HX := Lib.hid (show (q.extract A.length q.size).data.toList = R by
            rw [extract_list]
            show (List.take q.data.toList.length q.data.toList).drop A.length = R
            rw [List.take_length, hAR, List.drop_left])
          have hxs : (q.extract A.length q.size).size ≤ 1048576 := by rw [ByteArray.size_extract]; omega
          have HCT := Lib.hid hcut
          have HRR := Lib.hid hR
          clear hcut hAR hA hR e1
          go_wp2_with fail
          refine (HCT.out _).mono ?_
          rintro e w5 ⟨⟨ra, rb, rfl⟩, nd, rfl⟩
          have HBD := Lib.hid (show Below w1.heap.size w1 (w1.drewN nd) from ⟨rfl, rfl, rfl, Nat.le_refl _, fun _ _ => rfl⟩)
          generalize w1.drewN nd = wz at *
          clear HCT
          go_wp2_with fail
          refine (codeWords_any _).mono ?_
          rintro e w2 ⟨rfl, hb2⟩
          have HB2 := Lib.hid (HBD.out.trans (hb2.mono HBD.out.size))
          have hb2l := Nat.le_trans HB.out HB2.out.size
          have HC2 := Lib.hid (HC.out.below HB2.out)
          have hbb2 : Below base w1 w2 := HB2.out.mono HB.out
          have HBB2 := Lib.hid hbb2
          have hwp : 0 < w1.heap.size := by omega
          have HM2 := Lib.hid (show w2.cell? ⟨0, 0, none⟩ = some (.int .i64 m) from (HB2.out.cell (p := ⟨0, 0, none⟩) (by show 0 < _; omega)).trans HM.out)
          have hAz : (⟨A.toArray⟩ : ByteArray).size = A.length := rfl
          obtain ⟨wd, hwd⟩ : ∃ wd : ByteArray, wd = ⟨A.toArray⟩ := ⟨_, rfl⟩
          rw [← hwd] at hAz ⊢
          have HWD := Lib.hid hwd
          have hws : wd.size ≤ q.size := by omega
          rw [← hAz] at HX hxs
          clear hwd hb2 hbb2 HBD c0
          obtain ⟨X, hX⟩ : ∃ X, X = q.extract wd.size q.size := ⟨_, rfl⟩
          rw [← hX] at HX hxs
          have hX' := hX.symm
          clear hX hAl hAz
          obtain ⟨WA, hWA⟩ : ∃ v, v = Value.agg wordArr := ⟨_, rfl⟩
          have hrw := fun k h1 h2 w => run_word k h1 h2 w
          have hrw0 := fun w => run_word0 w
          rw [← hWA] at hrw hrw0 ⊢
          have HRW := Lib.hid hrw
          have hrwz := hrw0
          clear hWA hrw
          go_wp2_with fail
          go_loopw [118] (fun i wr => ∃ k : Nat, i = .int .i64 (k : Int) ∧ k ≤ 42 ∧ Hid (∀ j, 1 ≤ j → j < k → wordL j ≠ A) ∧ wr = w2) (fun i _ => 42 - (intOf i).toNat)
          case atStart => exact ⟨0, rfl, by omega, Lib.hid (fun j _ h => by omega), rfl⟩
          case round =>
            obtain ⟨k, rfl, hk, HNO, rfl⟩ := hrel
            by_cases hk42 : k < 42
            · by_cases hk0 : k = 0
              · subst hk0
                clear hrw0
                have hrw1 := hrwz wr
                go_wp2_with fail
                go_roundw
                case rel => exact ⟨1, rfl, by omega, Lib.hid (fun j h1 h2 => by omega), trivial⟩
                case measure => simp [intOf]
              · have hkk : (k : Int) < 42 := by omega
                have hkp : (0 : Int) < (k : Int) := by omega
                have hrw1 := HRW.out k (by omega) hk42 wr
                clear hrw0
                by_cases hm : wordL k = A
                · have hbt : ((⟨(wordL k).toArray⟩ : ByteArray).toList == wd.toList) = true := by rw [ba_eq, hm, HWD.out]; simp
                  have HOP := Lib.hid (opW_some (by omega) (by omega) hm)
                  generalize (⟨(wordL k).toArray⟩ : ByteArray) = kw at *
                  clear hm
                  go_wp2_with fail
                  refine (codeNumbers_any X 5 5 m _ HM2.out hxs (.inr rfl) rfl (by rw [HX.out]; exact HRR.out)).mono ?_
                  rw [HX.out]
                  rintro e w3 ⟨⟨hno, rfl⟩ | ⟨zs, A3, c3, hyes, hzl, hri, rfl, hrd⟩, hb3⟩
                  · have HE := Lib.hid hno
                    have HB3 := Lib.hid (HBB2.out.trans (hb3.mono hb2l))
                    clear hno hb3
                    go_wp2_with fail
                    go_returns
                    exact TkP.no (by rw [HL.out, HOP.out, HE.out]) HB3.out
                  · obtain ⟨z1, z2, z3, z4, z5, rfl⟩ : ∃ z1 z2 z3 z4 z5, zs = [z1, z2, z3, z4, z5] := by
                      match zs, hzl with
                      | [a, b, c, d, e], _ => exact ⟨a, b, c, d, e, rfl⟩
                    have HE := Lib.hid hyes
                    have HRI := Lib.hid hri
                    have HB3 := Lib.hid (HBB2.out.trans (hb3.mono hb2l))
                    have hb3l := Nat.le_trans hb2l hb3.size
                    have hcd3 := HC2.out.below hb3
                    obtain ⟨lb, lo, hAl, hlb, hlc⟩ := hrd.2 (by simp)
                    subst hAl
                    have n0 : w3.cell? ⟨lb, lo, none⟩ = some (.int .i64 z1) := hlc 0 _ rfl
                    have n1 : w3.cell? ⟨lb, lo + 1, none⟩ = some (.int .i64 z2) := hlc 1 _ rfl
                    have n2 : w3.cell? ⟨lb, lo + 2, none⟩ = some (.int .i64 z3) := hlc 2 _ rfl
                    have n3 : w3.cell? ⟨lb, lo + 3, none⟩ = some (.int .i64 z4) := hlc 3 _ rfl
                    have n4 : w3.cell? ⟨lb, lo + 4, none⟩ = some (.int .i64 z5) := hlc 4 _ rfl
                    obtain ⟨b, c, F, f, D, d, hfv, hds, hlast⟩ := hcd3.last HFS.out
                    injection hfv with hfa hfn hfc
                    subst hfa hfc
                    obtain ⟨nl, hnl⟩ : ∃ n, n = F.length := ⟨_, rfl⟩
                    rw [← hnl] at hfn
                    subst hfn
                    have hat := hlast.at4
                    rw [← hnl] at hat
                    obtain ⟨d4, f4, hbb, hbl⟩ := hat
                    have how := hlast.own
                    obtain ⟨DA, DC, hdv⟩ := own_form how
                    obtain ⟨ml, hml⟩ : ∃ n, n = f.ins.length := ⟨_, rfl⟩
                    rw [← hml] at how hdv
                    subst hdv
                    have hmll : ml ≤ 1048576 := by
                      have h1 := HCN.out
                      unfold cntK at h1
                      rw [hlast.fs] at h1
                      simp at h1
                      omega
                    have HLA := Lib.hid hlast
                    have HOW := Lib.hid how
                    have HML := Lib.hid hml
                    have HNL := Lib.hid hnl
                    have c0 := hcd3.c0
                    have hwr : IntKind.i64.wrap (nl : Int) = nl := IntWalk.i64_in _ (by omega)
                    clear hyes hri hb3 hrd hlc hzl hcd3 hds hlast how hml hnl
                    go_wp2_with fail
                    go_quiet (fail)
                    go_wp2_with fail
                    have hbd4 : Below w3.heap.size w3 (w3.drewN nq) := ⟨rfl, rfl, rfl, Nat.le_refl _, fun _ _ => rfl⟩
                    generalize w3.drewN nq = w4 at *
                    replace n0 := (hbd4.cell (p := ⟨lb, lo, none⟩) hlb).trans n0
                    replace n1 := (hbd4.cell (p := ⟨lb, lo + 1, none⟩) hlb).trans n1
                    replace n2 := (hbd4.cell (p := ⟨lb, lo + 2, none⟩) hlb).trans n2
                    replace n3 := (hbd4.cell (p := ⟨lb, lo + 3, none⟩) hlb).trans n3
                    replace n4 := (hbd4.cell (p := ⟨lb, lo + 4, none⟩) hlb).trans n4
                    replace d4 := (hbd4.cell (p := ⟨b, nl * 5 + 4, none⟩) hbl).trans d4
                    have HLA4 := Lib.hid (HLA.out.below hbd4.drew)
                    clear HLA
                    have HRO := Lib.hid (show w4.drew.ownsRow base 47 6 (.slice DA ml DC) ml (inL f.ins) by have := HLA4.out.own; rwa [← HML.out] at this)
                    have HBD4 := Lib.hid (hbd4.mono hb3l)
                    have hb4l := Nat.le_trans hb3l hbd4.size
                    clear hbd4 f4 HOW c0
                    have hpt := pkd_t
                    refine wp_region_any (by kernel_rfl) ?_
                    refine wpAny_inv2 (Tk26II g s u4 q1 q2 q wd ra rb k kw lb lo c3 b nl fc WA X u149 u150 u151 u152 u153 u154 u155 u156 u157 u158 u159 u160 u161 u162 u163 u164 u165 u166 u167 u168 u169 u170 u171 u172 u173 u174 u175 u176 w4 z1 z2 z3 z4 z5 base DA ml DC f) ?done ?step _ _ _ _ (by simp) (by simp [left]) ?init (shut_start _ _ _)
                    case init => exact ⟨false, false, false, false, false, false, false, false, false, false, false, false, false, false, false, false, false, false, false, false, false, false, false, false, false, false, false, none, 0, rfl, rfl, ApI.zero⟩
                    case done =>
                      rintro L a w' ⟨b0, b1, b2, b3, b4, b5, b6, b7, b8, b9, b10, b11, b12, b13, b14, b15, b16, b17, b18, b19, b20, b21, b22, b23, b24, b25, b26, A5, c5, rfl, rfl, hI⟩ hsh hs hr
                      have hno : ∀ i, i ∉ Region.ready Region.Mode.any _ _ := fun i hi => by rw [hr] at hi; cases hi
                      have hall : b0 = true ∧ b1 = true ∧ b2 = true ∧ b3 = true ∧ b4 = true ∧ b5 = true ∧ b6 = true ∧ b7 = true ∧ b8 = true ∧ b9 = true ∧ b10 = true ∧ b11 = true ∧ b12 = true ∧ b13 = true ∧ b14 = true ∧ b15 = true ∧ b16 = true ∧ b17 = true ∧ b18 = true ∧ b19 = true ∧ b20 = true ∧ b21 = true ∧ b22 = true ∧ b23 = true ∧ b24 = true ∧ b25 = true ∧ b26 = true := by
                        have q0 := hno 0
                        have q1 := hno 1
                        have q2 := hno 2
                        have q3 := hno 3
                        have q4 := hno 4
                        have q5 := hno 5
                        have q6 := hno 6
                        have q7 := hno 7
                        have q8 := hno 8
                        have q9 := hno 9
                        have q10 := hno 10
                        have q11 := hno 11
                        have q12 := hno 12
                        have q13 := hno 13
                        have q14 := hno 14
                        have q15 := hno 15
                        have q16 := hno 16
                        have q17 := hno 17
                        have q18 := hno 18
                        have q19 := hno 19
                        have q20 := hno 20
                        have q21 := hno 21
                        have q22 := hno 22
                        have q23 := hno 23
                        have q24 := hno 24
                        have q25 := hno 25
                        have q26 := hno 26
                        clear hno hr hs hsh hI
                        simp [Region.ready, List.mem_filter, Region.binds] at q0 q1 q2 q3 q4 q5 q6 q7 q8 q9 q10 q11 q12 q13 q14 q15 q16 q17 q18 q19 q20 q21 q22 q23 q24 q25 q26
                        simp_all
                      obtain ⟨rfl, rfl, rfl, rfl, rfl, rfl, rfl, rfl, rfl, rfl, rfl, rfl, rfl, rfl, rfl, rfl, rfl, rfl, rfl, rfl, rfl, rfl, rfl, rfl, rfl, rfl, rfl⟩ := hall
                      clear hr hs hsh hno
                      simp only [pkd_t]
                      obtain ⟨w9, hG, rfl⟩ := hI.done
                      have HGG := Lib.hid hG
                      have hk6 : I6 (k : Int) := ⟨by omega, by omega⟩
                      have HCI := Lib.hid (HLA4.out.ins HML.out HGG.out.1 HGG.out.2.1 HGG.out.2.2 (x := ⟨(k : Int), z1, z2, z3, z4, z5⟩) ⟨hk6, HRI.out z1 (by simp), HRI.out z2 (by simp), HRI.out z3 (by simp), HRI.out z4 (by simp), HRI.out z5 (by simp)⟩)
                      rw [← HNL.out] at HCI
                      clear hI hG
                      go_wp2_with fail
                      go_returns
                      exact TkP.yes (by rw [HL.out, HOP.out, HE.out]) ⟨_, _, _, HCI.out⟩ (HB3.out.trans (HBD4.out.trans ((Below.drew (Below.refl base w4)).trans ((bel_grown (w := w4.drew) hb4l HRO.out HGG.out.2.1).setCell hbb _))))
                    case step =>
                      rintro L a w' i ⟨b0, b1, b2, b3, b4, b5, b6, b7, b8, b9, b10, b11, b12, b13, b14, b15, b16, b17, b18, b19, b20, b21, b22, b23, b24, b25, b26, A5, c5, rfl, rfl, hI⟩ hsh hs hi
                      have hi16 := (ready_mem hi).1
                      simp only [List.size_toArray, List.length_cons, List.length_nil] at hi16
                      obtain rfl | rfl | rfl | rfl | rfl | rfl | rfl | rfl | rfl | rfl | rfl | rfl | rfl | rfl | rfl | rfl | rfl | rfl | rfl | rfl | rfl | rfl | rfl | rfl | rfl | rfl | rfl : i = 0 ∨ i = 1 ∨ i = 2 ∨ i = 3 ∨ i = 4 ∨ i = 5 ∨ i = 6 ∨ i = 7 ∨ i = 8 ∨ i = 9 ∨ i = 10 ∨ i = 11 ∨ i = 12 ∨ i = 13 ∨ i = 14 ∨ i = 15 ∨ i = 16 ∨ i = 17 ∨ i = 18 ∨ i = 19 ∨ i = 20 ∨ i = 21 ∨ i = 22 ∨ i = 23 ∨ i = 24 ∨ i = 25 ∨ i = 26 := by omega
                      · simp [Region.ready, List.mem_filter, Region.binds] at hi
                        have hall : b0 = false := by simp [hi]
                        clear hi
                        subst hall
                        clear hs hi16 hsh
                        refine wpOp_run rfl rfl ?_
                        go_simp
                        exact ⟨true, b1, b2, b3, b4, b5, b6, b7, b8, b9, b10, b11, b12, b13, b14, b15, b16, b17, b18, b19, b20, b21, b22, b23, b24, b25, b26, A5, c5, rfl, rfl, hI⟩
                      · simp [Region.ready, List.mem_filter, Region.binds] at hi
                        have hall : b1 = false := by simp [hi]
                        clear hi
                        subst hall
                        clear hs hi16 hsh
                        refine wpOp_run rfl rfl ?_
                        go_simp
                        exact ⟨b0, true, b2, b3, b4, b5, b6, b7, b8, b9, b10, b11, b12, b13, b14, b15, b16, b17, b18, b19, b20, b21, b22, b23, b24, b25, b26, A5, c5, rfl, rfl, hI⟩
                      · simp [Region.ready, List.mem_filter, Region.binds] at hi
                        have hall : b2 = false ∧ b1 = true := by simp [hi]
                        clear hi
                        obtain ⟨rfl, rfl⟩ := hall
                        clear hs hi16 hsh
                        refine wpOp_run rfl rfl ?_
                        go_simp
                        exact ⟨b0, true, true, b3, b4, b5, b6, b7, b8, b9, b10, b11, b12, b13, b14, b15, b16, b17, b18, b19, b20, b21, b22, b23, b24, b25, b26, A5, c5, rfl, rfl, hI⟩
                      · simp [Region.ready, List.mem_filter, Region.binds] at hi
                        have hall : b3 = false ∧ b2 = true := by simp [hi]
                        clear hi
                        obtain ⟨rfl, rfl⟩ := hall
                        clear hs hi16 hsh
                        refine wpOp_run rfl rfl ?_
                        go_simp
                        exact ⟨b0, b1, true, true, b4, b5, b6, b7, b8, b9, b10, b11, b12, b13, b14, b15, b16, b17, b18, b19, b20, b21, b22, b23, b24, b25, b26, A5, c5, rfl, rfl, hI⟩
                      · simp [Region.ready, List.mem_filter, Region.binds] at hi
                        have hall : b4 = false ∧ b3 = true := by simp [hi]
                        clear hi
                        obtain ⟨rfl, rfl⟩ := hall
                        have z23 : b23 = false := by
                          have q := hsh 23 _ rfl
                          simp [Region.binds] at q
                          cases b23
                          · rfl
                          · simp at q
                        subst z23
                        clear hs hi16 hsh
                        have qc := hI.cell rfl (show w4.drew.cell? _ = _ from d4)
                        refine wpOp_run rfl rfl ?_
                        go_simp
                        exact ⟨b0, b1, b2, true, true, b5, b6, b7, b8, b9, b10, b11, b12, b13, b14, b15, b16, b17, b18, b19, b20, b21, b22, false, b24, b25, b26, A5, c5, rfl, rfl, hI⟩
                      · simp [Region.ready, List.mem_filter, Region.binds] at hi
                        have hall : b5 = false := by simp [hi]
                        clear hi
                        subst hall
                        clear hs hi16 hsh
                        refine wpOp_run rfl rfl ?_
                        go_simp
                        exact ⟨b0, b1, b2, b3, b4, true, b6, b7, b8, b9, b10, b11, b12, b13, b14, b15, b16, b17, b18, b19, b20, b21, b22, b23, b24, b25, b26, A5, c5, rfl, rfl, hI⟩
                      · simp [Region.ready, List.mem_filter, Region.binds] at hi
                        have hall : b6 = false := by simp [hi]
                        clear hi
                        subst hall
                        clear hs hi16 hsh
                        refine wpOp_run rfl rfl ?_
                        go_simp
                        exact ⟨b0, b1, b2, b3, b4, b5, true, b7, b8, b9, b10, b11, b12, b13, b14, b15, b16, b17, b18, b19, b20, b21, b22, b23, b24, b25, b26, A5, c5, rfl, rfl, hI⟩
                      · simp [Region.ready, List.mem_filter, Region.binds] at hi
                        have hall : b7 = false ∧ b6 = true := by simp [hi]
                        clear hi
                        obtain ⟨rfl, rfl⟩ := hall
                        clear hs hi16 hsh
                        refine wpOp_run rfl rfl ?_
                        go_simp
                        exact ⟨b0, b1, b2, b3, b4, b5, true, true, b8, b9, b10, b11, b12, b13, b14, b15, b16, b17, b18, b19, b20, b21, b22, b23, b24, b25, b26, A5, c5, rfl, rfl, hI⟩
                      · simp [Region.ready, List.mem_filter, Region.binds] at hi
                        have hall : b8 = false ∧ b7 = true := by simp [hi]
                        clear hi
                        obtain ⟨rfl, rfl⟩ := hall
                        have z21 : b21 = false := by
                          have q := hsh 21 _ rfl
                          simp [Region.binds] at q
                          cases b21
                          · rfl
                          · simp at q
                        subst z21
                        have z22 : b22 = false := by
                          have q := hsh 22 _ rfl
                          simp [Region.binds] at q
                          cases b22
                          · rfl
                          · simp at q
                        subst z22
                        have z23 : b23 = false := by
                          have q := hsh 23 _ rfl
                          simp [Region.binds] at q
                          cases b23
                          · rfl
                          · simp at q
                        subst z23
                        clear hs hi16 hsh
                        have qc := hI.cell rfl (show w4.drew.cell? _ = _ from n0)
                        refine wpOp_run rfl rfl ?_
                        go_simp
                        exact ⟨b0, b1, b2, b3, b4, b5, b6, true, true, b9, b10, b11, b12, b13, b14, b15, b16, b17, b18, b19, b20, false, false, false, b24, b25, b26, A5, c5, rfl, rfl, hI⟩
                      · simp [Region.ready, List.mem_filter, Region.binds] at hi
                        have hall : b9 = false := by simp [hi]
                        clear hi
                        subst hall
                        clear hs hi16 hsh
                        refine wpOp_run rfl rfl ?_
                        go_simp
                        exact ⟨b0, b1, b2, b3, b4, b5, b6, b7, b8, true, b10, b11, b12, b13, b14, b15, b16, b17, b18, b19, b20, b21, b22, b23, b24, b25, b26, A5, c5, rfl, rfl, hI⟩
                      · simp [Region.ready, List.mem_filter, Region.binds] at hi
                        have hall : b10 = false ∧ b9 = true := by simp [hi]
                        clear hi
                        obtain ⟨rfl, rfl⟩ := hall
                        clear hs hi16 hsh
                        refine wpOp_run rfl rfl ?_
                        go_simp
                        exact ⟨b0, b1, b2, b3, b4, b5, b6, b7, b8, true, true, b11, b12, b13, b14, b15, b16, b17, b18, b19, b20, b21, b22, b23, b24, b25, b26, A5, c5, rfl, rfl, hI⟩
                      · simp [Region.ready, List.mem_filter, Region.binds] at hi
                        have hall : b11 = false ∧ b10 = true := by simp [hi]
                        clear hi
                        obtain ⟨rfl, rfl⟩ := hall
                        have z21 : b21 = false := by
                          have q := hsh 21 _ rfl
                          simp [Region.binds] at q
                          cases b21
                          · rfl
                          · simp at q
                        subst z21
                        have z22 : b22 = false := by
                          have q := hsh 22 _ rfl
                          simp [Region.binds] at q
                          cases b22
                          · rfl
                          · simp at q
                        subst z22
                        have z23 : b23 = false := by
                          have q := hsh 23 _ rfl
                          simp [Region.binds] at q
                          cases b23
                          · rfl
                          · simp at q
                        subst z23
                        clear hs hi16 hsh
                        have qc := hI.cell rfl (show w4.drew.cell? _ = _ from n1)
                        refine wpOp_run rfl rfl ?_
                        go_simp
                        exact ⟨b0, b1, b2, b3, b4, b5, b6, b7, b8, b9, true, true, b12, b13, b14, b15, b16, b17, b18, b19, b20, false, false, false, b24, b25, b26, A5, c5, rfl, rfl, hI⟩
                      · simp [Region.ready, List.mem_filter, Region.binds] at hi
                        have hall : b12 = false := by simp [hi]
                        clear hi
                        subst hall
                        clear hs hi16 hsh
                        refine wpOp_run rfl rfl ?_
                        go_simp
                        exact ⟨b0, b1, b2, b3, b4, b5, b6, b7, b8, b9, b10, b11, true, b13, b14, b15, b16, b17, b18, b19, b20, b21, b22, b23, b24, b25, b26, A5, c5, rfl, rfl, hI⟩
                      · simp [Region.ready, List.mem_filter, Region.binds] at hi
                        have hall : b13 = false ∧ b12 = true := by simp [hi]
                        clear hi
                        obtain ⟨rfl, rfl⟩ := hall
                        clear hs hi16 hsh
                        refine wpOp_run rfl rfl ?_
                        go_simp
                        exact ⟨b0, b1, b2, b3, b4, b5, b6, b7, b8, b9, b10, b11, true, true, b14, b15, b16, b17, b18, b19, b20, b21, b22, b23, b24, b25, b26, A5, c5, rfl, rfl, hI⟩
                      · simp [Region.ready, List.mem_filter, Region.binds] at hi
                        have hall : b14 = false ∧ b13 = true := by simp [hi]
                        clear hi
                        obtain ⟨rfl, rfl⟩ := hall
                        have z21 : b21 = false := by
                          have q := hsh 21 _ rfl
                          simp [Region.binds] at q
                          cases b21
                          · rfl
                          · simp at q
                        subst z21
                        have z22 : b22 = false := by
                          have q := hsh 22 _ rfl
                          simp [Region.binds] at q
                          cases b22
                          · rfl
                          · simp at q
                        subst z22
                        have z23 : b23 = false := by
                          have q := hsh 23 _ rfl
                          simp [Region.binds] at q
                          cases b23
                          · rfl
                          · simp at q
                        subst z23
                        clear hs hi16 hsh
                        have qc := hI.cell rfl (show w4.drew.cell? _ = _ from n2)
                        refine wpOp_run rfl rfl ?_
                        go_simp
                        exact ⟨b0, b1, b2, b3, b4, b5, b6, b7, b8, b9, b10, b11, b12, true, true, b15, b16, b17, b18, b19, b20, false, false, false, b24, b25, b26, A5, c5, rfl, rfl, hI⟩
                      · simp [Region.ready, List.mem_filter, Region.binds] at hi
                        have hall : b15 = false := by simp [hi]
                        clear hi
                        subst hall
                        clear hs hi16 hsh
                        refine wpOp_run rfl rfl ?_
                        go_simp
                        exact ⟨b0, b1, b2, b3, b4, b5, b6, b7, b8, b9, b10, b11, b12, b13, b14, true, b16, b17, b18, b19, b20, b21, b22, b23, b24, b25, b26, A5, c5, rfl, rfl, hI⟩
                      · simp [Region.ready, List.mem_filter, Region.binds] at hi
                        have hall : b16 = false ∧ b15 = true := by simp [hi]
                        clear hi
                        obtain ⟨rfl, rfl⟩ := hall
                        clear hs hi16 hsh
                        refine wpOp_run rfl rfl ?_
                        go_simp
                        exact ⟨b0, b1, b2, b3, b4, b5, b6, b7, b8, b9, b10, b11, b12, b13, b14, true, true, b17, b18, b19, b20, b21, b22, b23, b24, b25, b26, A5, c5, rfl, rfl, hI⟩
                      · simp [Region.ready, List.mem_filter, Region.binds] at hi
                        have hall : b17 = false ∧ b16 = true := by simp [hi]
                        clear hi
                        obtain ⟨rfl, rfl⟩ := hall
                        have z21 : b21 = false := by
                          have q := hsh 21 _ rfl
                          simp [Region.binds] at q
                          cases b21
                          · rfl
                          · simp at q
                        subst z21
                        have z22 : b22 = false := by
                          have q := hsh 22 _ rfl
                          simp [Region.binds] at q
                          cases b22
                          · rfl
                          · simp at q
                        subst z22
                        have z23 : b23 = false := by
                          have q := hsh 23 _ rfl
                          simp [Region.binds] at q
                          cases b23
                          · rfl
                          · simp at q
                        subst z23
                        clear hs hi16 hsh
                        have qc := hI.cell rfl (show w4.drew.cell? _ = _ from n3)
                        refine wpOp_run rfl rfl ?_
                        go_simp
                        exact ⟨b0, b1, b2, b3, b4, b5, b6, b7, b8, b9, b10, b11, b12, b13, b14, b15, true, true, b18, b19, b20, false, false, false, b24, b25, b26, A5, c5, rfl, rfl, hI⟩
                      · simp [Region.ready, List.mem_filter, Region.binds] at hi
                        have hall : b18 = false := by simp [hi]
                        clear hi
                        subst hall
                        clear hs hi16 hsh
                        refine wpOp_run rfl rfl ?_
                        go_simp
                        exact ⟨b0, b1, b2, b3, b4, b5, b6, b7, b8, b9, b10, b11, b12, b13, b14, b15, b16, b17, true, b19, b20, b21, b22, b23, b24, b25, b26, A5, c5, rfl, rfl, hI⟩
                      · simp [Region.ready, List.mem_filter, Region.binds] at hi
                        have hall : b19 = false ∧ b18 = true := by simp [hi]
                        clear hi
                        obtain ⟨rfl, rfl⟩ := hall
                        clear hs hi16 hsh
                        refine wpOp_run rfl rfl ?_
                        go_simp
                        exact ⟨b0, b1, b2, b3, b4, b5, b6, b7, b8, b9, b10, b11, b12, b13, b14, b15, b16, b17, true, true, b20, b21, b22, b23, b24, b25, b26, A5, c5, rfl, rfl, hI⟩
                      · simp [Region.ready, List.mem_filter, Region.binds] at hi
                        have hall : b20 = false ∧ b19 = true := by simp [hi]
                        clear hi
                        obtain ⟨rfl, rfl⟩ := hall
                        have z21 : b21 = false := by
                          have q := hsh 21 _ rfl
                          simp [Region.binds] at q
                          cases b21
                          · rfl
                          · simp at q
                        subst z21
                        have z22 : b22 = false := by
                          have q := hsh 22 _ rfl
                          simp [Region.binds] at q
                          cases b22
                          · rfl
                          · simp at q
                        subst z22
                        have z23 : b23 = false := by
                          have q := hsh 23 _ rfl
                          simp [Region.binds] at q
                          cases b23
                          · rfl
                          · simp at q
                        subst z23
                        clear hs hi16 hsh
                        have qc := hI.cell rfl (show w4.drew.cell? _ = _ from n4)
                        refine wpOp_run rfl rfl ?_
                        go_simp
                        exact ⟨b0, b1, b2, b3, b4, b5, b6, b7, b8, b9, b10, b11, b12, b13, b14, b15, b16, b17, b18, true, true, false, false, false, b24, b25, b26, A5, c5, rfl, rfl, hI⟩
                      · simp [Region.ready, List.mem_filter, Region.binds] at hi
                        have hall : b21 = false ∧ b5 = true ∧ b8 = true ∧ b11 = true ∧ b14 = true ∧ b17 = true ∧ b20 = true := by simp [hi]
                        clear hi
                        obtain ⟨rfl, rfl, rfl, rfl, rfl, rfl, rfl⟩ := hall
                        clear hs hi16 hsh
                        refine wpOp_run rfl rfl ?_
                        go_simp
                        exact ⟨b0, b1, b2, b3, b4, true, b6, b7, true, b9, b10, true, b12, b13, true, b15, b16, true, b18, b19, true, true, b22, b23, b24, b25, b26, A5, c5, rfl, rfl, hI⟩
                      · simp [Region.ready, List.mem_filter, Region.binds] at hi
                        have hall : b22 = false ∧ b21 = true := by simp [hi]
                        clear hi
                        obtain ⟨rfl, rfl⟩ := hall
                        have z23 : b23 = false := by
                          have q := hsh 23 _ rfl
                          simp [Region.binds] at q
                          cases b23
                          · rfl
                          · simp at q
                        subst z23
                        have z26 : b26 = false := by
                          have q := hsh 26 _ rfl
                          simp [Region.binds] at q
                          cases b26
                          · rfl
                          · simp at q
                        subst z26
                        clear hs hi16 hsh
                        obtain rfl := hI.w0 rfl rfl
                        refine wpOp_run rfl rfl ?_
                        go_simp
                        exact ⟨b0, b1, b2, b3, b4, b5, b6, b7, b8, b9, b10, b11, b12, b13, b14, b15, b16, b17, b18, b19, b20, true, true, false, b24, b25, false, A5, c5, rfl, rfl, ApI.one⟩
                      · simp [Region.ready, List.mem_filter, Region.binds] at hi
                        have hall : b23 = false ∧ b4 = true ∧ b22 = true := by simp [hi]
                        clear hi
                        obtain ⟨rfl, rfl, rfl⟩ := hall
                        have z26 : b26 = false := by
                          have q := hsh 26 _ rfl
                          simp [Region.binds] at q
                          cases b26
                          · rfl
                          · simp at q
                        subst z26
                        clear hs hi16 hsh
                        obtain rfl := hI.w1 rfl rfl
                        refine wpOp_run rfl rfl (wp_append_rd _ (.tmp 153) (.tmp 171) 42 rfl base 47 i0 _ 6 48 Tryz.underlying42 hi hz0 hz1 hz2 rfl (by omega) (.slice DA ml DC) ml (inL f.ins) rfl (HRO.out.alloc _) (w4.heap.size + 1) (some ⟨w4.heap.size, 0, none⟩) 1 1 [.int .i64 (k : Int), .int .i64 z1, .int .i64 z2, .int .i64 z3, .int .i64 z4, .int .i64 z5] rfl (Rd.lit w4.drew #[.int .i64 (k : Int), .int .i64 z1, .int .i64 z2, .int .i64 z3, .int .i64 z4, .int .i64 z5] 47 1 6 rfl) (by simp [Value.oneCell']) (by unfold maxLen; omega) (by omega) (by simp; omega) fun A' c' w' h2 h3 h4 => ?_)
                        exact ⟨b0, b1, b2, b3, true, b5, b6, b7, b8, b9, b10, b11, b12, b13, b14, b15, b16, b17, b18, b19, b20, b21, true, true, b24, b25, false, A', c', rfl, rfl, ApI.two ⟨h2, h3, h4⟩⟩
                      · simp [Region.ready, List.mem_filter, Region.binds] at hi
                        have hall : b24 = false ∧ b0 = true := by simp [hi]
                        clear hi
                        obtain ⟨rfl, rfl⟩ := hall
                        clear hs hi16 hsh
                        refine wpOp_run rfl rfl ?_
                        go_simp
                        exact ⟨true, b1, b2, b3, b4, b5, b6, b7, b8, b9, b10, b11, b12, b13, b14, b15, b16, b17, b18, b19, b20, b21, b22, b23, true, b25, b26, A5, c5, rfl, rfl, hI⟩
                      · simp [Region.ready, List.mem_filter, Region.binds] at hi
                        have hall : b25 = false ∧ b24 = true := by simp [hi]
                        clear hi
                        obtain ⟨rfl, rfl⟩ := hall
                        clear hs hi16 hsh
                        refine wpOp_run rfl rfl ?_
                        go_simp
                        exact ⟨b0, b1, b2, b3, b4, b5, b6, b7, b8, b9, b10, b11, b12, b13, b14, b15, b16, b17, b18, b19, b20, b21, b22, b23, true, true, b26, A5, c5, rfl, rfl, hI⟩
                      · simp [Region.ready, List.mem_filter, Region.binds] at hi
                        have hall : b26 = false ∧ b23 = true ∧ b25 = true := by simp [hi]
                        clear hi
                        obtain ⟨rfl, rfl, rfl⟩ := hall
                        clear hs hi16 hsh
                        have hG := hI.w2 rfl rfl
                        obtain ⟨q1, q2⟩ := HLA4.out.grew hG.2.1
                        rw [← HNL.out] at q1 q2
                        refine wpOp_run rfl rfl ?_
                        go_simp
                        exact ⟨b0, b1, b2, b3, b4, b5, b6, b7, b8, b9, b10, b11, b12, b13, b14, b15, b16, b17, b18, b19, b20, b21, b22, true, b24, true, true, A5, c5, rfl, rfl, ApI.three hG⟩
                · have hbt : ((⟨(wordL k).toArray⟩ : ByteArray).toList == wd.toList) = false := by
                    rw [ba_eq, HWD.out]
                    exact decide_eq_false fun e => hm (by simpa using e)
                  have HNN := Lib.hid (show ∀ j, 1 ≤ j → j < k + 1 → wordL j ≠ A from fun j h1 h2 => by
                    by_cases hj : j = k
                    · rw [hj]; exact hm
                    · exact HNO.out j h1 (by omega))
                  generalize (⟨(wordL k).toArray⟩ : ByteArray) = kw at *
                  clear hm
                  go_wp2_with fail
                  go_roundw
                  case rel => exact ⟨k + 1, by go_num, by omega, HNN, trivial⟩
                  case measure => simp [intOf]; omega
            · obtain rfl : k = 42 := by omega
              have HE := Lib.hid (opW_none fun j h1 h2 => HNO.out j h1 (by omega))
              clear hrw0
              go_wp2_with fail
              go_returns
              exact TkP.no (by rw [HL.out, HE.out]) HBB2.out
end Go.Proofs.YtjegfimagjmpdaaGreatDoor
