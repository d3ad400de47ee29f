/- What 'Sound' says of a code, in plain Lean; how a code reads in memory; 'code.head'. Printed by gen_cdv.py. Conditions: none. -/
import Derived.Test.YtjegfimagjmpdaaGreatDoorCdD
import Derived.Test.YtjegfimagjmpdaaGreatDoorCdN
import Derived.Test.YtjegfimagjmpdaaGreatDoorCdQ
import Derived.Test.YtjegfimagjmpdaaGreatDoorTx
set_option maxRecDepth 100000
namespace Go.Proofs.YtjegfimagjmpdaaGreatDoor
open Go.ChangeShapes Go.WideShapes Go.ChangeAt Go.RowKit
/-- The first thing among n that is wrong. -/
def firstBad {α : Type} (n : Nat) (f : Nat → Option α) : Option α := (List.range n).findSome? f
theorem firstBad_at {α : Type} {n : Nat} {f : Nat → Option α} {i : Nat} {v : α} (hi : i < n) (hb : ∀ j < i, f j = none) (h : f i = some v) : firstBad n f = some v := by
  unfold firstBad
  have e : n = i + (1 + (n - i - 1)) := by omega
  rw [e, List.range_add, List.findSome?_append]
  have h1 : (List.range i).findSome? f = none := by
    rw [List.findSome?_eq_none_iff]
    exact fun x hx => hb x (List.mem_range.1 hx)
  rw [h1, List.range_add]
  simp [h]
theorem firstBad_none {α : Type} {n : Nat} {f : Nat → Option α} (h : ∀ j < n, f j = none) : firstBad n f = none := by
  unfold firstBad
  rw [List.findSome?_eq_none_iff]
  exact fun x hx => h x (List.mem_range.1 hx)
def quoE (s : ByteArray) : Int := if 200 < s.size then 1 else if quoL s.data.toList = none then 4 else 0
def quoT (s : ByteArray) : ByteArray := if 200 < s.size then ⟨#[]⟩ else match quoL s.data.toList with | none => ⟨#[]⟩ | some q => ⟨(34 :: q ++ [34]).toArray⟩
theorem quoV_eq (s : ByteArray) : quoV s = .tuple #[.string (quoT s), .int .i64 (quoE s)] := by
  unfold quoV quoT quoE
  by_cases h : 200 < s.size
  · rw [if_pos h, if_pos h, if_pos h]
  · rw [if_neg h, if_neg h, if_neg h]
    cases quoL s.data.toList <;> rfl
def headN (k : Nat) (nm : List UInt8) (pa sl ca : Int) (ni : Nat) : Int :=
  if nmB nm = false then 7
  else if withinB pa 0 4 = false ∨ withinB sl pa 3000 = false ∨ withinB ca 0 200 = false then 14
  else if k = 0 ∧ (0 < pa ∨ 0 < ca) then 12
  else if ni = 0 then 16
  else if 20000 < ni then 15
  else 0
def headV (k : Nat) (f : FF) : Int := headN k f.name.data.toList f.params f.slots f.caps f.ins.length
def cxOf (K : KK) (f : FF) : CX := ⟨K.funcs.length, K.texts.length, f.ins.length, f.slots, f.caps, fun n => ((K.funcs[n]?).map FF.caps).getD 0⟩
def insE (K : KK) (f : FF) (i : II) : Int := insV (cxOf K f) i.o i.a i.b i.c i.d i.e
def insBad (K : KK) (k : Nat) (f : FF) (i : Nat) : Option (Int × Int × Int) := match f.ins[i]? with | some x => if insE K f x = 0 then none else some (insE K f x, (k : Int), (i : Int)) | none => none
def lastOk (f : FF) : Bool := match f.ins[f.ins.length - 1]? with | some x => decide (x.o = 26) || decide (x.o = 29) || decide (x.o = 30) | none => false
def fnBad (K : KK) (k : Nat) (f : FF) : Option (Int × Int × Int) :=
  if headV k f = 0 then (match firstBad f.ins.length (insBad K k f) with
  | some r => some r
  | none => if lastOk f = true then none else some (11, (k : Int), ((f.ins.length : Int) - 1)))
  else some (headV k f, (k : Int), -1)
def fnsBad (K : KK) (k : Nat) : Option (Int × Int × Int) := match K.funcs[k]? with | some f => fnBad K k f | none => none
def textBad (K : KK) (i : Nat) : Option (Int × Int × Int) := match K.texts[i]? with | some s => if quoE s = 0 then none else some (4, -1, (i : Int)) | none => none
def soundV (K : KK) : Int × Int × Int :=
  if K.funcs.length = 0 then (16, -1, -1)
  else if 400 < K.funcs.length ∨ 2000 < K.texts.length then (15, -1, -1)
  else match firstBad K.texts.length (textBad K) with
  | some r => r
  | none => match firstBad K.funcs.length (fnsBad K) with
    | some r => r
    | none => (0, 0, 0)
def fixV (r : Int × Int × Int) : Value := .agg #[.int .i64 r.1, .int .i64 r.2.1, .int .i64 r.2.2]
/-! ### How a code reads -/
/-- A function of a code, as it stands in memory. -/
structure FR (w : World) (B : Nat) (FA : Option Addr) (k : Nat) (f : FF) : Prop where
  ex : ∃ b off A c, FA = some ⟨b, off, none⟩ ∧ b < B ∧ w.cell? ⟨b, off + k * 5, none⟩ = some (.string f.name) ∧ w.cell? ⟨b, off + k * 5 + 1, none⟩ = some (.int .i64 f.params) ∧ w.cell? ⟨b, off + k * 5 + 2, none⟩ = some (.int .i64 f.slots) ∧ w.cell? ⟨b, off + k * 5 + 3, none⟩ = some (.int .i64 f.caps) ∧ w.cell? ⟨b, off + k * 5 + 4, none⟩ = some (.slice A f.ins.length c) ∧ f.ins.length ≤ c ∧ c ≤ maxLen ∧
    ∃ ess, RdM w (· < B) II.sh.size A f.ins.length ess.flatten ∧ II.sh.all w (· < B) ess f.ins
  bd : (-9223372036854775808 ≤ f.params ∧ f.params ≤ 9223372036854775807) ∧ (-9223372036854775808 ≤ f.slots ∧ f.slots ≤ 9223372036854775807) ∧ (-9223372036854775808 ≤ f.caps ∧ f.caps ≤ 9223372036854775807)
/-- An instruction, as it stands in memory. -/
theorem ins_at {w : World} {B n : Nat} {A : Option Addr} {ess : List (List Value)} {l : List II} (hr : RdM w (· < B) II.sh.size A n ess.flatten) (ha : II.sh.all w (· < B) ess l) (hn : n = l.length) {i : Nat} {x : II} (hx : l[i]? = some x) :
    ∃ b off, A = some ⟨b, off, none⟩ ∧ b < B ∧ w.cell? ⟨b, off + i * 6, none⟩ = some (.int .i64 x.o) ∧ w.cell? ⟨b, off + i * 6 + 1, none⟩ = some (.int .i64 x.a) ∧ w.cell? ⟨b, off + i * 6 + 2, none⟩ = some (.int .i64 x.b) ∧ w.cell? ⟨b, off + i * 6 + 3, none⟩ = some (.int .i64 x.c) ∧ w.cell? ⟨b, off + i * 6 + 4, none⟩ = some (.int .i64 x.d) ∧ w.cell? ⟨b, off + i * 6 + 5, none⟩ = some (.int .i64 x.e) := by
  obtain ⟨hi, _⟩ := List.getElem?_eq_some_iff.1 hx
  obtain ⟨b, off, cs, y, rfl, hb, hy, hrd, hc⟩ := Shp.elem hr ha (i := i) (by omega) hn
  rw [hx] at hy
  injection hy with hy
  subst hy
  obtain ⟨rfl, _⟩ := II.elim hrd
  exact ⟨b, off, rfl, hb, hc 0 _ rfl, hc 1 _ rfl, hc 2 _ rfl, hc 3 _ rfl, hc 4 _ rfl, hc 5 _ rfl⟩
theorem KK.fn {w : World} {B n : Nat} {A : Option Addr} {ess : List (List Value)} {l : List FF} (hr : RdM w (· < B) FF.sh.size A n ess.flatten) (ha : FF.sh.all w (· < B) ess l) (hn : n = l.length) {k : Nat} {f : FF} (hf : l[k]? = some f) : FR w B A k f := by
  obtain ⟨hi, _⟩ := List.getElem?_eq_some_iff.1 hf
  obtain ⟨b, off, cs, y, rfl, hb, hy, hrd, hc⟩ := Shp.elem hr ha (i := k) (by omega) hn
  rw [hf] at hy
  injection hy with hy
  subst hy
  obtain ⟨A4, c4, rfl, q1, q2, q3, ⟨es, r4, r5⟩, r1, r2, r3⟩ := FF.elim hrd
  exact ⟨⟨b, off, A4, c4, rfl, hb, hc 0 _ rfl, hc 1 _ rfl, hc 2 _ rfl, hc 3 _ rfl, hc 4 _ rfl, r1, r2, es, r4, r5⟩, q1, q2, q3⟩
theorem FR.into {w w' : World} {B : Nat} {FA : Option Addr} {k : Nat} {f : FF} (h : FR w B FA k f) (hb : Below B w w') : FR w' B FA k f := by
  obtain ⟨⟨b, off, A, c, e, hlt, h0, h1, h2, h3, h4, hc, hm, ess, r, a⟩, hbd⟩ := h
  have kc : ∀ p : Addr, p.block < B → w'.cell? p = w.cell? p := fun p hp => hb.cell hp
  exact ⟨⟨b, off, A, c, e, hlt, (kc ⟨b, _, none⟩ hlt).trans h0, (kc ⟨b, _, none⟩ hlt).trans h1, (kc ⟨b, _, none⟩ hlt).trans h2, (kc ⟨b, _, none⟩ hlt).trans h3, (kc ⟨b, _, none⟩ hlt).trans h4, hc, hm, ess, r.keep kc, a.keep kc⟩, hbd⟩
/-- A code in memory. -/
structure KR (w : World) (B : Nat) (FA TA : Option Addr) (K : KK) : Prop where
  fn : ∀ k f, K.funcs[k]? = some f → FR w B FA k f
  tx : Rd w B 1 TA K.texts.length (K.texts.map Value.string)
  big : ∀ s ∈ K.texts, s.size ≤ 140737488351232
  nms : ∀ f ∈ K.funcs, f.name.size ≤ 140737488351232
  fl : K.funcs.length ≤ 140737488351232
  tl : K.texts.length ≤ 140737488351232
  il : ∀ f ∈ K.funcs, f.ins.length ≤ 140737488351232
theorem KR.into {w w' : World} {B : Nat} {FA TA : Option Addr} {K : KK} (h : KR w B FA TA K) (hb : Below B w w') : KR w' B FA TA K :=
  ⟨fun k f hf => (h.fn k f hf).into hb, h.tx.below hb, h.big, h.nms, h.fl, h.tl, h.il⟩
theorem KR.more {w : World} {B B' : Nat} {FA TA : Option Addr} {K : KK} (h : KR w B FA TA K) (hB : B ≤ B') : KR w B' FA TA K :=
  ⟨fun k f hf => by
    obtain ⟨⟨b, off, A, c, e, hlt, h0, h1, h2, h3, h4, hc, hm, ess, r, a⟩, hbd⟩ := h.fn k f hf
    exact ⟨⟨b, off, A, c, e, by omega, h0, h1, h2, h3, h4, hc, hm, ess, r.more fun b hb => by omega, a.more fun b hb => by omega⟩, hbd⟩, h.tx.more hB, h.big, h.nms, h.fl, h.tl, h.il⟩
theorem KR.caps {w : World} {B : Nat} {FA TA : Option Addr} {K : KK} (h : KR w B FA TA K) (hB : B ≤ w.heap.size) : CapsAt w FA K.funcs.length (fun n => ((K.funcs[n]?).map FF.caps).getD 0) := fun h0 => by
  obtain ⟨⟨b, off, A, c, e, hlt, _⟩, _⟩ := h.fn 0 K.funcs[0] (List.getElem?_eq_getElem h0)
  refine ⟨b, off, e, by omega, fun n hn => ?_⟩
  obtain ⟨⟨b', off', A', c', e', _, _, _, _, h3, _⟩, _⟩ := h.fn n K.funcs[n] (List.getElem?_eq_getElem hn)
  rw [e] at e'
  injection e' with e'
  injection e' with e1 e2
  subst e1 e2
  simpa [List.getElem?_eq_getElem hn] using h3
theorem KR.of {w : World} {B : Nat} {cs : List Value} {K : KK} (h : KK.sh.rd w (· < B) cs K) (hf : K.fits) : ∃ FA fc TA tc, cs = [.slice FA K.funcs.length fc, .slice TA K.texts.length tc] ∧ KR w B FA TA K := by
  obtain ⟨FA, fc, TA, tc, rfl, ⟨⟨es, r, a⟩, _⟩, ⟨es1, r1, a1⟩, _⟩ := KK.elim h
  obtain ⟨f1, f2, f3, f4⟩ := hf
  refine ⟨FA, fc, TA, tc, rfl, fun k f hk => KK.fn r a rfl hk, ?_, f4, fun f hm => (f2 f hm).1, by omega, by omega, fun f hm => by have := (f2 f hm).2.1; omega⟩
  have e : es1.flatten = K.texts.map Value.string := by
    clear r1 r a
    obtain ⟨hl, ha⟩ := a1
    revert hl ha
    generalize K.texts = T
    intro hl ha
    induction es1 generalizing T with
    | nil => cases T with
      | nil => rfl
      | cons x y => simp at hl
    | cons c r ih => cases T with
      | nil => simp at hl
      | cons x y =>
        have h0 : c = [.string x] := ha 0 c x rfl rfl
        rw [List.flatten_cons, h0, ih y (by simpa using hl) (fun i c' x' h1 h2 => ha (i + 1) c' x' h1 h2)]
        rfl
  rw [← e]
  exact r1
theorem boxed1 {w w1 : World} {a : Array Value} {ta : TypeId} (hb : Below (w.alloc (.cells a ta)).heap.size (w.alloc (.cells a ta)) w1) : ∀ j u, a[j]? = some u → w1.cell? ⟨w.heap.size, j, none⟩ = some u := by
  intro j u h
  refine (hb.cell (p := ⟨w.heap.size, j, none⟩) (by simp)).trans ?_
  rw [cell_of_row (w.alloc (.cells a ta)) w.heap.size j a ta (0, 0) (heap_alloc_new w _)]
  exact h

theorem head_cases (k : Nat) (nm : List UInt8) (pa sl ca : Int) (ni : Nat) :
    (nmB nm = false ∧ headN k nm pa sl ca ni = 7) ∨
    (nmB nm = true ∧ withinB pa 0 4 = false ∧ headN k nm pa sl ca ni = 14) ∨
    (nmB nm = true ∧ withinB pa 0 4 = true ∧ withinB sl pa 3000 = false ∧ headN k nm pa sl ca ni = 14) ∨
    (nmB nm = true ∧ withinB pa 0 4 = true ∧ withinB sl pa 3000 = true ∧ withinB ca 0 200 = false ∧ headN k nm pa sl ca ni = 14) ∨
    (nmB nm = true ∧ withinB pa 0 4 = true ∧ withinB sl pa 3000 = true ∧ withinB ca 0 200 = true ∧
      ((((k : Int) == 0) = true ∧ 0 < pa ∧ headN k nm pa sl ca ni = 12) ∨
       (((k : Int) == 0) = true ∧ decide (0 < pa) = false ∧ 0 < ca ∧ headN k nm pa sl ca ni = 12) ∨
       (((((k : Int) == 0) = true ∧ decide (0 < pa) = false ∧ decide (0 < ca) = false) ∨ ((k : Int) == 0) = false) ∧
         ((((ni : Int) == 0) = true ∧ headN k nm pa sl ca ni = 16) ∨ (((ni : Int) == 0) = false ∧ (20000 : Int) < (ni : Int) ∧ headN k nm pa sl ca ni = 15) ∨ (((ni : Int) == 0) = false ∧ ¬ (20000 : Int) < (ni : Int) ∧ headN k nm pa sl ca ni = 0))))) := by
  unfold headN
  cases h1 : nmB nm with
  | false => exact .inl ⟨rfl, by simp⟩
  | true =>
    right
    cases h2 : withinB pa 0 4 with
    | false => exact .inl ⟨rfl, rfl, by simp⟩
    | true =>
      right
      cases h3 : withinB sl pa 3000 with
      | false => exact .inl ⟨rfl, rfl, rfl, by simp⟩
      | true =>
        right
        cases h4 : withinB ca 0 200 with
        | false => exact .inl ⟨rfl, rfl, rfl, rfl, by simp⟩
        | true =>
          right
          refine ⟨rfl, rfl, rfl, rfl, ?_⟩
          by_cases hk : k = 0
          · subst hk
            by_cases hp : 0 < pa
            · exact .inl ⟨rfl, hp, by simp [hp]⟩
            · by_cases hc : 0 < ca
              · exact .inr (.inl ⟨rfl, by simp; omega, hc, by simp [hc]⟩)
              · refine .inr (.inr ⟨.inl ⟨rfl, by simp; omega, by simp; omega⟩, ?_⟩)
                by_cases hn : ni = 0
                · exact .inl ⟨by simp [hn], by simp [hp, hc, hn]⟩
                · by_cases hn2 : 20000 < ni
                  · exact .inr (.inl ⟨by simp [hn], by omega, by simp [hp, hc, hn, hn2]⟩)
                  · exact .inr (.inr ⟨by simp [hn], by omega, by simp [hp, hc, hn, hn2]⟩)
          · refine .inr (.inr ⟨.inr (by simp [hk]), ?_⟩)
            by_cases hn : ni = 0
            · exact .inl ⟨by simp [hn], by simp [hk, hn]⟩
            · by_cases hn2 : 20000 < ni
              · exact .inr (.inl ⟨by simp [hn], by omega, by simp [hk, hn, hn2]⟩)
              · exact .inr (.inr ⟨by simp [hn], by omega, by simp [hk, hn, hn2]⟩)
set_option maxHeartbeats 2000000 in
theorem head_any (k : Nat) (nm : ByteArray) (pa sl ca : Int) (IA : Option Addr) (ni ic : Nat) (w : World) :
    Calls Tryz.prog 38 #[.int .i64 (k : Int), .agg #[.string nm, .int .i64 pa, .int .i64 sl, .int .i64 ca, .slice IA ni ic]] w fun e w' => e = .returned (.int .i64 (headN k nm.data.toList pa sl ca ni)) ∧ Below w.heap.size w w' := by
  rcases head_cases k nm.data.toList pa sl ca ni with ⟨h1, he⟩ | ⟨h1, h2, he⟩ | ⟨h1, h2, h3, he⟩ | ⟨h1, h2, h3, h4, he⟩ | ⟨h1, h2, h3, h4, ⟨g1, g2, he⟩ | ⟨g1, g2, g3, he⟩ | ⟨⟨g1, g2, g3⟩ | g1, ⟨g4, he⟩ | ⟨g4, g5, he⟩ | ⟨g4, g5, he⟩⟩⟩
  all_goals
    have HE := Lib.hid he
    have H1 := Lib.hid h1
    try have H2 := Lib.hid h2
    try have H3 := Lib.hid h3
    try have H4 := Lib.hid h4
    clear he h1
    try clear h2
    try clear h3
    try clear h4
    go_enter Tryz.func38, Tryz.ntmps38
    go_wp2_with fail
    refine (named_any _ _).mono ?_
    rintro e w1 ⟨rfl, hb⟩
    have kb := boxed1 hb
    have q0 : w1.cell? ⟨w.heap.size, 0, none⟩ = some (.string nm) := kb 0 _ rfl
    have q1 : w1.cell? ⟨w.heap.size, 1, none⟩ = some (.int .i64 pa) := kb 1 _ rfl
    have q2 : w1.cell? ⟨w.heap.size, 2, none⟩ = some (.int .i64 sl) := kb 2 _ rfl
    have q3 : w1.cell? ⟨w.heap.size, 3, none⟩ = some (.int .i64 ca) := kb 3 _ rfl
    have q4 : w1.cell? ⟨w.heap.size, 4, none⟩ = some (.slice IA ni ic) := kb 4 _ rfl
    have HB := Lib.hid (sq (al _) hb)
    clear hb kb
    rw [H1.out]
    go_wp2_with (go_at_call 56; refine (within_any _ _ _ _).mono ?_; rintro e w2 ⟨rfl, rfl⟩; first | rw [H2.out] | rw [H3.out] | rw [H4.out])
    go_ret
    exact ⟨by rw [HE.out]; rfl, HB.out⟩
end Go.Proofs.YtjegfimagjmpdaaGreatDoor
