/- A code out of its bytes: what is read is what was packed, and what was packed is read. Conditions: none. -/
import Derived.Test.YtgcedkioanolcaaUnA
set_option maxRecDepth 20000
namespace Go.Proofs.Ytgcedkioanolcaa
open Go.ChangeShapes Go.WideShapes Go.ChangeAt Go.RowKit
def In6 (n : Int) : Prop := -9223372036854775808 ≤ n ∧ n ≤ 9223372036854775807
/-- A count that may be: no more than bytes are left. -/
def cntP (L : List Int) : Option (Nat × List Int) := (numP L).bind fun x => if x.1 < 0 ∨ (x.2.length : Int) < x.1 then none else some (x.1.toNat, x.2)
/-- A count as the document takes it. -/
def cntR (L : List Int) : Option (Nat × List Int) := (numP L).map fun x => (x.1.toNat, x.2)
def textP (L : List Int) : Option (ByteArray × List Int) := (cntP L).map fun x => (strOfNums (x.2.take x.1), x.2.drop x.1)
def listP {α : Type} (p : List Int → Option (α × List Int)) : Nat → List Int → Option (List α × List Int)
  | 0, L => some ([], L)
  | n + 1, L => (p L).bind fun x => (listP p n x.2).map fun y => (x.1 :: y.1, y.2)
def insP (L : List Int) : Option (II × List Int) :=
  (numP L).bind fun o => (numP o.2).bind fun a => (numP a.2).bind fun b => (numP b.2).bind fun c => (numP c.2).bind fun d => (numP d.2).map fun e => (⟨o.1, a.1, b.1, c.1, d.1, e.1⟩, e.2)
def fnP (ct : List Int → Option (Nat × List Int)) (L : List Int) : Option (FF × List Int) :=
  (textP L).bind fun n => (numP n.2).bind fun p => (numP p.2).bind fun s => (numP s.2).bind fun c => (ct c.2).bind fun k => (listP insP k.1 k.2).map fun i => (⟨n.1, p.1, s.1, c.1, i.1⟩, i.2)
def codeP (ct : List Int → Option (Nat × List Int)) (L : List Int) : Option (KK × List Int) :=
  (ct L).bind fun k => (listP textP k.1 k.2).bind fun t => (ct t.2).bind fun m => (listP (fnP ct) m.1 m.2).map fun f => (⟨f.1, t.1⟩, f.2)
/-! ### What is read is what was packed -/
theorem cntP_sound {L R : List Int} {n : Nat} (hz : U8s L) (h : cntP L = some (n, R)) : L = numL [(n : Int)] ++ R ∧ In6 (n : Int) ∧ n ≤ R.length ∧ U8s R := by
  unfold cntP at h
  rw [Option.bind_eq_some_iff] at h
  obtain ⟨⟨m, S⟩, h1, h2⟩ := h
  split at h2
  · cases h2
  · rename_i hc
    injection h2 with h2
    injection h2 with h3 h4
    simp only at hc h3 h4
    subst h4
    obtain ⟨e, hb, hr⟩ := numP_sound hz h1
    have hm : (n : Int) = m := by omega
    rw [hm]
    exact ⟨by rw [numL_one]; exact e, hb, by omega, hr⟩
theorem str_nums {L : List Int} (hz : U8s L) : strL (strOfNums L) = L := by
  unfold strL
  rw [strOfNums_data, List.map_map]
  conv => rhs; rw [← List.map_id L]
  apply List.map_congr_left
  intro z h
  have := hz z h
  simp [Lit.wf, IntKind.min, IntKind.max, IntKind.bits, IntKind.signed] at this
  simp
  omega
theorem nums_str (s : ByteArray) : strOfNums (strL s) = s := by
  apply ByteArray.ext
  apply Array.ext'
  rw [strOfNums_data]
  unfold strL
  rw [List.map_map]
  conv => rhs; rw [← List.map_id s.data.toList]
  apply List.map_congr_left
  intro z h
  simp
theorem textP_sound {L R : List Int} {s : ByteArray} (hz : U8s L) (h : textP L = some (s, R)) : L = txL s ++ R ∧ In6 (s.size : Int) ∧ U8s R := by
  unfold textP at h
  rw [Option.map_eq_some_iff] at h
  obtain ⟨⟨n, S⟩, h1, h2⟩ := h
  injection h2 with h2 h3
  simp only at h2 h3
  subst h2 h3
  obtain ⟨e, hb, hl, hr⟩ := cntP_sound hz h1
  have hu : U8s (S.take n) := fun z h => hr z (List.mem_of_mem_take h)
  have hs : (strOfNums (S.take n)).size = n := by rw [strOfNums_size, List.length_take]; omega
  refine ⟨?_, by rw [hs]; exact hb, fun z h => hr z (List.mem_of_mem_drop h)⟩
  unfold txL
  rw [hs, str_nums hu, List.append_assoc, List.take_append_drop]
  exact e
theorem listP_sound {α : Type} {p : List Int → Option (α × List Int)} {enc : α → List Int} {ok : α → Prop} (hp : ∀ L x R, U8s L → p L = some (x, R) → L = enc x ++ R ∧ ok x ∧ U8s R) :
    ∀ (n : Nat) (L : List Int) (xs : List α) (R : List Int), U8s L → listP p n L = some (xs, R) → L = xs.flatMap enc ++ R ∧ xs.length = n ∧ (∀ x ∈ xs, ok x) ∧ U8s R
  | 0, L, xs, R, hz, h => by
    unfold listP at h
    injection h with h
    injection h with h1 h2
    subst h1 h2
    exact ⟨rfl, rfl, fun x hx => by simp at hx, hz⟩
  | n + 1, L, xs, R, hz, h => by
    unfold listP at h
    rw [Option.bind_eq_some_iff] at h
    obtain ⟨⟨x, S⟩, h1, h2⟩ := h
    rw [Option.map_eq_some_iff] at h2
    obtain ⟨⟨ys, T⟩, h3, h4⟩ := h2
    injection h4 with h4 h5
    simp only at h3 h4 h5
    subst h4 h5
    obtain ⟨e1, o1, z1⟩ := hp _ _ _ hz h1
    obtain ⟨e2, l2, o2, z2⟩ := listP_sound hp n S ys T z1 h3
    refine ⟨by rw [e1, e2]; simp, by simp [l2], fun y hy => ?_, z2⟩
    rcases List.mem_cons.1 hy with rfl | hy
    · exact o1
    · exact o2 y hy
def okIn (i : II) : Prop := In6 i.o ∧ In6 i.a ∧ In6 i.b ∧ In6 i.c ∧ In6 i.d ∧ In6 i.e
def okFn (f : FF) : Prop := In6 (f.name.size : Int) ∧ In6 f.params ∧ In6 f.slots ∧ In6 f.caps ∧ In6 (f.ins.length : Int) ∧ ∀ i ∈ f.ins, okIn i
def okKk (K : KK) : Prop := In6 (K.texts.length : Int) ∧ (∀ s ∈ K.texts, In6 (s.size : Int)) ∧ In6 (K.funcs.length : Int) ∧ ∀ f ∈ K.funcs, okFn f
theorem insP_sound (L : List Int) (x : II) (R : List Int) (hz : U8s L) (h : insP L = some (x, R)) : L = insL x ++ R ∧ okIn x ∧ U8s R := by
  unfold insP at h
  simp only [Option.bind_eq_some_iff, Option.map_eq_some_iff] at h
  obtain ⟨⟨o, L1⟩, h1, ⟨a, L2⟩, h2, ⟨b, L3⟩, h3, ⟨c, L4⟩, h4, ⟨d, L5⟩, h5, ⟨e, L6⟩, h6, h7⟩ := h
  injection h7 with h7 h8
  simp only at h1 h2 h3 h4 h5 h6 h7 h8
  subst h7 h8
  obtain ⟨e1, b1, z1⟩ := numP_sound hz h1
  obtain ⟨e2, b2, z2⟩ := numP_sound z1 h2
  obtain ⟨e3, b3, z3⟩ := numP_sound z2 h3
  obtain ⟨e4, b4, z4⟩ := numP_sound z3 h4
  obtain ⟨e5, b5, z5⟩ := numP_sound z4 h5
  obtain ⟨e6, b6, z6⟩ := numP_sound z5 h6
  refine ⟨?_, ⟨b1, b2, b3, b4, b5, b6⟩, z6⟩
  rw [e1, e2, e3, e4, e5, e6]
  simp [insL, numL, List.append_assoc]
theorem fnP_sound (L : List Int) (x : FF) (R : List Int) (hz : U8s L) (h : fnP cntP L = some (x, R)) : L = fnL x ++ R ∧ okFn x ∧ U8s R := by
  unfold fnP at h
  simp only [Option.bind_eq_some_iff, Option.map_eq_some_iff] at h
  obtain ⟨⟨o, L1⟩, h1, ⟨a, L2⟩, h2, ⟨b, L3⟩, h3, ⟨c, L4⟩, h4, ⟨d, L5⟩, h5, ⟨e, L6⟩, h6, h7⟩ := h
  injection h7 with h7 h8
  simp only at h1 h2 h3 h4 h5 h6 h7 h8
  subst h7 h8
  obtain ⟨e1, b1, z1⟩ := textP_sound hz h1
  obtain ⟨e2, b2, z2⟩ := numP_sound z1 h2
  obtain ⟨e3, b3, z3⟩ := numP_sound z2 h3
  obtain ⟨e4, b4, z4⟩ := numP_sound z3 h4
  obtain ⟨e5, b5, _, z5⟩ := cntP_sound z4 h5
  obtain ⟨e6, l6, b6, z6⟩ := listP_sound insP_sound _ _ _ _ z5 h6
  refine ⟨?_, ⟨b1, b2, b3, b4, by rw [l6]; exact b5, b6⟩, z6⟩
  rw [e1, e2, e3, e4, e5, e6, ← l6]
  simp [fnL, numL, List.append_assoc]
def bodyL (K : KK) : List Int := numL [(K.texts.length : Int)] ++ K.texts.flatMap txL ++ numL [(K.funcs.length : Int)] ++ K.funcs.flatMap fnL
theorem pack_body (K : KK) : packB K = [114, 111, 97, 100, 49] ++ bodyL K := by
  unfold packB funcsL midL textsL headL bodyL
  rw [List.take_length, List.take_length]
  simp [List.append_assoc]
theorem codeP_sound {L R : List Int} {K : KK} (hz : U8s L) (h : codeP cntP L = some (K, R)) : L = bodyL K ++ R ∧ okKk K ∧ U8s R := by
  unfold codeP at h
  simp only [Option.bind_eq_some_iff, Option.map_eq_some_iff] at h
  obtain ⟨⟨o, L1⟩, h1, ⟨a, L2⟩, h2, ⟨b, L3⟩, h3, ⟨c, L4⟩, h4, h7⟩ := h
  injection h7 with h7 h8
  simp only at h1 h2 h3 h4 h7 h8
  subst h7 h8
  obtain ⟨e1, b1, _, z1⟩ := cntP_sound hz h1
  obtain ⟨e2, l2, b2, z2⟩ := listP_sound (fun L s R hz h => textP_sound hz h) _ _ _ _ z1 h2
  obtain ⟨e3, b3, _, z3⟩ := cntP_sound z2 h3
  obtain ⟨e4, l4, b4, z4⟩ := listP_sound fnP_sound _ _ _ _ z3 h4
  refine ⟨?_, ⟨by rw [l2]; exact b1, b2, by rw [l4]; exact b3, b4⟩, z4⟩
  rw [e1, e2, e3, e4, ← l2, ← l4]
  simp [bodyL, List.append_assoc]
/-! ### What was packed is read -/
/-- A way to take counts that takes those that are right. -/
def CtOk (ct : List Int → Option (Nat × List Int)) : Prop := ∀ (n : Nat) (R : List Int), In6 (n : Int) → n ≤ R.length → U8s R → ct (numL [(n : Int)] ++ R) = some (n, R)
theorem cntP_ok : CtOk cntP := fun n R hn hl hz => by
  unfold cntP
  rw [numL_one, numP_app _ hn R hz]
  simp
  omega
theorem cntR_ok : CtOk cntR := fun n R hn _ hz => by
  unfold cntR
  rw [numL_one, numP_app _ hn R hz]
  simp
theorem U8s.app {a b : List Int} (ha : U8s a) (hb : U8s b) : U8s (a ++ b) := app_wf ha hb
theorem textP_app (s : ByteArray) (R : List Int) (hs : In6 (s.size : Int)) (hz : U8s R) : textP (txL s ++ R) = some (s, R) := by
  unfold textP txL
  rw [List.append_assoc, cntP_ok s.size (strL s ++ R) hs (by rw [List.length_append, strL_len]; omega) (U8s.app strL_wf hz)]
  simp only [Option.map_some]
  rw [show s.size = (strL s).length from (strL_len s).symm, List.take_left, List.drop_left, nums_str]
theorem listP_app {α : Type} {p : List Int → Option (α × List Int)} {enc : α → List Int} {ok : α → Prop} (he : ∀ x, U8s (enc x)) (hp : ∀ x R, ok x → U8s R → p (enc x ++ R) = some (x, R)) :
    ∀ (xs : List α) (R : List Int), (∀ x ∈ xs, ok x) → U8s R → listP p xs.length (xs.flatMap enc ++ R) = some (xs, R)
  | [], R, _, _ => rfl
  | x :: xs, R, ho, hz => by
    rw [List.length_cons, listP, List.flatMap_cons, List.append_assoc, hp x _ (ho x (by simp)) (U8s.app (flat_wf _ _ he) hz)]
    simp only [Option.bind_some]
    rw [listP_app he hp xs R (fun y hy => ho y (by simp [hy])) hz]
    rfl
theorem insL_wf (i : II) : U8s (insL i) := numL_wf
theorem insP_app (i : II) (R : List Int) (h : okIn i) (hz : U8s R) : insP (insL i ++ R) = some (i, R) := by
  obtain ⟨b1, b2, b3, b4, b5, b6⟩ := h
  have e : insL i ++ R = nbz (zig i.o) ++ (nbz (zig i.a) ++ (nbz (zig i.b) ++ (nbz (zig i.c) ++ (nbz (zig i.d) ++ (nbz (zig i.e) ++ R))))) := by simp [insL, numL, List.append_assoc]
  have z6 : U8s (nbz (zig i.e) ++ R) := U8s.app nb_wf hz
  have z5 : U8s (nbz (zig i.d) ++ (nbz (zig i.e) ++ R)) := U8s.app nb_wf z6
  have z4 := U8s.app (nb_wf (u := zig i.c)) z5
  have z3 := U8s.app (nb_wf (u := zig i.b)) z4
  have z2 := U8s.app (nb_wf (u := zig i.a)) z3
  unfold insP
  rw [e, numP_app _ b1 _ z2]
  simp only [Option.bind_some]
  rw [numP_app _ b2 _ z3]
  simp only [Option.bind_some]
  rw [numP_app _ b3 _ z4]
  simp only [Option.bind_some]
  rw [numP_app _ b4 _ z5]
  simp only [Option.bind_some]
  rw [numP_app _ b5 _ z6]
  simp only [Option.bind_some]
  rw [numP_app _ b6 _ hz]
  rfl
theorem flat_ge {α : Type} (g : α → List Int) (h : ∀ x, 0 < (g x).length) (l : List α) : l.length ≤ (l.flatMap g).length := by
  induction l with
  | nil => simp
  | cons a r ih =>
    have := h a
    rw [List.flatMap_cons, List.length_append, List.length_cons]
    omega
theorem numL_pos (a : Int) (l : List Int) : 0 < (numL (a :: l)).length := by
  rw [numL_cons, List.length_append]
  have := nb_pos (zig a)
  omega
theorem insL_pos (i : II) : 0 < (insL i).length := numL_pos _ _
theorem txL_pos (s : ByteArray) : 0 < (txL s).length := by
  unfold txL
  rw [List.length_append]
  have := numL_pos (s.size : Int) []
  omega
theorem fnL_pos (f : FF) : 0 < (fnL f).length := by
  unfold fnL
  rw [List.length_append, List.length_append]
  have := txL_pos f.name
  omega
theorem fnP_app {ct : List Int → Option (Nat × List Int)} (hc : CtOk ct) (f : FF) (R : List Int) (h : okFn f) (hz : U8s R) : fnP ct (fnL f ++ R) = some (f, R) := by
  obtain ⟨b1, b2, b3, b4, b5, b6⟩ := h
  have e : fnL f ++ R = txL f.name ++ (nbz (zig f.params) ++ (nbz (zig f.slots) ++ (nbz (zig f.caps) ++ (numL [(f.ins.length : Int)] ++ (f.ins.flatMap insL ++ R))))) := by simp [fnL, numL, List.append_assoc]
  have z6 : U8s (f.ins.flatMap insL ++ R) := U8s.app (flat_wf _ _ insL_wf) hz
  have z5 : U8s (numL [(f.ins.length : Int)] ++ (f.ins.flatMap insL ++ R)) := U8s.app numL_wf z6
  have z4 := U8s.app (nb_wf (u := zig f.caps)) z5
  have z3 := U8s.app (nb_wf (u := zig f.slots)) z4
  have z2 := U8s.app (nb_wf (u := zig f.params)) z3
  unfold fnP
  rw [e, textP_app _ _ b1 z2]
  simp only [Option.bind_some]
  rw [numP_app _ b2 _ z3]
  simp only [Option.bind_some]
  rw [numP_app _ b3 _ z4]
  simp only [Option.bind_some]
  rw [numP_app _ b4 _ z5]
  simp only [Option.bind_some]
  rw [hc _ _ b5 (by have := flat_ge insL insL_pos f.ins; rw [List.length_append]; omega) z6]
  simp only [Option.bind_some]
  rw [listP_app insL_wf insP_app f.ins R b6 hz]
  rfl
theorem codeP_app {ct : List Int → Option (Nat × List Int)} (hc : CtOk ct) (K : KK) (h : okKk K) : codeP ct (bodyL K) = some (K, []) := by
  obtain ⟨b1, b2, b3, b4⟩ := h
  have e : bodyL K = numL [(K.texts.length : Int)] ++ (K.texts.flatMap txL ++ (numL [(K.funcs.length : Int)] ++ (K.funcs.flatMap fnL ++ []))) := by simp [bodyL, List.append_assoc]
  have hz : U8s [] := fun z hz => by simp at hz
  have z4 : U8s (K.funcs.flatMap fnL ++ []) := U8s.app (flat_wf _ _ fnL_wf) hz
  have z3 : U8s (numL [(K.funcs.length : Int)] ++ (K.funcs.flatMap fnL ++ [])) := U8s.app numL_wf z4
  have z2 := U8s.app (flat_wf txL K.texts txL_wf) z3
  unfold codeP
  rw [e, hc _ _ b1 (by have := flat_ge txL txL_pos K.texts; rw [List.length_append]; omega) z2]
  simp only [Option.bind_some]
  rw [listP_app txL_wf (fun x R ho hz => textP_app x R ho hz) K.texts _ b2 z3]
  simp only [Option.bind_some]
  rw [hc _ _ b3 (by have := flat_ge fnL fnL_pos K.funcs; rw [List.length_append]; omega) z4]
  simp only [Option.bind_some]
  rw [listP_app fnL_wf (fun x R ho hz => fnP_app hc x R ho hz) K.funcs _ b4 hz]
  rfl
end Go.Proofs.Ytgcedkioanolcaa
