/- A code out of its bytes: what the program answers and what the document answers are the same, in plain Lean. Conditions: none. -/
import Derived.Test.YtgcedkioanolcaaUnH
import Derived.Test.YtgcedkioanolcaaIpC
set_option maxRecDepth 20000
namespace Go.Proofs.Ytgcedkioanolcaa
open Go.ChangeShapes Go.WideShapes Go.ChangeAt Go.RowKit
/-- The number in bytes, the highest first. -/
def accB (f : Nat → Nat) : Nat → Nat
  | 0 => 0
  | k + 1 => accB f k * 256 + f k
theorem accB_lt {f : Nat → Nat} (h : ∀ j, f j < 256) : ∀ k, accB f k < 256 ^ k
  | 0 => by simp [accB]
  | k + 1 => by
    have h1 := accB_lt h k
    have h2 := h k
    rw [accB, Nat.pow_succ]
    omega
def bodyOf (L : List Int) : List Int := (L.take (L.length - 4)).drop 5
/-- What 'image.Unpack' answers: a code, and what is wrong. -/
def unpackV (L : List Int) : KK × Int :=
  if L.length < 9 ∨ strOfNums (L.take 5) ≠ ⟨#[114, 111, 97, 100, 49]⟩ then (⟨[], []⟩, 6)
  else if sumP (L.take (L.length - 4)) ≠ (accB (by_ (L.drop (L.length - 4))) 4 : Int) then (⟨[], []⟩, 18)
  else if (codeS false (bodyOf L)).2.1 = true ∨ 0 < (codeS false (bodyOf L)).2.2.length then (⟨[], []⟩, 6)
  else if (soundV (codeS false (bodyOf L)).1).1 ≠ 0 then (⟨[], []⟩, 6)
  else ((codeS false (bodyOf L)).1, 0)
def packZ (K : KK) : List Int := if (soundV K).1 = 0 then packB K ++ tailL (sumP (packB K)) else []
/-- What the document's 'UnpackCode' answers. -/
def unpackR (L : List Int) : KK × Int :=
  if L.length < 9 ∨ strOfNums (L.take 5) ≠ ⟨#[114, 111, 97, 100, 49]⟩ then (⟨[], []⟩, 6)
  else if sumP (L.take (L.length - 4)) ≠ (accB (by_ (L.drop (L.length - 4))) 4 : Int) then (⟨[], []⟩, 18)
  else if (codeQ false (bodyOf L)).2.1 = true ∨ (soundV (codeQ false (bodyOf L)).1).1 ≠ 0 ∨ packZ (codeQ false (bodyOf L)).1 ≠ L then (⟨[], []⟩, 6)
  else ((codeQ false (bodyOf L)).1, 0)
theorem head_of {L : List Int} (hz : U8s L) (h : strOfNums (L.take 5) = ⟨#[114, 111, 97, 100, 49]⟩) : L.take 5 = [114, 111, 97, 100, 49] := by
  have h1 := str_nums (L := L.take 5) (fun z hz' => hz z (List.mem_of_mem_take hz'))
  rw [h] at h1
  rw [← h1]
  rfl
theorem tail_of {M : List Int} (hz : U8s M) (hl : M.length = 4) : tailL (accB (by_ M) 4 : Int) = M := by
  match M, hl with
  | [a, b, c, d], _ =>
    have q : ∀ z ∈ [a, b, c, d], 0 ≤ z ∧ z ≤ 255 := fun z h => by simpa [Lit.wf, IntKind.min, IntKind.max, IntKind.bits, IntKind.signed] using hz z h
    have qa := q a (by simp)
    have qb := q b (by simp)
    have qc := q c (by simp)
    have qd := q d (by simp)
    have e : ((accB (by_ [a, b, c, d]) 4 : Nat) : Int) = ((a * 256 + b) * 256 + c) * 256 + d := by
      simp [accB, by_]
      omega
    rw [e]
    have e1 : (((a * 256 + b) * 256 + c) * 256 + d) / 16777216 = a := by omega
    have e2 : (((a * 256 + b) * 256 + c) * 256 + d) / 65536 % 256 = b := by omega
    have e3 : (((a * 256 + b) * 256 + c) * 256 + d) / 256 % 256 = c := by omega
    have e4 : (((a * 256 + b) * 256 + c) * 256 + d) % 256 = d := by omega
    unfold tailL
    rw [e1, e2, e3, e4]
theorem split_of {L : List Int} (h : ¬ L.length < 9) : L = L.take 5 ++ bodyOf L ++ L.drop (L.length - 4) := by
  have e : L.take (L.length - 4) = L.take 5 ++ bodyOf L := by
    unfold bodyOf
    conv => lhs; rw [← List.take_append_drop 5 (L.take (L.length - 4))]
    rw [List.take_take, Nat.min_eq_left (by omega)]
  rw [← e, List.take_append_drop]
/-! ### What the document reads can be packed -/
theorem cntR_fine {L R : List Int} {n : Nat} (hz : U8s L) (h : cntR L = some (n, R)) : In6 (n : Int) ∧ U8s R := by
  unfold cntR at h
  rw [Option.map_eq_some_iff] at h
  obtain ⟨⟨m, S⟩, h1, h2⟩ := h
  injection h2 with h3 h4
  simp only at h3 h4
  subst h3 h4
  obtain ⟨_, hb, hr⟩ := numP_sound hz h1
  refine ⟨?_, hr⟩
  unfold In6
  omega
theorem listP_fine {α : Type} {p : List Int → Option (α × List Int)} {ok : α → Prop} (hp : ∀ L x R, U8s L → p L = some (x, R) → ok x ∧ U8s R) :
    ∀ (n : Nat) (L : List Int) (xs : List α) (R : List Int), U8s L → listP p n L = some (xs, R) → xs.length = n ∧ (∀ x ∈ xs, ok x) ∧ U8s R
  | 0, L, xs, R, hz, h => by
    unfold listP at h
    injection h with h
    injection h with h1 h2
    subst h1 h2
    exact ⟨rfl, fun x hx => by simp at hx, hz⟩
  | n + 1, L, xs, R, hz, h => by
    unfold listP at h
    rw [Option.bind_eq_some_iff] at h
    obtain ⟨⟨x, S⟩, h1, h2⟩ := h
    rw [Option.map_eq_some_iff] at h2
    obtain ⟨⟨ys, T⟩, h3, h4⟩ := h2
    injection h4 with h4 h5
    simp only at h3 h4 h5
    subst h4 h5
    obtain ⟨o1, z1⟩ := hp _ _ _ hz h1
    obtain ⟨l2, o2, z2⟩ := listP_fine hp n S ys T z1 h3
    refine ⟨by simp [l2], fun y hy => ?_, z2⟩
    rcases List.mem_cons.1 hy with rfl | hy
    · exact o1
    · exact o2 y hy
theorem fnP_fine (L : List Int) (x : FF) (R : List Int) (hz : U8s L) (h : fnP cntR L = some (x, R)) : okFn x ∧ U8s R := by
  unfold fnP at h
  simp only [Option.bind_eq_some_iff, Option.map_eq_some_iff] at h
  obtain ⟨⟨o, L1⟩, h1, ⟨a, L2⟩, h2, ⟨b, L3⟩, h3, ⟨c, L4⟩, h4, ⟨d, L5⟩, h5, ⟨e, L6⟩, h6, h7⟩ := h
  injection h7 with h7 h8
  simp only at h1 h2 h3 h4 h5 h6 h7 h8
  subst h7 h8
  obtain ⟨_, b1, z1⟩ := textP_sound hz h1
  obtain ⟨_, b2, z2⟩ := numP_sound z1 h2
  obtain ⟨_, b3, z3⟩ := numP_sound z2 h3
  obtain ⟨_, b4, z4⟩ := numP_sound z3 h4
  obtain ⟨b5, z5⟩ := cntR_fine z4 h5
  obtain ⟨l6, b6, z6⟩ := listP_fine (fun L x R hz h => (insP_sound L x R hz h).2) _ _ _ _ z5 h6
  exact ⟨⟨b1, b2, b3, b4, by rw [l6]; exact b5, b6⟩, z6⟩
theorem codeP_fine {L R : List Int} {K : KK} (hz : U8s L) (h : codeP cntR L = some (K, R)) : okKk K := by
  unfold codeP at h
  simp only [Option.bind_eq_some_iff, Option.map_eq_some_iff] at h
  obtain ⟨⟨o, L1⟩, h1, ⟨a, L2⟩, h2, ⟨b, L3⟩, h3, ⟨c, L4⟩, h4, h7⟩ := h
  injection h7 with h7 h8
  simp only at h1 h2 h3 h4 h7 h8
  subst h7 h8
  obtain ⟨b1, z1⟩ := cntR_fine hz h1
  obtain ⟨l2, b2, z2⟩ := listP_fine (fun L s R hz h => (textP_sound hz h).2) _ _ _ _ z1 h2
  obtain ⟨b3, z3⟩ := cntR_fine z2 h3
  obtain ⟨l4, b4, z4⟩ := listP_fine fnP_fine _ _ _ _ z3 h4
  exact ⟨by rw [l2]; exact b1, b2, by rw [l4]; exact b3, b4⟩
theorem tailL_len (s : Int) : (tailL s).length = 4 := rfl
/-- Both answer the same. -/
theorem unpack_same {L : List Int} (hz : U8s L) : unpackR L = unpackV L := by
  unfold unpackR unpackV
  by_cases h1 : L.length < 9 ∨ strOfNums (L.take 5) ≠ ⟨#[114, 111, 97, 100, 49]⟩
  · rw [if_pos h1, if_pos h1]
  · rw [if_neg h1, if_neg h1]
    by_cases h2 : sumP (L.take (L.length - 4)) ≠ (accB (by_ (L.drop (L.length - 4))) 4 : Int)
    · rw [if_pos h2, if_pos h2]
    · rw [if_neg h2, if_neg h2]
      have h9 : ¬ L.length < 9 := fun h => h1 (.inl h)
      have hh : strOfNums (L.take 5) = ⟨#[114, 111, 97, 100, 49]⟩ := Decidable.byContradiction fun h => h1 (.inr h)
      have hs : sumP (L.take (L.length - 4)) = (accB (by_ (L.drop (L.length - 4))) 4 : Int) := Decidable.byContradiction h2
      have hsp := split_of h9
      have hd := head_of hz hh
      have hzb : U8s (bodyOf L) := fun z h => hz z (List.mem_of_mem_take (List.mem_of_mem_drop h))
      have ht := tail_of (M := L.drop (L.length - 4)) (fun z h => hz z (List.mem_of_mem_drop h)) (by rw [List.length_drop]; omega)
      have htk : L.take (L.length - 4) = L.take 5 ++ bodyOf L := by
        have h3 := congrArg (List.take (L.length - 4)) hsp
        rw [h3, List.take_append_of_le_length (by simp [bodyOf]; omega), List.take_of_length_le (by simp [bodyOf]; omega)]
      by_cases hp : ∃ K, codeS false (bodyOf L) = (K, false, []) ∧ (soundV K).1 = 0
      · obtain ⟨K, hc, h0⟩ := hp
        have hcp : codeP cntP (bodyOf L) = some (K, []) := by
          rcases codeS_agrees.2 (bodyOf L) with ⟨x, R, e1, e2⟩ | ⟨_, e2⟩
          · rw [hc] at e2
            injection e2 with e2 e3
            injection e3 with _ e3
            rw [e1, ← e2, ← e3]
          · rw [hc] at e2; cases e2
        obtain ⟨e1, ok, _⟩ := codeP_sound hzb hcp
        rw [List.append_nil] at e1
        have hq : codeQ false (bodyOf L) = (K, false, []) := by
          have h3 := codeP_app cntR_ok K ok
          rw [← e1] at h3
          rcases codeQ_agrees.2 (bodyOf L) with ⟨x, R, e2, e3⟩ | ⟨e2, _⟩
          · rw [h3] at e2
            injection e2 with e2
            injection e2 with e2 e4
            rw [e3, ← e2, ← e4]
          · rw [h3] at e2; cases e2
        have hpz : packZ K = L := by
          have hb : packB K = L.take (L.length - 4) := by rw [pack_body, htk, hd, ← e1]
          rw [packZ, if_pos h0, hb, hs, ht, List.take_append_drop]
        rw [hc, hq, if_neg (by simp [h0, hpz]), if_neg (by simp), if_neg (by simpa using h0)]
      · have hl : (if (codeS false (bodyOf L)).2.1 = true ∨ 0 < (codeS false (bodyOf L)).2.2.length then ((⟨[], []⟩ : KK), (6 : Int)) else if (soundV (codeS false (bodyOf L)).1).1 ≠ 0 then (⟨[], []⟩, 6) else ((codeS false (bodyOf L)).1, 0)) = (⟨[], []⟩, 6) := by
          by_cases h3 : (codeS false (bodyOf L)).2.1 = true ∨ 0 < (codeS false (bodyOf L)).2.2.length
          · rw [if_pos h3]
          · rw [if_neg h3, if_pos]
            intro h4
            refine hp ⟨(codeS false (bodyOf L)).1, ?_, h4⟩
            generalize codeS false (bodyOf L) = q at h3
            obtain ⟨K, b, R⟩ := q
            simp only [not_or, Bool.not_eq_true, Nat.not_lt, Nat.le_zero_eq, List.length_eq_zero_iff] at h3
            rw [h3.1, h3.2]
        rw [hl, if_pos]
        apply Decidable.byContradiction
        intro hn
        simp only [not_or, Bool.not_eq_true, Decidable.not_not] at hn
        obtain ⟨n1, n2, n3⟩ := hn
        rcases codeQ_agrees.2 (bodyOf L) with ⟨K, R, e2, e3⟩ | ⟨_, e3⟩
        · rw [e3] at n2 n3
          simp only at n2 n3
          have ok := codeP_fine hzb e2
          rw [packZ, if_pos n2] at n3
          have hb : bodyOf L = bodyL K := by
            have h3 : L.take (L.length - 4) = packB K := by
              rw [← n3, List.length_append, tailL_len, Nat.add_sub_cancel, List.take_left]
            rw [htk, pack_body, hd] at h3
            exact List.append_cancel_left h3
          have h4 := codeP_app cntP_ok K ok
          rw [← hb] at h4
          rcases codeS_agrees.2 (bodyOf L) with ⟨x, R', e4, e5⟩ | ⟨e4, _⟩
          · rw [h4] at e4
            injection e4 with e4
            injection e4 with e4 e6
            exact hp ⟨K, by rw [e5, ← e4, ← e6], n2⟩
          · rw [h4] at e4; cases e4
        · rw [n1] at e3; cases e3
theorem KR.nil (w : World) (B : Nat) : KR w B none none ⟨[], []⟩ :=
  ⟨fun k f h => by simp at h, ⟨rfl, fun h => by simp at h⟩, fun s h => by simp at h, fun s h => by simp at h, by simp, by simp, fun s h => by simp at h⟩
/-- What comes out. -/
def UnPost (V : KK × Int) (w : World) (e : Ending) (w' : World) : Prop :=
  ∃ FA fc TA tc, e = .returned (.tuple #[.agg #[.slice FA V.1.funcs.length fc, .slice TA V.1.texts.length tc], .int .i64 V.2]) ∧ KR w' w'.heap.size FA TA V.1 ∧ Below w.heap.size w w'
/-- A code does not lie in a block that holds nothing but slices. -/
theorem KR.avoid {w w' : World} {B g : Nat} {FA TA : Option Addr} {K : KK} (h : KR w B FA TA K) (hS : ∀ o v, w.cell? ⟨g, o, none⟩ = some v → ∃ A n c, v = .slice A n c) (hk : ∀ p : Addr, p.block < B → p.block ≠ g → w'.cell? p = w.cell? p) : KR w' B FA TA K := by
  refine ⟨fun k f hf => ?_, ?_, h.big, h.nms, h.fl, h.tl, h.il⟩
  · obtain ⟨⟨b, off, A, c, e, hlt, h0, h1, h2, h3, h4, hc, hm, ess, r, a⟩, hbd⟩ := h.fn k f hf
    have hb : b ≠ g := fun e => by
      subst e
      obtain ⟨_, _, _, e⟩ := hS _ _ h0
      cases e
    refine ⟨⟨b, off, A, c, e, hlt, (hk ⟨b, _, none⟩ hlt hb).trans h0, (hk ⟨b, _, none⟩ hlt hb).trans h1, (hk ⟨b, _, none⟩ hlt hb).trans h2, (hk ⟨b, _, none⟩ hlt hb).trans h3, (hk ⟨b, _, none⟩ hlt hb).trans h4, hc, hm, ess, ⟨r.1, fun hn => ?_⟩, ⟨a.1, fun i c x hc hx => ?_⟩⟩, hbd⟩
    · obtain ⟨b, off, e, hb, hcell⟩ := r.2 hn
      refine ⟨b, off, e, hb, fun j u hu => (hk ⟨b, _, none⟩ hb (fun e => ?_)).trans (hcell j u hu)⟩
      change b = g at e
      subst e
      have hx := List.getElem?_eq_getElem hn
      have hes := List.getElem?_eq_getElem (l := ess) (i := 0) (by rw [a.1]; exact hn)
      have hr0 := (II.elim (a.2 0 _ _ hes hx)).1
      have h1 : ess.flatten[0]? = some (.int .i64 f.ins[0].o) := by
        have := flat_at (k := 6) (ess := ess) (fun c hc => by
          obtain ⟨i, hi, e⟩ := List.mem_iff_getElem.1 hc
          have := II.elim (a.2 i c (f.ins[i]'(by rw [← a.1]; exact hi)) (by rw [List.getElem?_eq_getElem hi, e]) (List.getElem?_eq_getElem _))
          rw [this.1]
          rfl) 0 0 (by omega)
        rw [hes, hr0] at this
        exact this
      obtain ⟨_, _, _, e⟩ := hS _ _ (hcell 0 _ h1)
      cases e
    · have := II.elim (a.2 i c x hc hx)
      obtain ⟨rfl, q0, q1, q2, q3, q4, q5⟩ := this
      exact II.intro q0 q1 q2 q3 q4 q5
  · refine ⟨h.tx.1, fun hn => ?_⟩
    obtain ⟨b, off, e, hb, hcell⟩ := h.tx.2 hn
    refine ⟨b, off, e, hb, fun j u hu => (hk ⟨b, _, none⟩ hb (fun e => ?_)).trans (hcell j u hu)⟩
    change b = g at e
    subst e
    have h1 : (K.texts.map Value.string)[0]? = some (.string K.texts[0]) := by rw [List.getElem?_map, List.getElem?_eq_getElem hn]; rfl
    obtain ⟨_, _, _, e⟩ := hS _ _ (hcell 0 _ h1)
    cases e
theorem two_slices {w : World} {g : Nat} {A A' : Option Addr} {n n' c c' : Nat} {T : TypeId} (h : w.heap[g]? = some (.cells #[.slice A n c, .slice A' n' c'] T (0, 0))) : ∀ o v, w.cell? ⟨g, o, none⟩ = some v → ∃ A n c, v = .slice A n c := by
  intro o v hv
  rw [Lib.cell_of_heap h] at hv
  match o, hv with
  | 0, hv => injection hv with hv; exact ⟨_, _, _, hv.symm⟩
  | 1, hv => injection hv with hv; exact ⟨_, _, _, hv.symm⟩
  | o + 2, hv => simp at hv
theorem str_ne_lit {s : ByteArray} {a : Array UInt8} (h : s ≠ ⟨a⟩) : (s.toList == a.toList) = false := by
  apply Bool.eq_false_iff.2
  intro e
  have e1 := of_decide_eq_true (show decide (s.toList = a.toList) = true by simpa using e)
  rw [ByteArray.toList_eq] at e1
  exact h (ByteArray.ext (Array.ext' e1))
end Go.Proofs.Ytgcedkioanolcaa
