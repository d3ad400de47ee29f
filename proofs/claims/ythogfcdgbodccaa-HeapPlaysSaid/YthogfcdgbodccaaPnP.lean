/- Plain: activations and panics: what goes on, what comes of an event, and what holds of all states that are come to. Conditions: none. -/
import Derived.Test.YthogfcdgbodccaaBase
set_option maxRecDepth 20000
namespace Go.Proofs.Ythogfcdgbodccaa
open Go
structure FR where
  id : Int
  mark : Int
  pan : Int
  ph : Int
  ds : List Int
structure PN where
  ser : Int
  k : Int
  n : Int
  s : ByteArray
  rcv : Bool
  ab : Bool
structure ST where
  fr : List FR
  pn : List PN
  next : Nat
  ser : Nat
  en : Int
  st : Int
structure TL where
  kind : Int
  n : Int
  to : Int
  k : Int
  vn : Int
  s : ByteArray
structure EV where
  kind : Int
  n : Int
  k : Int
  vn : Int
  s : ByteArray
def tl3 (a b c : Int) : TL := ⟨a, b, c, 0, 0, ⟨#[]⟩⟩
def overS (s : ST) (e x : Int) : ST := ⟨s.fr, s.pn, s.next, s.ser, e, x⟩
def pushS (s : ST) (m p : Int) : ST := ⟨s.fr ++ [⟨s.next, m, p, 0, []⟩], s.pn, s.next + 1, s.ser, s.en, s.st⟩
def phF (f : FR) (x : Int) : FR := ⟨f.id, f.mark, f.pan, x, f.ds⟩
def dsF (f : FR) (l : List Int) : FR := ⟨f.id, f.mark, f.pan, f.ph, l⟩
/-- The last activation in a phase. -/
def setPh : List FR → Int → List FR
  | [], _ => []
  | [f], x => [phF f x]
  | f :: g :: r, x => f :: setPh (g :: r) x
def lastSer (l : List PN) : Int := match l.getLast? with | some p => p.ser | none => 0
def lastRec (l : List PN) : Bool := match l.getLast? with | some p => p.rcv | none => false
def abP (p : PN) : PN := ⟨p.ser, p.k, p.n, p.s, p.rcv, true⟩
def abortP (x : Int) (l : List PN) : List PN := l.map fun p => if p.ser = x then abP p else p
def dropAb (l : List PN) : List PN := (l.reverse.dropWhile (·.ab)).reverse
def dropP (l : List PN) : List PN := dropAb l.dropLast
def stFr (s : ST) (l : List FR) : ST := ⟨l, s.pn, s.next, s.ser, s.en, s.st⟩
def stPn (s : ST) (l : List PN) : ST := ⟨s.fr, l, s.next, s.ser, s.en, s.st⟩
inductive Res where
  | fin (s : ST) (l : List TL)
  | go (s : ST) (l : List TL)
  | bad
/-- What becomes of the last activation, f, that leaves or that a panic goes through. -/
def goStep (s : ST) (fs : List FR) (f : FR) : Res :=
  if f.ds.length = 0 then
    let t := tl3 (if f.ph = 2 then 4 else 3) f.id 0
    if fs.length = 0 then .fin (overS (stFr s fs) (if f.ph = 2 then 2 else 1) (if f.ph = 2 then 2 else 0)) [t, tl3 7 (if f.ph = 2 then 2 else 1) 0]
    else if f.ph = 2 then .go (stFr (stPn s (if f.mark = 2 then abortP f.pan s.pn else s.pn)) (setPh fs 2)) [t]
    else if f.mark = 2 then (if lastRec s.pn = true then .go (stFr (stPn s (dropP s.pn)) (setPh fs 1)) [t] else .go (stFr s fs) [t])
    else if f.mark = 1 then .go (stFr s fs) [t]
    else .fin (stFr s fs) [t]
  else if 30 ≤ s.fr.length then .fin (overS s 6 0) [tl3 7 6 0]
  else .fin (pushS (stFr s (fs ++ [dsF f f.ds.dropLast])) (if f.ph = 2 then 2 else 1) (if f.ph = 2 then lastSer s.pn else -1)) [tl3 2 (f.ds.getLastD 0) s.next]
inductive GoR : ST → ST → List TL → Prop where
  | done {s : ST} {fs : List FR} {f : FR} {r : ST} {l : List TL} : s.fr = fs ++ [f] → goStep s fs f = .fin r l → GoR s r l
  | step {s : ST} {fs : List FR} {f : FR} {s1 r : ST} {t l : List TL} : s.fr = fs ++ [f] → goStep s fs f = .go s1 t → GoR s1 r l → GoR s r (t ++ l)
theorem getLast_snoc {α : Type} {l : List α} {x : α} (h : l.getLast? = some x) : l = l.dropLast ++ [x] := by
  rcases l.eq_nil_or_concat with rfl | ⟨m, b, rfl⟩
  · cases h
  · rw [List.concat_eq_append] at *
    simp at h
    simp [h]
theorem snoc_inj {α : Type} {a b : List α} {x y : α} (h : a ++ [x] = b ++ [y]) : a = b ∧ x = y := by
  have := List.append_inj' h rfl
  exact ⟨this.1, by simpa using this.2⟩
theorem GoR.uniq {s r r' : ST} {l l' : List TL} (h : GoR s r l) (h' : GoR s r' l') : r = r' ∧ l = l' := by
  induction h generalizing r' l' with
  | done e1 e2 =>
    cases h' with
    | done f1 f2 =>
      obtain ⟨rfl, rfl⟩ := snoc_inj (e1.symm.trans f1)
      rw [e2] at f2
      injection f2 with f2 f3
      exact ⟨f2, f3⟩
    | step f1 f2 _ =>
      obtain ⟨rfl, rfl⟩ := snoc_inj (e1.symm.trans f1)
      rw [e2] at f2
      cases f2
  | step e1 e2 _ ih =>
    cases h' with
    | done f1 f2 =>
      obtain ⟨rfl, rfl⟩ := snoc_inj (e1.symm.trans f1)
      rw [e2] at f2
      cases f2
    | step f1 f2 f3 =>
      obtain ⟨rfl, rfl⟩ := snoc_inj (e1.symm.trans f1)
      rw [e2] at f2
      injection f2 with f2 f4
      subst f2 f4
      obtain ⟨g1, g2⟩ := ih f3
      exact ⟨g1, by rw [g2]⟩
def mayK (k : Int) : Prop := k = 1 ∨ k = 3 ∨ k = 5
instance (k : Int) : Decidable (mayK k) := inferInstanceAs (Decidable (_ ∨ _))
def plNv (k n : Int) : Int := if k = 1 then n else 0
def plSv (k : Int) (s : ByteArray) : ByteArray := if k = 1 then ⟨#[]⟩ else s
def newP (s : ST) (e : EV) : PN := ⟨s.ser, e.k, plNv e.k e.vn, plSv e.k e.s, false, false⟩
def rcP (p : PN) : PN := ⟨p.ser, p.k, p.n, p.s, true, p.ab⟩
def recS (s : ST) (f : FR) : Res :=
  match s.pn.getLast? with
  | none => .fin s [tl3 6 0 0]
  | some p => if f.mark = 2 ∧ p.ser = f.pan ∧ p.rcv = false then .fin (stPn s (s.pn.dropLast ++ [rcP p])) [⟨5, 0, 0, p.k, p.n, p.s⟩] else .fin s [tl3 6 0 0]
/-- What comes of an event. -/
def evV (s : ST) (fs : List FR) (f : FR) (e : EV) : Res :=
  if e.kind = 1 then (if 30 ≤ s.fr.length then .fin (overS s 6 0) [tl3 7 6 0] else .fin (pushS s 0 (-1)) [tl3 1 s.next 0])
  else if e.kind = 2 then .go (stFr s (fs ++ [phF f 1])) []
  else if e.kind = 3 then .fin (stFr s (fs ++ [dsF f (f.ds ++ [e.n])])) []
  else if e.kind = 4 then (if mayK e.k then .go ⟨fs ++ [phF f 2], s.pn ++ [newP s e], s.next, s.ser + 1, s.en, s.st⟩ [] else .bad)
  else if e.kind = 5 then recS s f
  else if e.kind = 6 then .fin (overS s 3 (e.n % 256)) [tl3 7 3 0]
  else .bad
/-- An event's answer: none: it is refused. -/
inductive EvR (s : ST) (e : EV) : Option (ST × List TL) → Prop where
  | bad {fs : List FR} {f : FR} : s.fr = fs ++ [f] → evV s fs f e = .bad → EvR s e none
  | fin {fs : List FR} {f : FR} {r : ST} {l : List TL} : s.fr = fs ++ [f] → evV s fs f e = .fin r l → EvR s e (some (r, l))
  | go {fs : List FR} {f : FR} {s1 r : ST} {t l : List TL} : s.fr = fs ++ [f] → evV s fs f e = .go s1 t → GoR s1 r l → EvR s e (some (r, t ++ l))
theorem EvR.uniq {s : ST} {e : EV} {o o' : Option (ST × List TL)} (h : EvR s e o) (h' : EvR s e o') : o = o' := by
  cases h with
  | bad e1 e2 =>
    cases h' with
    | bad f1 f2 => rfl
    | fin f1 f2 => obtain ⟨rfl, rfl⟩ := snoc_inj (e1.symm.trans f1); rw [e2] at f2; cases f2
    | go f1 f2 _ => obtain ⟨rfl, rfl⟩ := snoc_inj (e1.symm.trans f1); rw [e2] at f2; cases f2
  | fin e1 e2 =>
    cases h' with
    | bad f1 f2 => obtain ⟨rfl, rfl⟩ := snoc_inj (e1.symm.trans f1); rw [e2] at f2; cases f2
    | fin f1 f2 => obtain ⟨rfl, rfl⟩ := snoc_inj (e1.symm.trans f1); rw [e2] at f2; injection f2 with a b; rw [a, b]
    | go f1 f2 _ => obtain ⟨rfl, rfl⟩ := snoc_inj (e1.symm.trans f1); rw [e2] at f2; cases f2
  | go e1 e2 e3 =>
    cases h' with
    | bad f1 f2 => obtain ⟨rfl, rfl⟩ := snoc_inj (e1.symm.trans f1); rw [e2] at f2; cases f2
    | fin f1 f2 => obtain ⟨rfl, rfl⟩ := snoc_inj (e1.symm.trans f1); rw [e2] at f2; cases f2
    | go f1 f2 f3 =>
      obtain ⟨rfl, rfl⟩ := snoc_inj (e1.symm.trans f1)
      rw [e2] at f2
      injection f2 with a b
      subst a b
      obtain ⟨c, d⟩ := e3.uniq f3
      rw [c, d]
/-! ### What holds of all states that are come to -/
def rsers (l : List FR) : List Int := (l.filterMap fun f => if f.mark = 2 then some f.pan else none).reverse
theorem rsers_snoc (fs : List FR) (f : FR) : rsers (fs ++ [f]) = if f.mark = 2 then f.pan :: rsers fs else rsers fs := by
  unfold rsers
  rw [List.filterMap_append, List.reverse_append]
  by_cases h : f.mark = 2 <;> simp [h]
def SegR : List Int → List PN → Prop
  | [], pn => pn = []
  | x :: r, pn => ∃ (p0 abs : List PN) (p : PN), pn = p0 ++ abs ++ [p] ∧ SegR r p0 ∧ (∀ q ∈ abs, q.ab = true) ∧ p.ab = false ∧ p.ser = x
def ChP (l : List FR) : Prop := ∀ (i : Nat) (g h : FR), l[i]? = some g → l[i + 1]? = some h → h.mark = g.ph
theorem SegR.last {x : Int} {r : List Int} {pn : List PN} (h : SegR (x :: r) pn) : ∃ p, pn.getLast? = some p ∧ p.ab = false ∧ p.ser = x := by
  obtain ⟨p0, abs, p, rfl, _, _, h1, h2⟩ := h
  exact ⟨p, by simp, h1, h2⟩
theorem SegR.drop {x : Int} {r : List Int} {pn : List PN} (h : SegR (x :: r) pn) : SegR r (dropP pn) := by
  obtain ⟨p0, abs, p, rfl, h0, h1, _, _⟩ := h
  have e : dropP (p0 ++ abs ++ [p]) = p0 := by
    unfold dropP dropAb
    rw [List.dropLast_concat, List.reverse_append, List.dropWhile_append_of_pos (fun q hq => h1 q (List.mem_reverse.1 hq))]
    cases r with
    | nil => rw [show p0 = [] from h0]; rfl
    | cons y r =>
      obtain ⟨q0, a0, q, rfl, _, _, hq, _⟩ := h0
      simp [hq]
  rw [e]
  exact h0
theorem abortP_id {x : Int} {l : List PN} (h : ∀ p ∈ l, p.ser ≠ x) : abortP x l = l := by
  unfold abortP
  rw [show (l.map fun p => if p.ser = x then abP p else p) = l.map id from List.map_congr_left fun p hp => by rw [if_neg (h p hp)]; rfl, List.map_id]
theorem SegR.abort {x y : Int} {r : List Int} {pn : List PN} (h : SegR (x :: y :: r) pn) (hn : (pn.map PN.ser).Nodup) : SegR (x :: r) (abortP y pn) := by
  obtain ⟨p0, abs, p, rfl, ⟨q0, a1, q, rfl, h0, h1, h2, h3⟩, h4, h5, h6⟩ := h
  have hne : ∀ z ∈ q0 ++ a1 ++ abs ++ [p], z.ser ≠ y := by
    intro z hz e
    rw [← h3] at e
    simp only [List.map_append, List.map_cons, List.map_nil, List.append_assoc] at hn
    have hz' : z.ser ∈ (q0 ++ a1 ++ abs ++ [p]).map PN.ser := List.mem_map_of_mem hz
    rw [e] at hz'
    simp only [List.map_append, List.map_cons, List.map_nil, List.append_assoc] at hz'
    have hn' : (q.ser :: (List.map PN.ser q0 ++ (List.map PN.ser a1 ++ (List.map PN.ser abs ++ [p.ser])))).Nodup := by
      refine (List.Perm.nodup_iff ?_).1 hn
      have := List.perm_middle (a := q.ser) (l₁ := List.map PN.ser q0 ++ List.map PN.ser a1) (l₂ := List.map PN.ser abs ++ [p.ser])
      simpa only [List.append_assoc, List.cons_append, List.nil_append] using this
    exact (List.nodup_cons.1 hn').1 hz'
  refine ⟨q0, a1 ++ [abP q] ++ abs, p, ?_, h0, ?_, h5, h6⟩
  · have e1 : abortP y q0 = q0 := abortP_id fun z hz => hne z (by simp [hz])
    have e2 : abortP y a1 = a1 := abortP_id fun z hz => hne z (by simp [hz])
    have e3 : abortP y abs = abs := abortP_id fun z hz => hne z (by simp [hz])
    have e4 : abortP y [p] = [p] := abortP_id fun z hz => hne z (by simp at hz; simp [hz])
    have e5 : abortP y [q] = [abP q] := by simp [abortP, h3]
    have ea : ∀ a b : List PN, abortP y (a ++ b) = abortP y a ++ abortP y b := fun a b => by simp [abortP]
    rw [ea, ea, ea, ea, e1, e2, e3, e4, e5]
    simp
  · intro z hz
    simp only [List.mem_append, List.mem_singleton] at hz
    rcases hz with (hz | hz) | hz
    · exact h1 z hz
    · rw [hz]; rfl
    · exact h4 z hz
theorem abort_ser (y : Int) (l : List PN) : (abortP y l).map PN.ser = l.map PN.ser := by
  unfold abortP
  rw [List.map_map]
  exact List.map_congr_left fun p _ => by show PN.ser (if p.ser = y then abP p else p) = p.ser; split <;> rfl
theorem setPh_snoc (fs : List FR) (f : FR) (x : Int) : setPh (fs ++ [f]) x = fs ++ [phF f x] := by
  induction fs with
  | nil => rfl
  | cons a r ih =>
    cases r with
    | nil => rfl
    | cons b r => simp only [List.cons_append, setPh] at ih ⊢; rw [ih]
theorem setPh_len (fs : List FR) (x : Int) : (setPh fs x).length = fs.length := by
  rcases fs.eq_nil_or_concat with rfl | ⟨l, b, rfl⟩
  · rfl
  · rw [List.concat_eq_append, setPh_snoc]; simp
theorem rsers_ph (fs : List FR) (x : Int) : rsers (setPh fs x) = rsers fs := by
  rcases fs.eq_nil_or_concat with rfl | ⟨l, b, rfl⟩
  · rfl
  · rw [List.concat_eq_append, setPh_snoc, rsers_snoc, rsers_snoc]; rfl
theorem ChP.snoc {fs : List FR} {g f : FR} (h : ChP (fs ++ [g])) (hm : f.mark = g.ph) : ChP (fs ++ [g] ++ [f]) := by
  intro i a b ha hb
  have hi : i + 1 < fs.length + 2 := by have := (List.getElem?_eq_some_iff.1 hb).1; simpa using this
  by_cases hl : i + 1 < fs.length + 1
  · rw [List.getElem?_append_left (by simp; omega)] at ha hb
    exact h i a b ha hb
  · obtain rfl : i = fs.length := by omega
    simp at ha hb
    subst ha hb
    exact hm
theorem ChP.left {fs gs : List FR} (h : ChP (fs ++ gs)) : ChP fs := fun i a b ha hb => by
  have h1 := (List.getElem?_eq_some_iff.1 ha).1
  have h2 := (List.getElem?_eq_some_iff.1 hb).1
  exact h i a b (by rw [List.getElem?_append_left h1]; exact ha) (by rw [List.getElem?_append_left h2]; exact hb)
theorem ChP.top {fs : List FR} {g f : FR} (h : ChP (fs ++ [g] ++ [f])) : f.mark = g.ph := h fs.length g f (by simp) (by simp)
theorem ChP.re {fs : List FR} {g f : FR} (h : ChP (fs ++ [g])) (hm : f.mark = g.mark) : ChP (fs ++ [f]) := by
  intro i a b ha hb
  have hi : i + 1 < fs.length + 1 := by have := (List.getElem?_eq_some_iff.1 hb).1; simpa using this
  by_cases hl : i + 1 < fs.length
  · rw [List.getElem?_append_left (by omega)] at ha hb
    exact h i a b (by rw [List.getElem?_append_left (by omega)]; exact ha) (by rw [List.getElem?_append_left (by omega)]; exact hb)
  · obtain e : i + 1 = fs.length := by omega
    rw [List.getElem?_append_left (by omega)] at ha
    rw [e] at hb
    simp at hb
    subst hb
    rw [hm]
    exact h i a g (by rw [List.getElem?_append_left (by omega)]; exact ha) (by rw [e]; simp)
def PnOk (p : PN) : Prop := mayK p.k ∧ p.n = plNv p.k p.n ∧ p.s = plSv p.k p.s
/-- Bounds: 'a' of what comes next, 'b' of the rest. -/
structure Bd (a b : Nat) (s : ST) : Prop where
  fr : s.fr.length ≤ 30
  pn : s.pn.length ≤ b
  next : s.next ≤ a
  ser : s.ser ≤ b
  ds : ∀ f ∈ s.fr, f.ds.length ≤ b ∧ (f.mark = 0 ∨ f.mark = 1 ∨ f.mark = 2)
  ok : ∀ p ∈ s.pn, PnOk p
structure Uq (s : ST) : Prop where
  en : s.en = 0
  nd : (s.pn.map PN.ser).Nodup
  lt : ∀ p ∈ s.pn, p.ser < (s.ser : Int)
/-- A state in which an activation runs. -/
structure Lv (s : ST) : Prop where
  uq : Uq s
  ch : ChP s.fr
  top : ∃ fs f, s.fr = fs ++ [f] ∧ f.ph = 0
  seg : SegR (rsers s.fr) s.pn
/-- A state in which the last activation leaves (1), or a panic goes through it (2). -/
structure Gv (s : ST) : Prop where
  uq : Uq s
  ch : ChP s.fr
  top : ∃ fs f, s.fr = fs ++ [f] ∧ ((f.ph = 1 ∧ SegR (rsers s.fr) s.pn) ∨ (f.ph = 2 ∧ ∃ x, SegR (x :: rsers s.fr) s.pn))
def Inv (k : Nat) (s : ST) : Prop := Bd (k + 1) k s ∧ (s.en = 0 → Lv s)
theorem dropP_sub (l : List PN) : (dropP l).Sublist l := by
  unfold dropP dropAb
  have h1 : (l.dropLast.reverse.dropWhile fun x => x.ab).Sublist l.dropLast.reverse := List.dropWhile_sublist _
  have h2 := h1.reverse
  rw [List.reverse_reverse] at h2
  exact h2.trans (List.dropLast_sublist l)
theorem setPh_mem {fs : List FR} {x : Int} {f : FR} (h : f ∈ setPh fs x) : ∃ g ∈ fs, f.ds = g.ds ∧ f.mark = g.mark := by
  rcases fs.eq_nil_or_concat with rfl | ⟨l, b, rfl⟩
  · cases h
  · rw [List.concat_eq_append, setPh_snoc] at h
    rw [List.concat_eq_append]
    rcases List.mem_append.1 h with h | h
    · exact ⟨f, List.mem_append_left _ h, rfl, rfl⟩
    · simp at h; subst h; exact ⟨b, by simp, rfl, rfl⟩
theorem abort_ok {y : Int} {l : List PN} (h : ∀ p ∈ l, PnOk p) : ∀ p ∈ abortP y l, PnOk p := by
  intro p hp
  obtain ⟨q, hq, rfl⟩ := List.mem_map.1 hp
  split
  · exact h q hq
  · exact h q hq
theorem Bd.fs {a b : Nat} {s : ST} {fs : List FR} {f : FR} (h : Bd a b s) (hf : s.fr = fs ++ [f]) : Bd a b (stFr s fs) :=
  ⟨by have := h.fr; rw [hf] at this; simp at this; show fs.length ≤ 30; omega, h.pn, h.next, h.ser, fun g hg => h.ds g (by rw [hf]; exact List.mem_append_left _ hg), h.ok⟩
theorem Bd.ph {a b : Nat} {s : ST} {fs : List FR} (h : Bd a b (stFr s fs)) (x : Int) : Bd a b (stFr s (setPh fs x)) :=
  ⟨by show (setPh fs x).length ≤ 30; rw [setPh_len]; exact h.fr, h.pn, h.next, h.ser, fun g hg => by obtain ⟨g', h1, h2, h3⟩ := setPh_mem hg; rw [h2, h3]; exact h.ds g' h1, h.ok⟩
theorem Bd.pns {a b : Nat} {s : ST} {l : List PN} (h : Bd a b s) (hl : l.length ≤ s.pn.length) (ho : ∀ p ∈ l, PnOk p) : Bd a b (stPn s l) :=
  ⟨h.fr, Nat.le_trans hl h.pn, h.next, h.ser, h.ds, ho⟩
theorem Bd.up {a b a' b' : Nat} {s : ST} (h : Bd a b s) (ha : a ≤ a') (hb : b ≤ b') : Bd a' b' s :=
  ⟨h.fr, Nat.le_trans h.pn hb, Nat.le_trans h.next ha, Nat.le_trans h.ser hb, fun f hf => ⟨Nat.le_trans (h.ds f hf).1 hb, (h.ds f hf).2⟩, h.ok⟩
theorem Bd.over {a b : Nat} {s : ST} (h : Bd a b s) (e x : Int) : Bd a b (overS s e x) := ⟨h.fr, h.pn, h.next, h.ser, h.ds, h.ok⟩
theorem Bd.push {a b : Nat} {s : ST} (h : Bd a b s) (hl : ¬ 30 ≤ s.fr.length) (m p : Int) (hm : m = 0 ∨ m = 1 ∨ m = 2) : Bd (a + 1) b (pushS s m p) :=
  ⟨by show (s.fr ++ [_]).length ≤ 30; simp; omega, h.pn, by have := h.next; show s.next + 1 ≤ a + 1; omega, h.ser, fun f hf => by
    rcases List.mem_append.1 hf with hf | hf
    · exact h.ds f hf
    · simp at hf; subst hf; exact ⟨Nat.zero_le _, hm⟩, h.ok⟩
/-- One step of what goes on. -/
theorem go_keeps {a b : Nat} {s : ST} {fs : List FR} {f : FR} (hb : Bd a b s) (hg : Gv s) (hf : s.fr = fs ++ [f]) :
    (∀ r l, goStep s fs f = .fin r l → Bd (a + 1) b r ∧ (r.en = 0 → Lv r)) ∧ (∀ r l, goStep s fs f = .go r l → Bd a b r ∧ Gv r ∧ r.fr.length < s.fr.length) ∧ goStep s fs f ≠ .bad := by
  obtain ⟨fs', f', e, htop⟩ := hg.top
  obtain ⟨rfl, rfl⟩ := snoc_inj (hf.symm.trans e)
  clear e
  have hch := hg.ch
  rw [hf] at hch htop
  rw [rsers_snoc] at htop
  have hbs := hb.fs hf
  have hlen : s.fr.length = fs.length + 1 := by rw [hf]; simp
  unfold goStep
  by_cases hd : f.ds.length = 0
  · rw [if_pos hd]
    by_cases h0 : fs.length = 0
    · simp only [h0, if_true]
      refine ⟨fun r l h => ?_, fun r l h => by (cases h), by simp⟩
      injection h with h _
      subst h
      refine ⟨(hbs.over _ _).up (by omega) (by omega), fun h => ?_⟩
      exfalso
      revert h
      show (if f.ph = 2 then (2 : Int) else 1) = 0 → False
      split <;> omega
    · simp only [h0, if_false]
      obtain ⟨gs, g, rfl⟩ : ∃ gs g, fs = gs ++ [g] := by
        rcases fs.eq_nil_or_concat with rfl | ⟨l, b, rfl⟩
        · exact absurd rfl h0
        · exact ⟨l, b, List.concat_eq_append⟩
      have hmk := hch.top
      have hcg := hch.left
      rcases htop with ⟨h1, hs⟩ | ⟨h2, x, hs⟩
      · have hp : ¬ f.ph = 2 := by omega
        simp only [hp, if_false]
        by_cases hm : f.mark = 2
        · simp only [hm, if_true] at hs ⊢
          by_cases hr : lastRec s.pn = true
          · simp only [hr, if_true]
            refine ⟨fun r l h => by (cases h), fun r l h => ?_, by simp⟩
            injection h with h _
            subst h
            have hsub := dropP_sub s.pn
            refine ⟨(Bd.ph (s := stPn s (dropP s.pn)) ((hb.fs hf).pns hsub.length_le fun p hp => hb.ok p (hsub.subset hp)) 1), ⟨⟨hg.uq.en, (hsub.map PN.ser).nodup hg.uq.nd, fun p hp => hg.uq.lt p (hsub.subset hp)⟩, ?_, gs, phF g 1, setPh_snoc _ _ _, .inl ⟨rfl, ?_⟩⟩, ?_⟩
            · show ChP (setPh (gs ++ [g]) 1)
              rw [setPh_snoc]
              exact hcg.re rfl
            · show SegR (rsers (setPh (gs ++ [g]) 1)) (dropP s.pn)
              rw [rsers_ph]
              exact hs.drop
            · show (setPh (gs ++ [g]) 1).length < _
              rw [setPh_len]; omega
          · simp only [hr]
            refine ⟨fun r l h => by (cases h), fun r l h => ?_, by simp⟩
            injection h with h _
            subst h
            exact ⟨hbs, ⟨⟨hg.uq.en, hg.uq.nd, hg.uq.lt⟩, hcg, gs, g, rfl, .inr ⟨by omega, f.pan, hs⟩⟩, by show (gs ++ [g]).length < _; omega⟩
        · simp only [hm, if_false] at hs ⊢
          by_cases hm1 : f.mark = 1
          · simp only [hm1, if_true]
            refine ⟨fun r l h => by (cases h), fun r l h => ?_, by simp⟩
            injection h with h _
            subst h
            exact ⟨hbs, ⟨⟨hg.uq.en, hg.uq.nd, hg.uq.lt⟩, hcg, gs, g, rfl, .inl ⟨by omega, hs⟩⟩, by show (gs ++ [g]).length < _; omega⟩
          · simp only [hm1, if_false]
            refine ⟨fun r l h => ?_, fun r l h => by (cases h), by simp⟩
            injection h with h _
            subst h
            have h3 := (hb.ds f (by rw [hf]; simp)).2
            exact ⟨hbs.up (by omega) (by omega), fun _ => ⟨⟨hg.uq.en, hg.uq.nd, hg.uq.lt⟩, hcg, ⟨gs, g, rfl, by omega⟩, hs⟩⟩
      · simp only [h2, if_true]
        refine ⟨fun r l h => by (cases h), fun r l h => ?_, by simp⟩
        injection h with h _
        subst h
        by_cases hm : f.mark = 2
        · simp only [hm, if_true] at hs ⊢
          have hser := abort_ser f.pan s.pn
          refine ⟨(Bd.ph (s := stPn s (abortP f.pan s.pn)) ((hb.fs hf).pns (by show (abortP f.pan s.pn).length ≤ s.pn.length; simp [abortP]) (abort_ok hb.ok)) 2), ⟨⟨hg.uq.en, by show ((abortP f.pan s.pn).map PN.ser).Nodup; rw [hser]; exact hg.uq.nd, fun p hp => ?_⟩, ?_, gs, phF g 2, setPh_snoc _ _ _, .inr ⟨rfl, x, ?_⟩⟩, ?_⟩
          · have : p.ser ∈ (abortP f.pan s.pn).map PN.ser := List.mem_map_of_mem hp
            rw [hser] at this
            obtain ⟨q, hq, e⟩ := List.mem_map.1 this
            rw [← e]
            exact hg.uq.lt q hq
          · show ChP (setPh (gs ++ [g]) 2)
            rw [setPh_snoc]
            exact hcg.re rfl
          · show SegR (x :: rsers (setPh (gs ++ [g]) 2)) (abortP f.pan s.pn)
            rw [rsers_ph]
            exact hs.abort hg.uq.nd
          · show (setPh (gs ++ [g]) 2).length < _
            rw [setPh_len]; omega
        · simp only [hm, if_false] at hs ⊢
          refine ⟨(Bd.ph (s := s) hbs 2), ⟨⟨hg.uq.en, hg.uq.nd, hg.uq.lt⟩, ?_, gs, phF g 2, setPh_snoc _ _ _, .inr ⟨rfl, x, ?_⟩⟩, ?_⟩
          · show ChP (setPh (gs ++ [g]) 2)
            rw [setPh_snoc]
            exact hcg.re rfl
          · show SegR (x :: rsers (setPh (gs ++ [g]) 2)) s.pn
            rw [rsers_ph]
            exact hs
          · show (setPh (gs ++ [g]) 2).length < _
            rw [setPh_len]; omega
  · rw [if_neg hd]
    by_cases h30 : 30 ≤ s.fr.length
    · simp only [h30, if_true]
      refine ⟨fun r l h => ?_, fun r l h => by (cases h), by simp⟩
      injection h with h _
      subst h
      exact ⟨(hb.over _ _).up (by omega) (by omega), fun h => by (have : (6 : Int) = 0 := h; omega)⟩
    · simp only [h30, if_false]
      refine ⟨fun r l h => ?_, fun r l h => by (cases h), by simp⟩
      injection h with h _
      subst h
      have hff := hb.ds f (by rw [hf]; simp)
      have hb2 : Bd a b (stFr s (fs ++ [dsF f f.ds.dropLast])) := ⟨by show (fs ++ [_]).length ≤ 30; simp; omega, hb.pn, hb.next, hb.ser, fun z hz => by
        rcases List.mem_append.1 hz with hz | hz
        · exact hb.ds z (by rw [hf]; exact List.mem_append_left _ hz)
        · simp at hz; subst hz; exact ⟨by show f.ds.dropLast.length ≤ b; simp; omega, hff.2⟩, hb.ok⟩
      have hch2 : ChP (fs ++ [dsF f f.ds.dropLast]) := hch.re rfl
      have hrs : rsers (fs ++ [dsF f f.ds.dropLast]) = rsers (fs ++ [f]) := by rw [rsers_snoc, rsers_snoc]; rfl
      rw [← rsers_snoc, ← hrs] at htop
      rcases htop with ⟨h1, hs⟩ | ⟨h2, x, hs⟩
      · have hp : ¬ f.ph = 2 := by omega
        simp only [hp, if_false]
        refine ⟨hb2.push (by show ¬ 30 ≤ (fs ++ [_]).length; simp; omega) _ _ (.inr (.inl rfl)), fun _ => ⟨⟨hg.uq.en, hg.uq.nd, hg.uq.lt⟩, hch2.snoc h1.symm, ⟨fs ++ [dsF f f.ds.dropLast], _, rfl, rfl⟩, ?_⟩⟩
        show SegR (rsers (fs ++ [dsF f f.ds.dropLast] ++ [_])) s.pn
        rw [rsers_snoc]
        exact hs
      · simp only [h2, if_true]
        refine ⟨hb2.push (by show ¬ 30 ≤ (fs ++ [_]).length; simp; omega) _ _ (.inr (.inr rfl)), fun _ => ⟨⟨hg.uq.en, hg.uq.nd, hg.uq.lt⟩, hch2.snoc h2.symm, ⟨fs ++ [dsF f f.ds.dropLast], _, rfl, rfl⟩, ?_⟩⟩
        show SegR (rsers (fs ++ [dsF f f.ds.dropLast] ++ [_])) s.pn
        rw [rsers_snoc]
        obtain ⟨p, hp, _, he⟩ := hs.last
        have hx : lastSer s.pn = x := by unfold lastSer; rw [hp]; exact he
        rw [if_pos rfl]
        show SegR (lastSer s.pn :: _) _
        rw [hx]
        exact hs
theorem GoR.keeps {a b : Nat} {s r : ST} {l : List TL} (h : GoR s r l) (hb : Bd a b s) (hg : Gv s) : Bd (a + 1) b r ∧ (r.en = 0 → Lv r) := by
  induction h with
  | done e1 e2 => exact (go_keeps hb hg e1).1 _ _ e2
  | step e1 e2 _ ih =>
    obtain ⟨h1, h2, _⟩ := (go_keeps hb hg e1).2.1 _ _ e2
    exact ih h1 h2
theorem GoR.len {a b : Nat} {s r : ST} {l : List TL} (h : GoR s r l) (hb : Bd a b s) (hg : Gv s) : l.length ≤ s.fr.length + 1 := by
  induction h with
  | @done s fs f r l e1 e2 =>
    have hl : s.fr.length = fs.length + 1 := by rw [e1]; simp
    have : l.length ≤ 2 := by
      revert e2
      unfold goStep
      repeat' split
      all_goals (intro e2; first | (injection e2 with _ e2; subst e2; simp; done) | (injection e2))
    omega
  | @step s fs f s1 r t l e1 e2 _ ih =>
    obtain ⟨h1, h2, h3⟩ := (go_keeps hb hg e1).2.1 _ _ e2
    have h4 := ih h1 h2
    have : t.length ≤ 1 := by
      revert e2
      unfold goStep
      repeat' split
      all_goals (intro e2; first | (injection e2 with _ e2; subst e2; simp; done) | (injection e2))
    simp only [List.length_append]
    omega
theorem newP_ok {s : ST} {e : EV} (h : mayK e.k) : PnOk (newP s e) := by
  unfold mayK at h
  refine ⟨h, ?_, ?_⟩
  · show plNv e.k e.vn = plNv e.k (plNv e.k e.vn)
    unfold plNv
    split <;> simp_all
  · show plSv e.k e.s = plSv e.k (plSv e.k e.s)
    unfold plSv
    split <;> simp_all
/-- What an event does ahead of what goes on. -/
theorem ev_keeps {k : Nat} {s : ST} {fs : List FR} {f : FR} {e : EV} (hb : Bd (k + 1) k s) (hv : Lv s) (hf : s.fr = fs ++ [f]) :
    (∀ r l, evV s fs f e = .fin r l → Inv (k + 1) r) ∧ (∀ r l, evV s fs f e = .go r l → Bd (k + 1) (k + 1) r ∧ Gv r ∧ l = []) := by
  obtain ⟨fs', f', e', htop⟩ := hv.top
  obtain ⟨rfl, rfl⟩ := snoc_inj (hf.symm.trans e')
  clear e'
  have hch := hv.ch
  have hsg := hv.seg
  rw [hf] at hch hsg
  have hff := hb.ds f (by rw [hf]; simp)
  have hlen : s.fr.length = fs.length + 1 := by rw [hf]; simp
  unfold evV
  by_cases h1 : e.kind = 1
  · rw [if_pos h1]
    by_cases h30 : 30 ≤ s.fr.length
    · rw [if_pos h30]
      refine ⟨fun r l h => ?_, fun r l h => by (cases h)⟩
      injection h with h _
      subst h
      exact ⟨(hb.over _ _).up (by omega) (by omega), fun h => by (have : (6 : Int) = 0 := h; omega)⟩
    · rw [if_neg h30]
      refine ⟨fun r l h => ?_, fun r l h => by (cases h)⟩
      injection h with h _
      subst h
      refine ⟨(hb.push h30 _ _ (.inl rfl)).up (by omega) (by omega), fun _ => ⟨⟨hv.uq.en, hv.uq.nd, hv.uq.lt⟩, ?_, ⟨s.fr, _, rfl, rfl⟩, ?_⟩⟩
      · show ChP (s.fr ++ [_])
        rw [hf]
        exact hch.snoc htop.symm
      · show SegR (rsers (s.fr ++ [_])) s.pn
        rw [rsers_snoc]
        exact hv.seg
  rw [if_neg h1]
  have hph : ∀ x : Int, rsers (fs ++ [phF f x]) = rsers (fs ++ [f]) := fun x => by rw [rsers_snoc, rsers_snoc]; rfl
  have hbp : ∀ x : Int, Bd (k + 1) k (stFr s (fs ++ [phF f x])) := fun x => ⟨by show (fs ++ [_]).length ≤ 30; have := hb.fr; simp; omega, hb.pn, hb.next, hb.ser, fun z hz => by
    rcases List.mem_append.1 hz with hz | hz
    · exact hb.ds z (by rw [hf]; exact List.mem_append_left _ hz)
    · simp at hz; subst hz; exact hff, hb.ok⟩
  by_cases h2 : e.kind = 2
  · rw [if_pos h2]
    refine ⟨fun r l h => by (cases h), fun r l h => ?_⟩
    injection h with h h'
    subst h h'
    exact ⟨(hbp 1).up (by omega) (by omega), ⟨⟨hv.uq.en, hv.uq.nd, hv.uq.lt⟩, hch.re rfl, fs, phF f 1, rfl, .inl ⟨rfl, by show SegR (rsers (fs ++ [phF f 1])) s.pn; rw [hph]; exact hsg⟩⟩, rfl⟩
  rw [if_neg h2]
  by_cases h3 : e.kind = 3
  · rw [if_pos h3]
    refine ⟨fun r l h => ?_, fun r l h => by (cases h)⟩
    injection h with h _
    subst h
    refine ⟨⟨by show (fs ++ [_]).length ≤ 30; have := hb.fr; simp; omega, by have := hb.pn; show s.pn.length ≤ k + 1; omega, by have := hb.next; show s.next ≤ k + 1 + 1; omega, by have := hb.ser; show s.ser ≤ k + 1; omega, fun z hz => ?_, hb.ok⟩, fun _ => ⟨⟨hv.uq.en, hv.uq.nd, hv.uq.lt⟩, hch.re rfl, ⟨fs, _, rfl, htop⟩, ?_⟩⟩
    · rcases List.mem_append.1 hz with hz | hz
      · have := hb.ds z (by rw [hf]; exact List.mem_append_left _ hz)
        exact ⟨by omega, this.2⟩
      · simp at hz; subst hz; exact ⟨by show (f.ds ++ [e.n]).length ≤ k + 1; simp; omega, hff.2⟩
    · show SegR (rsers (fs ++ [dsF f _])) s.pn
      rw [show rsers (fs ++ [dsF f (f.ds ++ [e.n])]) = rsers (fs ++ [f]) by rw [rsers_snoc, rsers_snoc]; rfl]
      exact hsg
  rw [if_neg h3]
  by_cases h4 : e.kind = 4
  · rw [if_pos h4]
    by_cases hm : mayK e.k
    · rw [if_pos hm]
      refine ⟨fun r l h => by (cases h), fun r l h => ?_⟩
      injection h with h h'
      subst h h'
      have hb2 := hbp 2
      refine ⟨⟨hb2.fr, by have := hb.pn; show (s.pn ++ [_]).length ≤ k + 1; simp; omega, hb.next, by have := hb.ser; show s.ser + 1 ≤ k + 1; omega, fun z hz => by have := hb2.ds z hz; exact ⟨by omega, this.2⟩, fun p hp => ?_⟩, ⟨⟨hv.uq.en, ?_, fun p hp => ?_⟩, hch.re rfl, fs, phF f 2, rfl, .inr ⟨rfl, s.ser, s.pn, [], newP s e, by simp, ?_, by simp, rfl, rfl⟩⟩, rfl⟩
      · rcases List.mem_append.1 hp with hp | hp
        · exact hb.ok p hp
        · simp at hp; subst hp; exact newP_ok hm
      · show ((s.pn ++ [newP s e]).map PN.ser).Nodup
        rw [List.map_append, List.nodup_append]
        refine ⟨hv.uq.nd, by simp, fun a ha b hb' => ?_⟩
        obtain ⟨q, hq, rfl⟩ := List.mem_map.1 ha
        have := hv.uq.lt q hq
        simp at hb'
        subst hb'
        show q.ser ≠ (s.ser : Int)
        omega
      · show p.ser < ((s.ser + 1 : Nat) : Int)
        rcases List.mem_append.1 hp with hp | hp
        · have := hv.uq.lt p hp; omega
        · simp at hp; subst hp; show (s.ser : Int) < _; omega
      · show SegR (rsers (fs ++ [phF f 2])) s.pn
        rw [hph]; exact hsg
    · rw [if_neg hm]
      exact ⟨fun r l h => by (cases h), fun r l h => by (cases h)⟩
  rw [if_neg h4]
  by_cases h5 : e.kind = 5
  · rw [if_pos h5]
    have hsame : Inv (k + 1) s := ⟨hb.up (by omega) (by omega), fun _ => hv⟩
    unfold recS
    split
    · refine ⟨fun r l h => ?_, fun r l h => by (cases h)⟩
      injection h with h _
      subst h
      exact hsame
    · rename_i p hp
      split
      · refine ⟨fun r l h => ?_, fun r l h => by (cases h)⟩
        injection h with h _
        subst h
        rename_i hc
        have hpn : s.pn = s.pn.dropLast ++ [p] := getLast_snoc hp
        generalize s.pn.dropLast = pl at *
        have hmap : (pl ++ [rcP p]).map PN.ser = s.pn.map PN.ser := by rw [hpn]; simp [rcP]
        have hok : ∀ q ∈ pl ++ [rcP p], PnOk q := fun q hq => by
          rcases List.mem_append.1 hq with hq | hq
          · exact hb.ok q (by rw [hpn]; exact List.mem_append_left _ hq)
          · simp at hq; subst hq; exact hb.ok p (by rw [hpn]; simp)
        refine ⟨(hb.pns (l := pl ++ [rcP p]) (by rw [hpn]; simp) hok).up (by omega) (by omega), fun _ => ⟨⟨hv.uq.en, by show ((pl ++ [rcP p]).map PN.ser).Nodup; rw [hmap]; exact hv.uq.nd, fun q hq => ?_⟩, hv.ch, hv.top, ?_⟩⟩
        · have : q.ser ∈ (pl ++ [rcP p]).map PN.ser := List.mem_map_of_mem hq
          rw [hmap] at this
          obtain ⟨q', hq', e'⟩ := List.mem_map.1 this
          rw [← e']
          exact hv.uq.lt q' hq'
        · show SegR (rsers s.fr) (pl ++ [rcP p])
          have hs := hv.seg
          revert hs
          cases rsers s.fr with
          | nil => intro hs; rw [show s.pn = [] from hs] at hpn; simp at hpn
          | cons x r =>
            rintro ⟨p0, abs, q, e1, e2, e3, e4, e5⟩
            rw [hpn] at e1
            obtain ⟨rfl, rfl⟩ := snoc_inj e1
            exact ⟨p0, abs, rcP p, rfl, e2, e3, e4, e5⟩
      · refine ⟨fun r l h => ?_, fun r l h => by (cases h)⟩
        injection h with h _
        subst h
        exact hsame
  rw [if_neg h5]
  by_cases h6 : e.kind = 6
  · rw [if_pos h6]
    refine ⟨fun r l h => ?_, fun r l h => by (cases h)⟩
    injection h with h _
    subst h
    exact ⟨(hb.over _ _).up (by omega) (by omega), fun h => by (have : (3 : Int) = 0 := h; omega)⟩
  · rw [if_neg h6]
    exact ⟨fun r l h => by (cases h), fun r l h => by (cases h)⟩
theorem EvR.keeps {k : Nat} {s r : ST} {e : EV} {l : List TL} (h : EvR s e (some (r, l))) (hi : Inv k s) (h0 : s.en = 0) : Inv (k + 1) r := by
  have hv := hi.2 h0
  cases h with
  | fin e1 e2 => exact (ev_keeps hi.1 hv e1).1 _ _ e2
  | go e1 e2 e3 =>
    obtain ⟨h1, h2, _⟩ := (ev_keeps hi.1 hv e1).2 _ _ e2
    exact e3.keeps h1 h2
end Go.Proofs.Ythogfcdgbodccaa
