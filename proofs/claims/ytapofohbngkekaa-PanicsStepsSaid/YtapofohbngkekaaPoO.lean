/- Both ways of playing events, whatever their number: one answer. Conditions: what comes in reads as events. -/
import Derived.Test.YtapofohbngkekaaPoN
import Derived.Test.YtapofohbngkekaaPnS
import Derived.Test.YtapofohbngkekaaPnL
set_option maxRecDepth 100000
namespace Go.Proofs.Ytapofohbngkekaa
open Go.ChangeShapes Go.WideShapes Go.ChangeAt Go.RowKit
theorem PlayR.keeps {s : ST} {t : List TL} {l : List EV} {o : Option (ST × List TL)} (h : PlayR s t l o) : ∀ k, Inv k s → t.length ≤ 40 * k → ∀ r ts, o = some (r, ts) → ∃ k', k' ≤ k + l.length ∧ Inv k' r ∧ ts.length ≤ 40 * k' := by
  induction h with
  | nil =>
    intro k hi ht r ts e
    injection e with e
    injection e with e1 e2
    subst e1 e2
    exact ⟨k, by simp, hi, ht⟩
  | over h0 =>
    intro k hi ht r ts e
    injection e with e
    injection e with e1 e2
    subst e1 e2
    exact ⟨k, by omega, hi, ht⟩
  | bad h0 h1 =>
    intro k hi ht r ts e
    cases e
  | step h0 h1 h2 ih =>
    intro k hi ht r ts e
    obtain ⟨k', a, b, c⟩ := ih (k + 1) (h1.keeps hi h0) (by have := h1.len hi h0; rw [List.length_append]; omega) r ts e
    exact ⟨k', by rw [List.length_cons]; omega, b, c⟩
def PlA (l : List EV) (r : ST) (ts : List TL) (code : Int) : Prop :=
  (2000 < l.length ∧ r = zeroST ∧ ts = [] ∧ code = 15) ∨ (l.length ≤ 2000 ∧ PlayR beginS [] l none ∧ r = zeroST ∧ ts = [] ∧ code = 13) ∨ (l.length ≤ 2000 ∧ PlayR beginS [] l (some (r, ts)) ∧ code = 0)
theorem PlA.uniq {l : List EV} {r r' : ST} {ts ts' : List TL} {c c' : Int} (h : PlA l r ts c) (h' : PlA l r' ts' c') : r = r' ∧ ts = ts' ∧ c = c' := by
  rcases h with ⟨a, b1, b2, b3⟩ | ⟨a, p, b1, b2, b3⟩ | ⟨a, p, b3⟩ <;> rcases h' with ⟨a', d1, d2, d3⟩ | ⟨a', p', d1, d2, d3⟩ | ⟨a', p', d3⟩
  · exact ⟨b1.trans d1.symm, b2.trans d2.symm, b3.trans d3.symm⟩
  · omega
  · omega
  · omega
  · exact ⟨b1.trans d1.symm, b2.trans d2.symm, b3.trans d3.symm⟩
  · cases p.uniq p'
  · omega
  · cases p.uniq p'
  · have := p.uniq p'
    injection this with this
    injection this with e1 e2
    exact ⟨e1, e2, b3.trans d3.symm⟩
theorem PlA.bounds {l : List EV} {r : ST} {ts : List TL} {c : Int} (h : PlA l r ts c) : r.fr.length ≤ 1000 ∧ r.pn.length ≤ 1000000 ∧ (∀ f ∈ r.fr, f.ds.length ≤ 1000000) ∧ ts.length ≤ 1000000 := by
  rcases h with ⟨_, rfl, rfl, _⟩ | ⟨_, _, rfl, rfl, _⟩ | ⟨a, p, _⟩
  · exact ⟨Nat.zero_le _, Nat.zero_le _, (by simp [zeroST]), Nat.zero_le _⟩
  · exact ⟨Nat.zero_le _, Nat.zero_le _, (by simp [zeroST]), Nat.zero_le _⟩
  · obtain ⟨k', h1, h2, h3⟩ := p.keeps 0 begin_inv (by simp) r ts rfl
    refine ⟨by have := h2.1.fr; omega, by have := h2.1.pn; omega, fun f hf => by have := (h2.1.ds f hf).1; omega, by omega⟩
/-- What a play answers, whatever the number of events. -/
def PlQ (l : List EV) (w : World) (e : Ending) (w' : World) : Prop :=
  ∃ (r : ST) (ts : List TL) (FA PA TA : Option Addr) (fc pc tc : Nat) (code : Int), PlA l r ts code ∧ e = .returned (.tuple #[stV (.slice FA r.fr.length fc) (.slice PA r.pn.length pc) r, .slice TA ts.length tc, .int .i64 code]) ∧ STr w' w'.heap.size (.slice FA r.fr.length fc) (.slice PA r.pn.length pc) r ∧ Rd w' w'.heap.size 7 TA ts.length (tlL ts) ∧ Below w.heap.size w w'
theorem zero_str (w : World) (B : Nat) : STr w B (.slice none 0 0) (.slice none 0 0) zeroST :=
  ⟨⟨none, 0, [], rfl, Nat.le_refl _, by unfold maxLen; omega, ⟨rfl, fun h => absurd h (by decide)⟩, rfl, fun i f d hf _ => by cases hf⟩, none, 0, rfl, Nat.le_refl _, by unfold maxLen; omega, ⟨rfl, fun h => absurd h (by decide)⟩⟩
theorem plQ_of {l : List EV} {w w' : World} {e : Ending} (hl : l.length ≤ 2000) (h : PlP l w e w') : PlQ l w e w' := by
  obtain ⟨⟨h1, rfl⟩ | ⟨r, ts, fv, pv, tv, h1, rfl, h3, h4⟩, hb⟩ := h
  · exact ⟨zeroST, [], none, none, none, 0, 0, 0, 13, .inr (.inl ⟨hl, h1, rfl, rfl, rfl⟩), rfl, zero_str _ _, ⟨rfl, fun h => absurd h (by decide)⟩, hb⟩
  · obtain ⟨FA, fc, ds, rfl, h5⟩ := id h3.fr
    obtain ⟨PA, pc, rfl, h6⟩ := id h3.pn
    obtain ⟨TA, tc, rfl, _, _, h7⟩ := h4
    exact ⟨r, ts, FA, PA, TA, fc, pc, tc, 0, .inr (.inr ⟨hl, h1, rfl⟩), rfl, h3, h7, hb⟩
theorem plQ_full {l : List EV} {w w' : World} (hl : 2000 < l.length) (hb : Below w.heap.size w w') : PlQ l w (.returned (.tuple #[stV (.slice none 0 0) (.slice none 0 0) zeroST, .slice none 0 0, .int .i64 15])) w' :=
  ⟨zeroST, [], none, none, none, 0, 0, 0, 15, .inl ⟨hl, rfl, rfl, rfl⟩, rfl, zero_str _ _, ⟨rfl, fun h => absurd h (by decide)⟩, hb⟩
set_option maxHeartbeats 4000000 in
theorem playQ_any (A : Option Addr) (n c : Nat) (l : List EV) (w : World) (h : EvsR w w.heap.size A l) (hn : n = l.length) : Calls Try.prog 15 #[.slice A n c] w (PlQ l w) := by
  by_cases h2 : n ≤ 2000
  · exact (play_any A n c l w h hn h2).mono fun e w' hp => plQ_of (by omega) hp
  · have h1 : (2000 : Int) < (n : Int) := by omega
    have HN := Lib.hid hn
    clear h hn
    go_enter Try.func15, Try.ntmps15
    go_wp2_with fail
    refine bodyPost_ret (v := .tuple #[stV (.slice none 0 0) (.slice none 0 0) zeroST, .slice none 0 0, .int .i64 15]) (by simp [results, Try.results15, go_sem, zeroST]) rfl ?_
    exact plQ_full (by have := HN.out; omega) (al _)
set_option maxHeartbeats 4000000 in
theorem refPlayQ_any (A : Option Addr) (n c : Nat) (l : List EV) (w : World) (h : EvsR w w.heap.size A l) (hn : n = l.length) : Calls Try.prog 16 #[.slice A n c] w (PlQ l w) := by
  by_cases h2 : n ≤ 2000
  · exact (refPlay_any A n c l w h hn h2).mono fun e w' hp => plQ_of (by omega) hp
  · have h1 : (2000 : Int) < (n : Int) := by omega
    have HN := Lib.hid hn
    clear h hn
    go_enter Try.func16, Try.ntmps16
    go_wp2_with fail
    refine bodyPost_ret (v := .tuple #[stV (.slice none 0 0) (.slice none 0 0) zeroST, .slice none 0 0, .int .i64 15]) (by simp [results, Try.results16, go_sem, zeroST]) rfl ?_
    exact plQ_full (by have := HN.out; omega) (al _)
end Go.Proofs.Ytapofohbngkekaa
