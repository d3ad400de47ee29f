/- The document's 'goOn', whatever is left. Conditions: what holds of all states that are come to. -/
import Derived.Test.YtapofohbngkekaaPnK
import Derived.Test.YtapofohbngkekaaPoB
import Derived.Test.YtapofohbngkekaaPoE
set_option maxRecDepth 100000
namespace Go.Proofs.Ytapofohbngkekaa
open Go.ChangeShapes Go.WideShapes Go.ChangeAt Go.RowKit
theorem goOn_any (a0 b0 : Nat) (hb0 : b0 ≤ 100000) (ha0 : a0 ≤ 1000000) : ∀ (m : Nat) (FA PA : Option Addr) (nf fc np pc : Nat) (s : ST) (M : Nat → Prop) (w : World), s.fr.length = m → Bd a0 b0 s → Gv s → STm w M (.slice FA nf fc) (.slice PA np pc) s → (∀ b, M b → b < w.heap.size) →
    Calls Try.prog 50 #[stV (.slice FA nf fc) (.slice PA np pc) s] w (GoP s M w) := by
  intro m
  induction m using Nat.strongRecOn with
  | _ m ih =>
  intro FA PA nf fc np pc s M w hm hbd hgv hsm hM
  obtain ⟨fs, f, hf, htop⟩ := hgv.top
  by_cases hd : f.ds.length = 0
  · rcases htop with ⟨hp, _⟩ | ⟨hp, _⟩
    · exact goOn_nil1 FA PA nf fc np pc s fs f M w hsm hM hf a0 b0 hbd hgv hb0 hd hp fun FA' PA' nf' fc' np' pc' s' M' w' h1 h2 h3 h4 h5 => ih s'.fr.length (by omega) FA' PA' nf' fc' np' pc' s' M' w' rfl h2 h3 h4 h5
    · exact goOn_nil2 FA PA nf fc np pc s fs f M w hsm hM hf a0 b0 hbd hgv hb0 hd hp fun FA' PA' nf' fc' np' pc' s' M' w' h1 h2 h3 h4 h5 => ih s'.fr.length (by omega) FA' PA' nf' fc' np' pc' s' M' w' rfl h2 h3 h4 h5
  · have hnp : np = s.pn.length := by
      obtain ⟨_, ⟨A, c, e, _⟩⟩ := hsm
      injection e
    have hnf : nf = s.fr.length := by
      obtain ⟨⟨A, c, ds, e, _⟩, _⟩ := hsm
      injection e
    refine goOn_start FA PA nf fc np pc s fs f M w hsm hM hf hd (by have := hbd.fr; omega) (Nat.le_trans (hbd.ds f (by rw [hf]; simp)).1 hb0) (by rw [hnp]; exact Nat.le_trans hbd.pn hb0) (Nat.le_trans hbd.next ha0) fun hp => ?_
    rcases htop with ⟨h, _⟩ | ⟨_, x, h⟩
    · omega
    · obtain ⟨p, hp, _⟩ := h.last
      intro h0
      rw [List.eq_nil_of_length_eq_zero h0] at hp
      cases hp
end Go.Proofs.Ytapofohbngkekaa
