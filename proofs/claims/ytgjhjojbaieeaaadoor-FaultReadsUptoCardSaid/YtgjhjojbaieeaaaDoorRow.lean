/- Rows of the call's own, more: what stays; 'string(b)'. Conditions: none. -/
import Derived.Test.YtgjhjojbaieeaaaDoorBase
import Derived.Test.YtgjhjojbaieeaaaDoorBytes
import Derived.Handy
import Derived.Laws.BitsAllLaws
import Derived.Laws.BytesArg
import Derived.Laws.BitsLemmas
set_option maxRecDepth 20000
namespace Go.Proofs.YtgjhjojbaieeaaaDoor
open Go.ChangeShapes Go.WideShapes Go.ChangeAt Go.RowKit
theorem below_grown {B base size n : Nat} {e : TypeId} {W w w' : World} {v : Value} {xs : List Value} (hb : Below B W w) (hw : B ≤ w.heap.size) (hown : w.ownsRow base e size v n xs) (hB : B ≤ base) (hg : w.grownBy w' v.ownBlock) : Below B W w' :=
  hb.grown hg hw fun k hk => Nat.le_trans hB (hown.lt k hk).1
theorem info_u8 : (Tryd.prog.info? 5).map (fun i => (i.zero, i.size, i.bytes)) = some (some (.int .u8 0), 1, 1) := by kernel_rfl
theorem own_below {base size n : Nat} {e : TypeId} {w w' : World} {v : Value} {xs : List Value} (h : w.ownsRow base e size v n xs) (hb : Below w.heap.size w w') : w'.ownsRow base e size v n xs :=
  h.kept (row := none) ⟨hb.os, hb.tape, hb.output, hb.size, fun k hk _ => hb.block k hk⟩ (by cases hv : v.ownBlock <;> simp)
/-- 'string(b)' of a slice that reads as numbers. -/
theorem run_str_rd {P : Program} {w : World} {B n c : Nat} {A : Option Addr} {zs : List Int} (h : Rd w B 1 A n (zs.map (Value.int .u8))) (src e dst : TypeId) (hs : P.underlying src = some (.slice e)) (he : P.underlying e = some (.int .u8)) (hd : P.underlying dst = some .string) :
    (convert src dst (.slice A n c)).run P w = .ok (.string (strOfNums zs)) w := by
  have hl := h.1
  simp at hl
  rcases Nat.eq_zero_or_pos n with rfl | hn
  · have hz : zs = [] := List.eq_nil_of_length_eq_zero hl
    subst hz
    rcases A with _ | ad
    · rw [run_convert_bytes_nil w src e hs he 0 c dst hd]; rfl
    · rw [run_convert_bytes_string w src dst e _ 0 c hs he hd, run_bytesToString w ad 0 c [] (by simp [loadCells, loadCellsFrom])]; rfl
  · obtain ⟨b, off, rfl, _, hc⟩ := h.2 hn
    exact run_convert_bytes_arg w src e hs he b off n c zs hl (fun i hi => by
      refine hc i _ ?_
      rw [List.getElem?_map, List.getElem?_eq_getElem (by omega)]
      simp [List.getD, List.getElem?_eq_getElem (show i < zs.length by omega)]) dst hd
/-- Bytes, as values. -/
def u8s (l : List Nat) : List Value := (l.map Int.ofNat).map (Value.int .u8)
theorem u8s_one (l : List Nat) : ∀ u ∈ u8s l, u.oneCell' = true := by
  intro u hu
  obtain ⟨_, _, rfl⟩ := List.mem_map.1 hu
  rfl
@[simp] theorem u8s_len (l : List Nat) : (u8s l).length = l.length := by simp [u8s]
@[simp] theorem u8s_app (l m : List Nat) : u8s (l ++ m) = u8s l ++ u8s m := by simp [u8s]
@[simp] theorem u8s_cons (a : Nat) (m : List Nat) : u8s (a :: m) = .int .u8 (a : Int) :: u8s m := by simp [u8s]
theorem u8s_nil : u8s [] = [] := rfl
/-- 'string(b)' of bytes. -/
theorem run_str_u8s {P : Program} {w : World} {B n c : Nat} {A : Option Addr} {l : List Nat} (h : Rd w B 1 A n (u8s l)) (src e dst : TypeId) (hs : P.underlying src = some (.slice e)) (he : P.underlying e = some (.int .u8)) (hd : P.underlying dst = some .string) :
    (convert src dst (.slice A n c)).run P w = .ok (.string (strOf l)) w := run_str_rd h src e dst hs he hd
theorem Rd.lit1' (w : World) (u : Value) (t : TypeId) (g : Nat) (hg : g = w.heap.size) : Rd (w.alloc (.cells #[u] t)) (w.heap.size + 1) 1 (some ⟨g, 0, none⟩) 1 [u] := by subst hg; exact Rd.lit1 w u t
theorem quiet_of2 {P : Program} {f : FuncId} {args : Array Value} {w : World} {q n : Nat} {v : Value}
    (h : Calls P f args (w.drewN (q + n)) fun e w' => e = .returned v ∧ ∃ m, w' = (w.drewN (q + n)).drewN m) : Calls P f args (w.drewN (q + n)) fun e w'' => e = .returned v ∧ ∃ m, w'' = w.drewN (q + m) :=
  h.mono fun _ _ ⟨he, m, hm⟩ => ⟨he, n + m, by rw [hm, World.drewN_drewN, Nat.add_assoc]⟩
end Go.Proofs.YtgjhjojbaieeaaaDoor
