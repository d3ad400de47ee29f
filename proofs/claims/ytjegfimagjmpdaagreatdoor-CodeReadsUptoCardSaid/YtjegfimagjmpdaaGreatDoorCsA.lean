/- 'code.line'. Conditions: none. -/
import Derived.Test.YtjegfimagjmpdaaGreatDoorCsW
import Derived.Test.YtjegfimagjmpdaaGreatDoorIpA
import Derived.Test.YtjegfimagjmpdaaGreatDoorTx
set_option maxRecDepth 100000
namespace Go.Proofs.YtjegfimagjmpdaaGreatDoor
open Go.ChangeShapes Go.WideShapes Go.ChangeAt Go.RowKit
def dL (n : Int) : List UInt8 := (decS n).data.toList
/-- Numbers, each with a blank ahead. -/
def blL (l : List Int) : List UInt8 := l.flatMap fun n => 32 :: dL n
def lnL (i : II) : List UInt8 := [32, 32] ++ wordL i.o.toNat ++ blL [i.a, i.b, i.c, i.d, i.e] ++ [10]
theorem decS_data (n : Int) : (decS n).data.toList = (decL n).map UInt8.ofNat := by unfold decS; rw [strOf_eq]
theorem dL_len (n : Int) (hn : -9223372036854775808 ≤ n ∧ n ≤ 9223372036854775807) : (dL n).length ≤ 20 := by
  have h1 := decL_len hn
  have h2 := congrArg List.length (decS_data n)
  unfold dL
  rw [h2, List.length_map]
  exact h1
theorem blL_len (l : List Int) (h : ∀ z ∈ l, -9223372036854775808 ≤ z ∧ z ≤ 9223372036854775807) : (blL l).length ≤ 21 * l.length := by
  induction l with
  | nil => simp [blL]
  | cons a r ih =>
    have h1 := dL_len a (h a (by simp))
    have h2 := ih fun z hz => h z (by simp [hz])
    have e : blL (a :: r) = 32 :: dL a ++ blL r := rfl
    rw [e, List.length_append, List.length_cons, List.length_cons]
    omega
theorem blL_snoc (l : List Int) (k : Nat) {z : Int} (h : l[k]? = some z) : blL (l.take (k + 1)) = blL (l.take k) ++ (32 :: dL z) := by
  unfold blL
  rw [List.take_add_one, h, List.flatMap_append]
  simp
theorem run_num5 (a b c d e : Int) : ∀ (k : Nat), k < 5 → ∀ w : World, (Instr.index 73 (.agg #[.int .i64 a, .int .i64 b, .int .i64 c, .int .i64 d, .int .i64 e]) (.int .i64 (k : Int))).run Tryz.prog w = .ok (.int .i64 ([a, b, c, d, e].getD k 0)) w
  | 0, _ => fun w => by kernel_rfl
  | 1, _ => fun w => by kernel_rfl
  | 2, _ => fun w => by kernel_rfl
  | 3, _ => fun w => by kernel_rfl
  | 4, _ => fun w => by kernel_rfl
  | k + 5, h => absurd h (by omega)
theorem run_num3 (a b c : Int) : ∀ (k : Nat), k < 3 → ∀ w : World, (Instr.index 65 (.agg #[.int .i64 a, .int .i64 b, .int .i64 c]) (.int .i64 (k : Int))).run Tryz.prog w = .ok (.int .i64 ([a, b, c].getD k 0)) w
  | 0, _ => fun w => by kernel_rfl
  | 1, _ => fun w => by kernel_rfl
  | 2, _ => fun w => by kernel_rfl
  | k + 3, h => absurd h (by omega)
set_option maxHeartbeats 4000000 in
theorem codeLine_any (o a b c d e : Int) (w : World) (ho : 1 ≤ o ∧ o ≤ 41) (hz : ∀ z ∈ [a, b, c, d, e], -9223372036854775808 ≤ z ∧ z ≤ 9223372036854775807) :
    Calls Tryz.prog 25 #[.agg #[.int .i64 o, .int .i64 a, .int .i64 b, .int .i64 c, .int .i64 d, .int .i64 e]] w fun r w' => r = .returned (.string ⟨(lnL ⟨o, a, b, c, d, e⟩).toArray⟩) ∧ Below w.heap.size w w' := by
  obtain ⟨q, hq⟩ : ∃ q : Nat, (q : Int) = o := ⟨o.toNat, by omega⟩
  subst hq
  have HZ := Lib.hid hz
  have hix := run_word q (by omega) (by omega)
  have hwl := word_len q (by omega)
  have HLN := Lib.hid (show lnL ⟨(q : Int), a, b, c, d, e⟩ = 32 :: 32 :: wordL q ++ blL [a, b, c, d, e] ++ [10] from rfl)
  clear hz
  generalize wordL q = wd at *
  go_enter Tryz.func25, Tryz.ntmps25
  go_wp2_with fail
  generalize hW : w.alloc (.cells #[.int .i64 (q : Int), .int .i64 a, .int .i64 b, .int .i64 c, .int .i64 d, .int .i64 e] 47) = W
  have HWB := Lib.hid (show Below w.heap.size w W by subst hW; exact al _)
  have hlt : w.heap.size < W.heap.size := by subst hW; simp
  have HC := Lib.hid (show ∀ j u, [Value.int .i64 (q : Int), .int .i64 a, .int .i64 b, .int .i64 c, .int .i64 d, .int .i64 e][j]? = some u → W.cell? ⟨w.heap.size, j, none⟩ = some u by
    subst hW
    intro j u hu
    rw [cell_of_row _ w.heap.size j _ _ (0, 0) (heap_alloc_new w _)]
    simpa using hu)
  clear hW
  have t0 : ∀ T : WB W, T.val.cell? ⟨w.heap.size, 0, none⟩ = some (.int .i64 (q : Int)) := fun T => (T.bel.cell (p := ⟨w.heap.size, 0, none⟩) hlt).trans (HC.out 0 _ rfl)
  (refine wp_region_wb (by kernel_rfl) (by kernel_rfl) ?_; (repeat (first | go_big_quiet_step ((go_at_call 19; exact quietB (codeWords_any _))) | quiet_step ((go_at_call 19; exact quietB (codeWords_any _))))); refine wpQuiet_nil ?_; intro _ hw'; obtain ⟨⟨wq, hbq⟩, hw''⟩ := hw'; subst hw''; (try simp only))
  clear hix
  have HBQ := Lib.hid (HWB.out.trans (hbq.mono HWB.out.size))
  have HCQ := Lib.hid (fun j u hu => (hbq.cell (p := ⟨w.heap.size, j, none⟩) hlt).trans (HC.out j u hu))
  clear t0 hbq
  rename_i wq
  have e1 := HCQ.out 1 _ rfl
  have e2 := HCQ.out 2 _ rfl
  have e3 := HCQ.out 3 _ rfl
  have e4 := HCQ.out 4 _ rfl
  have e5 := HCQ.out 5 _ rfl
  have hlw : ({ data := #[32, 32] } ++ { data := wd.toArray } : ByteArray) = ⟨(32 :: 32 :: wd).toArray⟩ := by apply ByteArray.ext; simp
  rw [hlw]
  go_wp2_with fail
  clear e1 e2 e3 e4 e5 hlw
  go_loopw [3, 22] (fun s v wr => ∃ k : Nat, v = .int .i64 (k : Int) ∧ k ≤ 5 ∧ s = .string ⟨(32 :: 32 :: wd ++ blL ([a, b, c, d, e].take k)).toArray⟩ ∧ Below wq.heap.size wq wr) (fun _ v _ => 5 - (intOf v).toNat)
  case atStart => exact ⟨0, rfl, by omega, by simp [blL], Below.refl _ _⟩
  case round =>
    obtain ⟨k, rfl, hk, rfl, hbel⟩ := hrel
    have HBE := Lib.hid hbel
    by_cases hlt5 : k < 5
    · have hki : (k : Int) < 5 := by omega
      have hix := run_num5 a b c d e k hlt5
      have hkl : k < [a, b, c, d, e].length := by simpa using hlt5
      have hz : [a, b, c, d, e].getD k 0 = [a, b, c, d, e][k] := by simp [List.getD, List.getElem?_eq_getElem hkl]
      have HZK := Lib.hid (HZ.out _ (List.getElem_mem hkl))
      have HSN := Lib.hid (blL_snoc [a, b, c, d, e] k (List.getElem?_eq_getElem hkl))
      have hbl := blL_len ([a, b, c, d, e].take k) (fun z hz => HZ.out z (List.mem_of_mem_take hz))
      rw [hz] at hix
      clear hz
      have hlk : ([a, b, c, d, e].take k).length ≤ 5 := by rw [List.length_take]; simp; omega
      obtain ⟨L, hL⟩ : ∃ L, L = 32 :: 32 :: wd ++ blL ([a, b, c, d, e].take k) := ⟨_, rfl⟩
      have hLl : L.length ≤ 120 := by rw [hL, List.length_append]; simp; omega
      rw [← hL]
      have HLL := Lib.hid hL
      clear hL hbl hlk
      generalize [a, b, c, d, e][k] = z at *
      obtain ⟨T, hT⟩ : ∃ T : ByteArray, T = ⟨L.toArray⟩ := ⟨_, rfl⟩
      have hTs : T.size ≤ 120 := by rw [hT]; show L.toArray.size ≤ _; simpa using hLl
      rw [← hT]
      have HT := Lib.hid hT
      clear hT hLl hkl
      go_wp2_with fail
      refine Calls.mono (wordText_any z HZK.out _) ?_
      rintro r w5 ⟨rfl, hb5⟩
      have HB5 := Lib.hid (HBE.out.trans (hb5.mono HBE.out.size))
      have HD := Lib.hid (show dL z = (decS z).data.toList from rfl)
      have hds : (decS z).size ≤ 20 := dL_len z HZK.out
      clear hb5
      generalize decS z = D at *
      have hs1 : ((⟨#[32]⟩ : ByteArray) ++ D).size = 1 + D.size := by simp; rfl
      go_wp2_with fail
      go_roundw
      case rel =>
        refine ⟨k + 1, by go_num, by omega, ?_, HB5.out⟩
        rw [HSN.out, HD.out, ← List.append_assoc, ← HLL.out, HT.out]
        congr 1
      case measure => simp [intOf]; omega
    · obtain rfl : k = 5 := by omega
      have hbl := blL_len [a, b, c, d, e] HZ.out
      have HT := Lib.hid (show [a, b, c, d, e].take 5 = [a, b, c, d, e] from rfl)
      rw [HT.out]
      obtain ⟨L, hL⟩ : ∃ L, L = 32 :: 32 :: wd ++ blL [a, b, c, d, e] := ⟨_, rfl⟩
      have hLl : L.length ≤ 120 := by rw [hL, List.length_append]; simp at hbl ⊢; omega
      rw [← hL]
      have HLL := Lib.hid hL
      clear hL hbl
      obtain ⟨T, hT⟩ : ∃ T : ByteArray, T = ⟨L.toArray⟩ := ⟨_, rfl⟩
      have hTs : T.size ≤ 120 := by rw [hT]; show L.toArray.size ≤ _; simpa using hLl
      rw [← hT]
      have HT2 := Lib.hid hT
      clear hT hLl
      rw [show ((5 : Nat) : Int) = 5 from rfl] at *
      go_wp2_with fail
      go_ret
      refine ⟨?_, HBQ.out.trans (HBE.out.mono HBQ.out.size)⟩
      rw [HLN.out, ← HLL.out, HT2.out]
      have e1 : ((⟨L.toArray⟩ : ByteArray) ++ ⟨#[10]⟩) = ⟨(L ++ [10]).toArray⟩ := by apply ByteArray.ext; simp
      rw [← e1]
      rfl
end Go.Proofs.YtjegfimagjmpdaaGreatDoor
