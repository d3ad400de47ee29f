/- 'types.Func' and the document's FuncType answer alike. Conditions: none. -/
import Derived.Test.YtmbljapjecclaabTyLaws
import Derived.Test.YtmbljapjecclaabStrs
set_option maxRecDepth 20000
namespace Go.Proofs.Ytmbljapjecclaab
open Go.ChangeShapes Go.WideShapes Go.ChangeAt Go.RowKit
/-- Texts, each behind a comma. -/
def cf (l : List ByteArray) : List UInt8 := l.flatMap fun p => 44 :: p.data.toList
theorem cf_snoc (l : List ByteArray) (p : ByteArray) : cf (l ++ [p]) = cf l ++ 44 :: p.data.toList := by simp [cf]
/-- Texts with commas between them. -/
def cj (l : List ByteArray) : List UInt8 := (cf l).drop 1
theorem cf_pos {l : List ByteArray} (h : l ≠ []) : 0 < (cf l).length := by
  cases l with
  | nil => exact absurd rfl h
  | cons p r => simp [cf]
theorem cj_first (p : ByteArray) : cj ([] ++ [p]) = p.data.toList := by simp [cj, cf]
theorem cj_snoc {l : List ByteArray} (h : l ≠ []) (p : ByteArray) : cj (l ++ [p]) = cj l ++ 44 :: p.data.toList := by
  have := cf_pos h
  unfold cj
  rw [cf_snoc, List.drop_append_of_le_length (by omega)]
theorem cf_len {l : List ByteArray} (h : ∀ p ∈ l, p.size ≤ 100) : (cf l).length ≤ 101 * l.length := by
  induction l with
  | nil => simp [cf]
  | cons p r ih =>
    have h1 := ih fun q hq => h q (List.mem_cons_of_mem _ hq)
    have h2 : p.data.toList.length ≤ 100 := h p (by simp)
    have e : cf (p :: r) = 44 :: p.data.toList ++ cf r := by simp [cf]
    rw [e]
    simp only [List.length_append, List.length_cons]
    omega
/-- The text of a function's type. -/
def fnT (l : List ByteArray) (r : ByteArray) : List UInt8 := [102, 117, 110, 99, 40] ++ cj l ++ [41] ++ r.data.toList
/-- What Func answers. -/
def fnV (l : List ByteArray) (r : ByteArray) : Value :=
  if 4 < l.length then .tuple #[.string ⟨#[]⟩, .int .i64 15] else if l.all tyOk = false then .tuple #[.string ⟨#[]⟩, .int .i64 9] else if (!(decide (r.size = 0)) && !(tyOk r)) = true then .tuple #[.string ⟨#[]⟩, .int .i64 9] else
  if 100 < (fnT l r).length then .tuple #[.string ⟨#[]⟩, .int .i64 1] else .tuple #[.string ⟨(fnT l r).toArray⟩, .int .i64 0]
theorem fnV_form (l : List ByteArray) (r : ByteArray) : ∃ (x : ByteArray) (z : Int), fnV l r = .tuple #[.string x, .int .i64 z] := by
  unfold fnV
  split
  · exact ⟨_, _, rfl⟩
  · split
    · exact ⟨_, _, rfl⟩
    · split
      · exact ⟨_, _, rfl⟩
      · split <;> exact ⟨_, _, rfl⟩
theorem fnV_long {l : List ByteArray} {r : ByteArray} (h : 4 < l.length) : fnV l r = .tuple #[.string ⟨#[]⟩, .int .i64 15] := by unfold fnV; rw [if_pos h]
theorem fnV_bad {l : List ByteArray} {r : ByteArray} (h : ¬ 4 < l.length) {k : Nat} {p : ByteArray} (hk : l[k]? = some p) (hp : tyOk p = false) : fnV l r = .tuple #[.string ⟨#[]⟩, .int .i64 9] := by
  unfold fnV
  have : l.all tyOk = false := by
    rw [List.all_eq_false]
    exact ⟨p, List.mem_of_getElem? hk, by simp [hp]⟩
  rw [if_neg h, if_pos this]
theorem fnV_res {l : List ByteArray} {r : ByteArray} (h : ¬ 4 < l.length) (hl : l.all tyOk = true) (hr : r.size ≠ 0) (ho : tyOk r = false) : fnV l r = .tuple #[.string ⟨#[]⟩, .int .i64 9] := by
  unfold fnV
  rw [if_neg h, if_neg (by rw [hl]; simp), if_pos (by simp [hr, ho])]
theorem fnV_end {l : List ByteArray} {r : ByteArray} (h : ¬ 4 < l.length) (hl : l.all tyOk = true) (hr : r.size = 0 ∨ tyOk r = true) {T : ByteArray} (hT : T = ⟨(fnT l r).toArray⟩) : fnV l r = if 100 < T.size then .tuple #[.string ⟨#[]⟩, .int .i64 1] else .tuple #[.string T, .int .i64 0] := by
  subst hT
  unfold fnV
  rw [if_neg h, if_neg (by rw [hl]; simp), if_neg (by rcases hr with hr | hr <;> simp [hr])]
  rfl
theorem fnV_fin {l : List ByteArray} {r T : ByteArray} {x : Value} (h : fnV l r = if 100 < T.size then .tuple #[.string ⟨#[]⟩, .int .i64 1] else x) (hT : 100 < T.size) : fnV l r = .tuple #[.string ⟨#[]⟩, .int .i64 1] := by rw [h, if_pos hT]
theorem fnV_fin' {l : List ByteArray} {r T : ByteArray} {x : Value} (h : fnV l r = if 100 < T.size then .tuple #[.string ⟨#[]⟩, .int .i64 1] else x) (hT : ¬ 100 < T.size) : fnV l r = x := by rw [h, if_neg hT]
theorem tyOk_size {p : ByteArray} (h : tyOk p = true) : p.size ≤ 100 := by
  unfold tyOk at h
  rw [Bool.and_eq_true, decide_eq_true_iff] at h
  exact h.1
theorem all_snoc {l : List ByteArray} {k : Nat} {p : ByteArray} (hk : l[k]? = some p) (h : (l.take k).all tyOk = true) (hp : tyOk p = true) : (l.take (k + 1)).all tyOk = true := by
  rw [List.take_add_one, hk, List.all_append, h]
  simp [hp]
theorem mkl (T : ByteArray) (l : List UInt8) (h : T = ⟨l.toArray⟩) : T.size = l.length := by subst h; rfl
theorem mk_of (p : ByteArray) : p = ⟨p.data.toList.toArray⟩ := by simp
theorem mk_app' (a b : ByteArray) : a ++ b = ⟨(a.data.toList ++ b.data.toList).toArray⟩ := by apply ByteArray.ext; simp
set_option maxHeartbeats 1000000 in
theorem func_any (A : Option Addr) (n c : Nat) (l : List ByteArray) (hn : n = l.length) (r : ByteArray) (w : World) (hr : Rd w w.heap.size 1 A n (l.map Value.string)) (hl : ∀ s ∈ l, s.size ≤ 140737488351232) (hrs : r.size ≤ 140737488351232) (hnl : n ≤ 140737488351232) :
    Calls Try.prog 29 #[.slice A n c, .string r] w fun e w' => e = .returned (fnV l r) ∧ Below w.heap.size w w' := by
  have HN := Lib.hid hn
  have HR := Lib.hid hr
  have HL := Lib.hid hl
  clear hn hr hl
  by_cases h4 : 4 < n
  · have HF := Lib.hid (fnV_long (r := r) (show 4 < l.length by have := HN.out; omega))
    go_enter Try.func29, Try.ntmps29
    go_wp2_with fail
    go_returns
    exact ⟨by rw [HF.out]; rfl, Below.refl _ _⟩
  · go_enter Try.func29, Try.ntmps29
    go_wp2_with fail
    have h4' : ¬ 4 < l.length := by have := HN.out; omega
    go_loopw [6, 14] (fun s i wr => ∃ (k : Nat) (T : ByteArray), i = .int .i64 (k : Int) ∧ k ≤ n ∧ s = .string T ∧ Hid (T = ⟨([102, 117, 110, 99, 40] ++ cj (l.take k)).toArray⟩ ∧ (l.take k).all tyOk = true) ∧ Below w.heap.size w wr) (fun _ i _ => n - (intOf i).toNat)
    case atStart => exact ⟨0, _, rfl, by omega, rfl, Lib.hid ⟨rfl, rfl⟩, Below.refl _ _⟩
    case round =>
      obtain ⟨k, T, rfl, hk, rfl, HT, hbel⟩ := hrel
      have hTs : T.size ≤ 600 := by
        have h1 := mkl _ _ HT.out.1
        have h2 := cf_len (l := l.take k) (fun p hp => tyOk_size (List.all_eq_true.1 HT.out.2 p hp))
        have h3 : (l.take k).length ≤ 4 := by rw [List.length_take]; have := HN.out; omega
        rw [h1]
        simp only [List.length_append, cj, List.length_drop, List.length_cons, List.length_nil]
        omega
      have HB := Lib.hid hbel
      by_cases hlt : k < n
      · obtain ⟨b, off, u, rfl, hb, hu, hc⟩ := HR.out.at1 hlt
        rw [List.getElem?_map, Option.map_eq_some_iff] at hu
        obtain ⟨p, hp, rfl⟩ := hu
        have hps := HL.out p (List.mem_of_getElem? hp)
        rw [← hbel.cell (p := ⟨b, _, none⟩) hb] at hc
        have HP := Lib.hid hp
        clear hp hbel
        cases hv : tyOk p
        · have HF := Lib.hid (fnV_bad (r := r) h4' HP.out hv)
          have HV := Lib.hid hv
          clear hv
          go_wp2_with fail
          refine (typesValid_any p _ hps).mono ?_
          rintro e w2 ⟨rfl, b2⟩
          rw [HV.out]
          go_wp2_with fail
          go_returns
          exact ⟨by rw [HF.out]; rfl, sq HB.out b2⟩
        · have hpl := tyOk_size hv
          have HA := Lib.hid (all_snoc HP.out HT.out.2 hv)
          have HV := Lib.hid hv
          clear hv
          have hlen : (l.take k).length = k := by rw [List.length_take]; have := HN.out; omega
          by_cases hk0 : k = 0
          · subst hk0
            have hE := Lib.hid (show T ++ p = ⟨([102, 117, 110, 99, 40] ++ cj (l.take (0 + 1))).toArray⟩ by
              rw [HT.out.1, mk_app', List.take_add_one, HP.out]; simp [cj, cf])
            clear hlen
            rw [show ((0 : Nat) : Int) = 0 from rfl]
            rw [Nat.add_zero] at hc
            go_wp2_with fail
            refine (typesValid_any p _ hps).mono ?_
            rintro e w2 ⟨rfl, b2⟩
            rw [HV.out]
            go_wp2_with fail
            go_roundw
            case rel => exact ⟨0 + 1, _, by go_num, by omega, rfl, Lib.hid ⟨hE.out, HA.out⟩, sq HB.out b2⟩
            case measure => simp [intOf]; omega
          · have hne : l.take k ≠ [] := by intro e; rw [e] at hlen; simp at hlen; omega
            have hE := Lib.hid (show T ++ ⟨#[44]⟩ ++ p = ⟨([102, 117, 110, 99, 40] ++ cj (l.take (k + 1))).toArray⟩ by
              rw [HT.out.1, List.take_add_one, HP.out, Option.toList_some, cj_snoc hne, mk_app', mk_app']; simp)
            have hgt : decide ((0 : Int) < (k : Int)) = true := decide_eq_true (by omega)
            clear hlen hne
            go_wp2_with fail
            refine (typesValid_any p _ hps).mono ?_
            rintro e w2 ⟨rfl, b2⟩
            rw [HV.out]
            go_wp2_with fail
            go_roundw
            case rel => exact ⟨k + 1, _, by go_num, by omega, rfl, Lib.hid ⟨hE.out, HA.out⟩, sq HB.out b2⟩
            case measure => simp [intOf]; omega
      · have hall := Lib.hid (show l.all tyOk = true by have := HT.out.2; rwa [List.take_of_length_le (by have := HN.out; omega)] at this)
        have hTe := Lib.hid (show T ++ (⟨#[41]⟩ ++ r) = ⟨(fnT l r).toArray⟩ from by rw [HT.out.1, List.take_of_length_le (by have := HN.out; omega)]; unfold fnT; rw [mk_app', mk_app']; simp)
        have hsz : (T ++ (⟨#[41]⟩ ++ r)).size = T.size + (1 + r.size) := by rw [ByteArray.size_append, ByteArray.size_append]; rfl
        have he0 := empty_iff r
        by_cases hr0 : r.size = 0
        · rw [decide_eq_true hr0] at he0
          have he1 : r.toList = [] := by simpa using he0
          have he2 : r.toList.isEmpty = true := by simp [he1]
          have HF := Lib.hid (fnV_end h4' hall.out (.inl hr0) hTe.out)
          clear hr0
          by_cases hlong : 100 < (T ++ (⟨#[41]⟩ ++ r)).size
          · have HG := Lib.hid (fnV_fin HF.out hlong)
            have hd : decide ((100 : Int) < (T.size : Int) + (1 + (r.size : Int))) = true := decide_eq_true (by rw [hsz] at hlong; omega)
            go_wp2_with fail
            go_returns
            exact ⟨by rw [HG.out]; rfl, HB.out⟩
          · have HG := Lib.hid (fnV_fin' HF.out hlong)
            have hd : decide ((100 : Int) < (T.size : Int) + (1 + (r.size : Int))) = false := decide_eq_false (by rw [hsz] at hlong; omega)
            go_wp2_with fail
            go_returns
            exact ⟨by rw [HG.out]; rfl, HB.out⟩
        · have he2 : r.toList.isEmpty = false := by
            rw [decide_eq_false hr0] at he0
            cases h : r.toList with
            | nil => rw [h] at he0; simp at he0
            | cons _ _ => rfl
          rw [decide_eq_false hr0] at he0
          cases hv : tyOk r
          · have HF := Lib.hid (fnV_res h4' hall.out hr0 hv)
            have HV := Lib.hid hv
            clear hv
            go_wp2_with fail
            refine (typesValid_any r _ hrs).mono ?_
            rintro e w2 ⟨rfl, b2⟩
            rw [HV.out]
            go_wp2_with fail
            go_returns
            exact ⟨by rw [HF.out]; rfl, sq HB.out b2⟩
          · have HF := Lib.hid (fnV_end h4' hall.out (.inr hv) hTe.out)
            have hrl := tyOk_size hv
            have HV := Lib.hid hv
            clear hv
            go_wp2_with fail
            refine (typesValid_any r _ hrs).mono ?_
            rintro e w2 ⟨rfl, b2⟩
            rw [HV.out]
            by_cases hlong : 100 < (T ++ (⟨#[41]⟩ ++ r)).size
            · have HG := Lib.hid (fnV_fin HF.out hlong)
              have hd : decide ((100 : Int) < (T.size : Int) + (1 + (r.size : Int))) = true := decide_eq_true (by rw [hsz] at hlong; omega)
              go_wp2_with fail
              go_returns
              exact ⟨by rw [HG.out]; rfl, sq HB.out b2⟩
            · have HG := Lib.hid (fnV_fin' HF.out hlong)
              have hd : decide ((100 : Int) < (T.size : Int) + (1 + (r.size : Int))) = false := decide_eq_false (by rw [hsz] at hlong; omega)
              go_wp2_with fail
              go_returns
              exact ⟨by rw [HG.out]; rfl, sq HB.out b2⟩
set_option maxHeartbeats 1000000 in
theorem refFunc_any (A : Option Addr) (n c : Nat) (l : List ByteArray) (hn : n = l.length) (r : ByteArray) (w : World) (hr : Rd w w.heap.size 1 A n (l.map Value.string)) (hl : ∀ s ∈ l, s.size ≤ 140737488351232) (hrs : r.size ≤ 140737488351232) (hnl : n ≤ 140737488351232) :
    Calls Try.prog 30 #[.slice A n c, .string r] w fun e w' => e = .returned (fnV l r) ∧ Below w.heap.size w w' := by
  have HN := Lib.hid hn
  have HR := Lib.hid hr
  have HL := Lib.hid hl
  clear hn hr hl
  by_cases h4 : 4 < n
  · have HF := Lib.hid (fnV_long (r := r) (show 4 < l.length by have := HN.out; omega))
    go_enter Try.func30, Try.ntmps30
    go_wp2_with fail
    go_returns
    exact ⟨by rw [HF.out]; rfl, Below.refl _ _⟩
  · go_enter Try.func30, Try.ntmps30
    go_wp2_with fail
    have h4' : ¬ 4 < l.length := by have := HN.out; omega
    go_loopw [6, 7] (fun s i wr => ∃ (k : Nat) (T : ByteArray), i = .int .i64 (k : Int) ∧ k ≤ n ∧ s = .string T ∧ Hid (T = ⟨(cf (l.take k)).toArray⟩ ∧ (l.take k).all tyOk = true) ∧ Below w.heap.size w wr) (fun _ i _ => n - (intOf i).toNat)
    case atStart => exact ⟨0, _, rfl, by omega, rfl, Lib.hid ⟨rfl, rfl⟩, Below.refl _ _⟩
    case round =>
      obtain ⟨k, T, rfl, hk, rfl, HT, hbel⟩ := hrel
      have hTs : T.size ≤ 600 := by
        have h1 := mkl _ _ HT.out.1
        have h2 := cf_len (l := l.take k) (fun p hp => tyOk_size (List.all_eq_true.1 HT.out.2 p hp))
        have h3 : (l.take k).length ≤ 4 := by rw [List.length_take]; have := HN.out; omega
        rw [h1]
        omega
      have HB := Lib.hid hbel
      by_cases hlt : k < n
      · obtain ⟨b, off, u, rfl, hb, hu, hc⟩ := HR.out.at1 hlt
        rw [List.getElem?_map, Option.map_eq_some_iff] at hu
        obtain ⟨p, hp, rfl⟩ := hu
        have hps := HL.out p (List.mem_of_getElem? hp)
        have HC := Lib.hid (And.intro hb hc)
        rw [← hbel.cell (p := ⟨b, _, none⟩) hb] at hc
        have HP := Lib.hid hp
        clear hp hbel hb
        cases hv : tyOk p
        · have HF := Lib.hid (fnV_bad (r := r) h4' HP.out hv)
          have HV := Lib.hid hv
          clear hv
          go_wp2_with fail
          refine (refValid_any p _ hps).mono ?_
          rintro e w2 ⟨rfl, b2⟩
          rw [HV.out]
          go_wp2_with fail
          go_returns
          exact ⟨by rw [HF.out]; rfl, sq HB.out b2⟩
        · have hpl := tyOk_size hv
          have HA := Lib.hid (all_snoc HP.out HT.out.2 hv)
          have HV := Lib.hid hv
          clear hv
          have hE := Lib.hid (show T ++ (⟨#[44]⟩ ++ p) = ⟨(cf (l.take (k + 1))).toArray⟩ by
            rw [HT.out.1, List.take_add_one, HP.out, Option.toList_some, cf_snoc, mk_app', mk_app']; simp)
          go_wp2_with fail
          refine (refValid_any p _ hps).mono ?_
          rintro e w2 ⟨rfl, b2⟩
          have hbw := sq HB.out b2
          have hc2 := (hbw.cell (p := ⟨b, _, none⟩) HC.out.1).trans HC.out.2
          have HB2 := Lib.hid hbw
          clear hbw hc b2
          rw [HV.out]
          go_wp2_with fail
          go_roundw
          case rel => exact ⟨k + 1, _, by go_num, by omega, rfl, Lib.hid ⟨hE.out, HA.out⟩, HB2.out⟩
          case measure => simp [intOf]; omega
      · have hall := Lib.hid (show l.all tyOk = true by have := HT.out.2; rwa [List.take_of_length_le (by have := HN.out; omega)] at this)
        have he0 := empty_iff r
        have hT0 := empty_iff T
        obtain ⟨C, hC⟩ : ∃ C : ByteArray, (C = if T.size = 0 then T else T.extract 1 T.size) := ⟨_, rfl⟩
        have hCl : C.data.toList = cj l := by
          have e := HT.out.1
          rw [List.take_of_length_le (by have := HN.out; omega)] at e
          have e2 : T.data.toList = cf l := by rw [e]
          unfold cj
          rw [hC, ← e2]
          split
          · rename_i h0
            have : T.data.toList = [] := List.eq_nil_of_length_eq_zero h0
            rw [this]; rfl
          · rw [ext_drop]
        have hCs : C.size ≤ 600 := by
          show C.data.toList.length ≤ 600
          rw [hCl]
          have e := HT.out.1
          rw [List.take_of_length_le (by have := HN.out; omega)] at e
          have := mkl _ _ e
          unfold cj
          rw [List.length_drop]
          omega
        have hTe := Lib.hid (show ⟨#[102, 117, 110, 99, 40]⟩ ++ C ++ ⟨#[41]⟩ ++ r = ⟨(fnT l r).toArray⟩ by unfold fnT; rw [← hCl, mk_app', mk_app', mk_app']; try simp)
        have hsz : (⟨#[102, 117, 110, 99, 40]⟩ ++ C ++ ⟨#[41]⟩ ++ r : ByteArray).size = 5 + C.size + 1 + r.size := by rw [ByteArray.size_append, ByteArray.size_append, ByteArray.size_append]; rfl
        clear hCl
        by_cases hT1 : T.size = 0
        · rw [if_pos hT1] at hC
          subst hC
          rw [decide_eq_true hT1] at hT0
          have ht1 : C.toList = [] := by simpa using hT0
          have ht2 : C.toList.isEmpty = true := by simp [ht1]
          clear hT1
          by_cases hr0 : r.size = 0
          · rw [decide_eq_true hr0] at he0
            have he1 : r.toList = [] := by simpa using he0
            have he2 : r.toList.isEmpty = true := by simp [he1]
            have HF := Lib.hid (fnV_end h4' hall.out (.inl hr0) hTe.out)
            clear hr0
            by_cases hlong : 100 < (⟨#[102, 117, 110, 99, 40]⟩ ++ C ++ ⟨#[41]⟩ ++ r : ByteArray).size
            · have HG := Lib.hid (fnV_fin HF.out hlong)
              have hd : decide ((100 : Int) < 5 + (C.size : Int) + 1 + (r.size : Int)) = true := decide_eq_true (by rw [hsz] at hlong; omega)
              clear hsz hlong
              go_wp2_with fail
              go_returns
              exact ⟨by rw [HG.out]; rfl, HB.out⟩
            · have HG := Lib.hid (fnV_fin' HF.out hlong)
              have hd : decide ((100 : Int) < 5 + (C.size : Int) + 1 + (r.size : Int)) = false := decide_eq_false (by rw [hsz] at hlong; omega)
              clear hsz hlong
              go_wp2_with fail
              go_returns
              exact ⟨by rw [HG.out]; rfl, HB.out⟩
          · have he2 : r.toList.isEmpty = false := by
              rw [decide_eq_false hr0] at he0
              cases h : r.toList with
              | nil => rw [h] at he0; simp at he0
              | cons _ _ => rfl
            rw [decide_eq_false hr0] at he0
            cases hv : tyOk r
            · have HF := Lib.hid (fnV_res h4' hall.out hr0 hv)
              have HV := Lib.hid hv
              clear hv
              go_wp2_with fail
              refine (refValid_any r _ hrs).mono ?_
              rintro e w2 ⟨rfl, b2⟩
              rw [HV.out]
              go_wp2_with fail
              go_returns
              exact ⟨by rw [HF.out]; rfl, sq HB.out b2⟩
            · have HF := Lib.hid (fnV_end h4' hall.out (.inr hv) hTe.out)
              have hrl := tyOk_size hv
              have HV := Lib.hid hv
              clear hv
              go_wp2_with fail
              refine (refValid_any r _ hrs).mono ?_
              rintro e w2 ⟨rfl, b2⟩
              rw [HV.out]
              by_cases hlong : 100 < (⟨#[102, 117, 110, 99, 40]⟩ ++ C ++ ⟨#[41]⟩ ++ r : ByteArray).size
              · have HG := Lib.hid (fnV_fin HF.out hlong)
                have hd : decide ((100 : Int) < 5 + (C.size : Int) + 1 + (r.size : Int)) = true := decide_eq_true (by rw [hsz] at hlong; omega)
                clear hsz hlong
                go_wp2_with fail
                go_returns
                exact ⟨by rw [HG.out]; rfl, sq HB.out b2⟩
              · have HG := Lib.hid (fnV_fin' HF.out hlong)
                have hd : decide ((100 : Int) < 5 + (C.size : Int) + 1 + (r.size : Int)) = false := decide_eq_false (by rw [hsz] at hlong; omega)
                clear hsz hlong
                go_wp2_with fail
                go_returns
                exact ⟨by rw [HG.out]; rfl, sq HB.out b2⟩
        · rw [if_neg hT1] at hC
          have hx : T.extract 1 T.size = C := hC.symm
          have ht1 : (1 : Int) ≤ (T.size : Int) := by omega
          have ht2 : T.toList.isEmpty = false := by
            rw [decide_eq_false hT1] at hT0
            cases h : T.toList with
            | nil => rw [h] at hT0; simp at hT0
            | cons _ _ => rfl
          rw [decide_eq_false hT1] at hT0
          clear hT1 hC
          by_cases hr0 : r.size = 0
          · rw [decide_eq_true hr0] at he0
            have he1 : r.toList = [] := by simpa using he0
            have he2 : r.toList.isEmpty = true := by simp [he1]
            have HF := Lib.hid (fnV_end h4' hall.out (.inl hr0) hTe.out)
            clear hr0
            by_cases hlong : 100 < (⟨#[102, 117, 110, 99, 40]⟩ ++ C ++ ⟨#[41]⟩ ++ r : ByteArray).size
            · have HG := Lib.hid (fnV_fin HF.out hlong)
              have hd : decide ((100 : Int) < 5 + (C.size : Int) + 1 + (r.size : Int)) = true := decide_eq_true (by rw [hsz] at hlong; omega)
              clear hsz hlong
              go_wp2_with fail
              go_returns
              exact ⟨by rw [HG.out]; rfl, HB.out⟩
            · have HG := Lib.hid (fnV_fin' HF.out hlong)
              have hd : decide ((100 : Int) < 5 + (C.size : Int) + 1 + (r.size : Int)) = false := decide_eq_false (by rw [hsz] at hlong; omega)
              clear hsz hlong
              go_wp2_with fail
              go_returns
              exact ⟨by rw [HG.out]; rfl, HB.out⟩
          · have he2 : r.toList.isEmpty = false := by
              rw [decide_eq_false hr0] at he0
              cases h : r.toList with
              | nil => rw [h] at he0; simp at he0
              | cons _ _ => rfl
            rw [decide_eq_false hr0] at he0
            cases hv : tyOk r
            · have HF := Lib.hid (fnV_res h4' hall.out hr0 hv)
              have HV := Lib.hid hv
              clear hv
              go_wp2_with fail
              refine (refValid_any r _ hrs).mono ?_
              rintro e w2 ⟨rfl, b2⟩
              rw [HV.out]
              go_wp2_with fail
              go_returns
              exact ⟨by rw [HF.out]; rfl, sq HB.out b2⟩
            · have HF := Lib.hid (fnV_end h4' hall.out (.inr hv) hTe.out)
              have hrl := tyOk_size hv
              have HV := Lib.hid hv
              clear hv
              go_wp2_with fail
              refine (refValid_any r _ hrs).mono ?_
              rintro e w2 ⟨rfl, b2⟩
              rw [HV.out]
              by_cases hlong : 100 < (⟨#[102, 117, 110, 99, 40]⟩ ++ C ++ ⟨#[41]⟩ ++ r : ByteArray).size
              · have HG := Lib.hid (fnV_fin HF.out hlong)
                have hd : decide ((100 : Int) < 5 + (C.size : Int) + 1 + (r.size : Int)) = true := decide_eq_true (by rw [hsz] at hlong; omega)
                clear hsz hlong
                go_wp2_with fail
                go_returns
                exact ⟨by rw [HG.out]; rfl, sq HB.out b2⟩
              · have HG := Lib.hid (fnV_fin' HF.out hlong)
                have hd : decide ((100 : Int) < 5 + (C.size : Int) + 1 + (r.size : Int)) = false := decide_eq_false (by rw [hsz] at hlong; omega)
                clear hsz hlong
                go_wp2_with fail
                go_returns
                exact ⟨by rw [HG.out]; rfl, sq HB.out b2⟩
end Go.Proofs.Ytmbljapjecclaab
