/-
What the functions of reading come to.
-/
import Derived.Test.YtbhokejnfbppdaaQ0
import Derived.Test.YtbhokejnfbppdaaP13
namespace Go.Abs
set_option linter.unusedVariables false
set_option linter.unusedSimpArgs false
set_option maxRecDepth 100000

abbrev Row := RowD
abbrev Part := PartD
instance : DecidableEq RowT.car := inferInstanceAs (DecidableEq (Int × Int × Int × ByteArray × ByteArray))

-- ---------------------------------------------------------------- too great
def bigRow (r : Row) : Bool := decide ((ByteArray.size r.2.2.2.1 : Int) > 200) || decide ((ByteArray.size r.2.2.2.2 : Int) > 200)
def greatRows (xs : List Row) : Bool := decide ((xs.length : Int) > 300) || xs.any bigRow

theorem greatRows_f (xs : List Row) (hl : xs.length ≤ 9223372036854775807) : rovingref13_GreatRows.f xs = some (greatRows xs) := by
  unfold rovingref13_GreatRows.f greatRows
  by_cases h : (xs.length : Int) > 300
  · rw [loopO_ret (b := true) (by simp [rovingref13_GreatRows.T, h])]; simp [h]
  · rw [loopO_go (s := .l4 xs 0) (by simp [rovingref13_GreatRows.T, h])]
    have e := whileO_index (step := fun s => (rovingref13_GreatRows.step s).opt) (n := xs.length) (fun i => .l4 xs (i : Int)) (fun i => (xs.drop i).any bigRow)
      (by simp [rovingref13_GreatRows.step, rovingref13_GreatRows.T4]) (fun i hi => by
        rw [drop_any _ _ hi]
        have h1 : ((i : Int) < xs.length) := by omega
        simp only [rovingref13_GreatRows.step, rovingref13_GreatRows.T4, opt_br, opt_need, opt_ret, Int.toNat_natCast, getD_at hi, wrapN1 (show i + 1 ≤ 9223372036854775807 by omega), h1, decide_true, cond_true]
        rw [needO_true ⟨by omega, trivial⟩, needO_true (fun _ => ⟨by omega, trivial⟩)]
        have hb : (bif decide ((ByteArray.size xs[i].2.2.2.1 : Int) > 200) then true else decide ((ByteArray.size xs[i].2.2.2.2 : Int) > 200)) = bigRow xs[i] := by
          unfold bigRow; cases decide ((ByteArray.size xs[i].2.2.2.1 : Int) > 200) <;> rfl
        rw [hb]
        cases bigRow xs[i] with
        | true => exact .inr rfl
        | false => exact .inl ⟨rfl, rfl⟩)
    simp only [List.drop_zero] at e
    rw [show (decide ((xs.length : Int) > 300) || xs.any bigRow) = xs.any bigRow by simp [h]]
    exact e

abbrev Batch := BatchD
def bigRec (r : RecordD) : Bool := decide ((ByteArray.size r.1 : Int) > 200) || decide ((ByteArray.size r.2 : Int) > 200)
def greatBatch (b : Batch) : Bool := decide ((List.length b.2.2.2.2 : Int) > 40) || List.any b.2.2.2.2 bigRec
def greatBatches (xs : List Batch) : Bool := decide ((xs.length : Int) > 40) || xs.any greatBatch

theorem greatBatches_f (xs : List Batch) (hl : xs.length ≤ 9223372036854775807) : rovingref13_GreatBatches.f xs = some (greatBatches xs) := by
  unfold rovingref13_GreatBatches.f greatBatches
  by_cases h : (xs.length : Int) > 40
  · rw [loopO_ret (b := true) (by simp [rovingref13_GreatBatches.T, h])]; simp [h]
  · rw [loopO_go (s := .l4 xs 0) (by simp [rovingref13_GreatBatches.T, h])]
    rw [show (decide ((xs.length : Int) > 40) || xs.any greatBatch) = xs.any greatBatch by simp [h]]
    -- the inner loop
    have inner : ∀ i (hi : i < xs.length), List.length xs[i].2.2.2.2 ≤ 40 → whileO (fun s => (rovingref13_GreatBatches.step s).opt) (.l9 xs i 0) =
        bif List.any xs[i].2.2.2.2 bigRec then some true else whileO (fun s => (rovingref13_GreatBatches.step s).opt) (.l4 xs ((i + 1 : Nat) : Int)) := fun i hi hlen => by
      have hi1 : ((i : Int) < xs.length) := by omega
      have e := while_from (step := fun s => (rovingref13_GreatBatches.step s).opt) (n := List.length xs[i].2.2.2.2) (fun j => .l9 xs i (j : Int))
        (fun j => bif (List.drop j xs[i].2.2.2.2).any bigRec then some true else whileO (fun s => (rovingref13_GreatBatches.step s).opt) (.l4 xs ((i + 1 : Nat) : Int)))
        (by
          rw [whileO_next (s' := .l4 xs ((i + 1 : Nat) : Int)) (by
            simp only [rovingref13_GreatBatches.step, rovingref13_GreatBatches.T9, opt_br, opt_need, opt_ret, Int.toNat_natCast, getD_at hi, wrapN1 (show i + 1 ≤ 9223372036854775807 by omega)]
            rw [needO_true ⟨by omega, hi1⟩]; simp)]
          simp)
        (fun j hj => by
          rw [drop_any _ _ hj]
          have h1 : ((j : Int) < List.length xs[i].2.2.2.2) := by omega
          simp only [rovingref13_GreatBatches.step, rovingref13_GreatBatches.T9, opt_br, opt_need, opt_ret, Int.toNat_natCast, getD_at hi, getD_at hj, wrapN1 (show j + 1 ≤ 9223372036854775807 by omega), h1, decide_true, cond_true]
          rw [needO_true ⟨by omega, hi1⟩, needO_true ⟨by omega, hi1⟩, needO_true ⟨by omega, trivial⟩, needO_true (fun _ => ⟨by omega, hi1⟩), needO_true (fun _ => ⟨by omega, trivial⟩)]
          have hb : (bif decide ((ByteArray.size (List.getD xs[i].2.2.2.2 j RecordT.dflt).1 : Int) > 200) then true else decide ((ByteArray.size (List.getD xs[i].2.2.2.2 j RecordT.dflt).2 : Int) > 200)) = bigRec (List.getD xs[i].2.2.2.2 j RecordT.dflt) := by
            unfold bigRec; cases decide ((ByteArray.size (List.getD xs[i].2.2.2.2 j RecordT.dflt).1 : Int) > 200) <;> rfl
          rw [getD_at hj] at hb
          rw [hb]
          cases bigRec (List.get xs[i].2.2.2.2 ⟨j, hj⟩) with
          | true => exact .inr ⟨true, by simp_all⟩
          | false => exact .inl ⟨by simp_all, by simp_all⟩) _ 0 (Nat.add_zero _)
      simpa using e
    have e := while_back (n := xs.length) (fun i => whileO (fun s => (rovingref13_GreatBatches.step s).opt) (.l4 xs (i : Int)) = some ((xs.drop i).any greatBatch))
      (by rw [whileO_done (b := false) (by simp [rovingref13_GreatBatches.step, rovingref13_GreatBatches.T4])]; simp) (fun i hi ih => by
        have hi1 : ((i : Int) < xs.length) := by omega
        rw [drop_any _ _ hi, greatBatch]
        by_cases hc : (List.length xs[i].2.2.2.2 : Int) > 40
        · rw [whileO_done (b := true) (by
            simp only [rovingref13_GreatBatches.step, rovingref13_GreatBatches.T4, opt_br, opt_need, opt_ret, Int.toNat_natCast, getD_at hi, hi1, hc, decide_true, cond_true]
            rw [needO_true ⟨by omega, trivial⟩])]
          simp [hc]
        · rw [whileO_next (s' := .l9 xs i 0) (by
            simp only [rovingref13_GreatBatches.step, rovingref13_GreatBatches.T4, opt_br, opt_need, opt_ret, Int.toNat_natCast, getD_at hi, hi1, hc, decide_true, decide_false, cond_true, cond_false]
            rw [needO_true ⟨by omega, trivial⟩]), inner i hi (by omega), ih]
          simp only [hc, decide_false, Bool.false_or]
          cases List.any xs[i].2.2.2.2 bigRec <;> rfl) xs.length 0 (by omega)
    simpa using e

-- ---------------------------------------------------------------- a part that is too great
def great (p : Part) : Bool := greatRows p.2.2.1 || decide ((List.length p.2.2.2.1 : Int) > 40) || decide ((List.length p.2.2.2.2 : Int) > 40) || List.any p.2.2.2.1 (fun o => greatBatches o.2.2) || List.any p.2.2.2.2 fun q => decide ((List.length q.2.2.2 : Int) > 40)

theorem great_f (p : Part) (h1 : List.length p.2.2.1 ≤ 9223372036854775807) (h2 : ∀ o ∈ (p.2.2.2.1 : List OpenD), List.length o.2.2 ≤ 9223372036854775807) : rovingref13_Great.f p = some (great p) := by
  unfold rovingref13_Great.f great
  have hr := greatRows_f _ h1
  cases hg : (bif (bif greatRows p.2.2.1 then true else decide ((List.length p.2.2.2.1 : Int) > 40)) then true else decide ((List.length p.2.2.2.2 : Int) > 40)) with
  | true =>
    rw [loopO_ret (b := true) (by simp only [rovingref13_Great.T, opt_call, opt_br, opt_ret, hr, Option.bind_some, hg, cond_true])]
    revert hg
    cases greatRows p.2.2.1 <;> cases decide ((List.length p.2.2.2.1 : Int) > 40) <;> cases decide ((List.length p.2.2.2.2 : Int) > 40) <;> simp
  | false =>
    rw [loopO_go (s := .l4 0 p) (by simp only [rovingref13_Great.T, opt_call, opt_br, opt_ret, hr, Option.bind_some, hg, cond_false])]
    have h3 : (greatRows p.2.2.1 || decide ((List.length p.2.2.2.1 : Int) > 40) || decide ((List.length p.2.2.2.2 : Int) > 40)) = false ∧ List.length p.2.2.2.1 ≤ 40 ∧ List.length p.2.2.2.2 ≤ 40 := by
      revert hg
      rcases Nat.lt_or_ge 40 (List.length p.2.2.2.1) with h | h
      · rw [show decide ((List.length p.2.2.2.1 : Int) > 40) = true by simp; omega]; cases greatRows p.2.2.1 <;> simp
      · rw [show decide ((List.length p.2.2.2.1 : Int) > 40) = false by simp; omega]
        rcases Nat.lt_or_ge 40 (List.length p.2.2.2.2) with h' | h'
        · rw [show decide ((List.length p.2.2.2.2 : Int) > 40) = true by simp; omega]; cases greatRows p.2.2.1 <;> simp
        · rw [show decide ((List.length p.2.2.2.2 : Int) > 40) = false by simp; omega]; cases greatRows p.2.2.1 <;> simp [h, h']
    rw [h3.1, Bool.false_or]
    have e9 := while_back (n := List.length p.2.2.2.2) (fun i => whileO (fun s => (rovingref13_Great.step rovingref13_GreatRows.f rovingref13_GreatBatches.f s).opt) (.l9 (i : Int) p) = some ((List.drop i p.2.2.2.2).any fun q => decide ((List.length q.2.2.2 : Int) > 40)))
      (by rw [whileO_done (b := false) (by simp [rovingref13_Great.step, rovingref13_Great.T9])]; simp) (fun i hi ih => by
        have hi1 : ((i : Int) < List.length p.2.2.2.2) := by omega
        rw [drop_any _ _ hi]
        cases hc : decide ((List.length (List.get p.2.2.2.2 ⟨i, hi⟩).2.2.2 : Int) > 40) with
        | true =>
          rw [whileO_done (b := true) (by
            simp only [List.get_eq_getElem] at hc
            simp only [rovingref13_Great.step, rovingref13_Great.T9, opt_br, opt_need, opt_ret, Int.toNat_natCast, getD_at hi, hi1, hc, decide_true, cond_true]
            rw [needO_true ⟨by omega, trivial⟩])]
          simp
        | false =>
          simp only [List.get_eq_getElem] at hc
          rw [whileO_next (s' := .l9 ((i + 1 : Nat) : Int) p) (by
            simp only [rovingref13_Great.step, rovingref13_Great.T9, opt_br, opt_need, opt_ret, Int.toNat_natCast, getD_at hi, hi1, hc, decide_true, cond_true, cond_false, wrapN1 (show i + 1 ≤ 9223372036854775807 by omega)]
            rw [needO_true ⟨by omega, trivial⟩]), ih]
          simp) (List.length p.2.2.2.2) 0 (by omega)
    have e4 := while_back (n := List.length p.2.2.2.1) (fun i => whileO (fun s => (rovingref13_Great.step rovingref13_GreatRows.f rovingref13_GreatBatches.f s).opt) (.l4 (i : Int) p) = some ((List.drop i p.2.2.2.1).any (fun o => greatBatches o.2.2) || List.any p.2.2.2.2 fun q => decide ((List.length q.2.2.2 : Int) > 40)))
      (by
        rw [whileO_next (s' := .l9 0 p) (by simp [rovingref13_Great.step, rovingref13_Great.T4])]
        simpa using e9) (fun i hi ih => by
        have hi1 : ((i : Int) < List.length p.2.2.2.1) := by omega
        have hb := greatBatches_f (List.get p.2.2.2.1 ⟨i, hi⟩).2.2 (h2 _ (List.get_mem ..))
        simp only [List.get_eq_getElem] at hb
        rw [drop_any _ _ hi]
        cases hc : greatBatches (List.get p.2.2.2.1 ⟨i, hi⟩).2.2 with
        | true =>
          simp only [List.get_eq_getElem] at hc
          rw [whileO_done (b := true) (by
            simp only [rovingref13_Great.step, rovingref13_Great.T4, opt_br, opt_need, opt_call, opt_ret, Int.toNat_natCast, getD_at hi, hi1, hb, Option.bind_some, hc, decide_true, cond_true]
            rw [needO_true ⟨by omega, trivial⟩])]
          simp
        | false =>
          simp only [List.get_eq_getElem] at hc
          rw [whileO_next (s' := .l4 ((i + 1 : Nat) : Int) p) (by
            simp only [rovingref13_Great.step, rovingref13_Great.T4, opt_br, opt_need, opt_call, opt_ret, Int.toNat_natCast, getD_at hi, hi1, hb, Option.bind_some, hc, decide_true, cond_true, cond_false, wrapN1 (show i + 1 ≤ 9223372036854775807 by omega)]
            rw [needO_true ⟨by omega, trivial⟩]), ih]
          simp) (List.length p.2.2.2.1) 0 (by omega)
    simpa using e4

-- ---------------------------------------------------------------- the same rows
theorem sameRows_f (xs ys : List Row) (hl : xs.length ≤ 9223372036854775807) : rovingref13_SameRows.f xs ys = some (decide (xs = ys)) := by
  unfold rovingref13_SameRows.f
  by_cases h : xs.length = ys.length
  · rw [loopO_go (s := .l4 xs ys 0) (by simp [rovingref13_SameRows.T, h])]
    have e := while_back (n := xs.length) (fun i => whileO (fun s => (rovingref13_SameRows.step s).opt) (.l4 xs ys (i : Int)) = some (decide (xs.drop i = ys.drop i)))
      (by rw [whileO_done (b := true) (by simp [rovingref13_SameRows.step, rovingref13_SameRows.T4])]; simp [h]) (fun i hi ih => by
        have hi1 : ((i : Int) < xs.length) := by omega
        have hi' : i < ys.length := by omega
        have hi2 : ((i : Int) < ys.length) := by omega
        rw [List.drop_eq_getElem_cons hi, List.drop_eq_getElem_cons hi']
        by_cases hc : xs[i] = ys[i]
        · rw [whileO_next (s' := .l4 xs ys ((i + 1 : Nat) : Int)) (by
            simp only [rovingref13_SameRows.step, rovingref13_SameRows.T4, opt_br, opt_need, opt_ret, Int.toNat_natCast, getD_at hi, getD_at hi', hi1, hi2, eqD_dec (t := RowT) rfl, hc, decide_true, Bool.not_true, cond_true, cond_false, wrapN1 (show i + 1 ≤ 9223372036854775807 by omega)]
            rw [needO_true ⟨by omega, trivial⟩, needO_true ⟨by omega, trivial⟩]), ih]
          simp only [List.cons.injEq, hc, true_and]
        · rw [whileO_done (b := false) (by
            simp only [rovingref13_SameRows.step, rovingref13_SameRows.T4, opt_br, opt_need, opt_ret, Int.toNat_natCast, getD_at hi, getD_at hi', hi1, hi2, eqD_dec (t := RowT) rfl, hc, decide_true, decide_false, Bool.not_false, cond_true, cond_false]
            rw [needO_true ⟨by omega, trivial⟩, needO_true ⟨by omega, trivial⟩])]
          simp only [List.cons.injEq, hc, false_and, decide_false]) xs.length 0 (by omega)
    simpa using e
  · rw [loopO_ret (b := false) (by
      have : ((xs.length : Int) != ys.length) = true := by simp; omega
      simp only [rovingref13_SameRows.T, opt_br, opt_ret, this, cond_true])]
    have : xs ≠ ys := fun e => h (by rw [e])
    simp [this]

-- ---------------------------------------------------------------- what Check says
theorem wrapP {n : Nat} (h : n + 1 ≤ 9223372036854775807) : IntKind.i64.wrap (((n + 1 : Nat) : Int) - 1) = (n : Int) := by
  rw [show ((n + 1 : Nat) : Int) - 1 = (n : Int) by omega]; exact wrapN (by omega)

theorem offset_f (r : Row) : read_offset.f r = some r.1 := rfl
theorem pid_f (o : OpenD) : read_pid.f o = some o.1 := rfl

theorem risesR_f (xs : List Row) (hl : xs.length ≤ 9223372036854775807) : read_rises_api_Row.f xs = some (rises (fun r : Row => r.1) xs) := by
  unfold read_rises_api_Row.f
  rw [loopO_go (s := .l2 xs 1) rfl]
  cases xs with
  | nil => rw [whileO_done (b := true) (by simp [read_rises_api_Row.step, read_rises_api_Row.T2])]; rfl
  | cons x xs =>
    have e := while_back (n := xs.length) (fun i => whileO (fun s => (read_rises_api_Row.step read_offset.f s).opt) (.l2 (x :: xs) ((i + 1 : Nat) : Int)) = some (risesFrom (fun r : Row => r.1) ((x :: xs).getD i RowT.dflt).1 (xs.drop i)))
      (by rw [whileO_done (b := true) (by simp [read_rises_api_Row.step, read_rises_api_Row.T2])]; simp [risesFrom]) (fun i hi ih => by
        have hl' : xs.length + 1 ≤ 9223372036854775807 := hl
        have hi1 : (((i + 1 : Nat) : Int) < (x :: xs).length) := by simp; omega
        have hi2 : ((i : Int) < (x :: xs).length) := by simp; omega
        have e1 : (x :: xs).getD (i + 1) RowT.dflt = xs[i] := by simp [hi]
        rw [risesFrom_drop _ _ hi]
        by_cases hc : xs[i].1 ≤ ((x :: xs).getD i RowT.dflt).1
        · rw [whileO_done (b := false) (by
            simp only [read_rises_api_Row.step, read_rises_api_Row.T2, opt_br, opt_need, opt_call, opt_ret, Int.toNat_natCast, hi1, decide_true, cond_true, wrapP (show i + 1 ≤ 9223372036854775807 by omega), e1, offset_f, Option.bind_some, hc]
            rw [needO_true ⟨by omega, trivial⟩, needO_true ⟨by omega, hi2⟩])]
          rw [decide_eq_false (Int.not_lt.2 hc)]; rfl
        · rw [whileO_next (s' := .l2 (x :: xs) ((i + 1 + 1 : Nat) : Int)) (by
            simp only [read_rises_api_Row.step, read_rises_api_Row.T2, opt_br, opt_need, opt_call, opt_ret, Int.toNat_natCast, hi1, decide_true, decide_false, cond_true, cond_false, wrapP (show i + 1 ≤ 9223372036854775807 by omega), wrapN1 (show i + 1 + 1 ≤ 9223372036854775807 by omega), e1, offset_f, Option.bind_some, hc]
            rw [needO_true ⟨by omega, trivial⟩, needO_true ⟨by omega, hi2⟩]), ih, e1]
          rw [decide_eq_true (Int.not_le.1 hc)]; rfl) xs.length 0 (by omega)
    simpa [rises] using e

theorem risesO_f (xs : List OpenD) (hl : xs.length ≤ 9223372036854775807) : read_rises_api_Open.f xs = some (rises (fun r : OpenD => r.1) xs) := by
  unfold read_rises_api_Open.f
  rw [loopO_go (s := .l2 xs 1) rfl]
  cases xs with
  | nil => rw [whileO_done (b := true) (by simp [read_rises_api_Open.step, read_rises_api_Open.T2])]; rfl
  | cons x xs =>
    have e := while_back (n := xs.length) (fun i => whileO (fun s => (read_rises_api_Open.step read_pid.f s).opt) (.l2 (x :: xs) ((i + 1 : Nat) : Int)) = some (risesFrom (fun r : OpenD => r.1) ((x :: xs).getD i OpenT.dflt).1 (xs.drop i)))
      (by rw [whileO_done (b := true) (by simp [read_rises_api_Open.step, read_rises_api_Open.T2])]; simp [risesFrom]) (fun i hi ih => by
        have hl' : xs.length + 1 ≤ 9223372036854775807 := hl
        have hi1 : (((i + 1 : Nat) : Int) < (x :: xs).length) := by simp; omega
        have hi2 : ((i : Int) < (x :: xs).length) := by simp; omega
        have e1 : (x :: xs).getD (i + 1) OpenT.dflt = xs[i] := by simp [hi]
        rw [risesFrom_drop _ _ hi]
        by_cases hc : xs[i].1 ≤ ((x :: xs).getD i OpenT.dflt).1
        · rw [whileO_done (b := false) (by
            simp only [read_rises_api_Open.step, read_rises_api_Open.T2, opt_br, opt_need, opt_call, opt_ret, Int.toNat_natCast, hi1, decide_true, cond_true, wrapP (show i + 1 ≤ 9223372036854775807 by omega), e1, pid_f, Option.bind_some, hc]
            rw [needO_true ⟨by omega, trivial⟩, needO_true ⟨by omega, hi2⟩])]
          rw [decide_eq_false (Int.not_lt.2 hc)]; rfl
        · rw [whileO_next (s' := .l2 (x :: xs) ((i + 1 + 1 : Nat) : Int)) (by
            simp only [read_rises_api_Open.step, read_rises_api_Open.T2, opt_br, opt_need, opt_call, opt_ret, Int.toNat_natCast, hi1, decide_true, decide_false, cond_true, cond_false, wrapP (show i + 1 ≤ 9223372036854775807 by omega), wrapN1 (show i + 1 + 1 ≤ 9223372036854775807 by omega), e1, pid_f, Option.bind_some, hc]
            rw [needO_true ⟨by omega, trivial⟩, needO_true ⟨by omega, hi2⟩]), ih, e1]
          rw [decide_eq_true (Int.not_le.1 hc)]; rfl) xs.length 0 (by omega)
    simpa [rises] using e

def noBatch (o : OpenD) : Bool := ((List.length o.2.2 : Int) == 0)
theorem noBatch_f (o : OpenD) : read_Check_1.f o = some (noBatch o) := rfl

theorem idxO_f (xs : List OpenD) (hl : xs.length ≤ 9223372036854775807) : slices_IndexFunc_api_Open_api_Open.f xs = some (idxFrom noBatch xs 0) := by
  unfold slices_IndexFunc_api_Open_api_Open.f
  rw [loopO_go (s := .l2 xs xs.length 0) rfl]
  have e := while_back (n := xs.length) (fun i => whileO (fun s => (slices_IndexFunc_api_Open_api_Open.step read_Check_1.f s).opt) (.l2 xs xs.length (i : Int)) = some (idxFrom noBatch (xs.drop i) i))
    (by rw [whileO_done (b := -1) (by simp [slices_IndexFunc_api_Open_api_Open.step, slices_IndexFunc_api_Open_api_Open.T2])]; simp [idxFrom]) (fun i hi ih => by
      have hi1 : ((i : Int) < xs.length) := by omega
      rw [idxFrom_drop _ _ hi]
      cases hc : noBatch xs[i] with
      | true =>
        rw [whileO_done (b := (i : Int)) (by
          simp only [slices_IndexFunc_api_Open_api_Open.step, slices_IndexFunc_api_Open_api_Open.T2, opt_br, opt_need, opt_call, opt_ret, Int.toNat_natCast, hi1, decide_true, cond_true, getD_at hi, noBatch_f, Option.bind_some, hc]
          rw [needO_true ⟨by omega, trivial⟩])]
        rfl
      | false =>
        rw [whileO_next (s' := .l2 xs xs.length ((i + 1 : Nat) : Int)) (by
          simp only [slices_IndexFunc_api_Open_api_Open.step, slices_IndexFunc_api_Open_api_Open.T2, opt_br, opt_need, opt_call, opt_ret, Int.toNat_natCast, hi1, decide_true, cond_true, cond_false, getD_at hi, noBatch_f, Option.bind_some, hc, wrapN1 (show i + 1 ≤ 9223372036854775807 by omega)]
          rw [needO_true ⟨by omega, trivial⟩]), ih]
        rfl) xs.length 0 (by omega)
  simpa using e

theorem hasNo_f (xs : List OpenD) (hl : xs.length ≤ 9223372036854775807) : slices_ContainsFunc_api_Open_api_Open.f xs = some (xs.any noBatch) := by
  unfold slices_ContainsFunc_api_Open_api_Open.f
  simp only [slices_ContainsFunc_api_Open_api_Open.T, opt_call, idxO_f xs hl, Option.bind_some, opt_ret, idxFrom_any _ _ _ (Int.le_refl 0)]

def edgeBad (p : Part) : Bool := bif decide ((List.length p.2.2.1 : Int) > 0) then (bif decide ((List.getD p.2.2.1 0 RowT.dflt).1 < p.1) then true else decide ((List.getD p.2.2.1 (List.length p.2.2.1 - 1) RowT.dflt).1 ≥ p.2.1)) else false

/-- May the part be read? -/
structure Good (p : Part) : Prop where
  lo : 0 ≤ p.1
  le : p.1 ≤ p.2.1
  hi : p.2.1 ≤ 1048576
  rows : List.Pairwise (fun x y : Row => x.1 < y.1) p.2.2.1
  opens : List.Pairwise (fun x y : OpenD => x.1 < y.1) p.2.2.2.1
  inside : ∀ r ∈ (p.2.2.1 : List Row), p.1 ≤ r.1 ∧ r.1 < p.2.1
  full : ∀ o ∈ (p.2.2.2.1 : List OpenD), noBatch o = false

theorem edge_iff (p : Part) (hs : List.Pairwise (fun x y : Row => x.1 < y.1) p.2.2.1) : edgeBad p = false ↔ ∀ r ∈ (p.2.2.1 : List Row), p.1 ≤ r.1 ∧ r.1 < p.2.1 := by
  obtain ⟨s, e, rows, x⟩ := p
  unfold edgeBad
  dsimp only at hs ⊢
  by_cases h0 : rows.length = 0
  · have : rows = [] := List.length_eq_zero_iff.1 h0
    subst this; simp
  · have hd : decide ((rows.length : Int) > 0) = true := by simp; omega
    rw [hd, cond_true]
    have hl : rows.length - 1 < rows.length := by omega
    rw [getD_at (show 0 < rows.length by omega), getD_at hl]
    have hs' := List.pairwise_iff_getElem.1 hs
    constructor
    · intro h r hr
      obtain ⟨i, hi, rfl⟩ := List.getElem_of_mem hr
      have h1 : s ≤ rows[0].1 := by
        rcases Int.lt_or_le rows[0].1 s with h1 | h1
        · rw [decide_eq_true h1] at h; cases h
        · exact h1
      rw [decide_eq_false (Int.not_lt.2 h1), cond_false] at h
      have h2 : rows[rows.length - 1].1 < e := Int.not_le.1 (of_decide_eq_false h)
      constructor
      · rcases Nat.eq_zero_or_pos i with rfl | hpos
        · exact h1
        · have := hs' 0 i (by omega) hi hpos; omega
      · rcases Nat.eq_or_lt_of_le (show i ≤ rows.length - 1 by omega) with he | hlt
        · subst he; exact h2
        · have := hs' i (rows.length - 1) hi hl hlt; omega
    · intro h
      have h1 := (h _ (List.getElem_mem (show 0 < rows.length by omega))).1
      have h2 := (h _ (List.getElem_mem hl)).2
      rw [decide_eq_false (Int.not_lt.2 h1), cond_false]
      exact decide_eq_false (Int.not_le.2 h2)

/-- How many things a part may have in memory. -/
structure Fits (p : Part) : Prop where
  rows : List.length p.2.2.1 ≤ 9223372036854775807
  opens : List.length p.2.2.2.1 ≤ 9223372036854775807

open Classical in
noncomputable def checkC (p : Part) : Int := if Good p then 0 else 2

theorem check_f (p : Part) (hf : Fits p) : read_Check.f p = some (checkC p) := by
  unfold read_Check.f read_Check.T checkC
  have e1 := risesR_f p.2.2.1 hf.rows
  have e2 := risesO_f p.2.2.2.1 hf.opens
  have e3 := hasNo_f p.2.2.2.1 hf.opens
  simp only [opt_br, opt_need, opt_call, opt_ret, e1, e2, e3, Option.bind_some]
  by_cases h1 : p.1 < 0
  · rw [decide_eq_true h1, cond_true, if_neg fun g => by have := g.lo; omega]
  rw [decide_eq_false h1, cond_false]
  by_cases h2 : p.1 > p.2.1
  · rw [decide_eq_true h2, cond_true, if_neg fun g => by have := g.le; omega]
  rw [decide_eq_false h2, cond_false]
  by_cases h3 : p.2.1 > 1048576
  · rw [decide_eq_true h3, cond_true, if_neg fun g => by have := g.hi; omega]
  rw [decide_eq_false h3, cond_false]
  cases h4 : rises (fun r : Row => r.1) p.2.2.1 with
  | false => rw [Bool.not_false, cond_true, if_neg fun g => by rw [(rises_iff _ _).2 g.rows] at h4; cases h4]
  | true =>
    rw [Bool.not_true, cond_false]
    cases h5 : rises (fun r : OpenD => r.1) p.2.2.2.1 with
    | false => rw [Bool.not_false, cond_true, if_neg fun g => by rw [(rises_iff _ _).2 g.opens] at h5; cases h5]
    | true =>
      rw [Bool.not_true, cond_false]
      have hs := (rises_iff _ _).1 h4
      have hlen := hf.rows
      have hw : 0 < List.length p.2.2.1 → IntKind.i64.wrap ((List.length p.2.2.1 : Int) - 1) = ((List.length p.2.2.1 - 1 : Nat) : Int) := fun h => by
        rw [show (List.length p.2.2.1 : Int) - 1 = ((List.length p.2.2.1 - 1 : Nat) : Int) by omega]; exact wrapN (by omega)
      rw [needO_true (fun h => ⟨Int.le_refl 0, of_decide_eq_true h⟩), needO_true (fun _ h => by
        have hpos : 0 < List.length p.2.2.1 := Int.natCast_pos.1 (of_decide_eq_true h)
        rw [hw hpos]; omega)]
      have he : (bif decide ((List.length p.2.2.1 : Int) > 0) then (bif decide ((List.getD p.2.2.1 0 RowT.dflt).1 < p.1) then true else
          decide ((List.getD p.2.2.1 (IntKind.i64.wrap ((List.length p.2.2.1 : Int) - 1)).toNat RowT.dflt).1 ≥ p.2.1)) else false) = edgeBad p := by
        unfold edgeBad
        by_cases h : 0 < List.length p.2.2.1
        · rw [hw h, Int.toNat_natCast]
        · rw [show decide ((List.length p.2.2.1 : Int) > 0) = false from decide_eq_false fun h' => h (Int.natCast_pos.1 h')]; rfl
      rw [he]
      cases h6 : edgeBad p with
      | true => rw [cond_true, if_neg fun g => by rw [(edge_iff p hs).2 g.inside] at h6; cases h6]
      | false =>
        rw [cond_false]
        cases h7 : List.any p.2.2.2.1 noBatch with
        | true =>
          rw [cond_true, if_neg fun g => by
            obtain ⟨o, ho, h8⟩ := List.any_eq_true.1 h7
            rw [g.full o ho] at h8; cases h8]
        | false =>
          rw [cond_false, if_pos ⟨by omega, by omega, by omega, hs, (rises_iff _ _).1 h5, (edge_iff p hs).1 h6, fun o ho => by
            have := List.any_eq_false.1 h7 o ho
            simpa using this⟩]
end Go.Abs
