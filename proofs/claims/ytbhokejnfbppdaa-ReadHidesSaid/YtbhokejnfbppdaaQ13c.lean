/-
Two cuts.
-/
import Derived.Test.YtbhokejnfbppdaaQ13b
namespace Go.Abs
set_option linter.unusedVariables false
set_option linter.unusedSimpArgs false
set_option maxRecDepth 100000

/-- A batch's records as rows without an offset. -/
def recRow (b : Batch) (j : Nat) (r : RecordD) : Row := (-1, b.1, IntKind.i64.wrap (b.2.2.1 + (j : Int)), r.1, r.2)
def batchRows (b : Batch) : List Row := (b.2.2.2.2 : List RecordD).mapIdx fun j r => recRow b j r

theorem rows_f (b : Batch) (hl : List.length b.2.2.2.2 ≤ 1000000) : rovingref13_Rows.f b (-1) = some (batchRows b) := by
  unfold rovingref13_Rows.f
  rw [loopO_go (s := .l3 (-1) 0 b []) rfl]
  have hlen : (batchRows b).length = List.length b.2.2.2.2 := by simp [batchRows]
  have e := while_back (n := List.length b.2.2.2.2) (fun i => whileO (fun s => (rovingref13_Rows.step s).opt) (.l3 (-1) (i : Int) b ((batchRows b).take i)) = some (batchRows b))
    (by
      rw [whileO_done (b := (batchRows b).take (List.length b.2.2.2.2)) (by simp [rovingref13_Rows.step, rovingref13_Rows.T3]), ← hlen, List.take_length]) (fun i hi ih => by
      have hi1 : ((i : Int) < (List.length b.2.2.2.2 : Int)) := by omega
      have hi2 : i < (batchRows b).length := by omega
      have e1 : (batchRows b)[i] = recRow b i (List.get b.2.2.2.2 ⟨i, hi⟩) := by simp [batchRows]
      rw [whileO_next (s' := .l3 (-1) ((i + 1 : Nat) : Int) b ((batchRows b).take (i + 1))) (by
        simp only [rovingref13_Rows.step, rovingref13_Rows.T3, opt_br, opt_need, opt_ret, Int.toNat_natCast, hi1, decide_true, cond_true, wrapN1 (show i + 1 ≤ 9223372036854775807 by omega), getD_at hi]
        rw [show decide ((-1 : Int) ≥ 0) = false from rfl, cond_false, needO_true ⟨by omega, trivial⟩, needO_true ⟨by omega, trivial⟩, needO_true (by simp; omega), List.take_succ_eq_append_getElem hi2, e1]
        rfl), ih]) (List.length b.2.2.2.2) 0 (by omega)
  simpa using e

def openRows (os : List OpenD) : List Row := os.flatMap fun o => List.flatMap batchRows o.2.2

/-- How much may be open. -/
structure Small (os : List OpenD) : Prop where
  opens : os.length ≤ 40
  batches : ∀ o ∈ os, List.length o.2.2 ≤ 40
  recs : ∀ o ∈ os, ∀ b ∈ (o.2.2 : List Batch), List.length b.2.2.2.2 ≤ 40

theorem flat_len {α : Type} (g : α → List Row) (k : Nat) : ∀ (xs : List α), (∀ x ∈ xs, (g x).length ≤ k) → (xs.flatMap g).length ≤ xs.length * k
  | [], _ => by simp
  | x :: xs, h => by
    rw [List.flatMap_cons, List.length_append, List.length_cons, Nat.add_mul, Nat.one_mul]
    have h1 := h x (List.mem_cons_self ..)
    have h2 := flat_len g k xs fun y hy => h y (List.mem_cons_of_mem _ hy)
    omega

theorem Small.oneLen {os : List OpenD} (h : Small os) {o : OpenD} (ho : o ∈ os) : (List.flatMap batchRows o.2.2).length ≤ 1600 := by
  have h1 := flat_len batchRows 40 o.2.2 fun b hb => by simpa [batchRows] using h.recs o ho b hb
  have h2 := h.batches o ho
  omega

theorem Small.len {os : List OpenD} (h : Small os) : (openRows os).length ≤ 64000 := by
  have h1 := flat_len (fun o : OpenD => List.flatMap batchRows o.2.2) 1600 os fun o ho => h.oneLen ho
  have h2 := h.opens
  unfold openRows
  omega

theorem pending_f (p : Part) (h : Small p.2.2.2.1) : rovingref13_Pending.f p = some (openRows p.2.2.2.1) := by
  unfold rovingref13_Pending.f
  rw [loopO_go (s := .l3 0 p []) rfl]
  generalize hos : p.2.2.2.1 = os at h
  have hol := h.opens
  have htot := h.len
  have pre : ∀ i, (openRows (os.take i)).length ≤ (openRows os).length := fun i => by
    unfold openRows
    conv => rhs; rw [← List.take_append_drop i os]
    rw [List.flatMap_append, List.length_append]
    omega
  have e := while_back (n := os.length) (fun i => whileO (fun s => (rovingref13_Pending.step rovingref13_Rows.f s).opt) (.l3 (i : Int) p (openRows (os.take i))) = some (openRows os))
    (by rw [whileO_done (b := openRows (os.take os.length)) (by simp [rovingref13_Pending.step, rovingref13_Pending.T3, hos]), List.take_length]) (fun i hi ih => by
      have hi1 : ((i : Int) < (os.length : Int)) := by omega
      have ho : os[i] ∈ os := List.getElem_mem hi
      rw [whileO_next (s' := .l7 (i : Int) 0 p (openRows (os.take i)) os[i]) (by
        simp only [rovingref13_Pending.step, rovingref13_Pending.T3, opt_br, opt_need, opt_ret, Int.toNat_natCast, hos, hi1, decide_true, cond_true, getD_at hi]
        rw [needO_true ⟨by omega, trivial⟩])]
      have hb := h.batches _ ho
      have hone := h.oneLen ho
      have inner := while_back (n := List.length os[i].2.2) (fun j => whileO (fun s => (rovingref13_Pending.step rovingref13_Rows.f s).opt) (.l7 (i : Int) (j : Int) p (openRows (os.take i) ++ (List.take j os[i].2.2).flatMap batchRows) os[i]) = some (openRows os))
        (by
          rw [whileO_next (s' := .l3 ((i + 1 : Nat) : Int) p (openRows (os.take (i + 1)))) (by
            simp only [rovingref13_Pending.step, rovingref13_Pending.T7, opt_br, opt_need, opt_call, opt_ret]
            rw [show decide (((List.length os[i].2.2 : Nat) : Int) < ((List.length os[i].2.2 : Nat) : Int)) = false by simp, cond_false, wrapN1 (show i + 1 ≤ 9223372036854775807 by omega), List.take_length]
            congr 3
            unfold openRows
            rw [List.take_succ_eq_append_getElem hi, List.flatMap_append]
            simp), ih]) (fun j hj ihj => by
          have hj1 : ((j : Int) < (List.length os[i].2.2 : Int)) := by omega
          have hr := rows_f (List.get os[i].2.2 ⟨j, hj⟩) (by have := h.recs _ ho _ (List.get_mem _ ⟨j, hj⟩); omega)
          simp only [List.get_eq_getElem] at hr
          have hlen1 : ((List.take j os[i].2.2).flatMap batchRows).length ≤ 1600 := by
            have := flat_len batchRows 40 (List.take j os[i].2.2) fun b hb => by simpa [batchRows] using h.recs _ ho b (List.mem_of_mem_take hb)
            have h2 : (List.take j os[i].2.2).length ≤ 40 := by rw [List.length_take]; omega
            omega
          have hlen2 : (batchRows (List.get os[i].2.2 ⟨j, hj⟩)).length ≤ 40 := by simpa [batchRows] using h.recs _ ho _ (List.get_mem _ ⟨j, hj⟩)
          simp only [List.get_eq_getElem] at hlen2
          have hp := pre i
          rw [whileO_next (s' := .l7 (i : Int) ((j + 1 : Nat) : Int) p (openRows (os.take i) ++ (List.take (j + 1) os[i].2.2).flatMap batchRows) os[i]) (by
            simp only [rovingref13_Pending.step, rovingref13_Pending.T7, opt_br, opt_need, opt_call, opt_ret, Int.toNat_natCast, hj1, decide_true, cond_true, getD_at hj, hr, Option.bind_some]
            rw [needO_true ⟨by omega, trivial⟩, needO_true (by rw [List.length_append]; omega), wrapN1 (show j + 1 ≤ 9223372036854775807 by omega), List.take_succ_eq_append_getElem hj, List.flatMap_append, List.append_assoc]
            simp), ihj]) (List.length os[i].2.2) 0 (by omega)
      simpa using inner) os.length 0 (by omega)
  simpa [openRows] using e

theorem alike_self (p : Part) (hl : List.length p.2.2.1 ≤ 9223372036854775807) (h : Small p.2.2.2.1) : rovinglaw13_alike.f p p = some true := by
  unfold rovinglaw13_alike.f rovinglaw13_alike.T
  have e1 := sameRows_f p.2.2.1 p.2.2.1 hl
  have e2 := pending_f p h
  have e3 := sameRows_f (openRows p.2.2.2.1) (openRows p.2.2.2.1) (by have := h.len; omega)
  simp only [opt_br, opt_need, opt_call, opt_ret, e1, e2, e3, Option.bind_some, decide_true, Option.getD_some, Option.isSome_some]
  rw [needO_true (fun _ => trivial)]
  simp

theorem small_of {p : Part} (h : great p = false) : Small p.2.2.2.1 ∧ List.length p.2.2.1 ≤ 300 := by
  unfold great at h
  simp only [Bool.or_eq_false_iff] at h
  obtain ⟨⟨⟨⟨h1, h2⟩, h3⟩, h4⟩, h5⟩ := h
  have h4' := List.any_eq_false.1 h4
  refine ⟨⟨by have := of_decide_eq_false h2; omega, fun o ho => ?_, fun o ho b hb => ?_⟩, ?_⟩
  · have := h4' o ho
    unfold greatBatches at this
    simp only [Bool.or_eq_true, decide_eq_true_eq, not_or] at this
    omega
  · have := h4' o ho
    unfold greatBatches at this
    simp only [Bool.or_eq_true, not_or] at this
    have := List.any_eq_false.1 (Bool.eq_false_iff.2 this.2) b hb
    unfold greatBatch at this
    simp only [Bool.or_eq_true, decide_eq_true_eq, not_or] at this
    omega
  · unfold greatRows at h1
    rw [Bool.or_eq_false_iff] at h1
    have := of_decide_eq_false h1.1
    omega

/-- A part's lengths, as data in memory have them. -/
theorem part_ok {p : Part} (h : PartT.ok p) : Fits p ∧ ∀ o ∈ (p.2.2.2.1 : List OpenD), List.length o.2.2 ≤ 9223372036854775807 :=
  ⟨⟨h.2.2.1.1, h.2.2.2.1.1⟩, fun o ho => (h.2.2.2.1.2 o ho).2.2.1⟩

theorem ReadCuts_f (p : Part) (a b : Int) (hok : PartT.ok p) : rovinglaw13_ReadCuts.f p a b = some true := by
  obtain ⟨hf, hb⟩ := part_ok hok
  unfold rovinglaw13_ReadCuts.f rovinglaw13_ReadCuts.T
  simp only [opt_br, opt_need, opt_call, opt_ret, great_f p hf.rows hb, check_f p hf, wakes_f, cut_f p a hf, cut_f p b hf, Option.bind_some, Option.isSome_some, Option.getD_some]
  rw [needO_true (fun _ => trivial)]
  cases hg : great p with
  | true => simp
  | false =>
    obtain ⟨hs, h300⟩ := small_of hg
    simp only [cond_false]
    by_cases hgood : Good p
    · rw [show checkC p = 0 from if_pos hgood]
      by_cases hab : a > b
      · rw [decide_eq_true hab]; rfl
      · rw [decide_eq_false hab]
        simp only [show ((0 : Int) != 0) = false from rfl, cond_false]
        by_cases ha : a < p.1 ∨ a > p.2.1
        · have e : cutC p a = ((0, 0, [], [], []), 130) := by unfold cutC; rw [if_pos hgood, if_pos ha]
          rw [e]; rfl
        · have e : cutC p a = ((a, p.2.1, fromRows p.2.2.1 a, p.2.2.2), 0) := by unfold cutC; rw [if_pos hgood, if_neg ha]
          rw [e]
          have hg2 : Good (a, p.2.1, fromRows p.2.2.1 a, p.2.2.2) := hgood.cut (by omega) (by omega)
          have hf2 : Fits (a, p.2.1, fromRows p.2.2.1 a, p.2.2.2) := ⟨by have := fromRows_len p.2.2.1 a; show (fromRows p.2.2.1 a).length ≤ _; omega, hf.opens⟩
          simp only [show ((0 : Int) != 0) = false from rfl, cond_false, cut_f _ b hf2, Option.bind_some]
          by_cases hbb : b > p.2.1
          · have e2 : cutC (a, p.2.1, fromRows p.2.2.1 a, p.2.2.2) b = ((0, 0, [], [], []), 130) := by unfold cutC; rw [if_pos hg2, if_pos (.inr hbb)]
            have e3 : cutC p b = ((0, 0, [], [], []), 130) := by unfold cutC; rw [if_pos hgood, if_pos (.inr hbb)]
            have e4 := alike_self (0, 0, [], [], []) (by simp) ⟨by simp, by simp, by simp⟩
            rw [e2, e3]
            simp only [e4, Option.isSome_some, Option.getD_some]
            rw [needO_true (fun _ => trivial), needO_true (fun _ => trivial)]
            rfl
          · have e2 : cutC (a, p.2.1, fromRows p.2.2.1 a, p.2.2.2) b = ((b, p.2.1, fromRows p.2.2.1 b, p.2.2.2), 0) := by
              unfold cutC; rw [if_pos hg2, if_neg (show ¬ (b < a ∨ b > p.2.1) by omega), fromRows_twice hgood.rows (by omega)]
            have e3 : cutC p b = ((b, p.2.1, fromRows p.2.2.1 b, p.2.2.2), 0) := by unfold cutC; rw [if_pos hgood, if_neg (by omega)]
            have e4 := alike_self (b, p.2.1, fromRows p.2.2.1 b, p.2.2.2) (by have := fromRows_len p.2.2.1 b; show (fromRows p.2.2.1 b).length ≤ _; omega) hs
            rw [e2, e3]
            simp only [e4, Option.isSome_some, Option.getD_some]
            rw [needO_true (fun _ => trivial), needO_true (fun _ => trivial)]
            rfl
    · rw [show checkC p = 2 from if_neg hgood]; rfl
end Go.Abs
