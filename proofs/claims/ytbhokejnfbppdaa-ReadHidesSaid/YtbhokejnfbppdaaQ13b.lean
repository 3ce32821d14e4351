/-
Reading: what begins at an offset, fetches, cuts, plain rows.
-/
import Derived.Test.YtbhokejnfbppdaaQ13
namespace Go.Abs
set_option linter.unusedVariables false
set_option linter.unusedSimpArgs false
set_option maxRecDepth 100000

-- ---------------------------------------------------------------- from
def geOff (n : Int) (r : Row) : Bool := decide (r.1 ≥ n)
theorem geOff_f (r : Row) (n : Int) : read_from_1.f r n = some (geOff n r, n) := rfl

theorem idxR_f (xs : List Row) (k : Int) (hl : xs.length ≤ 9223372036854775807) : slices_IndexFunc_api_Row_api_Row.f xs k = some (idxFrom (geOff k) xs 0, k) := by
  unfold slices_IndexFunc_api_Row_api_Row.f
  rw [loopO_go (s := .l2 xs xs.length 0 k) rfl]
  have e := while_back (n := xs.length) (fun i => whileO (fun s => (slices_IndexFunc_api_Row_api_Row.step read_from_1.f s).opt) (.l2 xs xs.length (i : Int) k) = some (idxFrom (geOff k) (xs.drop i) i, k))
    (by rw [whileO_done (b := (-1, k)) (by simp [slices_IndexFunc_api_Row_api_Row.step, slices_IndexFunc_api_Row_api_Row.T2])]; simp [idxFrom]) (fun i hi ih => by
      have hi1 : ((i : Int) < xs.length) := by omega
      rw [idxFrom_drop _ _ hi]
      cases hc : geOff k xs[i] with
      | true =>
        rw [whileO_done (b := ((i : Int), k)) (by
          simp only [slices_IndexFunc_api_Row_api_Row.step, slices_IndexFunc_api_Row_api_Row.T2, opt_br, opt_need, opt_call, opt_ret, Int.toNat_natCast, hi1, decide_true, cond_true, getD_at hi, geOff_f, Option.bind_some, hc]
          rw [needO_true ⟨by omega, trivial⟩])]
        rfl
      | false =>
        rw [whileO_next (s' := .l2 xs xs.length ((i + 1 : Nat) : Int) k) (by
          simp only [slices_IndexFunc_api_Row_api_Row.step, slices_IndexFunc_api_Row_api_Row.T2, opt_br, opt_need, opt_call, opt_ret, Int.toNat_natCast, hi1, decide_true, cond_true, cond_false, getD_at hi, geOff_f, Option.bind_some, hc, wrapN1 (show i + 1 ≤ 9223372036854775807 by omega)]
          rw [needO_true ⟨by omega, trivial⟩]), ih]
        rfl) xs.length 0 (by omega)
  simpa using e

def fromRows (xs : List Row) (n : Int) : List Row := xs.dropWhile fun r => !geOff n r

theorem from_f (xs : List Row) (n : Int) (hl : xs.length ≤ 9223372036854775807) : read_from.f xs n = some (fromRows xs n) := by
  unfold read_from.f read_from.T fromRows
  simp only [opt_br, opt_need, opt_call, opt_ret, idxR_f xs n hl, Option.bind_some]
  rcases idxFrom_spec (geOff n) xs 0 with ⟨h1, h2⟩ | ⟨k, h1, h2, h3⟩
  · rw [h1, h2]; rfl
  · rw [h2, h3, show decide ((0 : Int) + k < 0) = false by simp, cond_false, needO_true ⟨by omega, by omega, trivial, by omega⟩]
    rw [Int.toNat_natCast, List.take_length, show ((0 : Int) + k).toNat = k by omega]

/-- A list that rises falls into what is below and what is not. -/
theorem fromRows_filter : ∀ {xs : List Row} (n : Int), xs.Pairwise (fun x y => x.1 < y.1) → fromRows xs n = xs.filter (geOff n)
  | [], _, _ => rfl
  | x :: xs, n, h => by
    rw [List.pairwise_cons] at h
    unfold fromRows
    rw [List.dropWhile_cons, List.filter_cons]
    cases hg : geOff n x with
    | true =>
      simp only [Bool.not_true, Bool.false_eq_true, if_false, if_true]
      congr 1
      refine (List.filter_eq_self.2 fun y hy => ?_).symm
      have := h.1 y hy
      simp only [geOff, decide_eq_true_eq] at hg ⊢
      omega
    | false =>
      simp only [Bool.not_false, if_true, Bool.false_eq_true, if_false]
      exact fromRows_filter n h.2

theorem fromRows_len (xs : List Row) (n : Int) : (fromRows xs n).length ≤ xs.length := (List.dropWhile_sublist _).length_le

theorem fromRows_sub (xs : List Row) (n : Int) : List.Sublist (fromRows xs n) xs := List.dropWhile_sublist _

-- ---------------------------------------------------------------- Cut
open Classical in
noncomputable def cutC (p : Part) (n : Int) : Part × Int :=
  if Good p then (if n < p.1 ∨ n > p.2.1 then ((0, 0, [], [], []), 130) else ((n, p.2.1, fromRows p.2.2.1 n, p.2.2.2), 0)) else ((0, 0, [], [], []), 2)

theorem cut_f (p : Part) (n : Int) (hf : Fits p) : read_Cut.f p n = some (cutC p n) := by
  unfold read_Cut.f read_Cut.T cutC
  simp only [opt_br, opt_need, opt_call, opt_ret, check_f p hf, from_f _ n hf.rows, Option.bind_some]
  unfold checkC
  by_cases hg : Good p
  · rw [if_pos hg, if_pos hg]
    rw [show ((0 : Int) != 0) = false from rfl, cond_false]
    by_cases h1 : n < p.1
    · rw [decide_eq_true h1, cond_true, if_pos (.inl h1)]
    · rw [decide_eq_false h1, cond_false]
      by_cases h2 : n > p.2.1
      · rw [decide_eq_true h2, cond_true, if_pos (.inr h2)]
      · rw [decide_eq_false h2, cond_false, if_neg (by omega)]
  · rw [if_neg hg, if_neg hg]; rfl

theorem Good.cut {p : Part} (h : Good p) {n : Int} (h1 : p.1 ≤ n) (h2 : n ≤ p.2.1) : Good (n, p.2.1, fromRows p.2.2.1 n, p.2.2.2) where
  lo := by have := h.lo; show 0 ≤ n; omega
  le := h2
  hi := h.hi
  rows := h.rows.sublist (fromRows_sub _ _)
  opens := h.opens
  inside := fun r hr => by
    have hr : r ∈ fromRows p.2.2.1 n := hr
    have hm := (fromRows_sub _ _).subset hr
    rw [fromRows_filter n h.rows, List.mem_filter] at hr
    have := hr.2
    simp only [geOff, decide_eq_true_eq] at this
    exact ⟨this, (h.inside r hm).2⟩
  full := h.full

theorem fromRows_twice {xs : List Row} (h : xs.Pairwise fun x y => x.1 < y.1) {a b : Int} (hab : a ≤ b) : fromRows (fromRows xs a) b = fromRows xs b := by
  rw [fromRows_filter b (h.sublist (fromRows_sub _ _)), fromRows_filter a h, fromRows_filter b h, List.filter_filter]
  congr 1
  funext r
  rw [Bool.eq_iff_iff]
  simp only [geOff, Bool.and_eq_true, decide_eq_true_eq]
  omega

-- ---------------------------------------------------------------- Fetch, committed
def pageS (rows : List Row) (end_ n m : Int) : List Row × Int × Int :=
  if (rows.length : Int) > m then (if m > 0 then (rows.take m.toNat, (rows.getD (m.toNat - 1) RowT.dflt).1 + 1, 0) else ([], n, 0)) else (rows, end_, 0)

open Classical in
noncomputable def fetchC (p : Part) (n m : Int) : List Row × Int × Int :=
  if Good p ∧ 0 ≤ m ∧ m ≤ 64 then (if n < p.1 ∨ n > p.2.1 then ([], 0, 130) else pageS (fromRows p.2.2.1 n) p.2.1 n m) else ([], 0, 2)

theorem fetch_f (p : Part) (n m : Int) (hf : Fits p) : read_Fetch.f p n m = some (fetchC p n m) := by
  unfold read_Fetch.f read_Fetch.T fetchC
  simp only [opt_br, opt_need, opt_call, opt_ret, check_f p hf, from_f _ n hf.rows, Option.bind_some]
  unfold checkC
  by_cases hg : Good p
  · rw [if_pos hg, show ((0 : Int) != 0) = false from rfl, cond_false]
    by_cases h1 : m < 0
    · rw [decide_eq_true h1, cond_true, if_neg (by omega)]
    rw [decide_eq_false h1, cond_false]
    by_cases h2 : m > 64
    · rw [decide_eq_true h2, cond_true, if_neg (by omega)]
    rw [decide_eq_false h2, cond_false, if_pos ⟨hg, by omega, by omega⟩]
    by_cases h3 : n < p.1
    · rw [decide_eq_true h3, cond_true, if_pos (.inl h3)]
    rw [decide_eq_false h3, cond_false]
    by_cases h4 : n > p.2.1
    · rw [decide_eq_true h4, cond_true, if_pos (.inr h4)]
    rw [decide_eq_false h4, cond_false, if_neg (by omega)]
    generalize hR : fromRows p.2.2.1 n = rows
    have hsub : ∀ r ∈ rows, r ∈ (p.2.2.1 : List Row) := fun r hr => by rw [← hR] at hr; exact (fromRows_sub _ _).subset hr
    unfold pageS
    by_cases h5 : (rows.length : Int) > m
    · rw [decide_eq_true h5, cond_true, if_pos h5, needO_true ⟨by omega, by omega, trivial, by omega⟩, List.drop_zero]
      by_cases h6 : m > 0
      · rw [decide_eq_true h6, cond_true, if_pos h6]
        have hw : IntKind.i64.wrap (m - 1) = ((m.toNat - 1 : Nat) : Int) := by
          rw [show m - 1 = ((m.toNat - 1 : Nat) : Int) by omega]; exact wrapN (by omega)
        have hlen : (rows.take m.toNat).length = m.toNat := by rw [List.length_take]; omega
        rw [hw, Int.toNat_natCast, needO_true (by rw [hlen]; omega)]
        have hlt : m.toNat - 1 < rows.length := by omega
        have e : (rows.take m.toNat).getD (m.toNat - 1) RowT.dflt = rows.getD (m.toNat - 1) RowT.dflt := by
          rw [getD_at (show m.toNat - 1 < (rows.take m.toNat).length by omega), getD_at hlt, List.getElem_take]
        rw [e, getD_at hlt]
        have hin := hg.inside _ (hsub _ (List.getElem_mem hlt))
        have hhi := hg.hi
        have hlo := hg.lo
        rw [wrap_in (by omega) (by omega)]
      · rw [decide_eq_false h6, cond_false, if_neg h6, show m.toNat = 0 by omega, List.take_zero]
    · rw [decide_eq_false h5, cond_false, if_neg h5]
  · rw [if_neg hg, if_neg fun h => hg h.1]; rfl

-- ---------------------------------------------------------------- what the document says of two fetches
def some4 : Part := (0, 10, [(2, 1, 0, ⟨#[]⟩, ⟨#[]⟩), (4, 1, 1, ⟨#[]⟩, ⟨#[]⟩), (5, 1, 2, ⟨#[]⟩, ⟨#[]⟩), (9, 1, 3, ⟨#[]⟩, ⟨#[]⟩)], [], [])

theorem some_f : rovinglaw13_some.f = some some4 := rfl

theorem some_good : Good some4 where
  lo := by decide
  le := by decide
  hi := by decide
  rows := by simp [some4]
  opens := by simp [some4]
  inside := by simp [some4]
  full := by simp [some4]

theorem some_fits : Fits some4 := ⟨by decide, by decide⟩

theorem wakes_f : rovinglaw13_wakes.f = some true := by
  unfold rovinglaw13_wakes.f rovinglaw13_wakes.T
  simp only [opt_br, opt_need, opt_call, opt_ret, some_f, fetch_f _ _ _ some_fits, Option.bind_some]
  have e1 : fetchC some4 3 2 = ([(4, 1, 1, ⟨#[]⟩, ⟨#[]⟩), (5, 1, 2, ⟨#[]⟩, ⟨#[]⟩)], 6, 0) := by
    unfold fetchC
    rw [if_pos ⟨some_good, by decide, by decide⟩, if_neg (by decide)]
    rfl
  have e2 : fetchC some4 6 9 = ([(9, 1, 3, ⟨#[]⟩, ⟨#[]⟩)], 10, 0) := by
    unfold fetchC
    rw [if_pos ⟨some_good, by decide, by decide⟩, if_neg (by decide)]
    rfl
  rw [e1, e2, needO_true (fun _ => ⟨Int.le_refl 0, by decide⟩)]
  rfl

-- ---------------------------------------------------------------- plain rows
theorem clone_f (xs : List Row) (hl : xs.length ≤ 2513169434916) : slices_Clone_api_Row_api_Row.f xs = some xs := by
  unfold slices_Clone_api_Row_api_Row.f slices_Clone_api_Row_api_Row.T
  simp only [opt_ask, opt_br, opt_need, opt_ret, cond_true, cond_false, List.nil_append]
  rw [needO_true (by omega)]
  cases xs with
  | nil => simp
  | cons x xs => simp

def plainRow (r : Row) : Row := (0, r.2)

theorem plain_f (xs : List Row) (hl : xs.length ≤ 2513169434916) : read_Plain.f xs = some (xs.map plainRow) := by
  unfold read_Plain.f
  rw [loopO_go (s := .l3 xs.length 0 xs) (by simp [read_Plain.T, clone_f xs hl])]
  have e := while_back (n := xs.length) (fun i => whileO (fun s => (read_Plain.step slices_Clone_api_Row_api_Row.f s).opt) (.l3 xs.length (i : Int) ((xs.take i).map plainRow ++ xs.drop i)) = some (xs.map plainRow))
    (by rw [whileO_done (b := xs.map plainRow) (by simp [read_Plain.step, read_Plain.T3])]) (fun i hi ih => by
      have hi1 : ((i : Int) < (xs.length : Int)) := by omega
      have hl1 : ((xs.take i).map plainRow ++ xs.drop i).length = xs.length := by simp; omega
      rw [whileO_next (s' := .l3 xs.length ((i + 1 : Nat) : Int) ((xs.take (i + 1)).map plainRow ++ xs.drop (i + 1))) (by
        simp only [read_Plain.step, read_Plain.T3, opt_br, opt_need, opt_ret, Int.toNat_natCast, hi1, decide_true, cond_true, wrapN1 (show i + 1 ≤ 9223372036854775807 by omega)]
        rw [needO_true (by rw [hl1]; omega)]
        congr 3
        have h1 : ((xs.take i).map plainRow).length = i := by simp; omega
        have e1 : ((xs.take i).map plainRow ++ xs.drop i).getD i (Ty.dflt RowT) = xs[i] := by
          rw [List.getD_eq_getElem?_getD, List.getElem?_append_right (by omega), h1]
          simp [hi]
        rw [e1, List.set_append_right _ _ (by omega), h1, Nat.sub_self, List.drop_eq_getElem_cons hi, List.set_cons_zero, List.take_succ_eq_append_getElem hi, List.map_append, List.append_assoc]
        rfl), ih]) xs.length 0 (by omega)
  simpa using e

theorem ReadPlain_f (xs : List Row) (hl : xs.length ≤ 9223372036854775807) : rovinglaw13_ReadPlain.f xs = some true := by
  unfold rovinglaw13_ReadPlain.f
  cases hg : greatRows xs with
  | true => exact loopO_ret (by simp only [rovinglaw13_ReadPlain.T, opt_call, opt_br, opt_ret, greatRows_f xs hl, hg, wakes_f, Option.bind_some, cond_true])
  | false =>
    have h300 : xs.length ≤ 300 := by
      unfold greatRows at hg
      rw [Bool.or_eq_false_iff] at hg
      have := of_decide_eq_false hg.1
      omega
    have hp := plain_f xs (by omega)
    rw [loopO_go (s := .l7 xs (xs.map plainRow) xs.length 0) (by
      simp only [rovinglaw13_ReadPlain.T, opt_call, opt_br, opt_ret, greatRows_f xs hl, hg, hp, Option.bind_some, cond_false, List.length_map]
      rw [show ((xs.length : Int) != xs.length) = false by simp]; rfl)]
    have e := while_back (n := xs.length) (fun i => whileO (fun s => (rovinglaw13_ReadPlain.step rovingref13_GreatRows.f rovinglaw13_wakes.f read_Plain.f s).opt) (.l7 xs (xs.map plainRow) xs.length (i : Int)) = some true)
      (by rw [whileO_done (b := true) (by simp [rovinglaw13_ReadPlain.step, rovinglaw13_ReadPlain.T7, wakes_f])]) (fun i hi ih => by
        have hi1 : ((i : Int) < (xs.length : Int)) := by omega
        rw [whileO_next (s' := .l7 xs (xs.map plainRow) xs.length ((i + 1 : Nat) : Int)) (by
          have hi2 : i < (xs.map plainRow).length := by simpa using hi
          simp only [rovinglaw13_ReadPlain.step, rovinglaw13_ReadPlain.T7, opt_br, opt_need, opt_ret, Int.toNat_natCast, hi1, decide_true, cond_true, getD_at hi, getD_at hi2, List.getElem_map, wrapN1 (show i + 1 ≤ 9223372036854775807 by omega), eqD_dec (t := RowT) rfl, plainRow, Bool.not_true, cond_false, List.length_map]
          rw [needO_true ⟨by omega, trivial⟩, needO_true ⟨by omega, trivial⟩]), ih]) xs.length 0 (by omega)
    simpa using e
end Go.Abs
