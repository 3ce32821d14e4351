/-
Layer 11, names: the reference's answer is the same; every name is its own.
-/
import Derived.Test.YtoopjhnbcbnleaaDoorQ11
namespace Go.Abs
open Go.Proofs
set_option linter.unusedVariables false
set_option linter.unusedSimpArgs false
set_option maxRecDepth 100000

noncomputable abbrev pstp (x : rovingref11_Parse.S) := (rovingref11_Parse.step rovingref11_Meta.f rovingref11_Log.f rovingref11_Side.f x).opt

theorem rparse_f (s : ByteArray) : rovingref11_Parse.f s = some (scan s allW) := by
  unfold rovingref11_Parse.f
  rw [loopO_go (s := .l2 s 0) rfl]
  have h15 : ∀ (q p n : Int) (rest : List What), IntKind.i64.wrap (p + 1) = n → p ≤ 8 → whileO pstp (.l15 s q n) = some (scan s rest) → whileO pstp (.l15 s q p) = some (scan s ((1, 2, q, p) :: rest)) := by
    intro q p n rest hn hp h
    rw [scan]
    by_cases hs : nameB (1, 2, q, p) = s
    · rw [if_pos hs, whileO_done]
      simp only [pstp, rovingref11_Parse.step, rovingref11_Parse.T15, opt_br, opt_call, opt_ret, decide_eq_true hp, cond_true, rside_f, Option.bind_some, same_bytes]
      rw [decide_eq_true (show s = sideB q p from hs.symm)]; rfl
    · rw [if_neg hs, whileO_next (s' := .l15 s q n), h]
      simp only [pstp, rovingref11_Parse.step, rovingref11_Parse.T15, opt_br, opt_call, opt_ret, decide_eq_true hp, cond_true, rside_f, Option.bind_some, same_bytes, hn]
      rw [decide_eq_false (show ¬ s = sideB q p from fun e => hs e.symm)]; rfl
  have e15 : ∀ (q n : Int) (rest : List What), IntKind.i64.wrap (q + 1) = n → whileO pstp (.l12 s n) = some (scan s rest) → whileO pstp (.l15 s q 1) = some (scan s (sides q ++ rest)) := by
    intro q n rest hn h
    have hend : whileO pstp (.l15 s q 9) = some (scan s rest) := by
      rw [whileO_next (s' := .l12 s n), h]
      simp only [pstp, rovingref11_Parse.step, rovingref11_Parse.T15, opt_br, opt_ret, hn]
      rfl
    exact h15 q 1 2 _ (by decide) (by decide) <| h15 q 2 3 _ (by decide) (by decide) <| h15 q 3 4 _ (by decide) (by decide) <| h15 q 4 5 _ (by decide) (by decide) <| h15 q 5 6 _ (by decide) (by decide) <| h15 q 6 7 _ (by decide) (by decide) <| h15 q 7 8 _ (by decide) (by decide) <| h15 q 8 9 _ (by decide) (by decide) hend
  have e12 : whileO pstp (.l12 s 0) = some (scan s (sides 0 ++ (sides 1 ++ (sides 2 ++ [])))) := by
    have h12 : ∀ (q : Int) (rest : List What), q < 3 → whileO pstp (.l15 s q 1) = some (scan s rest) → whileO pstp (.l12 s q) = some (scan s rest) := by
      intro q rest hq h
      rw [whileO_next (s' := .l15 s q 1), h]
      simp only [pstp, rovingref11_Parse.step, rovingref11_Parse.T12, opt_br, opt_ret, decide_eq_true hq, cond_true]
    refine h12 0 _ (by decide) (e15 0 1 _ (by decide) (h12 1 _ (by decide) (e15 1 2 _ (by decide) (h12 2 _ (by decide) (e15 2 3 _ (by decide) ?_)))))
    rw [whileO_done (b := (0, 0, 0, 0, false))]
    · rfl
    · simp only [pstp, rovingref11_Parse.step, rovingref11_Parse.T12, opt_br, opt_ret]; rfl
  have h7 : ∀ (t k n : Int) (rest : List What), IntKind.i64.wrap (k + 1) = n → k < 3 → whileO pstp (.l7 s t n) = some (scan s rest) → whileO pstp (.l7 s t k) = some (scan s ((t, 1, k, 0) :: rest)) := by
    intro t k n rest hn hk h
    rw [scan]
    by_cases hs : nameB (t, 1, k, 0) = s
    · rw [if_pos hs, whileO_done]
      simp only [pstp, rovingref11_Parse.step, rovingref11_Parse.T7, opt_br, opt_call, opt_ret, decide_eq_true hk, cond_true, rlog_f, Option.bind_some, same_bytes]
      rw [decide_eq_true (show s = logB t k from hs.symm)]; rfl
    · rw [if_neg hs, whileO_next (s' := .l7 s t n), h]
      simp only [pstp, rovingref11_Parse.step, rovingref11_Parse.T7, opt_br, opt_call, opt_ret, decide_eq_true hk, cond_true, rlog_f, Option.bind_some, same_bytes, hn]
      rw [decide_eq_false (show ¬ s = logB t k from fun e => hs e.symm)]; rfl
  have h2 : ∀ (t n : Int) (rest : List What), t ≤ 1 → IntKind.i8.wrap (t + 1) = n → whileO pstp (.l2 s n) = some (scan s rest) → whileO pstp (.l2 s t) = some (scan s (((t, 0, 0, 0) :: logs t) ++ rest)) := by
    intro t n rest ht hn h
    rw [List.cons_append, scan]
    by_cases hs : nameB (t, 0, 0, 0) = s
    · rw [if_pos hs, whileO_done]
      simp only [pstp, rovingref11_Parse.step, rovingref11_Parse.T2, opt_br, opt_call, opt_ret, decide_eq_true ht, cond_true, rmeta_f, Option.bind_some, same_bytes]
      rw [decide_eq_true (show s = metaB t from hs.symm)]; rfl
    · rw [if_neg hs, whileO_next (s' := .l7 s t 0)]
      · refine h7 t 0 1 _ (by decide) (by decide) <| h7 t 1 2 _ (by decide) (by decide) <| h7 t 2 3 _ (by decide) (by decide) ?_
        rw [whileO_next (s' := .l2 s n)]
        · exact h
        · simp only [pstp, rovingref11_Parse.step, rovingref11_Parse.T7, opt_br, opt_ret, hn]
          rfl
      · simp only [pstp, rovingref11_Parse.step, rovingref11_Parse.T2, opt_br, opt_call, opt_ret, decide_eq_true ht, cond_true, rmeta_f, Option.bind_some, same_bytes]
        rw [decide_eq_false (show ¬ s = metaB t from fun e => hs e.symm)]; rfl
  refine (h2 0 1 _ (by decide) (by decide) (h2 1 2 (sides 0 ++ (sides 1 ++ (sides 2 ++ []))) (by decide) (by decide) ?_)).trans (by rfl)
  rw [whileO_next (s' := .l12 s 0), e12]
  simp only [pstp, rovingref11_Parse.step, rovingref11_Parse.T2, opt_br, opt_ret]
  rfl

-- ---------------------------------------------------------------- each name is its own
/-- What a name was made of. -/
theorem scan_name : ∀ w ∈ allW, scan (nameB w) allW = (w.1, w.2.1, w.2.2.1, w.2.2.2, true) := by
  have : (allW.all fun w => decide (scan (nameB w) allW = (w.1, w.2.1, w.2.2.1, w.2.2.2, true))) = true := by decide +kernel
  intro w hw
  exact of_decide_eq_true (List.all_eq_true.1 this w hw)

theorem name_inj {v w : What} (hv : v ∈ allW) (hw : w ∈ allW) (h : nameB v = nameB w) : v = w := by
  have h1 := scan_name v hv
  have h2 := scan_name w hw
  rw [h, h2] at h1
  simp only [Prod.mk.injEq, and_true] at h1
  obtain ⟨a, b, c, d⟩ := v
  obtain ⟨a', b', c', d'⟩ := w
  obtain ⟨e1, e2, e3, e4⟩ := h1
  simp only at e1 e2 e3 e4
  subst e1 e2 e3 e4
  rfl

theorem scan_found (s : ByteArray) : ∀ (l : List What), (scan s l).2.2.2.2 = true → ∃ w ∈ l, nameB w = s ∧ scan s l = (w.1, w.2.1, w.2.2.1, w.2.2.2, true)
  | [], h => by simp [scan] at h
  | w :: r, h => by
    rw [scan] at h ⊢
    by_cases hs : nameB w = s
    · rw [if_pos hs]; exact ⟨w, List.mem_cons_self .., hs, rfl⟩
    · rw [if_neg hs] at h ⊢
      obtain ⟨v, h1, h2, h3⟩ := scan_found s r h
      exact ⟨v, List.mem_cons_of_mem _ h1, h2, h3⟩

theorem name_ne : ∀ w ∈ allW, nameB w ≠ nilB ∧ nameB w ≠ ByteArray.mk (List.toArray [116]) ∧ nameB w ≠ ByteArray.mk (List.toArray [120]) ∧ (w.1 = 0 ∨ w.1 = 1) := by
  have : (allW.all fun w => decide (nameB w ≠ nilB ∧ nameB w ≠ ByteArray.mk (List.toArray [116]) ∧ nameB w ≠ ByteArray.mk (List.toArray [120]) ∧ (w.1 = 0 ∨ w.1 = 1))) = true := by decide +kernel
  intro w hw
  exact of_decide_eq_true (List.all_eq_true.1 this w hw)

theorem wakes11_f : rovinglaw11_wakes.f = some true := by
  unfold rovinglaw11_wakes.f rovinglaw11_wakes.T
  simp only [opt_br, opt_need, opt_call, opt_ret, parse_f, side_f, meta_f 0 (by decide) (by decide), log_f 0 1 (by decide) (by decide), letter_f 1 (by decide) (by decide), Option.bind_some, Option.isSome_some, Option.getD_some]
  rw [needO_true (fun _ => trivial), needO_true (fun _ => trivial), needO_true (fun _ => trivial)]
  exact congrArg some (by decide +kernel)

theorem NamesTell_f (t q p : Int) (s : ByteArray) (h0 : -128 ≤ t) (h1 : t ≤ 127) : rovinglaw11_NamesTell.f t q p s = some true := by
  unfold rovinglaw11_NamesTell.f rovinglaw11_NamesTell.T
  simp only [opt_br, opt_need, opt_call, opt_ret, parse_f, rparse_f, side_f, rside_f, meta_f t h0 h1, rmeta_f, log_f t q h0 h1, rlog_f, letter_f t h0 h1, rletter_f, wakes11_f, Option.bind_some, Option.isSome_some, Option.getD_some, same_bytes, decide_true, cond_true, beq_self_eq_true]
  by_cases h : (s.size : Int) > 100
  · rw [decide_eq_true h]; rfl
  · rw [decide_eq_false h, cond_false]
    repeat rw [needO_true (fun _ => trivial)]
    simp [eqD_dec (t := .bool) rfl]
end Go.Abs
