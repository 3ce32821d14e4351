/-
Layer 11, names: what each function comes to.
-/
import Derived.Test.YtoopjhnbcbnleaaDoorP11
import Derived.Test.YtoopjhnbcbnleaaDoorQ0
import Derived.Laws.Strings
namespace Go.Abs
open Go.Proofs
set_option linter.unusedVariables false
set_option linter.unusedSimpArgs false
set_option maxRecDepth 100000

theorem same_bytes (a b : ByteArray) : (a.toList == b.toList) = decide (a = b) := by
  rw [Bool.eq_iff_iff, beq_iff_eq, decide_eq_true_eq, ByteArray.toList_eq, ByteArray.toList_eq]
  constructor
  · intro h
    cases a; cases b
    simp only at h
    exact congrArg ByteArray.mk (Array.ext' h)
  · rintro rfl; rfl

abbrev nilB : ByteArray := ByteArray.mk (List.toArray ([] : List UInt8))
def letB (t : Int) : ByteArray := if t = 0 then ByteArray.mk (List.toArray [105]) else if t = 1 then ByteArray.mk (List.toArray [98]) else nilB
def dig (n : Int) : ByteArray := bytesOf [48 + n]
def isTag (t : Int) : Bool := decide (t = 0) || decide (t = 1)
def metaB (t : Int) : ByteArray := if isTag t = true then letB t ++ ByteArray.mk (List.toArray [109]) else nilB
def logB (t q : Int) : ByteArray := if isTag t = true ∧ 0 ≤ q ∧ q < 3 then letB t ++ dig q else nilB
def sideB (q p : Int) : ByteArray := if (0 ≤ q ∧ q < 3) ∧ 1 ≤ p ∧ p ≤ 8 then ((ByteArray.mk (List.toArray [98]) ++ dig q) ++ ByteArray.mk (List.toArray [46])) ++ dig p else nilB

theorem tag_cases {t : Int} (h : isTag t = true) : t = 0 ∨ t = 1 := by simpa [isTag] using h
theorem tag_not {t : Int} (h : isTag t = false) : t ≠ 0 ∧ t ≠ 1 := by simpa [isTag] using h
theorem let_nil {t : Int} : letB t = nilB ↔ isTag t = false := by
  unfold letB isTag
  by_cases h0 : t = 0
  · subst h0; simp [nilB]
  · by_cases h1 : t = 1
    · subst h1; simp [nilB]
    · simp [h0, h1]
theorem let_size (t : Int) : (letB t).size ≤ 1 := by
  unfold letB
  split
  · decide
  · split <;> decide

theorem dig_size (n : Int) : (dig n).size = 1 := by unfold dig; rw [bytesOf_size]; rfl

theorem letter_f (t : Int) (h0 : -128 ≤ t) (h1 : t ≤ 127) : names_Letter.f t = some (letB t) := by
  unfold names_Letter.f names_Letter.T
  simp only [opt_br, opt_need, opt_ret]
  rw [wrap_in (show -9223372036854775808 ≤ t by omega) (by omega)]
  by_cases h2 : t < 0
  · rw [decide_eq_true h2, cond_true, cond_true]
    unfold letB; rw [if_neg (by omega), if_neg (by omega)]
  · rw [decide_eq_false h2, cond_false]
    by_cases h3 : t ≥ 2
    · rw [decide_eq_true h3, cond_true]
      unfold letB; rw [if_neg (by omega), if_neg (by omega)]
    · rw [decide_eq_false h3, cond_false]
      have : t = 0 ∨ t = 1 := by omega
      rcases this with rfl | rfl
      · rw [needO_true (by decide)]; rfl
      · rw [needO_true (by decide)]; rfl

theorem rletter_f (t : Int) : rovingref11_Letter.f t = some (letB t) := by
  unfold rovingref11_Letter.f rovingref11_Letter.T letB
  simp only [opt_br, opt_ret]
  by_cases h0 : t = 0
  · subst h0; rfl
  · rw [show (t == (0 : Int)) = false by simpa using h0, cond_false, if_neg h0]
    by_cases h1 : t = 1
    · subst h1; rfl
    · rw [show (t == (1 : Int)) = false by simpa using h1, cond_false, if_neg h1]

theorem ten {n : Int} (h0 : 0 ≤ n) (h1 : n < 10) : n = 0 ∨ n = 1 ∨ n = 2 ∨ n = 3 ∨ n = 4 ∨ n = 5 ∨ n = 6 ∨ n = 7 ∨ n = 8 ∨ n = 9 := by omega

theorem small_f (n : Int) (h0 : 0 ≤ n) (h1 : n < 10) : internal_strconv_small.f n = some (dig n) := by
  unfold internal_strconv_small.f internal_strconv_small.T
  simp only [opt_br, opt_need, opt_ret]
  rw [decide_eq_true h1, cond_true]
  rcases ten h0 h1 with rfl | rfl | rfl | rfl | rfl | rfl | rfl | rfl | rfl | rfl <;> (rw [needO_true (by decide)]; exact congrArg some (by decide +kernel))

theorem itoa_f (n : Int) (h0 : 0 ≤ n) (h1 : n < 10) : strconv_Itoa.f n = some (dig n) := by
  unfold strconv_Itoa.f strconv_Itoa.T internal_strconv_Itoa.f internal_strconv_Itoa.T internal_strconv_FormatInt.f internal_strconv_FormatInt.T
  simp only [opt_br, opt_call, opt_ret, small_f n h0 h1, Option.bind_some]
  rw [decide_eq_true h0, decide_eq_true (show n < 100 by omega)]
  rfl

theorem digit_f (n : Int) (h0 : 0 ≤ n) (h1 : n < 10) : rovingref11_digit.f n = some (dig n) := by
  unfold rovingref11_digit.f rovingref11_digit.T
  simp only [opt_ret]
  rcases ten h0 h1 with rfl | rfl | rfl | rfl | rfl | rfl | rfl | rfl | rfl | rfl <;> exact congrArg some (by decide +kernel)

theorem meta_f (t : Int) (h0 : -128 ≤ t) (h1 : t ≤ 127) : names_Meta.f t = some (metaB t) := by
  unfold names_Meta.f names_Meta.T metaB
  simp only [opt_br, opt_need, opt_call, opt_ret, letter_f t h0 h1, Option.bind_some, same_bytes]
  cases h : isTag t with
  | false => rw [decide_eq_true (let_nil.2 h)]; rfl
  | true =>
    rw [decide_eq_false (fun e => by rw [let_nil.1 e] at h; cases h), cond_false, needO_true (by have := let_size t; omega), if_pos rfl]

theorem rmeta_f (t : Int) : rovingref11_Meta.f t = some (metaB t) := by
  unfold rovingref11_Meta.f rovingref11_Meta.T metaB
  simp only [opt_br, opt_need, opt_call, opt_ret, rletter_f t, Option.bind_some, same_bytes]
  cases h : isTag t with
  | false => rw [decide_eq_true (let_nil.2 h)]; rfl
  | true =>
    rw [decide_eq_false (fun e => by rw [let_nil.1 e] at h; cases h), cond_false, needO_true (by have := let_size t; omega), if_pos rfl]

theorem log_f (t q : Int) (h0 : -128 ≤ t) (h1 : t ≤ 127) : names_Log.f t q = some (logB t q) := by
  unfold names_Log.f names_Log.T logB
  simp only [opt_br, opt_need, opt_call, opt_ret, letter_f t h0 h1, Option.bind_some, same_bytes]
  cases h : isTag t with
  | false => rw [decide_eq_true (let_nil.2 h)]; simp
  | true =>
    rw [decide_eq_false (fun e => by rw [let_nil.1 e] at h; cases h), cond_false]
    by_cases h2 : q < 0
    · rw [decide_eq_true h2, cond_true, cond_true, if_neg (by omega)]
    · rw [decide_eq_false h2, cond_false]
      by_cases h3 : q ≥ 3
      · rw [decide_eq_true h3, cond_true, if_neg (by omega)]
      · rw [decide_eq_false h3, cond_false, itoa_f q (by omega) (by omega), Option.bind_some, needO_true (by have := let_size t; have := dig_size q; omega), if_pos ⟨rfl, by omega, by omega⟩]

theorem rlog_f (t q : Int) : rovingref11_Log.f t q = some (logB t q) := by
  unfold rovingref11_Log.f rovingref11_Log.T logB
  simp only [opt_br, opt_need, opt_call, opt_ret, rletter_f t, Option.bind_some, same_bytes]
  cases h : isTag t with
  | false => rw [decide_eq_true (let_nil.2 h)]; simp
  | true =>
    rw [decide_eq_false (fun e => by rw [let_nil.1 e] at h; cases h), cond_false]
    by_cases h2 : q < 0
    · rw [decide_eq_true h2, cond_true, cond_true, if_neg (by omega)]
    · rw [decide_eq_false h2, cond_false]
      by_cases h3 : q ≥ 3
      · rw [decide_eq_true h3, cond_true, if_neg (by omega)]
      · rw [decide_eq_false h3, cond_false, digit_f q (by omega) (by omega), Option.bind_some, needO_true (by have := let_size t; have := dig_size q; omega), if_pos ⟨rfl, by omega, by omega⟩]

theorem log1 (q : Int) : logB 1 q = if 0 ≤ q ∧ q < 3 then ByteArray.mk (List.toArray [98]) ++ dig q else nilB := by
  unfold logB
  simp [isTag, letB]

theorem log1_nil (q : Int) : logB 1 q = nilB ↔ ¬ (0 ≤ q ∧ q < 3) := by
  rw [log1]
  by_cases h : 0 ≤ q ∧ q < 3
  · rw [if_pos h]
    refine ⟨fun e => ?_, fun n => absurd h n⟩
    have := congrArg ByteArray.size e
    rw [ByteArray.size_append, dig_size] at this
    exact absurd this (by decide)
  · rw [if_neg h]; simp [h]

theorem side_f (q p : Int) : names_Side.f q p = some (sideB q p) := by
  unfold names_Side.f names_Side.T sideB
  simp only [opt_br, opt_need, opt_call, opt_ret, log_f 1 q (by omega) (by omega), Option.bind_some, Option.isSome_some, Option.getD_some, same_bytes]
  rw [needO_true (fun _ => trivial)]
  by_cases h1 : p < 1
  · rw [decide_eq_true h1, cond_true, cond_true, cond_true, if_neg (by omega)]
  · rw [decide_eq_false h1, cond_false]
    by_cases h2 : p > 8
    · rw [decide_eq_true h2, cond_true, cond_true, if_neg (by omega)]
    · rw [decide_eq_false h2, cond_false]
      by_cases h3 : 0 ≤ q ∧ q < 3
      · rw [decide_eq_false (fun e => (log1_nil q).1 e h3), cond_false, itoa_f p (by omega) (by omega), Option.bind_some, if_pos ⟨h3, by omega, by omega⟩, log1, if_pos h3]
        have e1 : (ByteArray.mk (List.toArray [(98 : UInt8)])).size = 1 := rfl
        have e2 : (ByteArray.mk (List.toArray [(46 : UInt8)])).size = 1 := rfl
        have hq := dig_size q
        have hp := dig_size p
        rw [needO_true (by rw [ByteArray.size_append]; omega), needO_true (by rw [ByteArray.size_append, ByteArray.size_append]; omega)]
      · rw [decide_eq_true ((log1_nil q).2 h3), cond_true, if_neg (fun h => h3 h.1)]

theorem rside_f (q p : Int) : rovingref11_Side.f q p = some (sideB q p) := by
  unfold rovingref11_Side.f rovingref11_Side.T sideB
  simp only [opt_br, opt_need, opt_call, opt_ret, Option.bind_some]
  by_cases h : (0 ≤ q ∧ q < 3) ∧ 1 ≤ p ∧ p ≤ 8
  · rw [decide_eq_false (show ¬ q < 0 by omega), decide_eq_false (show ¬ q ≥ 3 by omega), decide_eq_false (show ¬ p < 1 by omega), decide_eq_false (show ¬ p > 8 by omega), if_pos h]
    simp only [cond_false]
    have e1 : (ByteArray.mk (List.toArray [(98 : UInt8)])).size = 1 := rfl
    have e2 : (ByteArray.mk (List.toArray [(46 : UInt8)])).size = 1 := rfl
    have hq := dig_size q
    have hp := dig_size p
    rw [digit_f q (by omega) (by omega), Option.bind_some, needO_true (by omega), needO_true (by rw [ByteArray.size_append]; omega), digit_f p (by omega) (by omega), Option.bind_some, needO_true (by rw [ByteArray.size_append, ByteArray.size_append]; omega)]
  · rw [if_neg h]
    have : (bif (bif (bif (decide (q < (0 : Int))) then true else (decide (q ≥ (3 : Int)))) then true else (decide (p < (1 : Int)))) then true else (decide (p > (8 : Int)))) = true := by
      by_cases h1 : q < 0
      · rw [decide_eq_true h1]; rfl
      rw [decide_eq_false h1, cond_false]
      by_cases h2 : q ≥ 3
      · rw [decide_eq_true h2]; rfl
      rw [decide_eq_false h2, cond_false]
      by_cases h3 : p < 1
      · rw [decide_eq_true h3]; rfl
      rw [decide_eq_false h3, cond_false]
      exact decide_eq_true (by omega)
    rw [this, cond_true]

-- ---------------------------------------------------------------- what a file may be
abbrev What := Int × Int × Int × Int
def nameB (w : What) : ByteArray := if w.2.1 = 0 then metaB w.1 else if w.2.1 = 1 then logB w.1 w.2.2.1 else sideB w.2.2.1 w.2.2.2

theorem name_f (w : What) (h0 : -128 ≤ w.1) (h1 : w.1 ≤ 127) : names_what_name.f w = some (nameB w) := by
  unfold names_what_name.f names_what_name.T nameB
  simp only [opt_br, opt_call, opt_ret, meta_f w.1 h0 h1, log_f w.1 w.2.2.1 h0 h1, side_f, Option.bind_some]
  by_cases h2 : w.2.1 = 0
  · rw [show (w.2.1 == (0 : Int)) = true by simpa using h2, cond_true, if_pos h2]
  · rw [show (w.2.1 == (0 : Int)) = false by simpa using h2, cond_false, if_neg h2]
    by_cases h3 : w.2.1 = 1
    · rw [show (w.2.1 == (1 : Int)) = true by simpa using h3, cond_true, if_pos h3]
    · rw [show (w.2.1 == (1 : Int)) = false by simpa using h3, cond_false, if_neg h3]

def logs (t : Int) : List What := [(t, 1, 0, 0), (t, 1, 1, 0), (t, 1, 2, 0)]
def sides (q : Int) : List What := [(1, 2, q, 1), (1, 2, q, 2), (1, 2, q, 3), (1, 2, q, 4), (1, 2, q, 5), (1, 2, q, 6), (1, 2, q, 7), (1, 2, q, 8)]
def allW : List What := ((0, 0, 0, 0) :: logs 0) ++ ((1, 0, 0, 0) :: logs 1) ++ (sides 0 ++ sides 1 ++ sides 2)

abbrev Found := Int × Int × Int × Int × Bool
def scan (s : ByteArray) : List What → Found
  | [] => (0, 0, 0, 0, false)
  | w :: r => if nameB w = s then (w.1, w.2.1, w.2.2.1, w.2.2.2, true) else scan s r

/-- What the loop over all files leaves behind. -/
def left (s : ByteArray) : List What → Int × ByteArray × Int × Int × Int × Int × Bool
  | [] => (0, s, 0, 0, 0, 0, false)
  | w :: r => if nameB w = s then (1, s, w.1, w.2.1, w.2.2.1, w.2.2.2, true) else left s r

theorem round11_f (w : What) (s : ByteArray) (h0 : -128 ≤ w.1) (h1 : w.1 ≤ 127) : names_ParseRoundA.f w 0 s 0 0 0 0 false =
    some (if nameB w = s then (false, 1, w.1, w.2.1, w.2.2.1, w.2.2.2, true) else (true, 0, 0, 0, 0, 0, false)) := by
  unfold names_ParseRoundA.f names_ParseRoundA.T
  simp only [opt_br, opt_need, opt_call, opt_ret, name_f w h0 h1, Option.bind_some, same_bytes]
  rw [needO_true trivial]
  by_cases h : nameB w = s
  · rw [decide_eq_true h, if_pos h]; rfl
  · rw [decide_eq_false h, if_neg h]; rfl

noncomputable abbrev astep (s : ByteArray) (x : names_all.S) := (names_all.step names_ParseRoundA.f 0 s 0 0 0 0 false x).opt

theorem all_f (s : ByteArray) : names_all.f 0 s 0 0 0 0 false = some (left s allW) := by
  unfold names_all.f
  rw [loopO_go (s := .l1 0 0 s 0 0 0 0 false) rfl]
  -- one file
  have h14 : ∀ (q p : Int) (rest : List What) (n : Int), IntKind.i64.wrap (p + 1) = n → p < 8 → whileO (astep s) (.l14 q q n 0 s 0 0 0 0 false) = some (left s rest) →
      whileO (astep s) (.l14 q q p 0 s 0 0 0 0 false) = some (left s ((1, 2, q, n) :: rest)) := by
    intro q p rest n hn hp h
    have hr := round11_f (1, 2, q, n) s (by omega) (by omega)
    dsimp only at hr
    rw [left]
    by_cases hs : nameB (1, 2, q, n) = s
    · rw [if_pos hs, whileO_done]
      simp only [astep, names_all.step, names_all.T14, opt_br, opt_need, opt_call, opt_ret, decide_eq_true hp, cond_true, hn, hr, if_pos hs]
      rw [needO_true trivial]; rfl
    · rw [if_neg hs, whileO_next (s' := .l14 q q n 0 s 0 0 0 0 false), h]
      simp only [astep, names_all.step, names_all.T14, opt_br, opt_need, opt_call, opt_ret, decide_eq_true hp, cond_true, hn, hr, if_neg hs]
      rw [needO_true trivial]; rfl
  have e14 : ∀ (q n : Int) (rest : List What), IntKind.i64.wrap (q + 1) = n → whileO (astep s) (.l11 n 0 s 0 0 0 0 false) = some (left s rest) → whileO (astep s) (.l14 q q 0 0 s 0 0 0 0 false) = some (left s (sides q ++ rest)) := by
    intro q n rest hn h
    have hend : whileO (astep s) (.l14 q q 8 0 s 0 0 0 0 false) = some (left s rest) := by
      rw [whileO_next (s' := .l11 n 0 s 0 0 0 0 false), h]
      simp only [astep, names_all.step, names_all.T14, opt_br, opt_ret, hn]
      rfl
    exact h14 q 0 _ 1 (by decide) (by decide) <| h14 q 1 _ 2 (by decide) (by decide) <| h14 q 2 _ 3 (by decide) (by decide) <| h14 q 3 _ 4 (by decide) (by decide) <| h14 q 4 _ 5 (by decide) (by decide) <| h14 q 5 _ 6 (by decide) (by decide) <| h14 q 6 _ 7 (by decide) (by decide) <| h14 q 7 _ 8 (by decide) (by decide) hend
  have e11 : whileO (astep s) (.l11 0 0 s 0 0 0 0 false) = some (left s (sides 0 ++ (sides 1 ++ (sides 2 ++ [])))) := by
    have h11 : ∀ (q : Int) (rest : List What), q < 3 → whileO (astep s) (.l14 q q 0 0 s 0 0 0 0 false) = some (left s rest) → whileO (astep s) (.l11 q 0 s 0 0 0 0 false) = some (left s rest) := by
      intro q rest hq h
      rw [whileO_next (s' := .l14 q q 0 0 s 0 0 0 0 false), h]
      simp only [astep, names_all.step, names_all.T11, opt_br, opt_ret, decide_eq_true hq, cond_true]
    refine h11 0 _ (by decide) (e14 0 1 _ (by decide) (h11 1 _ (by decide) (e14 1 2 _ (by decide) (h11 2 _ (by decide) (e14 2 3 _ (by decide) ?_)))))
    rw [whileO_done (b := (0, s, 0, 0, 0, 0, false))]
    · rfl
    · simp only [astep, names_all.step, names_all.T11, opt_br, opt_ret]; rfl
  have h5 : ∀ (t k n : Int) (rest : List What), -128 ≤ t → t ≤ 127 → IntKind.i64.wrap (k + 1) = n → k < 3 → whileO (astep s) (.l5 t t n 0 s 0 0 0 0 false) = some (left s rest) →
      whileO (astep s) (.l5 t t k 0 s 0 0 0 0 false) = some (left s ((t, 1, k, 0) :: rest)) := by
    intro t k n rest h0 h1 hn hk h
    have hr := round11_f (t, 1, k, 0) s h0 h1
    dsimp only at hr
    rw [left]
    by_cases hs : nameB (t, 1, k, 0) = s
    · rw [if_pos hs, whileO_done]
      simp only [astep, names_all.step, names_all.T5, opt_br, opt_need, opt_call, opt_ret, decide_eq_true hk, cond_true, hn, hr, if_pos hs]
      rw [needO_true trivial]; rfl
    · rw [if_neg hs, whileO_next (s' := .l5 t t n 0 s 0 0 0 0 false), h]
      simp only [astep, names_all.step, names_all.T5, opt_br, opt_need, opt_call, opt_ret, decide_eq_true hk, cond_true, hn, hr, if_neg hs]
      rw [needO_true trivial]; rfl
  have h1 : ∀ (t n : Int) (rest : List What), -128 ≤ t → t < 2 → IntKind.i8.wrap (t + 1) = n → whileO (astep s) (.l1 n 0 s 0 0 0 0 false) = some (left s rest) →
      whileO (astep s) (.l1 t 0 s 0 0 0 0 false) = some (left s (((t, 0, 0, 0) :: logs t) ++ rest)) := by
    intro t n rest h0 h1 hn h
    have hr := round11_f (t, 0, 0, 0) s h0 (show t ≤ 127 by omega)
    dsimp only at hr
    rw [List.cons_append, left]
    by_cases hs : nameB (t, 0, 0, 0) = s
    · rw [if_pos hs, whileO_done]
      simp only [astep, names_all.step, names_all.T1, opt_br, opt_need, opt_call, opt_ret, decide_eq_true h1, cond_true, hn, hr, if_pos hs]
      rw [needO_true trivial]; rfl
    · rw [if_neg hs, whileO_next (s' := .l5 t t 0 0 s 0 0 0 0 false)]
      · refine h5 t 0 1 _ h0 (by omega) (by decide) (by decide) <| h5 t 1 2 _ h0 (by omega) (by decide) (by decide) <| h5 t 2 3 _ h0 (by omega) (by decide) (by decide) ?_
        rw [whileO_next (s' := .l1 n 0 s 0 0 0 0 false)]
        · exact h
        · simp only [astep, names_all.step, names_all.T5, opt_br, opt_ret, hn]
          rfl
      · simp only [astep, names_all.step, names_all.T1, opt_br, opt_need, opt_call, opt_ret, decide_eq_true h1, cond_true, hn, hr, if_neg hs]
        rw [needO_true trivial]; rfl
  refine (h1 0 1 _ (by decide) (by decide) (by decide) (h1 1 2 (sides 0 ++ (sides 1 ++ (sides 2 ++ []))) (by decide) (by decide) (by decide) ?_)).trans (by rfl)
  rw [whileO_next (s' := .l11 0 0 s 0 0 0 0 false), e11]
  simp only [astep, names_all.step, names_all.T1, opt_br, opt_ret]
  rfl

theorem left_scan (s : ByteArray) : ∀ l, ∃ j, left s l = (j, s, scan s l) ∧ ((j = 1 ∧ (scan s l).2.2.2.2 = true) ∨ (j = 0 ∧ scan s l = (0, 0, 0, 0, false)))
  | [] => ⟨0, rfl, .inr ⟨rfl, rfl⟩⟩
  | w :: r => by
    rw [left, scan]
    by_cases h : nameB w = s
    · rw [if_pos h, if_pos h]; exact ⟨1, rfl, .inl ⟨rfl, rfl⟩⟩
    · rw [if_neg h, if_neg h]; exact left_scan s r

theorem parse_f (s : ByteArray) : names_Parse.f s = some (scan s allW) := by
  unfold names_Parse.f names_Parse.T
  simp only [opt_br, opt_need, opt_call, opt_ret, all_f, Option.bind_some]
  obtain ⟨j, e, h⟩ := left_scan s allW
  rw [e, needO_true trivial]
  rcases h with ⟨rfl, h⟩ | ⟨rfl, h⟩
  · rw [needO_true (show (1 : Int) ≠ -1 by decide)]; rfl
  · rw [needO_true (show (0 : Int) ≠ -1 by decide), needO_true rfl, h]; rfl
end Go.Abs
