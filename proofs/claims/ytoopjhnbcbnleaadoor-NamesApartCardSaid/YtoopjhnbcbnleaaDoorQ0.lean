/-
For plain proofs about printed functions: wraps, loops, lists.
-/
import Derived.Test.YtoopjhnbcbnleaaDoorA22
namespace Go.Abs
open Go.RowKit
set_option linter.unusedVariables false

attribute [simp] opt_ret opt_need opt_br opt_call opt_ask agree_self

theorem needO_bind {β : Type} {p : Prop} {o : Option β} {r : Option β} (h : p) (k : o = r) : needO p o = r := by rw [needO_true h]; exact k

theorem wrap_in {x : Int} (h0 : -9223372036854775808 ≤ x) (h1 : x ≤ 9223372036854775807) : IntKind.i64.wrap x = x := by
  rw [wrap_iff]; simp only [IntKind.min, IntKind.max, IntKind.signed, IntKind.bits]; constructor <;> simp <;> omega

theorem wrapN {n : Nat} (h : n ≤ 9223372036854775807) : IntKind.i64.wrap (n : Int) = n := wrap_in (by omega) (by omega)

theorem wrapN1 {n : Nat} (h : n + 1 ≤ 9223372036854775807) : IntKind.i64.wrap ((n : Int) + 1) = ((n + 1 : Nat) : Int) := by
  have := wrapN (n := n + 1) h
  rwa [Int.natCast_add] at this

theorem getD_at {α : Type} {xs : List α} {i : Nat} {d : α} (h : i < xs.length) : xs.getD i d = xs[i] := by simp [h]

theorem drop_any {α : Type} (p : α → Bool) (xs : List α) {i : Nat} (h : i < xs.length) : (xs.drop i).any p = (p xs[i] || (xs.drop (i + 1)).any p) := by
  rw [List.drop_eq_getElem_cons h, List.any_cons]

/-- A loop over a list by its index, from i on. -/
theorem while_index {σ β : Type} {step : σ → Option (σ ⊕ β)} {n : Nat} (S : Nat → σ) (r : Nat → β) (hend : step (S n) = some (.inr (r n)))
    (hstep : ∀ i, i < n → (step (S i) = some (.inl (S (i + 1))) ∧ r i = r (i + 1)) ∨ step (S i) = some (.inr (r i))) : ∀ k i, k + i = n → whileO step (S i) = some (r i)
  | 0, i, h => by
    obtain rfl : i = n := by omega
    exact whileO_done hend
  | k + 1, i, h => by
    rcases hstep i (by omega) with ⟨h1, h2⟩ | h1
    · rw [whileO_next h1, h2]; exact while_index S r hend hstep k (i + 1) (by omega)
    · exact whileO_done h1

theorem whileO_index {σ β : Type} {step : σ → Option (σ ⊕ β)} {n : Nat} (S : Nat → σ) (r : Nat → β) (hend : step (S n) = some (.inr (r n)))
    (hstep : ∀ i, i < n → (step (S i) = some (.inl (S (i + 1))) ∧ r i = r (i + 1)) ∨ step (S i) = some (.inr (r i))) : whileO step (S 0) = some (r 0) := while_index S r hend hstep n 0 (by omega)

/-- A loop over a list by its index, which then leads on. -/
theorem while_from {σ β : Type} {step : σ → Option (σ ⊕ β)} {n : Nat} (S : Nat → σ) (r : Nat → Option β) (hend : whileO step (S n) = r n)
    (hstep : ∀ i, i < n → (step (S i) = some (.inl (S (i + 1))) ∧ r i = r (i + 1)) ∨ ∃ b, step (S i) = some (.inr b) ∧ r i = some b) : ∀ k i, k + i = n → whileO step (S i) = r i
  | 0, i, h => by
    obtain rfl : i = n := by omega
    exact hend
  | k + 1, i, h => by
    rcases hstep i (by omega) with ⟨h1, h2⟩ | ⟨b, h1, h2⟩
    · rw [whileO_next h1, h2]; exact while_from S r hend hstep k (i + 1) (by omega)
    · rw [whileO_done h1, h2]

/-- Backwards over an index. -/
theorem while_back {n : Nat} (Q : Nat → Prop) (hend : Q n) (hstep : ∀ i, i < n → Q (i + 1) → Q i) : ∀ k i, k + i = n → Q i
  | 0, i, h => by
    obtain rfl : i = n := by omega
    exact hend
  | k + 1, i, h => hstep i (by omega) (while_back Q hend hstep k (i + 1) (by omega))

-- ---------------------------------------------------------------- equality of data
def Ty.cmp : Ty → Bool
  | .int _ | .bool | .str | .unit => true
  | .pair a b => a.cmp && b.cmp
  | .st a => a.cmp
  | _ => false

theorem byte_beq (x y : ByteArray) : (x == y) = true ↔ x = y := by
  cases x; cases y
  show ByteArray.beq _ _ = true ↔ _
  simp [ByteArray.beq]

theorem eqD_iff : ∀ {t : Ty}, t.cmp = true → ∀ x y : t.car, t.eqD x y = true ↔ x = y
  | .int _, _, x, y => by simp only [Ty.eqD]; exact beq_iff_eq (α := Int)
  | .bool, _, x, y => by simp only [Ty.eqD]; exact beq_iff_eq (α := Bool)
  | .str, _, x, y => by simp only [Ty.eqD]; exact byte_beq x y
  | .unit, _, _, _ => by simp [Ty.eqD]
  | .pair a b, h, x, y => by
    simp only [Ty.cmp, Bool.and_eq_true] at h
    simp only [Ty.eqD, Bool.and_eq_true, eqD_iff h.1, eqD_iff h.2]
    exact ⟨fun ⟨h1, h2⟩ => Prod.ext h1 h2, fun h => by rw [h]; exact ⟨rfl, rfl⟩⟩
  | .st a, h, x, y => eqD_iff (t := a) h x y

theorem eqD_dec {t : Ty} [DecidableEq t.car] (h : t.cmp = true) (x y : t.car) : t.eqD x y = decide (x = y) := by
  rw [Bool.eq_iff_iff, eqD_iff h]; simp

-- ---------------------------------------------------------------- lists
def risesFrom {α : Type} (of : α → Int) : Int → List α → Bool
  | _, [] => true
  | a, x :: xs => decide (a < of x) && risesFrom of (of x) xs

def rises {α : Type} (of : α → Int) : List α → Bool
  | [] => true
  | x :: xs => risesFrom of (of x) xs

theorem risesFrom_iff {α : Type} (of : α → Int) : ∀ (a : Int) (xs : List α), risesFrom of a xs = true ↔ (∀ x ∈ xs, a < of x) ∧ xs.Pairwise fun x y => of x < of y
  | a, [] => by simp [risesFrom]
  | a, x :: xs => by
    simp only [risesFrom, Bool.and_eq_true, decide_eq_true_eq, risesFrom_iff of (of x) xs, List.mem_cons, List.pairwise_cons]
    constructor
    · rintro ⟨h1, h2, h3⟩
      refine ⟨fun y hy => ?_, h2, h3⟩
      rcases hy with rfl | hy
      · exact h1
      · have := h2 y hy; omega
    · rintro ⟨h1, h2, h3⟩
      exact ⟨h1 x (.inl rfl), h2, h3⟩

theorem rises_iff {α : Type} (of : α → Int) (xs : List α) : rises of xs = true ↔ xs.Pairwise fun x y => of x < of y := by
  cases xs with
  | nil => simp [rises]
  | cons x xs => rw [rises, risesFrom_iff, List.pairwise_cons]

theorem risesFrom_drop {α : Type} (of : α → Int) (xs : List α) {i : Nat} (h : i < xs.length) (a : Int) : risesFrom of a (xs.drop i) = (decide (a < of xs[i]) && risesFrom of (of xs[i]) (xs.drop (i + 1))) := by
  rw [List.drop_eq_getElem_cons h, risesFrom]

def idxFrom {α : Type} (p : α → Bool) : List α → Int → Int
  | [], _ => -1
  | x :: xs, i => bif p x then i else idxFrom p xs (i + 1)

theorem idxFrom_spec {α : Type} (p : α → Bool) : ∀ (xs : List α) (i : Int), (idxFrom p xs i = -1 ∧ xs.dropWhile (fun x => !p x) = []) ∨ ∃ k : Nat, k < xs.length ∧ idxFrom p xs i = i + k ∧ xs.dropWhile (fun x => !p x) = xs.drop k
  | [], i => .inl ⟨rfl, rfl⟩
  | x :: xs, i => by
    rw [idxFrom, List.dropWhile_cons]
    cases hp : p x with
    | true => exact .inr ⟨0, by simp, by simp, by simp⟩
    | false =>
      rcases idxFrom_spec p xs (i + 1) with ⟨h1, h2⟩ | ⟨k, h1, h2, h3⟩
      · exact .inl ⟨by simpa using h1, by simpa using h2⟩
      · exact .inr ⟨k + 1, by simpa using h1, by simp [h2]; omega, by simpa using h3⟩

theorem idxFrom_any {α : Type} (p : α → Bool) (xs : List α) (i : Int) (hi : 0 ≤ i) : decide (idxFrom p xs i ≥ 0) = xs.any p := by
  induction xs generalizing i with
  | nil => simp [idxFrom]
  | cons x xs ih =>
    rw [idxFrom, List.any_cons]
    cases hp : p x with
    | true => simp [hi]
    | false => simp [ih (i + 1) (by omega)]

theorem idxFrom_drop {α : Type} (p : α → Bool) (xs : List α) {i : Nat} (h : i < xs.length) (j : Int) : idxFrom p (xs.drop i) j = bif p xs[i] then j else idxFrom p (xs.drop (i + 1)) (j + 1) := by
  rw [List.drop_eq_getElem_cons h, idxFrom]
end Go.Abs
