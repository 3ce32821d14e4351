/-
Layer 11, names: each is parsed to what it was made of; no two are the same.
-/
import Derived.Test.YtoopjhnbcbnleaaDoorQ11b
namespace Go.Abs
open Go.Proofs
set_option linter.unusedVariables false
set_option linter.unusedSimpArgs false
set_option maxRecDepth 100000

/-- May the byte stand in a name? -/
def okAt (s : ByteArray) (i : Nat) : Bool :=
  (bif (bif (bif (decide ((((UInt8.toNat (Option.getD (GetElem?.getElem? s i) (0 : UInt8))) : Nat) : Int) ≥ (97 : Int))) then (decide ((((UInt8.toNat (Option.getD (GetElem?.getElem? s i) (0 : UInt8))) : Nat) : Int) ≤ (122 : Int))) else false) then true else (bif (decide ((((UInt8.toNat (Option.getD (GetElem?.getElem? s i) (0 : UInt8))) : Nat) : Int) ≥ (48 : Int))) then (decide ((((UInt8.toNat (Option.getD (GetElem?.getElem? s i) (0 : UInt8))) : Nat) : Int) ≤ (57 : Int))) else false)) then true else ((((UInt8.toNat (Option.getD (GetElem?.getElem? s i) (0 : UInt8))) : Nat) : Int) == (46 : Int)))

theorem name3_f (s : ByteArray) (h : ∀ i, i < s.size → okAt s i = true) (h1 : 1 ≤ s.size) (h8 : s.size ≤ 8) : rovingref03_Name.f s = some true := by
  unfold rovingref03_Name.f
  rw [loopO_go (s := .l2 s 0) rfl]
  have e := while_back (n := s.size) (fun i => whileO (fun x => (rovingref03_Name.step x).opt) (.l2 s (i : Int)) = some true)
    (by
      rw [whileO_done (b := true)]
      simp only [rovingref03_Name.step, rovingref03_Name.T2, opt_br, opt_ret]
      rw [decide_eq_false (Int.lt_irrefl _), cond_false, decide_eq_true (show ((s.size : Nat) : Int) ≥ 1 by omega), cond_true, decide_eq_true (show ((s.size : Nat) : Int) ≤ 8 by omega)]) (fun i hi ih => by
      rw [whileO_next (s' := .l2 s ((i + 1 : Nat) : Int)), ih]
      simp only [rovingref03_Name.step, rovingref03_Name.T2, opt_br, opt_need, opt_ret, Int.toNat_natCast]
      rw [decide_eq_true (show (i : Int) < (s.size : Int) by omega), cond_true, needO_true ⟨by omega, by omega⟩, wrapN1 (show i + 1 ≤ 9223372036854775807 by omega)]
      have := h i hi
      unfold okAt at this
      rw [this]
      rfl) s.size 0 (by omega)
  simpa using e

theorem name_ok : ∀ w ∈ allW, rovingref03_Name.f (nameB w) = some true := by
  have : (allW.all fun w => ((List.range (nameB w).size).all fun i => okAt (nameB w) i) && decide (1 ≤ (nameB w).size) && decide ((nameB w).size ≤ 8)) = true := by decide +kernel
  intro w hw
  have h := List.all_eq_true.1 this w hw
  simp only [Bool.and_eq_true, decide_eq_true_eq] at h
  exact name3_f _ (fun i hi => List.all_eq_true.1 h.1.1 i (List.mem_range.2 hi)) h.1.2 h.2

-- ---------------------------------------------------------------- what may be
theorem valid0 {t : Int} (h : nameB (t, 0, 0, 0) ≠ nilB) : (t, 0, 0, 0) ∈ allW := by
  have e : nameB (t, 0, 0, 0) = metaB t := rfl
  rw [e] at h
  unfold metaB at h
  cases ht : isTag t with
  | false => rw [ht] at h; simp at h
  | true => rcases tag_cases ht with rfl | rfl <;> decide

theorem valid1 {t q : Int} (h : nameB (t, 1, q, 0) ≠ nilB) : (t, 1, q, 0) ∈ allW := by
  have e : nameB (t, 1, q, 0) = logB t q := rfl
  rw [e] at h
  unfold logB at h
  by_cases hc : isTag t = true ∧ 0 ≤ q ∧ q < 3
  · obtain ⟨ht, h0, h3⟩ := hc
    have hq : q = 0 ∨ q = 1 ∨ q = 2 := by omega
    rcases tag_cases ht with rfl | rfl <;> rcases hq with rfl | rfl | rfl <;> decide
  · rw [if_neg hc] at h; exact absurd rfl h

theorem valid2 {q p : Int} (h : nameB (1, 2, q, p) ≠ nilB) : ((1 : Int), (2 : Int), q, p) ∈ allW := by
  have e : nameB (1, 2, q, p) = sideB q p := rfl
  rw [e] at h
  unfold sideB at h
  by_cases hc : (0 ≤ q ∧ q < 3) ∧ 1 ≤ p ∧ p ≤ 8
  · have hq : q = 0 ∨ q = 1 ∨ q = 2 := by omega
    have hp : p = 1 ∨ p = 2 ∨ p = 3 ∨ p = 4 ∨ p = 5 ∨ p = 6 ∨ p = 7 ∨ p = 8 := by omega
    rcases hq with rfl | rfl | rfl <;> rcases hp with rfl | rfl | rfl | rfl | rfl | rfl | rfl | rfl <;> decide
  · rw [if_neg hc] at h; exact absurd rfl h

theorem same_name {w v : What} (hw : w ∈ allW) (hv : nameB v ≠ nilB → v ∈ allW) : decide (nameB w = nameB v) = decide (w = v) := by
  rw [decide_eq_decide]
  constructor
  · intro h
    exact name_inj hw (hv (by rw [← h]; exact (name_ne w hw).1)) h
  · rintro rfl; rfl

section
variable (tag other part to_ pid who : Int)

def al (k j : Int) : Bool :=
  (bif (bif (bif (k == j) then (bif (k == (2 : Int)) then true else (tag == other)) else false) then (bif (k == (0 : Int)) then true else (part == to_)) else false) then (bif (decide (k < (2 : Int))) then true else (pid == who)) else false)

noncomputable abbrev bstep (x : rovinglaw11_NamesBack.S) := (rovinglaw11_NamesBack.step names_Meta.f names_Log.f names_Side.f names_Parse.f rovinglaw11_wakes.f rovingref03_Name.f x).opt

abbrev ls : List ByteArray := [nameB (tag, 0, 0, 0), nameB (tag, 1, part, 0), nameB (1, 2, part, pid)]

abbrev at4 (k : Int) : rovinglaw11_NamesBack.S := .l4 tag other part to_ pid who (ls other to_ who) (ls tag part pid) 3 k
abbrev at11 (k : Int) (s : ByteArray) (j : Int) : rovinglaw11_NamesBack.S := .l11 tag other part to_ pid who (ls other to_ who) k s (ls tag part pid) 3 k (ls other to_ who) 3 j

theorem step11 (k j n : Int) {w v : What} (hw : w ∈ allW) (hv : nameB v ≠ nilB → v ∈ allW) (hal : al tag other part to_ pid who k j = decide (w = v)) (hj : 0 ≤ j ∧ j < 3) (hget : (ls other to_ who).getD j.toNat (Ty.dflt .str) = nameB v) (hn : IntKind.i64.wrap (j + 1) = n) :
    bstep (at11 tag other part to_ pid who k (nameB w) j) = some (.inl (at11 tag other part to_ pid who k (nameB w) n)) := by
  simp only [bstep, at11, rovinglaw11_NamesBack.step, rovinglaw11_NamesBack.T11, opt_br, opt_need, opt_ret]
  rw [decide_eq_true hj.2, cond_true, needO_true ⟨hj.1, by show j < 3; exact hj.2⟩, hget, same_bytes, same_name hw hv, hn]
  have : (bif (bif (bif (k == j) then (bif (k == (2 : Int)) then true else (tag == other)) else false) then (bif (k == (0 : Int)) then true else (part == to_)) else false) then (bif (decide (k < (2 : Int))) then true else (pid == who)) else false) = decide (w = v) := hal
  rw [this, eqD_dec (t := .bool) rfl]
  simp

theorem end11 (k n : Int) (s : ByteArray) (hn : IntKind.i64.wrap (k + 1) = n) : bstep (at11 tag other part to_ pid who k s 3) = some (.inl (at4 tag other part to_ pid who n)) := by
  simp only [bstep, at11, at4, rovinglaw11_NamesBack.step, rovinglaw11_NamesBack.T11, opt_br, opt_ret, hn]
  rfl

theorem inner11 (k n : Int) {w : What} (hw : w ∈ allW) (hn : IntKind.i64.wrap (k + 1) = n) (h0 : al tag other part to_ pid who k 0 = decide (w = (other, 0, 0, 0))) (h1 : al tag other part to_ pid who k 1 = decide (w = (other, 1, to_, 0)))
    (h2 : al tag other part to_ pid who k 2 = decide (w = (1, 2, to_, who))) : whileO bstep (at11 tag other part to_ pid who k (nameB w) 0) = whileO bstep (at4 tag other part to_ pid who n) := by
  rw [whileO_next (step11 tag other part to_ pid who k 0 1 hw valid0 h0 (by decide) rfl (by decide)), whileO_next (step11 tag other part to_ pid who k 1 2 hw valid1 h1 (by decide) rfl (by decide)),
    whileO_next (step11 tag other part to_ pid who k 2 3 hw valid2 h2 (by decide) rfl (by decide)), whileO_next (end11 tag other part to_ pid who k n (nameB w) hn)]

theorem step4_nil (k n : Int) (hk : 0 ≤ k ∧ k < 3) (hn : IntKind.i64.wrap (k + 1) = n) (h : (ls tag part pid).getD k.toNat (Ty.dflt .str) = nilB) : bstep (at4 tag other part to_ pid who k) = some (.inl (at4 tag other part to_ pid who n)) := by
  simp only [bstep, at4, rovinglaw11_NamesBack.step, rovinglaw11_NamesBack.T4, opt_br, opt_need, opt_ret]
  rw [decide_eq_true hk.2, cond_true, needO_true ⟨hk.1, by show k < 3; exact hk.2⟩, h, hn, same_bytes, decide_eq_true rfl]
  rfl

/-- What is asked of a name that has been parsed. -/
theorem step4_name (k : Int) (hk : 0 ≤ k ∧ k < 3) {w : What} (hw : w ∈ allW) (h : (ls tag part pid).getD k.toNat (Ty.dflt .str) = nameB w) (e1 : w.2.1 = k) (e2 : k < 2 → w.1 = tag) (e3 : k = 2 → w.1 = 1) (e4 : k > 0 → w.2.2.1 = part)
    (e5 : k = 2 → w.2.2.2 = pid) (e6 : k = 0 → w.2.2.1 = 0 ∧ w.2.2.2 = 0) (e7 : k = 1 → w.2.2.2 = 0) : bstep (at4 tag other part to_ pid who k) = some (.inl (at11 tag other part to_ pid who k (nameB w) 0)) := by
  simp only [bstep, at4, rovinglaw11_NamesBack.step, rovinglaw11_NamesBack.T4, opt_br, opt_need, opt_call, opt_ret]
  rw [decide_eq_true hk.2, cond_true, needO_true ⟨hk.1, by show k < 3; exact hk.2⟩, h]
  obtain ⟨n1, n2, n3, _⟩ := name_ne w hw
  rw [same_bytes, decide_eq_false n1, cond_false, parse_f, scan_name w hw, Option.bind_some, name_ok w hw]
  simp only [Option.isSome_some, Option.getD_some, same_bytes]
  rw [needO_true (fun _ => trivial), e1, decide_eq_false n2, decide_eq_false n3, wrap_in (show -9223372036854775808 ≤ k by omega) (by omega)]
  have hk' : k = 0 ∨ k = 1 ∨ k = 2 := by omega
  rcases hk' with rfl | rfl | rfl
  · rw [e2 (by decide), (e6 rfl).1, (e6 rfl).2]; simp
  · rw [e2 (by decide), e4 (by decide), e7 rfl]; simp
  · rw [e3 rfl, e4 (by decide), e5 rfl]; simp

theorem al0 : al tag other part to_ pid who 0 0 = decide (((tag, 0, 0, 0) : What) = (other, 0, 0, 0)) := by
  by_cases h : tag = other <;> simp [al, h]
theorem al1 : al tag other part to_ pid who 1 1 = decide (((tag, 1, part, 0) : What) = (other, 1, to_, 0)) := by
  by_cases h : tag = other <;> by_cases h2 : part = to_ <;> simp [al, h, h2]
theorem al2 : al tag other part to_ pid who 2 2 = decide (((1, 2, part, pid) : What) = (1, 2, to_, who)) := by
  by_cases h : part = to_ <;> by_cases h2 : pid = who <;> simp [al, h, h2]
theorem alx {k j : Int} (h : k ≠ j) {w v : What} (hn : w.2.1 ≠ v.2.1) : al tag other part to_ pid who k j = decide (w = v) := by
  rw [decide_eq_false (fun e => hn (by rw [e]))]
  unfold al
  rw [show (k == j) = false by simpa using h]
  rfl

theorem NamesBack_f (h0 : -128 ≤ tag) (h1 : tag ≤ 127) (h2 : -128 ≤ other) (h3 : other ≤ 127) : rovinglaw11_NamesBack.f tag other part to_ pid who = some true := by
  unfold rovinglaw11_NamesBack.f
  rw [loopO_go (s := at4 tag other part to_ pid who 0)]
  · show whileO bstep (at4 tag other part to_ pid who 0) = some true
    have last : whileO bstep (at4 tag other part to_ pid who 3) = some true := by
      rw [whileO_done]
      simp only [bstep, at4, rovinglaw11_NamesBack.step, rovinglaw11_NamesBack.T4, opt_br, opt_call, opt_ret, wakes11_f, Option.bind_some]
      rfl
    have at2 : whileO bstep (at4 tag other part to_ pid who 2) = some true := by
      by_cases hz : nameB (1, 2, part, pid) = nilB
      · rw [whileO_next (step4_nil tag other part to_ pid who 2 3 (by decide) (by decide) hz)]; exact last
      · have hw := valid2 hz
        rw [whileO_next (step4_name tag other part to_ pid who 2 (by decide) hw rfl rfl (fun h => absurd h (by decide)) (fun _ => rfl) (fun _ => rfl) (fun _ => rfl) (fun h => absurd h (by decide)) (fun h => absurd h (by decide))),
          inner11 tag other part to_ pid who 2 3 hw (by decide) (alx _ _ _ _ _ _ (by decide) (by show (2 : Int) ≠ 0; decide)) (alx _ _ _ _ _ _ (by decide) (by show (2 : Int) ≠ 1; decide)) (al2 _ _ _ _ _ _), last]
    have at1 : whileO bstep (at4 tag other part to_ pid who 1) = some true := by
      by_cases hz : nameB (tag, 1, part, 0) = nilB
      · rw [whileO_next (step4_nil tag other part to_ pid who 1 2 (by decide) (by decide) hz)]; exact at2
      · have hw := valid1 hz
        rw [whileO_next (step4_name tag other part to_ pid who 1 (by decide) hw rfl rfl (fun _ => rfl) (fun h => absurd h (by decide)) (fun _ => rfl) (fun h => absurd h (by decide)) (fun h => absurd h (by decide)) (fun _ => rfl)),
          inner11 tag other part to_ pid who 1 2 hw (by decide) (alx _ _ _ _ _ _ (by decide) (by show (1 : Int) ≠ 0; decide)) (al1 _ _ _ _ _ _) (alx _ _ _ _ _ _ (by decide) (by show (1 : Int) ≠ 2; decide)), at2]
    by_cases hz : nameB (tag, 0, 0, 0) = nilB
    · rw [whileO_next (step4_nil tag other part to_ pid who 0 1 (by decide) (by decide) hz)]; exact at1
    · have hw := valid0 hz
      rw [whileO_next (step4_name tag other part to_ pid who 0 (by decide) hw rfl rfl (fun _ => rfl) (fun h => absurd h (by decide)) (fun h => absurd h (by decide)) (fun h => absurd h (by decide)) (fun _ => ⟨rfl, rfl⟩) (fun h => absurd h (by decide))),
        inner11 tag other part to_ pid who 0 1 hw (by decide) (al0 _ _ _ _ _ _) (alx _ _ _ _ _ _ (by decide) (by show (0 : Int) ≠ 1; decide)) (alx _ _ _ _ _ _ (by decide) (by show (0 : Int) ≠ 2; decide)), at1]
  · simp only [rovinglaw11_NamesBack.T, opt_call, opt_ret, meta_f tag h0 h1, meta_f other h2 h3, log_f tag part h0 h1, log_f other to_ h2 h3, side_f, Option.bind_some]
    rfl
end
end Go.Abs
