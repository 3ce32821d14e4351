/-
Layer 11, names: a disk's files are one engine's, the other's, or nobody's.
-/
import Derived.Test.YtoopjhnbcbnleaaDoorQ11b
namespace Go.Abs
open Go.Proofs
set_option linter.unusedVariables false
set_option linter.unusedSimpArgs false
set_option maxRecDepth 100000

def bigFile (f : FileD) : Bool := decide ((ByteArray.size f.2.1 : Int) > 131072) || decide ((ByteArray.size f.1 : Int) > 100)
def greatDisk (d : DiskD) : Bool := decide ((List.length d.1 : Int) > 100) || List.any d.1 bigFile

theorem great3_f (d : DiskD) (hl : List.length d.1 ≤ 9223372036854775807) : rovingref03_Great.f d = some (greatDisk d) := by
  unfold rovingref03_Great.f greatDisk
  by_cases h : (List.length d.1 : Int) > 100
  · rw [loopO_ret (b := true) (by simp only [rovingref03_Great.T, opt_br, opt_ret, decide_eq_true h, cond_true])]
    rw [decide_eq_true h]; rfl
  · rw [loopO_go (s := .l4 0 d) (by simp only [rovingref03_Great.T, opt_br, opt_ret, decide_eq_false h, cond_false]), decide_eq_false h, Bool.false_or]
    have e := while_back (n := List.length d.1) (fun i => whileO (fun x => (rovingref03_Great.step x).opt) (.l4 (i : Int) d) = some ((List.drop i d.1).any bigFile))
      (by
        rw [whileO_done (b := false)]
        · rw [List.drop_length]; rfl
        · simp only [rovingref03_Great.step, rovingref03_Great.T4, opt_br, opt_ret]
          rw [decide_eq_false (Int.lt_irrefl _), cond_false]) (fun i hi ih => by
        have hi1 : ((i : Int) < (List.length d.1 : Int)) := by omega
        have hx : (rovingref03_Great.step (.l4 (i : Int) d)).opt = bif bigFile (List.get d.1 ⟨i, hi⟩) then some (.inr true) else some (.inl (.l4 ((i + 1 : Nat) : Int) d)) := by
          simp only [rovingref03_Great.step, rovingref03_Great.T4, opt_br, opt_need, opt_ret, Int.toNat_natCast]
          rw [decide_eq_true hi1, cond_true, needO_true ⟨by omega, hi1⟩, needO_true (fun _ => ⟨by omega, hi1⟩), wrapN1 (show i + 1 ≤ 9223372036854775807 by omega)]
          unfold bigFile
          simp only [List.get_eq_getElem, getD_at hi]
          cases decide ((ByteArray.size (d.1[i] : FileD).2.1 : Int) > 131072) <;> rfl
        have hd : (List.drop i d.1).any bigFile = (bigFile (List.get d.1 ⟨i, hi⟩) || (List.drop (i + 1) d.1).any bigFile) := by
          rw [List.drop_eq_getElem_cons hi, List.any_cons]; rfl
        rw [hd]
        cases hb : bigFile (List.get d.1 ⟨i, hi⟩) with
        | true => rw [whileO_done (b := true) (by rw [hx, hb]; rfl)]; rfl
        | false => rw [whileO_next (s' := .l4 ((i + 1 : Nat) : Int) d) (by rw [hx, hb]; rfl), ih]; rfl) (List.length d.1) 0 (by omega)
    simpa using e

def isName (f : FileD) : Bool := (scan f.1 allW).2.2.2.2
def isOf (t : Int) (f : FileD) : Bool := isName f && ((scan f.1 allW).1 == t)
def ofL (t : Int) (fs : List FileD) : List ByteArray := (fs.filter (isOf t)).map (·.1)

theorem of_f (d : DiskD) (t : Int) (hl : List.length d.1 ≤ 100) : names_Of.f d t = some (ofL t d.1) := by
  unfold names_Of.f
  rw [loopO_go (s := .l2 t d.1 (List.length d.1 : Int) 0 []) rfl]
  generalize hfs : (d.1 : List FileD) = fs at hl
  have e := while_back (n := fs.length) (fun i => whileO (fun x => (names_Of.step names_Parse.f x).opt) (.l2 t fs (fs.length : Int) (i : Int) (ofL t (fs.take i))) = some (ofL t fs))
    (by
      rw [whileO_done (b := ofL t (fs.take fs.length)), List.take_length]
      simp only [names_Of.step, names_Of.T2, opt_br, opt_ret]
      rw [decide_eq_false (Int.lt_irrefl _), cond_false]) (fun i hi ih => by
      have hi1 : ((i : Int) < (fs.length : Int)) := by omega
      rw [whileO_next (s' := .l2 t fs (fs.length : Int) ((i + 1 : Nat) : Int) (ofL t (fs.take (i + 1)))), ih]
      simp only [names_Of.step, names_Of.T2, opt_br, opt_need, opt_call, opt_ret, Int.toNat_natCast]
      rw [decide_eq_true hi1, cond_true, needO_true ⟨by omega, hi1⟩, wrapN1 (show i + 1 ≤ 9223372036854775807 by omega), getD_at hi, parse_f, Option.bind_some]
      have hlen : (ofL t (fs.take i)).length ≤ 100 := by
        unfold ofL
        rw [List.length_map]
        have h1 := List.length_filter_le (isOf t) (fs.take i)
        have h2 : (fs.take i).length ≤ fs.length := by rw [List.length_take]; omega
        omega
      have hs : ofL t (fs.take (i + 1)) = ofL t (fs.take i) ++ (if isOf t fs[i] = true then [fs[i].1] else []) := by
        unfold ofL
        rw [List.take_succ_eq_append_getElem hi, List.filter_append, List.map_append]
        congr 1
        by_cases h : isOf t fs[i] = true
        · rw [if_pos h]; simp [h]
        · rw [if_neg h]; simp [h]
      have hc : (bif (scan (fs[i] : FileD).1 allW).2.2.2.2 then ((scan (fs[i] : FileD).1 allW).1 == t) else false) = isOf t fs[i] := by
        unfold isOf isName
        cases (scan (fs[i] : FileD).1 allW).2.2.2.2 <;> rfl
      rw [hc, hs]
      cases h : isOf t fs[i] with
      | true =>
        rw [cond_true, needO_true (by simp; omega), if_pos rfl]
      | false => rw [cond_false, if_neg (by simp), List.append_nil]) fs.length 0 (by omega)
  simpa [ofL] using e

theorem split_of : ∀ fs : List FileD, (ofL 0 fs).length + (ofL 1 fs).length = (fs.filter isName).length
  | [] => rfl
  | f :: fs => by
    have ih := split_of fs
    unfold ofL at ih ⊢
    simp only [List.length_map] at ih ⊢
    rw [List.filter_cons, List.filter_cons, List.filter_cons]
    cases h : isName f with
    | false => simp only [isOf, h, Bool.false_and, Bool.false_eq_true, if_false]; exact ih
    | true =>
      obtain ⟨w, hw, _, hs⟩ := scan_found f.1 allW h
      have ht := (name_ne w hw).2.2.2
      have e : (scan f.1 allW).1 = w.1 := by rw [hs]
      rcases ht with h0 | h0
      · simp only [isOf, h, e, h0, Bool.true_and, if_true, show ((0 : Int) == 0) = true from rfl, show ((0 : Int) == 1) = false from rfl, Bool.false_eq_true, if_false, List.length_cons]; omega
      · simp only [isOf, h, e, h0, Bool.true_and, if_true, show ((1 : Int) == 1) = true from rfl, show ((1 : Int) == 0) = false from rfl, Bool.false_eq_true, if_false, List.length_cons]; omega

theorem none_of {t : Int} (h0 : t ≠ 0) (h1 : t ≠ 1) (fs : List FileD) : ofL t fs = [] := by
  unfold ofL
  rw [List.map_eq_nil_iff, List.filter_eq_nil_iff]
  intro f _ h
  unfold isOf at h
  rw [Bool.and_eq_true, beq_iff_eq] at h
  obtain ⟨w, hw, _, hs⟩ := scan_found f.1 allW h.1
  have ht := (name_ne w hw).2.2.2
  rw [hs] at h
  rcases ht with e | e
  · exact h0 (h.2.symm.trans e)
  · exact h1 (h.2.symm.trans e)

noncomputable abbrev nstep (x : rovinglaw11_NamesApart.S) := (rovinglaw11_NamesApart.step rovingref03_Great.f rovinglaw11_wakes.f names_Parse.f names_Of.f x).opt

theorem NamesApart_f (d : DiskD) (hl : List.length d.1 ≤ 9223372036854775807) : rovinglaw11_NamesApart.f d = some true := by
  unfold rovinglaw11_NamesApart.f
  cases hg : greatDisk d with
  | true => exact loopO_ret (by simp only [rovinglaw11_NamesApart.T, opt_br, opt_call, opt_ret, great3_f d hl, hg, wakes11_f, Option.bind_some, cond_true])
  | false =>
    have hl2 : List.length d.1 ≤ 100 := by
      unfold greatDisk at hg
      rw [Bool.or_eq_false_iff] at hg
      have := of_decide_eq_false hg.1
      omega
    rw [loopO_go (s := .l5 0 d.1 (List.length d.1 : Int) 0 d) (by simp only [rovinglaw11_NamesApart.T, opt_br, opt_call, opt_ret, great3_f d hl, hg, Option.bind_some, cond_false])]
    have h0 := of_f d 0 hl2
    have h1 := of_f d 1 hl2
    have h2 := of_f d 2 hl2
    have h3 := of_f d (-1) hl2
    rw [none_of (by decide) (by decide)] at h2 h3
    have hsp := split_of d.1
    generalize hfs : (d.1 : List FileD) = fs at *
    have e := while_back (n := fs.length) (fun i => whileO nstep (.l5 (((fs.take i).filter isName).length : Int) fs (fs.length : Int) (i : Int) d) = some true)
      (by
        rw [whileO_done (b := true)]
        have hlen : (fs.filter isName).length ≤ 100 := Nat.le_trans (List.length_filter_le _ _) hl2
        simp only [nstep, rovinglaw11_NamesApart.step, rovinglaw11_NamesApart.T5, opt_br, opt_need, opt_call, opt_ret, List.take_length]
        rw [decide_eq_false (Int.lt_irrefl _), cond_false, h0, Option.bind_some, h1, Option.bind_some, h2, h3, wakes11_f]
        have hw : IntKind.i64.wrap ((((ofL 0 fs).length : Nat) : Int) + (((ofL 1 fs).length : Nat) : Int)) = (((fs.filter isName).length : Nat) : Int) := by
          rw [← Int.natCast_add, hsp]; exact wrapN (by omega)
        rw [hw]
        simp only [Option.isSome_some, Option.getD_some, beq_self_eq_true]
        rw [needO_true (fun _ => trivial), needO_true (fun _ => trivial), needO_true (fun _ => trivial)]
        rfl) (fun i hi ih => by
        have hi1 : ((i : Int) < (fs.length : Int)) := by omega
        rw [whileO_next (s' := .l5 (((fs.take (i + 1)).filter isName).length : Int) fs (fs.length : Int) ((i + 1 : Nat) : Int) d), ih]
        simp only [nstep, rovinglaw11_NamesApart.step, rovinglaw11_NamesApart.T5, opt_br, opt_need, opt_call, opt_ret, Int.toNat_natCast]
        rw [decide_eq_true hi1, cond_true, needO_true ⟨by omega, hi1⟩, wrapN1 (show i + 1 ≤ 9223372036854775807 by omega), getD_at hi, parse_f, Option.bind_some]
        have hlen : ((fs.take i).filter isName).length ≤ 100 := by
          have h1 := List.length_filter_le isName (fs.take i)
          have h2 : (fs.take i).length ≤ fs.length := by rw [List.length_take]; omega
          omega
        rw [List.take_succ_eq_append_getElem hi, List.filter_append, List.length_append]
        cases h : isName fs[i] with
        | true =>
          rw [show (scan (fs[i] : FileD).1 allW).2.2.2.2 = true from h, cond_true, wrapN1 (by omega)]
          simp [h]
        | false =>
          rw [show (scan (fs[i] : FileD).1 allW).2.2.2.2 = false from h, cond_false]
          simp [h]) fs.length 0 (by omega)
    simpa using e
end Go.Abs
