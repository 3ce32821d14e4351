/-
What is pending, fetched; and what a cut hides.
-/
import Derived.Test.YtbhokejnfbppdaaQ13c
namespace Go.Abs
open Go.Proofs
set_option linter.unusedVariables false
set_option linter.unusedSimpArgs false

/-- Rows are taken up till there are m. -/
def feed (m : Int) : List Row → List Row → Int × Int × List Row
  | l, [] => (0, m, l)
  | l, r :: rs => if (l.length : Int) = m then (3, m, l) else feed m (l ++ [r]) rs

theorem feed_full {m : Int} {l : List Row} (h : (l.length : Int) = m) {rs : List Row} (hr : rs ≠ []) : feed m l rs = (3, m, l) := by
  cases rs with
  | nil => exact absurd rfl hr
  | cons r rs => simp [feed, h]

theorem round_f (r : Row) (m : Int) (l : List Row) (hl : l.length ≤ 64) : read_FetchRoundA.f r 0 m l = some (if (l.length : Int) = m then (false, 3, l) else (true, 0, l ++ [r])) := by
  unfold read_FetchRoundA.f read_FetchRoundA.T
  simp only [opt_br, opt_need, opt_call, opt_ret]
  rw [needO_true trivial]
  by_cases h : (l.length : Int) = m
  · rw [if_pos h, show ((l.length : Int) == m) = true by simpa using h]; rfl
  · rw [if_neg h, show ((l.length : Int) == m) = false by simpa using h, cond_false, needO_true (by simp; omega)]

noncomputable abbrev pstep (m : Int) (l0 : List Row) (p : Part) (s : read_pending_1.S) := (read_pending_1.step read_FetchRoundA.f 0 m l0 p s).opt

theorem pend_f (p : Part) (m : Int) (l0 : List Row) (h : Small p.2.2.2.1) (hm : m ≤ 64) (hl0 : (l0.length : Int) ≤ m) : read_pending_1.f 0 m l0 p = some (feed m l0 (openRows p.2.2.2.1)) := by
  unfold read_pending_1.f
  rw [loopO_go (s := .l1 p.2.2.2.1 (List.length p.2.2.2.1 : Int) 0 0 m l0) rfl]
  generalize hos : p.2.2.2.1 = os at h
  have hol := h.opens
  have e := while_back (n := os.length) (fun i => ∀ l : List Row, (l.length : Int) ≤ m → whileO (pstep m l0 p) (.l1 os (os.length : Int) (i : Int) 0 m l) = some (feed m l (openRows (os.drop i))))
    (fun l hl => by
      rw [whileO_done (b := (0, m, l)) (by simp [pstep, read_pending_1.step, read_pending_1.T1, opt_br, opt_ret]), List.drop_length]; rfl) (fun i hi ih => by
      intro l hl
      have hi1 : ((i : Int) < (os.length : Int)) := by omega
      have ho : os[i] ∈ os := List.getElem_mem hi
      have hb := h.batches _ ho
      have hR1 : openRows (os.drop i) = List.flatMap batchRows os[i].2.2 ++ openRows (os.drop (i + 1)) := by
        unfold openRows; rw [List.drop_eq_getElem_cons hi, List.flatMap_cons]
      generalize hbs : os[i].2.2 = bs at *
      rw [whileO_next (s' := .l4 os (os.length : Int) (i : Int) bs (List.length bs : Int) 0 0 m l) (by
        simp only [pstep, read_pending_1.step, read_pending_1.T1, opt_br, opt_need, opt_ret, Int.toNat_natCast, hi1, decide_true, cond_true, getD_at hi, hbs]
        rw [needO_true ⟨by omega, trivial⟩]), hR1]
      have inner := while_back (n := List.length bs) (fun j => ∀ l : List Row, (l.length : Int) ≤ m → whileO (pstep m l0 p) (.l4 os (os.length : Int) (i : Int) bs (List.length bs : Int) (j : Int) 0 m l) = some (feed m l (List.flatMap batchRows (List.drop j bs) ++ openRows (os.drop (i + 1)))))
        (fun l hl => by
          rw [whileO_next (s' := .l1 os (os.length : Int) ((i + 1 : Nat) : Int) 0 m l) (by
            simp only [pstep, read_pending_1.step, read_pending_1.T4, opt_br, opt_need, opt_ret]
            rw [show decide (((List.length bs : Nat) : Int) < ((List.length bs : Nat) : Int)) = false by simp, cond_false, wrapN1 (show i + 1 ≤ 9223372036854775807 by omega)]), ih l hl, List.drop_length]
          rfl) (fun j hj ihj => by
          intro l hl
          have hj1 : ((j : Int) < (List.length bs : Int)) := by omega
          have hbm : bs[j] ∈ bs := List.getElem_mem hj
          have hrec := h.recs _ ho bs[j] (by rw [hbs]; exact hbm)
          have hR4 : List.flatMap batchRows (List.drop j bs) = batchRows bs[j] ++ List.flatMap batchRows (List.drop (j + 1) bs) := by
            rw [List.drop_eq_getElem_cons hj, List.flatMap_cons]
          have hlen : (batchRows bs[j]).length = List.length bs[j].2.2.2.2 := by simp [batchRows]
          generalize hb' : bs[j] = b at *
          rw [whileO_next (s' := .l7 os (os.length : Int) (i : Int) bs (List.length bs : Int) (j : Int) b.2.2.2.2 (List.length b.2.2.2.2 : Int) 0 0 m b l) (by
            simp only [pstep, read_pending_1.step, read_pending_1.T4, opt_br, opt_need, opt_ret, Int.toNat_natCast, hj1, decide_true, cond_true, getD_at hj, hb']
            rw [needO_true ⟨by omega, trivial⟩]), hR4, List.append_assoc]
          have inm := while_back (n := List.length b.2.2.2.2) (fun k => ∀ l : List Row, (l.length : Int) ≤ m → whileO (pstep m l0 p) (.l7 os (os.length : Int) (i : Int) bs (List.length bs : Int) (j : Int) b.2.2.2.2 (List.length b.2.2.2.2 : Int) (k : Int) 0 m b l) = some (feed m l ((batchRows b).drop k ++ (List.flatMap batchRows (List.drop (j + 1) bs) ++ openRows (os.drop (i + 1))))))
            (fun l hl => by
              rw [whileO_next (s' := .l4 os (os.length : Int) (i : Int) bs (List.length bs : Int) ((j + 1 : Nat) : Int) 0 m l) (by
                simp only [pstep, read_pending_1.step, read_pending_1.T7, opt_br, opt_need, opt_ret]
                rw [show decide (((List.length b.2.2.2.2 : Nat) : Int) < ((List.length b.2.2.2.2 : Nat) : Int)) = false by simp, cond_false, wrapN1 (show j + 1 ≤ 9223372036854775807 by omega)]), ihj l hl, ← hlen, List.drop_length]
              rfl) (fun k hk ihk => by
              intro l hl
              have hk1 : ((k : Int) < (List.length b.2.2.2.2 : Int)) := by omega
              have hk2 : k < (batchRows b).length := by omega
              have e1 : (batchRows b)[k] = recRow b k (List.get b.2.2.2.2 ⟨k, hk⟩) := by simp [batchRows]
              have hr := round_f (recRow b k (List.get b.2.2.2.2 ⟨k, hk⟩)) m l (by omega)
              simp only [recRow, List.get_eq_getElem] at hr
              rw [List.drop_eq_getElem_cons hk2, e1, List.cons_append]
              by_cases hf : (l.length : Int) = m
              · rw [whileO_done (b := (3, m, l)) (by
                  simp only [pstep, read_pending_1.step, read_pending_1.T7, opt_br, opt_need, opt_call, opt_ret, Int.toNat_natCast, hk1, decide_true, cond_true, getD_at hk]
                  rw [needO_true ⟨by omega, trivial⟩, needO_true trivial, hr, if_pos hf]; rfl), feed, if_pos hf]
              · rw [whileO_next (s' := .l7 os (os.length : Int) (i : Int) bs (List.length bs : Int) (j : Int) b.2.2.2.2 (List.length b.2.2.2.2 : Int) ((k + 1 : Nat) : Int) 0 m b (l ++ [recRow b k (List.get b.2.2.2.2 ⟨k, hk⟩)])) (by
                  simp only [pstep, read_pending_1.step, read_pending_1.T7, opt_br, opt_need, opt_call, opt_ret, Int.toNat_natCast, hk1, decide_true, cond_true, getD_at hk]
                  rw [needO_true ⟨by omega, trivial⟩, needO_true trivial, hr, if_neg hf, wrapN1 (show k + 1 ≤ 9223372036854775807 by omega)]; rfl), feed, if_neg hf]
                exact ihk _ (by simp; omega)) (List.length b.2.2.2.2) 0 (by omega)
          exact inm l hl) (List.length bs) 0 (by omega)
      exact inner l hl) os.length 0 (by omega)
  exact e l0 hl0

/-- How feeding ends. -/
theorem feed_end (m : Int) : ∀ (rs l : List Row), (l.length : Int) ≤ m → ∃ j out, feed m l rs = (j, m, out) ∧ (j = 0 ∨ j = 3) ∧ (out.length : Int) ≤ m
  | [], l, h => ⟨0, l, rfl, .inl rfl, h⟩
  | r :: rs, l, h => by
    rw [feed]
    by_cases hf : (l.length : Int) = m
    · rw [if_pos hf]; exact ⟨3, l, rfl, .inr rfl, h⟩
    · rw [if_neg hf]; exact feed_end m rs (l ++ [r]) (by simp; omega)

-- ---------------------------------------------------------------- Fetch, all rows
def pageU (c : Bool) (os : List OpenD) (rows : List Row) (end_ n m : Int) : List Row × Int × Int :=
  if (rows.length : Int) > m then pageS rows end_ n m else if c = true then (rows, end_, 0) else ((feed m rows (openRows os)).2.2, end_, 0)

open Classical in
noncomputable def fetchU (p : Part) (n m : Int) (c : Bool) : List Row × Int × Int :=
  if Good p ∧ 0 ≤ m ∧ m ≤ 64 then (if n < p.1 ∨ n > p.2.1 then ([], 0, 130) else pageU c p.2.2.2.1 (fromRows p.2.2.1 n) p.2.1 n m) else ([], 0, 2)

theorem fetchU_f (p : Part) (n m : Int) (c : Bool) (hf : Fits p) (hs : Small p.2.2.2.1) : read_Fetch_s2.f p n m c = some (fetchU p n m c) := by
  have hold := fetch_f p n m hf
  unfold read_Fetch.f read_Fetch.T fetchC at hold
  unfold read_Fetch_s2.f read_Fetch_s2.T fetchU
  simp only [opt_br, opt_need, opt_call, opt_ret, check_f p hf, from_f _ n hf.rows, Option.bind_some] at hold ⊢
  unfold checkC at hold ⊢
  by_cases hg : Good p
  · rw [if_pos hg, show ((0 : Int) != 0) = false from rfl, cond_false] at hold ⊢
    by_cases h1 : m < 0
    · rw [decide_eq_true h1, cond_true, if_neg (by omega)]
    rw [decide_eq_false h1, cond_false] at hold ⊢
    by_cases h2 : m > 64
    · rw [decide_eq_true h2, cond_true, if_neg (by omega)]
    rw [decide_eq_false h2, cond_false, if_pos ⟨hg, by omega, by omega⟩] at hold ⊢
    by_cases h3 : n < p.1
    · rw [decide_eq_true h3, cond_true, if_pos (.inl h3)]
    rw [decide_eq_false h3, cond_false] at hold ⊢
    by_cases h4 : n > p.2.1
    · rw [decide_eq_true h4, cond_true, if_pos (.inr h4)]
    rw [decide_eq_false h4, cond_false, if_neg (by omega)] at hold ⊢
    unfold pageU
    by_cases h5 : ((fromRows p.2.2.1 n).length : Int) > m
    · rw [decide_eq_true h5, cond_true] at hold ⊢
      rw [if_pos h5]
      exact hold
    · rw [decide_eq_false h5, cond_false, if_neg h5]
      cases c with
      | true => rfl
      | false =>
        rw [cond_false, if_neg (by simp)]
        obtain ⟨j, out, e1, e2, e3⟩ := feed_end m (openRows p.2.2.2.1) (fromRows p.2.2.1 n) (by omega)
        have e := pend_f p m (fromRows p.2.2.1 n) hs (by omega) (by omega)
        simp only [show read_pending.f p = some p from rfl, Option.bind_some]
        rw [needO_true trivial, e, e1]
        simp only [Option.bind_some]
        rcases e2 with rfl | rfl
        · rw [needO_true (by decide), needO_true rfl]; rfl
        · rw [needO_true (by decide)]; rfl
  · rw [if_neg hg, if_neg (fun h => hg h.1)]; rfl

theorem pageU_len (c : Bool) (os : List OpenD) (rows : List Row) (e n m : Int) (h0 : 0 ≤ m) (hm : m ≤ 64) : (pageU c os rows e n m).1.length ≤ 64 := by
  unfold pageU
  by_cases h : (rows.length : Int) > m
  · rw [if_pos h]
    unfold pageS
    rw [if_pos h]
    by_cases h2 : m > 0
    · rw [if_pos h2]; simp only [List.length_take]; omega
    · rw [if_neg h2]; simp
  · rw [if_neg h]
    cases c with
    | true => rw [if_pos rfl]; show rows.length ≤ 64; omega
    | false =>
      rw [if_neg (by simp)]
      obtain ⟨j, out, e1, _, e3⟩ := feed_end m (openRows os) rows (by omega)
      rw [e1]; show out.length ≤ 64; omega

theorem pageU_ok (c : Bool) (os : List OpenD) (rows : List Row) (e n m : Int) : (pageU c os rows e n m).2.2 = 0 := by
  unfold pageU pageS
  by_cases h : (rows.length : Int) > m
  · rw [if_pos h, if_pos h]
    by_cases h2 : m > 0
    · rw [if_pos h2]
    · rw [if_neg h2]
  · rw [if_neg h]
    cases c <;> rfl

theorem ReadHides_f (p : Part) (off from_ most : Int) (c : Bool) (hok : PartT.ok p) : rovinglaw13_ReadHides.f p off from_ most c = some true := by
  obtain ⟨hf, hb⟩ := part_ok hok
  unfold rovinglaw13_ReadHides.f rovinglaw13_ReadHides.T
  simp only [opt_br, opt_need, opt_call, opt_ret, great_f p hf.rows hb, check_f p hf, wakes_f, cut_f p off hf, Option.bind_some, Option.isSome_some, Option.getD_some]
  rw [needO_true (fun _ => trivial)]
  cases hg : great p with
  | true => rfl
  | false =>
    obtain ⟨hs, h300⟩ := small_of hg
    rw [cond_false]
    by_cases hgood : Good p
    · rw [show checkC p = 0 from if_pos hgood]
      simp only [show ((0 : Int) != 0) = false from rfl, cond_false]
      by_cases ha : off < p.1 ∨ off > p.2.1
      · have e : cutC p off = ((0, 0, [], [], []), 130) := by unfold cutC; rw [if_pos hgood, if_pos ha]
        rw [e]
        simp only [show ((130 : Int) != 0) = true from rfl, cond_true]
        rw [needO_true (fun _ => trivial)]
        by_cases h1 : off < p.1
        · rw [decide_eq_true h1]; rfl
        · rw [decide_eq_false h1, decide_eq_true (show off > p.2.1 by omega)]; rfl
      · have e : cutC p off = ((off, p.2.1, fromRows p.2.2.1 off, p.2.2.2), 0) := by unfold cutC; rw [if_pos hgood, if_neg ha]
        rw [e]
        have hg2 : Good (off, p.2.1, fromRows p.2.2.1 off, p.2.2.2) := hgood.cut (by omega) (by omega)
        have hf2 : Fits (off, p.2.1, fromRows p.2.2.1 off, p.2.2.2) := ⟨by have := fromRows_len p.2.2.1 off; show (fromRows p.2.2.1 off).length ≤ _; omega, hf.opens⟩
        have hs2 : Small (off, p.2.1, fromRows p.2.2.1 off, p.2.2.2).2.2.2.1 := hs
        simp only [show ((0 : Int) != 0) = false from rfl, cond_false, check_f _ hf2, show checkC (off, p.2.1, fromRows p.2.2.1 off, p.2.2.2) = 0 from if_pos hg2, Option.bind_some, show (p.2.1 != p.2.1) = false by simp, show (off != off) = false by simp, fetchU_f p from_ most c hf hs, fetchU_f _ from_ most c hf2 hs2]
        by_cases hv : 0 ≤ most ∧ most ≤ 64
        · have hv1 : Good p ∧ 0 ≤ most ∧ most ≤ 64 := ⟨hgood, hv⟩
          have hv2 : Good (off, p.2.1, fromRows p.2.2.1 off, p.2.2.2) ∧ 0 ≤ most ∧ most ≤ 64 := ⟨hg2, hv⟩
          by_cases hfo : from_ ≥ off
          · -- above the cut: the same
            have e2 : fetchU (off, p.2.1, fromRows p.2.2.1 off, p.2.2.2) from_ most c = fetchU p from_ most c := by
              unfold fetchU
              rw [if_pos hv2, if_pos hv1]
              show (if from_ < off ∨ from_ > p.2.1 then _ else pageU c p.2.2.2.1 (fromRows (fromRows p.2.2.1 off) from_) p.2.1 from_ most) = _
              rw [fromRows_twice hgood.rows hfo]
              by_cases h3 : from_ > p.2.1
              · rw [if_pos (.inr h3), if_pos (.inr h3)]
              · rw [if_neg (by omega), if_neg (by omega)]
            have hlen : (fetchU p from_ most c).1.length ≤ 64 := by
              unfold fetchU
              rw [if_pos hv1]
              by_cases h3 : from_ < p.1 ∨ from_ > p.2.1
              · rw [if_pos h3]; simp
              · rw [if_neg h3]; exact pageU_len _ _ _ _ _ _ hv.1 hv.2
            rw [e2, decide_eq_true hfo]
            simp only [sameRows_f (fetchU p from_ most c).1 (fetchU p from_ most c).1 (by omega), Option.isSome_some, Option.getD_some, decide_true, beq_self_eq_true, cond_true]
            have hc : (bif (fetchU p from_ most c).2.2 == (2 : Int) then true else true) = true := by cases (fetchU p from_ most c).2.2 == (2 : Int) <;> rfl
            rw [hc, cond_true, needO_true (fun _ => trivial), needO_true (fun _ => trivial)]
          · -- below the cut
            have e2 : fetchU (off, p.2.1, fromRows p.2.2.1 off, p.2.2.2) from_ most c = ([], 0, 130) := by
              unfold fetchU
              rw [if_pos hv2, if_pos (.inl (by show from_ < off; omega))]
            have e3 : ((fetchU p from_ most c).2.2 == (2 : Int)) = false := by
              unfold fetchU
              rw [if_pos hv1]
              by_cases h3 : from_ < p.1 ∨ from_ > p.2.1
              · rw [if_pos h3]; rfl
              · rw [if_neg h3, pageU_ok]; rfl
            rw [e2, e3, decide_eq_false hfo]
            simp only [cond_false]
            rw [needO_true (fun _ => trivial)]
            rfl
        · have e2 : fetchU (off, p.2.1, fromRows p.2.2.1 off, p.2.2.2) from_ most c = ([], 0, 2) := by
            unfold fetchU; rw [if_neg (fun h => hv h.2)]
          have e3 : fetchU p from_ most c = ([], 0, 2) := by
            unfold fetchU; rw [if_neg (fun h => hv h.2)]
          rw [e2, e3]
          simp only [sameRows_f [] [] (by simp), Option.isSome_some, Option.getD_some]
          rw [show ((2 : Int) == 2) = true from rfl, cond_true, cond_true, needO_true (fun _ => trivial), needO_true (fun _ => trivial)]
          rfl
    · rw [show checkC p = 2 from if_neg hgood]; rfl
end Go.Abs
