/-
Fetching on gives each row once, in order.
-/
import Derived.Test.YtbhokejnfbppdaaQ13b
namespace Go.Abs
set_option linter.unusedVariables false
set_option linter.unusedSimpArgs false
set_option maxRecDepth 100000

theorem tmod64 (s : Int) : 1 ≤ IntKind.i64.wrap ((1 : Int) + Int.tmod (IntKind.i64.wrap (Int.tmod s 64 + 64)) 64) ∧ IntKind.i64.wrap ((1 : Int) + Int.tmod (IntKind.i64.wrap (Int.tmod s 64 + 64)) 64) ≤ 64 := by
  have h1 : -64 < Int.tmod s 64 ∧ Int.tmod s 64 < 64 := by
    constructor
    · have := Int.lt_tmod_of_pos s (show (0 : Int) < 64 by decide); omega
    · exact Int.tmod_lt_of_pos s (by decide)
  have e1 : IntKind.i64.wrap (Int.tmod s 64 + 64) = Int.tmod s 64 + 64 := wrap_in (by omega) (by omega)
  rw [e1]
  have h2 : 0 ≤ Int.tmod (Int.tmod s 64 + 64) 64 ∧ Int.tmod (Int.tmod s 64 + 64) 64 < 64 := ⟨Int.tmod_nonneg _ (by omega), Int.tmod_lt_of_pos _ (by decide)⟩
  rw [wrap_in (by omega) (by omega)]
  omega

noncomputable abbrev onStep := rovinglaw13_ReadOn.step rovingref13_Great.f read_Check.f rovinglaw13_wakes.f read_Fetch.f rovingref13_SameRows.f

/-- A page of what is left. -/
structure Page (p : Part) (at_ : Int) (rest : List Row) (most : Int) (l : List Row) (next : Int) : Prop where
  got : fetchC p at_ most = (l, next, 0)
  up : at_ < next
  le : next ≤ p.2.1
  len : (l.length : Int) ≤ most
  way : (next < p.2.1 ∧ 1 ≤ l.length ∧ l ++ fromRows p.2.2.1 next = rest) ∨ (next = p.2.1 ∧ l = rest)

theorem page_of {p : Part} (hg : Good p) {at_ most : Int} (h0 : p.1 ≤ at_) (h1 : at_ < p.2.1) (hm : 1 ≤ most) (hm' : most ≤ 64) : ∃ l next, Page p at_ (fromRows p.2.2.1 at_) most l next := by
  have hfil := fromRows_filter at_ hg.rows
  have hsub := fromRows_sub p.2.2.1 at_
  have hpw : (fromRows p.2.2.1 at_).Pairwise (fun x y => x.1 < y.1) := hg.rows.sublist hsub
  generalize hrest : fromRows p.2.2.1 at_ = rest at *
  have hin : ∀ r ∈ rest, at_ ≤ r.1 ∧ r.1 < p.2.1 := fun r hr => by
    refine ⟨?_, (hg.inside r (hsub.subset hr)).2⟩
    rw [hfil, List.mem_filter] at hr
    simpa [geOff] using hr.2
  by_cases hl : (rest.length : Int) > most
  · have hk : most.toNat - 1 < rest.length := by omega
    have hk' : most.toNat < rest.length := by omega
    have hlast := hin _ (List.getElem_mem hk)
    have hnext := hin _ (List.getElem_mem hk')
    have hlt := List.pairwise_iff_getElem.1 hpw (most.toNat - 1) most.toNat hk hk' (by omega)
    have hA : ∀ i (hi : i < rest.length), i ≤ most.toNat - 1 → rest[i].1 ≤ rest[most.toNat - 1].1 := fun i hi h => by
      rcases Nat.eq_or_lt_of_le h with h | h
      · simp only [h]; exact Int.le_refl _
      · have := List.pairwise_iff_getElem.1 hpw i (most.toNat - 1) hi hk h; omega
    have hB : ∀ i (hi : i < rest.length), most.toNat ≤ i → rest[most.toNat - 1].1 < rest[i].1 := fun i hi h => List.pairwise_iff_getElem.1 hpw (most.toNat - 1) i hk hi (by omega)
    have hget : rest.getD (most.toNat - 1) RowT.dflt = rest[most.toNat - 1] := getD_at hk
    generalize hb : rest[most.toNat - 1].1 = b at *
    refine ⟨rest.take most.toNat, b + 1, ?_, by omega, by omega, by rw [List.length_take]; omega, .inl ⟨by omega, by rw [List.length_take]; omega, ?_⟩⟩
    · unfold fetchC pageS
      rw [if_pos ⟨hg, by omega, by omega⟩, if_neg (by omega), hrest, if_pos hl, if_pos (by omega), hget, hb]
    · have hge : fromRows rest (b + 1) = fromRows p.2.2.1 (b + 1) := by
        rw [← hrest]
        exact fromRows_twice hg.rows (by omega)
      rw [← hge, fromRows_filter _ hpw]
      have e1 : (rest.take most.toNat).filter (geOff (b + 1)) = [] := by
        refine List.filter_eq_nil_iff.2 fun r hr => ?_
        obtain ⟨i, hi, rfl⟩ := List.getElem_of_mem hr
        rw [List.length_take] at hi
        rw [List.getElem_take]
        have := hA i (by omega) (by omega)
        simp [geOff]; omega
      have e2 : (rest.drop most.toNat).filter (geOff (b + 1)) = rest.drop most.toNat := by
        refine List.filter_eq_self.2 fun r hr => ?_
        obtain ⟨i, hi, rfl⟩ := List.getElem_of_mem hr
        rw [List.length_drop] at hi
        rw [List.getElem_drop]
        have := hB (most.toNat + i) (by omega) (by omega)
        simp [geOff]; omega
      have e3 : rest.filter (geOff (b + 1)) = rest.drop most.toNat := by
        have : rest.filter (geOff (b + 1)) = (rest.take most.toNat ++ rest.drop most.toNat).filter (geOff (b + 1)) := by rw [List.take_append_drop]
        rw [this, List.filter_append, e1, e2, List.nil_append]
      rw [e3, List.take_append_drop]
  · refine ⟨rest, p.2.1, ?_, by omega, Int.le_refl _, by omega, .inr ⟨rfl, rfl⟩⟩
    unfold fetchC pageS
    rw [if_pos ⟨hg, by omega, by omega⟩, if_neg (by omega), hrest, if_neg hl]

/-- How many at a time. -/
def mostOf (sizes : List Int) (n : Int) : Int := if (sizes.length : Int) > 0 then IntKind.i64.wrap ((1 : Int) + Int.tmod (IntKind.i64.wrap (Int.tmod (sizes.getD (Int.toNat (Int.tmod n sizes.length)) I64.dflt) 64 + 64)) 64) else 1

theorem mostOf_in (sizes : List Int) (n : Int) : 1 ≤ mostOf sizes n ∧ mostOf sizes n ≤ 64 := by
  unfold mostOf
  split
  · exact tmod64 _
  · omega

theorem onStep_page (p : Part) (hf : Fits p) (sizes : List Int) (hs : sizes.length ≤ 100) {at_ : Int} {n : Nat} {done rest l : List Row} {next : Int} (hn : n < 400) (hat : at_ < p.2.1) (hpg : Page p at_ rest (mostOf sizes n) l next) (hlen : done.length + l.length ≤ 300) :
    (onStep (.l6 sizes at_ n p done)).opt = some (.inl (.l6 sizes next ((n + 1 : Nat) : Int) p (done ++ l))) := by
  have hn1 : ((n : Int) < 400) := by omega
  obtain ⟨hgot, hup, hle, hl, _⟩ := hpg
  have hm := mostOf_in sizes n
  unfold mostOf at hgot hl hm
  simp only [onStep, rovinglaw13_ReadOn.step, rovinglaw13_ReadOn.T6, opt_br, opt_need, opt_call, opt_ret, hn1, hat, decide_true, cond_true]
  by_cases h0 : (sizes.length : Int) > 0
  · rw [decide_eq_true h0, cond_true]
    rw [if_pos h0] at hgot hl hm
    have hmod : 0 ≤ Int.tmod (n : Int) sizes.length ∧ Int.tmod (n : Int) sizes.length < sizes.length := ⟨Int.tmod_nonneg _ (by omega), Int.tmod_lt_of_pos _ h0⟩
    rw [needO_true (by omega), needO_true hmod, needO_true (by decide), needO_true (by decide), fetch_f _ _ _ hf, hgot]
    simp only [Option.bind_some]
    rw [show ((0 : Int) != 0) = false from rfl, cond_false, decide_eq_false (by omega : ¬ next ≤ at_), cond_false, decide_eq_false (by omega : ¬ next > p.2.1), cond_false, decide_eq_false (by omega : ¬ (l.length : Int) > _), cond_false, needO_true (by omega), wrapN1 (show n + 1 ≤ 9223372036854775807 by omega)]
  · rw [decide_eq_false h0, cond_false]
    rw [if_neg h0] at hgot hl
    rw [fetch_f _ _ _ hf, hgot]
    simp only [Option.bind_some]
    rw [show ((0 : Int) != 0) = false from rfl, cond_false, decide_eq_false (by omega : ¬ next ≤ at_), cond_false, decide_eq_false (by omega : ¬ next > p.2.1), cond_false, decide_eq_false (by omega : ¬ (l.length : Int) > 1), cond_false, needO_true (by omega), wrapN1 (show n + 1 ≤ 9223372036854775807 by omega)]

theorem onStep_end (p : Part) (hf : Fits p) (sizes : List Int) (n : Int) : whileO (fun s => (onStep s).opt) (.l6 sizes p.2.1 n p p.2.2.1) = some true := by
  refine whileO_done ?_
  simp only [onStep, rovinglaw13_ReadOn.step, rovinglaw13_ReadOn.T6, opt_br, opt_need, opt_call, opt_ret, sameRows_f _ _ hf.rows, wakes_f, Option.isSome_some, Option.getD_some]
  rw [show decide (p.2.1 < p.2.1) = false by simp]
  have : (bif decide (n < 400) then false else false) = false := by cases decide (n < 400) <;> rfl
  rw [this, cond_false, needO_true (fun _ => trivial), needO_true (fun _ => trivial)]
  simp

theorem on_all (p : Part) (hg : Good p) (hf : Fits p) (h300 : List.length p.2.2.1 ≤ 300) (sizes : List Int) (hs : sizes.length ≤ 100) : ∀ (k : Nat) (at_ : Int) (n : Nat) (done : List Row), (fromRows p.2.2.1 at_).length ≤ k → p.1 ≤ at_ → at_ < p.2.1 → done ++ fromRows p.2.2.1 at_ = p.2.2.1 → n ≤ done.length →
    whileO (fun s => (onStep s).opt) (.l6 sizes at_ n p done) = some true := by
  intro k
  induction k with
  | zero =>
    intro at_ n done hk h0 h1 hd hn
    have hdl : done.length + (fromRows p.2.2.1 at_).length = List.length p.2.2.1 := by
      have := congrArg List.length hd; rwa [List.length_append] at this
    obtain ⟨l, next, hp⟩ := page_of hg h0 h1 (mostOf_in sizes n).1 (mostOf_in sizes n).2
    rcases hp.way with ⟨_, h2, h3⟩ | ⟨h2, h3⟩
    · have := congrArg List.length h3; rw [List.length_append] at this; omega
    · have hlen : done.length + l.length ≤ 300 := by rw [h3]; omega
      rw [whileO_next (onStep_page p hf sizes hs (by omega) h1 hp hlen), h2, h3, hd]
      exact onStep_end p hf sizes _
  | succ k ih =>
    intro at_ n done hk h0 h1 hd hn
    have hdl : done.length + (fromRows p.2.2.1 at_).length = List.length p.2.2.1 := by
      have := congrArg List.length hd; rwa [List.length_append] at this
    obtain ⟨l, next, hp⟩ := page_of hg h0 h1 (mostOf_in sizes n).1 (mostOf_in sizes n).2
    rcases hp.way with ⟨h4, h2, h3⟩ | ⟨h2, h3⟩
    · have h5 := congrArg List.length h3
      rw [List.length_append] at h5
      have hlen : done.length + l.length ≤ 300 := by omega
      rw [whileO_next (onStep_page p hf sizes hs (by omega) h1 hp hlen)]
      have hup := hp.up
      exact ih next (n + 1) (done ++ l) (by omega) (by omega) h4 (by rw [List.append_assoc, h3, hd]) (by rw [List.length_append]; omega)
    · have hlen : done.length + l.length ≤ 300 := by rw [h3]; omega
      rw [whileO_next (onStep_page p hf sizes hs (by omega) h1 hp hlen), h2, h3, hd]
      exact onStep_end p hf sizes _

theorem fromRows_all {p : Part} (hg : Good p) : fromRows p.2.2.1 p.1 = p.2.2.1 := by
  rw [fromRows_filter _ hg.rows]
  exact List.filter_eq_self.2 fun r hr => by have := (hg.inside r hr).1; simp [geOff]; omega

theorem ReadOn_f (p : Part) (sizes : List Int) (hf : Fits p) (hb : ∀ o ∈ (p.2.2.2.1 : List OpenD), List.length o.2.2 ≤ 9223372036854775807) : rovinglaw13_ReadOn.f p sizes = some true := by
  unfold rovinglaw13_ReadOn.f
  have hT : (rovinglaw13_ReadOn.T rovingref13_Great.f read_Check.f rovinglaw13_wakes.f read_Fetch.f rovingref13_SameRows.f p sizes).opt =
      bif (bif (bif great p then true else (checkC p != 0)) then true else decide ((sizes.length : Int) > 100)) then some (.inr true) else some (.inl (.l6 sizes p.1 0 p [])) := by
    simp only [rovinglaw13_ReadOn.T, opt_br, opt_need, opt_call, opt_ret, great_f p hf.rows hb, check_f p hf, wakes_f, Option.bind_some, Option.isSome_some, Option.getD_some]
    rw [needO_true (fun _ => trivial)]
  cases hc : (bif (bif great p then true else (checkC p != 0)) then true else decide ((sizes.length : Int) > 100)) with
  | true => rw [hc] at hT; exact loopO_ret hT
  | false =>
    rw [hc] at hT
    rw [loopO_go hT]
    have hgr : great p = false := by
      cases h : great p with
      | false => rfl
      | true => rw [h] at hc; simp at hc
    rw [hgr] at hc
    have hgood : Good p := by
      by_cases h : Good p
      · exact h
      · rw [show checkC p = 2 from if_neg h] at hc; simp at hc
    rw [show checkC p = 0 from if_pos hgood] at hc
    have hs : sizes.length ≤ 100 := by
      simp only [show ((0 : Int) != 0) = false from rfl, cond_false] at hc
      have := of_decide_eq_false hc; omega
    have h300 : List.length p.2.2.1 ≤ 300 := by
      unfold great greatRows at hgr
      simp only [Bool.or_eq_false_iff] at hgr
      have := of_decide_eq_false hgr.1.1.1.1.1; omega
    by_cases hlt : p.1 < p.2.1
    · exact on_all p hgood hf h300 sizes hs _ p.1 0 [] (Nat.le_refl _) (Int.le_refl _) hlt (by rw [fromRows_all hgood]; rfl) (Nat.zero_le _)
    · have he : p.1 = p.2.1 := by have := hgood.le; omega
      have hnil : p.2.2.1 = [] := by
        cases h : p.2.2.1 with
        | nil => rfl
        | cons r rs => have := hgood.inside r (by rw [h]; exact List.mem_cons_self ..); omega
      have := onStep_end p hf sizes 0
      rw [he]
      rw [hnil] at this
      exact this
end Go.Abs
