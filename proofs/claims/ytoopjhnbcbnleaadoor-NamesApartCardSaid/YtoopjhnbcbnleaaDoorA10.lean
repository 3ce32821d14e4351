/-
Regions of operations, in the text's order and in every order that their edges leave open.
-/
import Derived.Test.YtoopjhnbcbnleaaDoorA9
namespace Go.Abs
open Go.RowKit
set_option linter.unusedVariables false
set_option linter.unusedSimpArgs false
set_option linter.unnecessarySimpa false

-- ---------------------------------------------------------------- the last of those that are done
/-- The last of the records done (D) that f takes. -/
def lastW {α : Type} (D : Nat → Bool) (f : Rec → Option α) : List Rec → Nat → Option α
  | [], _ => none
  | r :: rs, i => match lastW D f rs (i + 1) with
    | some x => some x
    | none => if D i = true then f r else none

theorem lastW_congr {α : Type} {D D' : Nat → Bool} {f : Rec → Option α} : ∀ {R : List Rec} {i : Nat}, (∀ j r, R[j]? = some r → f r ≠ none → D (i + j) = D' (i + j)) → lastW D f R i = lastW D' f R i
  | [], _, _ => rfl
  | r :: rs, i, h => by
    have ih := lastW_congr (D := D) (D' := D') (f := f) (R := rs) (i := i + 1) fun j r' hj hf => by
      have := h (j + 1) r' (by simpa using hj) hf
      simpa [Nat.add_assoc, Nat.add_comm 1 j] using this
    simp only [lastW, ih]
    split
    · rfl
    · cases hf : f r with
      | none => simp
      | some x => rw [show D i = D' i from by simpa using h 0 r rfl (by simp [hf])]

theorem lastW_none {α : Type} {D : Nat → Bool} {f : Rec → Option α} : ∀ {R : List Rec} {i : Nat}, (∀ j r, R[j]? = some r → D (i + j) = true → f r = none) → lastW D f R i = none
  | [], _, _ => rfl
  | r :: rs, i, h => by
    have ih := lastW_none (D := D) (f := f) (R := rs) (i := i + 1) fun j r' hj hd => h (j + 1) r' (by simpa using hj) (by simpa [Nat.add_assoc, Nat.add_comm 1 j] using hd)
    simp only [lastW, ih]
    split
    · exact h 0 r rfl (by simpa using ‹D i = true›)
    · rfl

theorem lastW_at {α : Type} {D : Nat → Bool} {f : Rec → Option α} {x : α} : ∀ {R : List Rec} {i m : Nat} {r : Rec}, R[m]? = some r → D (i + m) = true → f r = some x →
    (∀ j r', R[j]? = some r' → m < j → D (i + j) = true → f r' = none) → lastW D f R i = some x
  | [], _, _, _, h, _, _, _ => by simp at h
  | q :: rs, i, 0, r, hr, hd, hf, h => by
    simp at hr; subst hr
    have := lastW_none (D := D) (f := f) (R := rs) (i := i + 1) fun j r' hj hd => h (j + 1) r' (by simpa using hj) (by omega) (by simpa [Nat.add_assoc, Nat.add_comm 1 j] using hd)
    simp only [lastW, this]
    rw [if_pos (by simpa using hd)]; exact hf
  | q :: rs, i, m + 1, r, hr, hd, hf, h => by
    have := lastW_at (D := D) (f := f) (x := x) (R := rs) (i := i + 1) (m := m) (r := r) (by simpa using hr) (by simpa [Nat.add_assoc, Nat.add_comm 1 m] using hd) hf
      fun j r' hj hm hd => h (j + 1) r' (by simpa using hj) (by omega) (by simpa [Nat.add_assoc, Nat.add_comm 1 j] using hd)
    simp only [lastW, this]

/-- What lastW gives stands among the records done. -/
theorem lastW_mem {α : Type} {D : Nat → Bool} {f : Rec → Option α} {x : α} : ∀ {R : List Rec} {i : Nat}, lastW D f R i = some x → ∃ j r, R[j]? = some r ∧ D (i + j) = true ∧ f r = some x
  | [], _, h => by simp [lastW] at h
  | r :: rs, i, h => by
    simp only [lastW] at h
    split at h
    · rename_i y hy
      obtain ⟨j, r', h1, h2, h3⟩ := lastW_mem hy
      exact ⟨j + 1, r', by simpa using h1, by simpa [Nat.add_assoc, Nat.add_comm 1 j] using h2, by rw [h3, ← h]⟩
    · split at h
      · exact ⟨0, r, rfl, by simpa using ‹D i = true›, h⟩
      · cases h

/-- The first m records in the text. -/
def upTo (m : Nat) : Nat → Bool := fun j => decide (j < m)

def slotF (t : Tmp) (r : Rec) : Option Rec := if r.dst = some t then some r else none

theorem slotF_some {t : Tmp} {r x : Rec} (h : slotF t r = some x) : r.dst = some t ∧ x = r := by
  unfold slotF at h
  split at h
  · exact ⟨by assumption, (Option.some.inj h).symm⟩
  · cases h

theorem findRec_some {t : Tmp} : ∀ {recs : List Rec} {m : Nat} {r : Rec}, findRec t recs = some (m, r) → m < recs.length ∧ recs.reverse[m]? = some r ∧ r.dst = some t ∧ ∀ j r', recs.reverse[j]? = some r' → m < j → r'.dst ≠ some t
  | [], m, r, h => by simp [findRec] at h
  | q :: rs, m, r, h => by
    simp only [findRec] at h
    split at h
    · rename_i hq
      simp only [Option.some.injEq, Prod.mk.injEq] at h
      obtain ⟨rfl, rfl⟩ := h
      refine ⟨by simp, by simp, hq, fun j r' hj hm => ?_⟩
      have := (List.getElem?_eq_some_iff.1 hj).1
      simp at this; omega
    · rename_i hq
      obtain ⟨h1, h2, h3, h4⟩ := findRec_some h
      refine ⟨by simp; omega, by simp; rw [List.getElem?_append_left (by simpa using h1)]; exact h2, h3, fun j r' hj hm => ?_⟩
      simp at hj
      rcases Nat.lt_or_ge j rs.length with hl | hl
      · rw [List.getElem?_append_left (by simpa using hl)] at hj; exact h4 j r' hj hm
      · rw [List.getElem?_append_right (by simpa using hl)] at hj
        have := (List.getElem?_eq_some_iff.1 hj).1
        simp at this
        have e : j = rs.length := by omega
        subst e; simp at hj; subst hj; exact hq

theorem findRec_none {t : Tmp} : ∀ {recs : List Rec}, findRec t recs = none → ∀ r ∈ recs, r.dst ≠ some t
  | [], _ => by simp
  | q :: rs, h => by
    simp only [findRec] at h
    split at h
    · cases h
    · rename_i hq
      intro r hr
      rcases List.mem_cons.1 hr with rfl | hr
      · exact hq
      · exact findRec_none h r hr

/-- The slot as the text has it. -/
theorem findRec_last {t : Tmp} {R : List Rec} {i : Nat} : (findRec t (R.take i).reverse).map (·.2) = lastW (upTo i) (slotF t) R 0 := by
  cases h : findRec t (R.take i).reverse with
  | none =>
    symm
    refine lastW_none fun j r hj hd => ?_
    simp [upTo] at hd
    have := findRec_none h r (by
      rw [List.mem_reverse]
      exact List.mem_of_getElem? (i := j) (by rw [List.getElem?_take]; simp [hd, hj]))
    simp [slotF, this]
  | some p =>
    obtain ⟨m, r⟩ := p
    obtain ⟨h1, h2, h3, h4⟩ := findRec_some h
    rw [List.reverse_reverse] at h2 h4
    have hm : m < i := by simp at h1; omega
    symm
    refine lastW_at (m := m) (r := r) (by rw [List.getElem?_take] at h2; simpa [hm] using h2) (by simpa [upTo] using hm) (by simp [slotF, h3]) fun j r' hj hmj hd => ?_
    simp [upTo] at hd
    have := h4 j r' (by rw [List.getElem?_take]; simp [hd, hj]) hmj
    simp [slotF, this]

-- ---------------------------------------------------------------- regions, as they stand
def wrAt : List (Nat × Reg) → Nat → Option Reg
  | [], _ => none
  | p :: ps, k => match wrAt ps k with
    | some x => some x
    | none => if p.1 = k then some p.2 else none

theorem setAll_at : ∀ (wr : List (Nat × Reg)) (rg : Nat → Reg) (k : Nat), setAll rg wr k = (wrAt wr k).getD (rg k)
  | [], rg, k => rfl
  | p :: ps, rg, k => by
    have := setAll_at ps (upd rg p.1 p.2) k
    rw [setAll] at this ⊢
    rw [List.foldl_cons, this, wrAt]
    split
    · rename_i hx; rw [hx]; rfl
    · rename_i hx
      rw [hx]
      by_cases e : p.1 = k
      · subst e; simp [upd_same]
      · simp [e, upd_ne _ _ _ (Ne.symm e)]

theorem wrAt_mem : ∀ {wr : List (Nat × Reg)} {k : Nat}, wrAt wr k ≠ none ↔ k ∈ wr.map (·.1)
  | [], k => by simp [wrAt]
  | p :: ps, k => by
    have := wrAt_mem (wr := ps) (k := k)
    rw [wrAt]
    split
    · rename_i x hx
      simp [hx] at this ⊢
      exact .inr this
    · rename_i hx
      simp only [hx, ne_eq, not_true_eq_false, false_iff] at this
      by_cases e : p.1 = k
      · simp [e]
      · simp only [e, if_false, ne_eq, not_true_eq_false, List.map_cons, List.mem_cons, false_iff, not_or]
        exact ⟨fun h => e h.symm, this⟩

theorem rgOf_setReg (hp : List Reg) (k : Nat) (r : Reg) : rgOf (setReg hp k r) = upd (rgOf hp) k r := by
  funext j
  unfold setReg rgOf upd
  split
  · by_cases e : j = k
    · subst e; simp [*]
    · rw [if_neg e]; simp [List.getElem?_set_ne (Ne.symm e)]
  · rename_i hk
    by_cases e : j = k
    · subst e
      rw [if_pos rfl]
      have : (hp ++ List.replicate (j - hp.length) Reg.dead ++ [r])[j]? = some r := by
        rw [List.getElem?_append_right (by simp; omega)]
        simp; rw [show j - (hp.length + (j - hp.length)) = 0 by omega]; rfl
      simp only [List.getD_eq_getElem?_getD, this, Option.getD_some]
    · rw [if_neg e]
      simp only [List.getD_eq_getElem?_getD]
      rcases Nat.lt_or_ge j hp.length with h | h
      · rw [List.append_assoc, List.getElem?_append_left h]
      · rw [List.getElem?_eq_none (l := hp) h]
        rcases Nat.lt_or_ge j k with h' | h'
        · rw [List.getElem?_append_left (by simp; omega), List.getElem?_append_right h]
          simp [List.getElem?_replicate]
          split <;> rfl
        · rw [List.getElem?_eq_none (by simp; omega)]

theorem setReg_len (hp : List Reg) (k : Nat) (r : Reg) : (setReg hp k r).length = max hp.length (k + 1) := by
  unfold setReg; split
  · simp; omega
  · simp; omega

theorem rgOf_setRegs : ∀ (wr : List (Nat × Reg)) (hp : List Reg), rgOf (setRegs hp wr) = setAll (rgOf hp) wr
  | [], hp => rfl
  | p :: ps, hp => by
    have := rgOf_setRegs ps (setReg hp p.1 p.2)
    rw [setRegs] at this ⊢
    rw [setAll, List.foldl_cons, List.foldl_cons, this, rgOf_setReg, setAll]

theorem setRegs_len : ∀ (wr : List (Nat × Reg)) (hp : List Reg), hp.length ≤ (setRegs hp wr).length ∧ ∀ k ∈ wr.map (·.1), k < (setRegs hp wr).length
  | [], hp => ⟨Nat.le_refl _, by simp⟩
  | p :: ps, hp => by
    obtain ⟨h1, h2⟩ := setRegs_len ps (setReg hp p.1 p.2)
    rw [setReg_len] at h1
    rw [setRegs] at h1 h2 ⊢
    rw [List.foldl_cons]
    refine ⟨by omega, fun k hk => ?_⟩
    rw [List.map_cons, List.mem_cons] at hk
    rcases hk with rfl | hk
    · omega
    · exact h2 k hk

/-- The regions when the operations of D are done. -/
def rgD (D : Nat → Bool) (R : List Rec) (rg0 : Nat → Reg) : Nat → Reg := fun k => (lastW D (fun r => wrAt r.wr k) R 0).getD (rg0 k)

/-- The regions' list ahead of operation i of the text. -/
def hpAt (R : List Rec) (hp : List Reg) (i : Nat) : List Reg := (R.take i).foldl (fun hp r => setRegs hp r.wr) hp

theorem hpAt_succ {R : List Rec} {hp : List Reg} {i : Nat} {r : Rec} (h : R[i]? = some r) : hpAt R hp (i + 1) = setRegs (hpAt R hp i) r.wr := by
  have hi := (List.getElem?_eq_some_iff.1 h).1
  have e := (List.getElem?_eq_some_iff.1 h).2
  unfold hpAt
  rw [List.take_succ_eq_append_getElem hi, List.foldl_append, e]; rfl

theorem rgD_hpAt {R : List Rec} {hp : List Reg} : ∀ {i : Nat}, i ≤ R.length → rgOf (hpAt R hp i) = rgD (upTo i) R (rgOf hp)
  | 0, _ => by
    funext k
    have : lastW (upTo 0) (fun r => wrAt r.wr k) R 0 = none := lastW_none fun j r hj hd => by simp [upTo] at hd
    simp [hpAt, rgD, this]
  | i + 1, h => by
    have hr : R[i]? = some R[i] := List.getElem?_eq_getElem (by omega)
    rw [hpAt_succ hr, rgOf_setRegs, rgD_hpAt (by omega)]
    funext k
    rw [setAll_at]
    cases hw : wrAt R[i].wr k with
    | none =>
      rw [Option.getD_none, rgD, rgD]
      congr 1
      refine lastW_congr fun j r hj hf => ?_
      have : j ≠ i := fun e => by subst e; rw [hr] at hj; obtain rfl := Option.some.inj hj; exact hf hw
      simp [upTo]; omega
    | some x =>
      rw [Option.getD_some, rgD, lastW_at (m := i) (r := R[i]) hr (by simp [upTo]) hw fun j r' hj hm hd => by simp [upTo] at hd; omega]
      rfl

theorem viewF_sound {F : Nat → Prop} {β : Nat → Base} {al : Nat → Prop} {rg rgK : Nat → Reg} {w : World} {a : AV} {v : Value} (hI : Inv F β al rg w) (hs : SubR rgK rg) (h : VR F β w a v) :
    VR F β w (a.viewF rgK) v ∧ ∀ k ∈ (a.viewF rgK).refs, k ∈ a.refs := by
  cases a with
  | arr k =>
    simp only [AV.viewF]
    split
    · rename_i t xs hk
      have hok := hI.ok k
      rw [hs.at hk (by simp)] at hok
      unfold VR at h; subst h
      exact ⟨mk_flat (t := .list t) rfl hok, fun k hk => by simp [AV.refs] at hk⟩
    · exact ⟨h, fun _ h => h⟩
  | _ => exact ⟨h, fun _ h => h⟩

theorem viewFs_sound {F : Nat → Prop} {β : Nat → Base} {al : Nat → Prop} {rg rgK : Nat → Reg} {w : World} (hI : Inv F β al rg w) (hs : SubR rgK rg) : ∀ {as : List AV} {vs : List Value}, VRs F β w as vs →
    VRs F β w (as.map (AV.viewF rgK)) vs ∧ ∀ k ∈ refsL (as.map (AV.viewF rgK)), k ∈ refsL as
  | [], vs, h => ⟨h, fun _ h => h⟩
  | a :: as, vs, h => by
    unfold VRs at h
    obtain ⟨u, r, rfl, h1, h2⟩ := h
    have h3 := viewF_sound hI hs h1
    have h4 := viewFs_sound hI hs h2
    refine ⟨VRs.cons h3.1 h4.1, fun k hk => ?_⟩
    rw [List.map_cons, refsL, List.mem_append] at hk
    rw [refsL, List.mem_append]
    exact hk.imp (h3.2 k) (h4.2 k)
end Go.Abs
