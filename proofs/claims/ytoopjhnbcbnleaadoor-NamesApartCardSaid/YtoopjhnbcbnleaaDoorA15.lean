/-
Regions numbered anew, and arrays seen as data all through.
-/
import Derived.Test.YtoopjhnbcbnleaaDoorA14b
namespace Go.Abs
open Go.RowKit
set_option linter.unusedVariables false
set_option linter.unusedSimpArgs false
set_option linter.unnecessarySimpa false

mutual
/-- A value with its regions' numbers turned. -/
def AV.ren (σ : Nat → Nat) : AV → AV
  | .ref k o => .ref (σ k) o
  | .arr k => .arr (σ k)
  | .aelt k i o => .aelt (σ k) i o
  | .fn f a b => .fn f (renL σ a) (renL σ b)
  | .iface t a => .iface t (a.ren σ)
  | .agg cs => .agg (renL σ cs)
  | .tup vs => .tup (renL σ vs)
  | .dat t x => .dat t x
  | .full t x => .full t x
  | .elt t x i o => .elt t x i o
  | .cst v => .cst v
  | .nul => .nul
  | .yld k => .yld (σ k)
  | .bad => .bad
def renL (σ : Nat → Nat) : List AV → List AV
  | [] => []
  | a :: as => a.ren σ :: renL σ as
end

def Reg.ren (σ : Nat → Nat) : Reg → Reg
  | .cells cs => .cells (renL σ cs)
  | .loop L tm j => .loop L (renL σ tm) j
  | r => r

mutual
theorem VR.ren {F : Nat → Prop} {β : Nat → Base} {w : World} {σ : Nat → Nat} : ∀ {a : AV} {v : Value}, VR F β w (a.ren σ) v ↔ VR F (fun k => β (σ k)) w a v
  | .ref k o, v => by rw [AV.ren]; unfold VR; exact Iff.rfl
  | .arr k, v => by rw [AV.ren]; unfold VR; exact Iff.rfl
  | .aelt k i o, v => by rw [AV.ren]; unfold VR; exact Iff.rfl
  | .fn f a b, v => by
    rw [AV.ren]; unfold VR
    constructor
    · rintro ⟨x, y, e, h1, h2⟩; exact ⟨x, y, e, VRs.ren.1 h1, VRs.ren.1 h2⟩
    · rintro ⟨x, y, e, h1, h2⟩; exact ⟨x, y, e, VRs.ren.2 h1, VRs.ren.2 h2⟩
  | .iface t a, v => by
    rw [AV.ren]; unfold VR
    constructor
    · rintro ⟨u, e, h⟩; exact ⟨u, e, VR.ren.1 h⟩
    · rintro ⟨u, e, h⟩; exact ⟨u, e, VR.ren.2 h⟩
  | .agg cs, v => by
    rw [AV.ren]; unfold VR
    constructor
    · rintro ⟨u, e, h⟩; exact ⟨u, e, CRs.ren.1 h⟩
    · rintro ⟨u, e, h⟩; exact ⟨u, e, CRs.ren.2 h⟩
  | .tup vs, v => by
    rw [AV.ren]; unfold VR
    constructor
    · rintro ⟨u, e, h⟩; exact ⟨u, e, VRs.ren.1 h⟩
    · rintro ⟨u, e, h⟩; exact ⟨u, e, VRs.ren.2 h⟩
  | .dat t x, v => by rw [AV.ren]; unfold VR; exact Iff.rfl
  | .full t x, v => by rw [AV.ren]; unfold VR; exact Iff.rfl
  | .elt t x i o, v => by rw [AV.ren]; unfold VR; exact Iff.rfl
  | .cst u, v => by rw [AV.ren]; unfold VR; exact Iff.rfl
  | .nul, v => by rw [AV.ren]; unfold VR; exact Iff.rfl
  | .yld k, v => by rw [AV.ren]; unfold VR; exact Iff.rfl
  | .bad, v => by rw [AV.ren]; unfold VR; exact Iff.rfl
theorem VRs.ren {F : Nat → Prop} {β : Nat → Base} {w : World} {σ : Nat → Nat} : ∀ {as : List AV} {us : List Value}, VRs F β w (renL σ as) us ↔ VRs F (fun k => β (σ k)) w as us
  | [], us => by rw [renL]; unfold VRs; exact Iff.rfl
  | a :: as, us => by
    rw [renL]; unfold VRs
    constructor
    · rintro ⟨u, r, e, h1, h2⟩; exact ⟨u, r, e, VR.ren.1 h1, VRs.ren.1 h2⟩
    · rintro ⟨u, r, e, h1, h2⟩; exact ⟨u, r, e, VR.ren.2 h1, VRs.ren.2 h2⟩
theorem CRs.ren {F : Nat → Prop} {β : Nat → Base} {w : World} {σ : Nat → Nat} : ∀ {cs : List AV} {us : List Value}, CRs F β w (renL σ cs) us ↔ CRs F (fun k => β (σ k)) w cs us
  | [], us => by rw [renL]; unfold CRs; exact Iff.rfl
  | c :: cs, us => by
    rw [renL]
    have hv := fun u => VR.ren (F := F) (β := β) (w := w) (σ := σ) (a := c) (v := u)
    have ih := fun r => CRs.ren (F := F) (β := β) (w := w) (σ := σ) (cs := cs) (us := r)
    cases c with
    | dat t x =>
      rw [AV.ren]; unfold CRs
      simp only [ih]
    | agg l => rw [AV.ren]; unfold CRs; exact Iff.rfl
    | _ =>
      rw [AV.ren] at hv ⊢; unfold CRs
      simp only [ih, hv]
end

theorem ren_w {σ : Nat → Nat} (a : AV) : (a.ren σ).w = a.w := by cases a <;> rfl
theorem renL_wAll {σ : Nat → Nat} : ∀ cs : List AV, wAll (renL σ cs) = wAll cs
  | [] => rfl
  | c :: cs => by rw [renL, wAll, wAll, ren_w, renL_wAll cs]

theorem fp_ren {σ : Nat → Nat} {B : Base} {r : Reg} : fp B (r.ren σ) = fp B r := by
  cases r with
  | cells cs => funext b i; simp only [Reg.ren, fp, renL_wAll]
  | _ => rfl

theorem RegOk.ren {F : Nat → Prop} {β : Nat → Base} {w : World} {σ : Nat → Nat} {B : Base} {r : Reg} : RegOk F β w B (r.ren σ) ↔ RegOk F (fun k => β (σ k)) w B r := by
  cases r with
  | cells cs => simp only [Reg.ren, RegOk, CRs.ren]
  | loop L tm j =>
    constructor
    · rintro ⟨q, vs, h⟩; exact ⟨q, vs, h.row, h.tmps, VRs.ren.1 h.vals, h.params, h.assign, h.body, h.busy, h.rest⟩
    · rintro ⟨q, vs, h⟩; exact ⟨q, vs, h.row, h.tmps, VRs.ren.2 h.vals, h.params, h.assign, h.body, h.busy, h.rest⟩
  | _ => exact Iff.rfl

mutual
theorem ren_refs {σ : Nat → Nat} {k : Nat} : ∀ {a : AV}, k ∈ (a.ren σ).refs ↔ ∃ j ∈ a.refs, σ j = k
  | .ref j o => by simp [AV.ren, AV.refs, eq_comm]
  | .arr j => by simp [AV.ren, AV.refs, eq_comm]
  | .aelt j i o => by simp [AV.ren, AV.refs, eq_comm]
  | .yld j => by simp [AV.ren, AV.refs, eq_comm]
  | .fn f a b => by
    have h1 := renL_refs (σ := σ) (k := k) (as := a); have h2 := renL_refs (σ := σ) (k := k) (as := b)
    simp only [AV.ren, AV.refs, List.mem_append, h1, h2]
    constructor
    · rintro (⟨j, h, e⟩ | ⟨j, h, e⟩)
      · exact ⟨j, .inl h, e⟩
      · exact ⟨j, .inr h, e⟩
    · rintro ⟨j, h | h, e⟩
      · exact .inl ⟨j, h, e⟩
      · exact .inr ⟨j, h, e⟩
  | .iface t a => by simpa only [AV.ren, AV.refs] using ren_refs (a := a)
  | .agg cs => by simpa only [AV.ren, AV.refs] using renL_refs (as := cs)
  | .tup vs => by simpa only [AV.ren, AV.refs] using renL_refs (as := vs)
  | .dat .. | .full .. | .elt .. | .cst .. | .nul | .bad => by simp [AV.ren, AV.refs]
theorem renL_refs {σ : Nat → Nat} {k : Nat} : ∀ {as : List AV}, k ∈ refsL (renL σ as) ↔ ∃ j ∈ refsL as, σ j = k
  | [] => by simp [renL, refsL]
  | a :: as => by
    have h1 := ren_refs (σ := σ) (k := k) (a := a); have h2 := renL_refs (σ := σ) (k := k) (as := as)
    simp only [renL, refsL, List.mem_append, h1, h2]
    constructor
    · rintro (⟨j, h, e⟩ | ⟨j, h, e⟩)
      · exact ⟨j, .inl h, e⟩
      · exact ⟨j, .inr h, e⟩
    · rintro ⟨j, h | h, e⟩
      · exact .inl ⟨j, h, e⟩
      · exact .inr ⟨j, h, e⟩
end

theorem Reg.ren_refs {σ : Nat → Nat} {k : Nat} {r : Reg} : k ∈ (r.ren σ).refs ↔ ∃ j ∈ r.refs, σ j = k := by
  cases r with
  | cells cs => exact renL_refs
  | loop L tm j => exact renL_refs
  | _ => simp [Reg.ren, Reg.refs]

-- ---------------------------------------------------------------- frozen arrays, all through a value
mutual
def AV.viewD (rg : Nat → Reg) : AV → AV
  | .arr k => match rg k with
    | .fz t xs => .dat (.list t) xs
    | _ => .arr k
  | .iface t a => .iface t (a.viewD rg)
  | .agg cs => .agg (viewDL rg cs)
  | .tup vs => .tup (viewDL rg vs)
  | .ref k o => .ref k o
  | .aelt k i o => .aelt k i o
  | .fn f a b => .fn f a b
  | .dat t x => .dat t x
  | .full t x => .full t x
  | .elt t x i o => .elt t x i o
  | .cst v => .cst v
  | .nul => .nul
  | .yld k => .yld k
  | .bad => .bad
def viewDL (rg : Nat → Reg) : List AV → List AV
  | [] => []
  | a :: as => a.viewD rg :: viewDL rg as
end

def Reg.viewD (rg : Nat → Reg) : Reg → Reg
  | .cells cs => .cells (viewDL rg cs)
  | r => r

section
variable {F : Nat → Prop} {β : Nat → Base} {al : Nat → Prop} {rg : Nat → Reg} {w : World}

theorem viewD_arr (hI : Inv F β al rg w) {k : Nat} {t : Ty} {xs : List t.car} (hk : rg k = .fz t xs) {v : Value} (h : VR F β w (.arr k) v) : RD F w (.list t) xs [v] := by
  have hok := hI.ok k
  rw [hk] at hok
  unfold VR at h; subst h
  exact hok

mutual
theorem viewD_sound (hI : Inv F β al rg w) : ∀ {a : AV} {v : Value}, VR F β w a v → VR F β w (a.viewD rg) v
  | .arr k, v, h => by
    rw [AV.viewD]
    split
    · exact mk_flat (t := .list _) rfl (viewD_arr hI (by assumption) h)
    · exact h
  | .iface t a, v, h => by
    rw [AV.viewD]; unfold VR at h ⊢
    obtain ⟨u, e, h⟩ := h
    exact ⟨u, e, viewD_sound hI h⟩
  | .agg cs, v, h => by
    rw [AV.viewD]; unfold VR at h ⊢
    obtain ⟨u, e, h⟩ := h
    exact ⟨u, e, viewDC_sound hI h⟩
  | .tup vs, v, h => by
    rw [AV.viewD]; unfold VR at h ⊢
    obtain ⟨u, e, h⟩ := h
    exact ⟨u, e, viewDL_sound hI h⟩
  | .ref k o, v, h | .aelt k i o, v, h | .fn f a b, v, h | .dat t x, v, h | .full t x, v, h | .elt t x i o, v, h | .cst u, v, h | .nul, v, h | .yld k, v, h | .bad, v, h => by rw [AV.viewD]; exact h
theorem viewDL_sound (hI : Inv F β al rg w) : ∀ {as : List AV} {us : List Value}, VRs F β w as us → VRs F β w (viewDL rg as) us
  | [], us, h => by rw [viewDL]; exact h
  | a :: as, us, h => by
    rw [viewDL]
    unfold VRs at h
    obtain ⟨u, r, rfl, h1, h2⟩ := h
    exact VRs.cons (viewD_sound hI h1) (viewDL_sound hI h2)
theorem viewDC_sound (hI : Inv F β al rg w) : ∀ {cs : List AV} {us : List Value}, CRs F β w cs us → CRs F β w (viewDL rg cs) us
  | [], us, h => by rw [viewDL]; exact h
  | c :: cs, us, h => by
    rw [viewDL]
    have hv := fun u => viewD_sound hI (a := c) (v := u)
    cases c with
    | dat t x =>
      rw [AV.viewD]; unfold CRs at h ⊢
      obtain ⟨c, r, e, h1, h2⟩ := h
      exact ⟨c, r, e, h1, viewDC_sound hI h2⟩
    | agg l => unfold CRs at h; exact h.elim
    | arr k =>
      unfold CRs at h
      obtain ⟨u, r, e, ho, h1, h2⟩ := h
      rw [AV.viewD]
      split
      · unfold CRs
        exact ⟨[u], r, e, viewD_arr hI (by assumption) h1, viewDC_sound hI h2⟩
      · unfold CRs
        exact ⟨u, r, e, ho, h1, viewDC_sound hI h2⟩
    | _ =>
      unfold CRs at h
      obtain ⟨u, r, e, ho, h1, h2⟩ := h
      have h3 := hv u h1
      rw [AV.viewD] at h3 ⊢
      unfold CRs
      exact ⟨u, r, e, ho, h3, viewDC_sound hI h2⟩
end

theorem viewD_w (a : AV) : (a.viewD rg).w = a.w := by
  cases a with
  | arr k => rw [AV.viewD]; split <;> rfl
  | _ => rw [AV.viewD]; try rfl

theorem viewDL_wAll : ∀ cs : List AV, wAll (viewDL rg cs) = wAll cs
  | [] => by rw [viewDL]
  | c :: cs => by rw [viewDL, wAll, wAll, viewD_w, viewDL_wAll cs]

theorem fp_viewD {B : Base} {r : Reg} : fp B (r.viewD rg) = fp B r := by
  cases r with
  | cells cs => funext b i; simp only [Reg.viewD, fp, viewDL_wAll]
  | _ => rfl

theorem RegOk.viewD (hI : Inv F β al rg w) {B : Base} {r : Reg} (h : RegOk F β w B r) : RegOk F β w B (r.viewD rg) := by
  cases r with
  | cells cs =>
    obtain ⟨vs, h1, h2⟩ := h
    exact ⟨vs, viewDC_sound hI h1, h2⟩
  | _ => exact h

/-- Some of the regions, numbered anew. -/
theorem Inv.pull {β2 : Nat → Base} {rg2 : Nat → Reg} {al2 : Nat → Prop} {src : Nat → Nat → Prop} (hI : Inv F β al rg w)
    (h : ∀ k, rg2 k = .dead ∨ ∃ j, src k j ∧ RegOk F β2 w (β2 k) (rg2 k) ∧ ∀ b i, fp (β2 k) (rg2 k) b i → fp (β j) (rg j) b i)
    (inj : ∀ k k' j, src k j → src k' j → k = k') (tk : ∀ k, rg2 k ≠ .dead → al2 k) (sc : ∀ k j, j ∈ (rg2 k).refs → al2 j) : Inv F β2 al2 rg2 w where
  ok := fun k => by
    rcases h k with e | ⟨j, _, h1, _⟩
    · rw [e]; trivial
    · exact h1
  dj := fun k k' b i i' hne h1 h2 => by
    rcases h k with e | ⟨j, s1, _, g1⟩
    · rw [e] at h1; exact h1
    · rcases h k' with e | ⟨j', s2, _, g2⟩
      · rw [e] at h2; exact h2
      · exact hI.dj j j' b i i' (fun e => hne (inj k k' j s1 (e ▸ s2))) (g1 b i h1) (g2 b i' h2)
  nf := fun k b i hf => by
    rcases h k with e | ⟨j, _, _, g⟩
    · rw [e] at hf; exact hf.elim
    · exact hI.nf j b i (g b i hf)
  ff := hI.ff
  tk := tk
  sc := sc
end
end Go.Abs
