/-
A call's end: its results, and the caller's regions as they are then.
-/
import Derived.Test.YtoopjhnbcbnleaaDoorA15
namespace Go.Abs
open Go.RowKit
set_option linter.unusedVariables false
set_option linter.unusedSimpArgs false
set_option linter.unnecessarySimpa false

def resList (P : Program) (s : St) : List ResultVar → Option (List AV)
  | [] => some []
  | r :: rs => match resOne P s r with
    | some a => match resList P s rs with
      | some as => some (a :: as)
      | none => none
    | none => none

def resV (P : Program) (fn : Func) (s : St) : Option AV := match resList P s fn.results.toList with
  | some [a] => some a
  | some as => some (.tup as)
  | none => none

/-- How a result is to be seen. -/
inductive Rt where
  | asis
  | dat (t : Ty)
  | full (t : Ty)
  | own (t : Ty)

def ret1 : Rt → AV → Option AV
  | .asis, a => some a
  | .dat t, a => if a.solid = true ∧ a.isAggV = t.isAgg then (AV.get? t a).map (.dat t) else none
  | .full t, .full t' xs => if h : t' = t then some (.full t (h ▸ xs)) else none
  | .full t, .cst (.slice none 0 0) => some (.full t [])
  | .full t, .nul => some (.full t [])
  | .full _, _ => none
  | .own _, .arr k => some (.arr k)
  | .own _, _ => none

def retL : List Rt → List AV → Option (List AV)
  | [], as => some as
  | _ :: _, [] => none
  | r :: rs, a :: as => match ret1 r a with
    | some a' => match retL rs as with
      | some as' => some (a' :: as')
      | none => none
    | none => none

def retV (rts : List Rt) : AV → Option AV
  | .tup vs => match retL rts vs with
    | some vs => some (.tup vs)
    | none => none
  | a => match rts with
    | [] => some a
    | [r] => ret1 r a
    | _ => none

def posOf (k : Nat) : List Nat → Nat
  | [] => 0
  | j :: js => if j = k then 0 else posOf k js + 1

def outRegs (rz : Nat → Reg) (hp : List Reg) : Nat → List Nat
  | 0 => []
  | m + 1 => if (rgOf hp m).live then outRegs rz hp m ++ [m] else outRegs rz hp m

def nws (news : List Nat) (m : Nat) (k : Nat) : Nat := if k < m then k else m + posOf k news

/-- Results that are to be arrays of their own. -/
def prep : List ResultVar → List Rt → St → St
  | .tmp t :: vs, .own e :: rs, s => prep vs rs (ownSt t e s)
  | _ :: vs, _ :: rs, s => prep vs rs s
  | _, _, s => s

/-- Arrays that stay their caller's to write. -/
def kept : List Rt → List AV → List Nat
  | .own _ :: rs, .arr k :: as => k :: kept rs as
  | _ :: rs, _ :: as => kept rs as
  | _, _ => []

def keptV (rts : List Rt) : AV → List Nat
  | .tup vs => kept rts vs
  | a => kept rts [a]

def zOf (m : Nat) (ks : List Nat) (k : Nat) : Bool := decide (m ≤ k) && !ks.contains k

/-- What a call has come to with the value v0, for its caller: hp the caller's regions at its entry. -/
def finishV (rts : List Rt) (ks : List Nat) (hp : List Reg) (s : St) (v0 : AV) : Option Out :=
    let m := hp.length
    let rz := rgz (zOf m ks) (rgOf s.hp)
    match retV rts (v0.viewD rz) with
    | none => none
    | some v =>
    let outer := outRegs rz hp m
    let news := (reach 64 (fun k => (rz k).viewD rz) (v.refs ++ outer.flatMap fun k => ((rz k).viewD rz).refs) []).filter fun k => decide (m ≤ k)
    let fine := fun k => decide (k < m) || news.contains k
    if decide (news.length ≤ gap) && distinct news && v.refs.all fine && (outer ++ news).all (fun k => ((rz k).viewD rz).refs.all fine) then
      some { v := v.ren (nws news m), wr := (outer ++ news).map fun k => (nws news m k, ((rz k).viewD rz).ren (nws news m)) }
    else none

/-- Arrays that the caller's cells hold. -/
def outerArrs (hp : List Reg) (s : St) : List Nat := (List.range hp.length).flatMap fun k => (rgOf s.hp k).refs

/-- What a call has come to. -/
def finish (P : Program) (fn : Func) (rts : List Rt) (keep : Bool) (hp : List Reg) (s : St) : Option Out :=
  let s' := prep fn.results.toList rts s
  match resV P fn s' with
  | none => none
  | some v0 => finishV rts (keptV rts v0 ++ bif keep then outerArrs hp s' else []) hp s' v0

section
variable {P : Program} {S : Sums} {ds : List Deferred} {F0 : Nat → Prop} {S0 : Nat → Nat → Prop} {w0 : World} {β0 : Nat → Base} {m0 : Nat} {F : Nat → Prop} {β : Nat → Base} {w : World} {a : Act} {s : St}

theorem SR.at (hI : SR ds F0 S0 w0 β0 m0 s F β a w) (t : Nat) : VR F β w (s.tm.getD t .bad) (a.tmps.getD t undef) ∧ ∀ k ∈ (s.tm.getD t .bad).refs, k < s.hp.length := by
  rcases Nat.lt_or_ge t s.tm.length with h | h
  · exact hI.slot t h
  · rw [show s.tm.getD t .bad = .bad by simp [List.getElem?_eq_none h]]
    exact ⟨by unfold VR; trivial, fun k hk => by simp [AV.refs] at hk⟩

theorem resOne_sound (hI : SR ds F0 S0 w0 β0 m0 s F β a w) {r : ResultVar} {v : AV} (h : resOne P s r = some v) :
    ∃ u, ((match r with | .tmp t => pure (a.tmps.getD t undef) | .cell c t => do loadVar t (← asAddr (a.tmps.getD c undef))) : Sem Value).run P w = .ok u w ∧ VR F β w v u ∧ ∀ k ∈ v.refs, k < s.hp.length := by
  cases r with
  | tmp t =>
    simp only [resOne, Option.some.injEq] at h
    subst h
    exact ⟨_, by simp, hI.at t⟩
  | cell c t =>
    simp only [resOne] at h
    obtain ⟨u, ad, e, hrun, h1, h2⟩ := evLoad_sound hI.inv (fun _ _ => rfl) h (hI.at c).1
    exact ⟨u, by simp only [e]; simpa [asAddr] using hrun, h1, h2⟩

theorem resList_sound (hI : SR ds F0 S0 w0 β0 m0 s F β a w) : ∀ {rs : List ResultVar} {vs : List AV}, resList P s rs = some vs →
    ∃ us, (rs.mapM fun r => ((match r with | .tmp t => pure (a.tmps.getD t undef) | .cell c t => do loadVar t (← asAddr (a.tmps.getD c undef))) : Sem Value)).run P w = .ok us w ∧ VRs F β w vs us ∧ ∀ k ∈ refsL vs, k < s.hp.length
  | [], vs, h => by
    simp only [resList, Option.some.injEq] at h; subst h
    exact ⟨[], by simp, VRs.nil, fun k hk => by simp [refsL] at hk⟩
  | r :: rs, vs, h => by
    simp only [resList] at h
    split at h
    · rename_i v hv
      split at h
      · rename_i vs' hvs
        obtain rfl := Option.some.inj h
        obtain ⟨u, h1, h2, h3⟩ := resOne_sound hI hv
        obtain ⟨us, g1, g2, g3⟩ := resList_sound hI hvs
        refine ⟨u :: us, ?_, VRs.cons h2 g2, fun k hk => ?_⟩
        · rw [List.mapM_cons]
          simp only [Sem.run_bind, h1, Result.andThen, g1, Sem.run_pure]
        · rw [refsL, List.mem_append] at hk
          exact hk.elim (h3 k) (g3 k)
      · cases h
    · cases h

theorem resV_sound (hI : SR ds F0 S0 w0 β0 m0 s F β a w) {fn : Func} {v : AV} (h : resV P fn s = some v) : ∃ u, (results fn a.tmps).run P w = .ok u w ∧ VR F β w v u ∧ ∀ k ∈ v.refs, k < s.hp.length := by
  unfold resV at h
  have key : ∀ vs, resList P s fn.results.toList = some vs → ∃ us, (results fn a.tmps).run P w = .ok (if h : us.length = 1 then us[0] else .tuple us.toArray) w ∧ VRs F β w vs us ∧ ∀ k ∈ refsL vs, k < s.hp.length := fun vs hvs => by
    obtain ⟨us, h1, h2, h3⟩ := resList_sound (P := P) hI hvs
    refine ⟨us, ?_, h2, h3⟩
    have e : results fn a.tmps = (fn.results.mapM fun r => ((match r with | .tmp t => pure (a.tmps.getD t undef) | .cell c t => do loadVar t (← asAddr (a.tmps.getD c undef))) : Sem Value)) >>= fun vs => pure (if h : vs.size = 1 then vs[0] else .tuple vs) := rfl
    rw [e, Sem.run_bind, Array.mapM_eq_mapM_toList, Sem.run_map, h1]
    simp
  split at h
  · rename_i v' hv
    obtain rfl := Option.some.inj h
    obtain ⟨us, h1, h2, h3⟩ := key _ hv
    unfold VRs at h2
    obtain ⟨u, r, rfl, h4, h5⟩ := h2
    unfold VRs at h5; subst h5
    exact ⟨u, by simpa using h1, h4, fun k hk => h3 k (by simp [refsL, hk])⟩
  · rename_i vs hne hv
    obtain rfl := Option.some.inj h
    obtain ⟨us, h1, h2, h3⟩ := key _ hv
    have hl : us.length ≠ 1 := fun e => by
      have := h2.solidVR
      rw [e] at this
      obtain ⟨v', rfl⟩ := List.length_eq_one_iff.1 this
      exact hne v' rfl
    rw [dif_neg hl] at h1
    exact ⟨_, h1, by unfold VR; exact ⟨us, rfl, h2⟩, fun k hk => h3 k hk⟩
  · cases h

theorem wrAt_some : ∀ {wr : List (Nat × Reg)} {k : Nat} {r : Reg}, wrAt wr k = some r → (k, r) ∈ wr
  | [], k, r, h => by simp [wrAt] at h
  | p :: ps, k, r, h => by
    rw [wrAt] at h
    split at h
    · rename_i x hx
      obtain rfl := Option.some.inj h
      exact List.mem_cons_of_mem _ (wrAt_some hx)
    · split at h
      · rename_i e
        obtain rfl := Option.some.inj h
        subst e; exact List.mem_cons_self ..
      · cases h

theorem setAll_map {rg : Nat → Reg} {g : Nat → Nat} {R : Nat → Reg} {l : List Nat} (hg : ∀ k ∈ l, ∀ k' ∈ l, g k = g k' → k = k') :
    (∀ k ∈ l, setAll rg (l.map fun k => (g k, R k)) (g k) = R k) ∧ ∀ x, x ∉ l.map g → setAll rg (l.map fun k => (g k, R k)) x = rg x := by
  have hkeys : (l.map fun k => (g k, R k)).map (·.1) = l.map g := by simp
  refine ⟨fun k hk => ?_, fun x hx => ?_⟩
  · rw [setAll_at]
    cases hw : wrAt (l.map fun k => (g k, R k)) (g k) with
    | none =>
      exact absurd hw (wrAt_mem.2 (by rw [hkeys]; exact List.mem_map_of_mem hk))
    | some r =>
      obtain ⟨k', hk', e⟩ := List.mem_map.1 (wrAt_some hw)
      simp only [Prod.mk.injEq] at e
      obtain rfl := hg k' hk' k hk e.1
      rw [← e.2]; rfl
  · rw [setAll_at]
    cases hw : wrAt (l.map fun k => (g k, R k)) x with
    | none => rfl
    | some r => exact absurd (hkeys ▸ wrAt_mem.1 (by rw [hw]; simp)) hx

theorem mem_outRegs {rz : Nat → Reg} {hp : List Reg} {k : Nat} : ∀ {m : Nat}, k ∈ outRegs rz hp m ↔ k < m ∧ (rgOf hp k).live = true
  | 0 => by simp [outRegs]
  | m + 1 => by
    have ih := mem_outRegs (rz := rz) (hp := hp) (k := k) (m := m)
    rw [outRegs]
    split
    · rename_i h
      rw [List.mem_append, List.mem_singleton, ih]
      constructor
      · rintro (⟨h1, h2⟩ | rfl)
        · exact ⟨by omega, h2⟩
        · exact ⟨by omega, h⟩
      · rintro ⟨h1, h2⟩
        by_cases e : k = m
        · exact .inr e
        · exact .inl ⟨by omega, h2⟩
    · rename_i h
      rw [ih]
      constructor
      · rintro ⟨h1, h2⟩; exact ⟨by omega, h2⟩
      · rintro ⟨h1, h2⟩
        refine ⟨?_, h2⟩
        rcases Nat.lt_or_ge k m with h' | h'
        · exact h'
        · have : k = m := by omega
          subst this; exact absurd h2 h

theorem posOf_get {k : Nat} : ∀ {l : List Nat}, k ∈ l → l[posOf k l]? = some k
  | [], h => by simp at h
  | j :: js, h => by
    rw [posOf]
    split
    · rename_i e; subst e; simp
    · rename_i e
      have := posOf_get (k := k) (l := js) ((List.mem_cons.1 h).resolve_left fun h => e h.symm)
      simpa using this

theorem distinct_inj : ∀ {l : List Nat} {i j k : Nat}, distinct l = true → l[i]? = some k → l[j]? = some k → i = j
  | [], i, j, k, _, h, _ => by simp at h
  | x :: xs, i, j, k, hd, h1, h2 => by
    simp only [distinct, Bool.and_eq_true, Bool.not_eq_true', List.contains_eq_mem, decide_eq_false_iff_not] at hd
    cases i with
    | zero =>
      cases j with
      | zero => rfl
      | succ j => simp at h1 h2; subst h1; exact absurd (List.mem_of_getElem? h2) hd.1
    | succ i =>
      cases j with
      | zero => simp at h1 h2; subst h2; exact absurd (List.mem_of_getElem? h1) hd.1
      | succ j => simp at h1 h2; rw [distinct_inj hd.2 h1 h2]

theorem AV.ren_refs' {σ : Nat → Nat} {k : Nat} {a : AV} : (k ∈ (a.ren σ).refs) = (∃ j ∈ a.refs, σ j = k) := propext ren_refs

theorem ret1_sound {r : Rt} {x y : AV} {u : Value} (h : ret1 r x = some y) (hv : VR F β w x u) : VR F β w y u ∧ ∀ k ∈ y.refs, k ∈ x.refs := by
  unfold ret1 at h
  split at h
  · obtain rfl := Option.some.inj h; exact ⟨hv, fun _ h => h⟩
  · rename_i t a
    split at h
    · rename_i hc
      obtain ⟨x, hx, rfl⟩ := Option.map_eq_some_iff.1 h
      refine ⟨?_, fun k hk => by simp [AV.refs] at hk⟩
      have hrd := AV.get_sound hx hc.1 hv
      unfold VR
      split
      · rename_i ht
        exact ⟨u.cells.toList, hv.aggCells (by rw [hc.2]; exact ht), hrd⟩
      · rename_i ht
        rw [hv.flatCells hc.1 (by rw [hc.2]; simpa using ht)] at hrd
        exact hrd
    · cases h
  · split at h
    · rename_i e; subst e
      obtain rfl := Option.some.inj h
      exact ⟨hv, fun k hk => by simp [AV.refs] at hk⟩
    · cases h
  · obtain rfl := Option.some.inj h
    unfold VR at hv ⊢
    refine ⟨⟨none, hv.1, ?_⟩, fun k hk => by simp [AV.refs] at hk⟩
    rw [hv.1]
    exact ⟨none, 0, rfl, Nat.le_refl _, Nat.zero_le _, .inl rfl⟩
  · obtain rfl := Option.some.inj h
    unfold VR at hv ⊢
    obtain ⟨A, rfl⟩ := hv
    exact ⟨⟨A, rfl, A, 0, rfl, Nat.le_refl _, Nat.zero_le _, .inl rfl⟩, fun k hk => by simp [AV.refs] at hk⟩
  · cases h
  · obtain rfl := Option.some.inj h; exact ⟨hv, fun _ h => h⟩
  · cases h

theorem retL_sound : ∀ {rs : List Rt} {xs ys : List AV} {us : List Value}, retL rs xs = some ys → VRs F β w xs us → VRs F β w ys us ∧ ∀ k ∈ refsL ys, k ∈ refsL xs
  | [], xs, ys, us, h, hv => by simp only [retL, Option.some.injEq] at h; subst h; exact ⟨hv, fun _ h => h⟩
  | _ :: _, [], ys, us, h, hv => by simp [retL] at h
  | r :: rs, x :: xs, ys, us, h, hv => by
    simp only [retL] at h
    split at h
    · rename_i y hy
      split at h
      · rename_i ys' hys
        obtain rfl := Option.some.inj h
        unfold VRs at hv
        obtain ⟨u, r', rfl, h1, h2⟩ := hv
        have g1 := ret1_sound hy h1
        have g2 := retL_sound hys h2
        refine ⟨VRs.cons g1.1 g2.1, fun k hk => ?_⟩
        rw [refsL, List.mem_append] at hk ⊢
        exact hk.imp (g1.2 k) (g2.2 k)
      · cases h
    · cases h

theorem retV_sound {rts : List Rt} {x y : AV} {u : Value} (h : retV rts x = some y) (hv : VR F β w x u) : VR F β w y u ∧ ∀ k ∈ y.refs, k ∈ x.refs := by
  unfold retV at h
  split at h
  · split at h
    · rename_i vs hvs
      obtain rfl := Option.some.inj h
      unfold VR at hv ⊢
      obtain ⟨us, e, h1⟩ := hv
      have := retL_sound hvs h1
      exact ⟨⟨us, e, this.1⟩, fun k hk => this.2 k hk⟩
    · cases h
  · split at h
    · obtain rfl := Option.some.inj h; exact ⟨hv, fun _ h => h⟩
    · exact ret1_sound h hv
    · cases h

theorem finishV_sound {hp : List Reg} {out : Out} (hI : SR ds F0 S0 w0 β0 hp.length s F β a w) (hS0 : ∀ b i, S0 b i → ∃ k, k < hp.length ∧ fp (β0 k) (rgOf hp k) b i) {rts : List Rt} {ks : List Nat} {v0 : AV} {u : Value} (hvr : VR F β w v0 u) (h : finishV rts ks hp s v0 = some out) :
    ∃ F' β', Step F0 β0 (fun k => k < hp.length) (rgOf hp) w0 out.v out.wr F' β' w u := by
  unfold finishV at h
  · dsimp only at h
    split at h
    · cases h
    rename_i v hretv
    split at h
    · rename_i hc
      obtain rfl := Option.some.inj h
      obtain ⟨F', hF1, hF2, hIz, hfz⟩ := freeze_all hI.inv (zOf hp.length ks)
      refine ⟨F', ?_⟩
      generalize hrz : rgz (zOf hp.length ks) (rgOf s.hp) = rz at *
      generalize hnews : (reach 64 (fun k => (rz k).viewD rz) (v.refs ++ (outRegs rz hp hp.length).flatMap fun k => ((rz k).viewD rz).refs) []).filter (fun k => decide (hp.length ≤ k)) = news at *
      simp only [Bool.and_eq_true, decide_eq_true_eq, List.all_eq_true] at hc
      obtain ⟨⟨⟨_, hdis⟩, hvf⟩, hrgf⟩ := hc
      have hge : ∀ k ∈ news, hp.length ≤ k := fun k hk => by
        rw [← hnews, List.mem_filter] at hk
        simpa using hk.2
      let σ := nws news hp.length
      let β2 : Nat → Base := fun k => if k < hp.length then β0 k else match news[k - hp.length]? with | some j => β j | none => default
      have σlt : ∀ k, k < hp.length → σ k = k := fun k hk => by simp [σ, nws, hk]
      have σnew : ∀ k ∈ news, σ k = hp.length + posOf k news := fun k hk => by
        have := hge k hk
        simp only [σ, nws]; rw [if_neg (by omega)]
      have βσ : ∀ k, (k < hp.length ∨ k ∈ news) → β2 (σ k) = β k := fun k hk => by
        rcases hk with hk | hk
        · simp only [β2]; rw [σlt k hk, if_pos hk]; exact (hI.fr.bt k hk).symm
        · simp only [β2]
          rw [σnew k hk, if_neg (by omega), show hp.length + posOf k news - hp.length = posOf k news by omega, posOf_get hk]
      have fineOf : ∀ k, (decide (k < hp.length) || news.contains k) = true → k < hp.length ∨ k ∈ news := fun k hk => by simpa using hk
      have ho : ∀ k ∈ outRegs rz hp hp.length, k < hp.length := fun k hk => (mem_outRegs.1 hk).1
      have hall : ∀ k ∈ outRegs rz hp hp.length ++ news, k < hp.length ∨ k ∈ news := fun k hk => by
        rcases List.mem_append.1 hk with h | h
        · exact .inl (ho k h)
        · exact .inr h
      have σinj : ∀ k k', (k < hp.length ∨ k ∈ news) → (k' < hp.length ∨ k' ∈ news) → σ k = σ k' → k = k' := fun k k' h1 h2 e => by
        rcases h1 with h1 | h1 <;> rcases h2 with h2 | h2
        · rw [σlt k h1, σlt k' h2] at e; exact e
        · rw [σlt k h1, σnew k' h2] at e; omega
        · rw [σnew k h1, σlt k' h2] at e; omega
        · rw [σnew k h1, σnew k' h2] at e
          have e' : posOf k news = posOf k' news := by omega
          have h3 := posOf_get h1
          rw [e', posOf_get h2] at h3
          exact (Option.some.inj h3).symm
      obtain ⟨hset1, hset2⟩ := setAll_map (rg := rgOf hp) (g := σ) (R := fun k => ((rz k).viewD rz).ren σ) (l := outRegs rz hp hp.length ++ news) fun k hk k' hk' e => σinj k k' (hall k hk) (hall k' hk') e
      have hkeys : ((outRegs rz hp hp.length ++ news).map fun k => (σ k, ((rz k).viewD rz).ren σ)).map (·.1) = (outRegs rz hp hp.length ++ news).map σ := by rw [List.map_map]; rfl
      have off : ∀ k, k ∉ (outRegs rz hp hp.length ++ news).map σ → rgOf hp k = .dead := fun k hk => by
        rcases Nat.lt_or_ge k hp.length with hlt | hge'
        · cases hl : (rgOf hp k).live with
          | false => cases hr : rgOf hp k <;> simp [hr, Reg.live] at hl ⊢
          | true =>
            refine absurd (List.mem_map.2 ⟨k, List.mem_append_left _ (mem_outRegs.2 ⟨hlt, hl⟩), σlt k hlt⟩) hk
        · simp [rgOf, List.getElem?_eq_none hge']
      have fin' : ∀ k, (k < hp.length ∨ k ∈ news) → σ k < hp.length ∨ σ k ∈ (outRegs rz hp hp.length ++ news).map σ := fun k hk => by
        rcases hk with hk | hk
        · exact .inl (by rw [σlt k hk]; exact hk)
        · exact .inr (List.mem_map_of_mem (List.mem_append_right _ hk))
      have regs : ∀ k, setAll (rgOf hp) ((outRegs rz hp hp.length ++ news).map fun k => (σ k, ((rz k).viewD rz).ren σ)) k = .dead ∨ ∃ j, (j ∈ outRegs rz hp hp.length ++ news ∧ σ j = k) ∧
          RegOk F' β2 w (β2 k) (setAll (rgOf hp) ((outRegs rz hp hp.length ++ news).map fun k => (σ k, ((rz k).viewD rz).ren σ)) k) ∧
          ∀ b i, fp (β2 k) (setAll (rgOf hp) ((outRegs rz hp hp.length ++ news).map fun k => (σ k, ((rz k).viewD rz).ren σ)) k) b i → fp (β j) (rz j) b i := fun k => by
        by_cases hk : k ∈ (outRegs rz hp hp.length ++ news).map σ
        · right
          obtain ⟨j, hj, rfl⟩ := List.mem_map.1 hk
          rw [hset1 j hj, βσ j (hall j hj)]
          refine ⟨j, ⟨hj, rfl⟩, ?_, fun b i hf => by rw [fp_ren, fp_viewD] at hf; exact hf⟩
          rw [RegOk.ren]
          exact ((hIz.ok j).viewD hIz).keep (fun _ h => h) (fun _ _ _ _ h => h) (fun i hi => βσ i (fineOf i (hrgf j hj i hi))) (Nat.le_refl _) fun _ _ _ => ⟨rfl, rfl, fun _ => rfl⟩
        · left; rw [hset2 k hk]; exact off k hk
      have fpx : ∀ k b i, fp (β2 k) (setAll (rgOf hp) ((outRegs rz hp hp.length ++ news).map fun k => (σ k, ((rz k).viewD rz).ren σ)) k) b i → S0 b i ∨ w0.heap.size ≤ b := fun k b i hf => by
        rcases regs k with e | ⟨j, _, _, g⟩
        · rw [e] at hf; exact hf.elim
        · exact hI.fr.own j b i (hfz j b i (g b i hf))
      refine ⟨β2, fun b hb => hF1 b (hI.fr.f0 b hb), fun b hb => ?_, fun k hk => ?_, ?_, ?_, ?_, fun k hk => ?_, fun k b i hf => ?_⟩
      · have s0 : ∀ i, S0 b i → ∃ k i, fp (β0 k) (rgOf hp k) b i := fun i hi => by
          obtain ⟨k, _, h⟩ := hS0 b i hi; exact ⟨k, i, h⟩
        rcases hF2 b hb with h | ⟨k, i, h⟩
        · rcases hI.fr.f1 b h with h | ⟨i, h⟩ | h
          · exact .inl h
          · exact .inr (.inl (s0 i h))
          · exact .inr (.inr h)
        · rcases hI.fr.own k b i h with h | h
          · exact .inr (.inl (s0 i h))
          · exact .inr (.inr h)
      · simp only [β2]; rw [if_pos hk]
      · have h1 := (retV_sound hretv (viewD_sound hIz (hvr.mono hF1 (fun _ _ _ _ h => h) fun _ _ => rfl))).1
        exact VR.ren.2 (h1.mono (fun _ h => h) (fun _ _ _ _ h => h) fun k hk => βσ k (fineOf k (hvf k hk)))
      · refine hIz.pull (src := fun k j => j ∈ outRegs rz hp hp.length ++ news ∧ σ j = k) regs (fun k k' j h1 h2 => h1.2.symm.trans h2.2) (fun k hk => ?_) fun k j hj => ?_
        · by_cases hm : k ∈ (outRegs rz hp hp.length ++ news).map σ
          · exact .inr (by rw [hkeys]; exact hm)
          · exact absurd (by rw [hset2 k hm]; exact off k hm) hk
        · by_cases hm : k ∈ (outRegs rz hp hp.length ++ news).map σ
          · obtain ⟨j0, hj0, rfl⟩ := List.mem_map.1 hm
            rw [hset1 j0 hj0, Reg.ren_refs] at hj
            obtain ⟨i, hi, rfl⟩ := hj
            exact (fin' i (fineOf i (hrgf j0 hj0 i hi))).imp id fun h => by rw [hkeys]; exact h
          · rw [hset2 k hm, off k hm] at hj; simp [Reg.refs] at hj
      · refine hI.fr.chg.mono fun b i hb h => ?_
        obtain ⟨k, hk, hf⟩ := hS0 b i h
        refine ⟨k, ?_, hf⟩
        rw [hkeys]
        refine List.mem_map.2 ⟨k, List.mem_append_left _ (mem_outRegs.2 ⟨hk, ?_⟩), σlt k hk⟩
        cases hr : rgOf hp k <;> first | rfl | (rw [hr] at hf; exact hf.elim)
      · rw [AV.ren_refs'] at hk
        obtain ⟨i, hi, rfl⟩ := hk
        exact (fin' i (fineOf i (hvf i hi))).imp id fun h => by rw [hkeys]; exact h
      · rcases fpx k b i hf with h | h
        · obtain ⟨k', _, h⟩ := hS0 b i h; exact .inl ⟨k', h⟩
        · exact .inr h
    · cases h

theorem prep_sound : ∀ {vs : List ResultVar} {rs : List Rt} {s : St} {β : Nat → Base}, SR ds F0 S0 w0 β0 m0 s F β a w → ∃ β', SR ds F0 S0 w0 β0 m0 (prep vs rs s) F β' a w
  | .tmp t :: vs, .own e :: rs, s, β, h => by
    obtain ⟨β', h'⟩ := h.own t e
    exact prep_sound (vs := vs) (rs := rs) h'
  | .tmp t :: vs, .asis :: rs, s, β, h => prep_sound (vs := vs) (rs := rs) h
  | .tmp t :: vs, .dat _ :: rs, s, β, h => prep_sound (vs := vs) (rs := rs) h
  | .tmp t :: vs, .full _ :: rs, s, β, h => prep_sound (vs := vs) (rs := rs) h
  | .cell _ _ :: vs, _ :: rs, s, β, h => prep_sound (vs := vs) (rs := rs) h
  | [], _, s, β, h => ⟨β, by cases ‹List Rt› <;> exact h⟩
  | .tmp _ :: _, [], s, β, h => ⟨β, h⟩
  | .cell _ _ :: _, [], s, β, h => ⟨β, h⟩

theorem finish_sound {fn : Func} {hp : List Reg} {out : Out} (hI : SR ds F0 S0 w0 β0 hp.length s F β a w) (hS0 : ∀ b i, S0 b i → ∃ k, k < hp.length ∧ fp (β0 k) (rgOf hp k) b i) {rts : List Rt} {keep : Bool} (h : finish P fn rts keep hp s = some out) :
    ∃ u F' β', (results fn a.tmps).run P w = .ok u w ∧ Step F0 β0 (fun k => k < hp.length) (rgOf hp) w0 out.v out.wr F' β' w u := by
  obtain ⟨β1, h'⟩ := prep_sound (vs := fn.results.toList) (rs := rts) hI
  unfold finish at h
  dsimp only at h
  split at h
  · cases h
  · rename_i v0 hv0
    obtain ⟨u, hrun, hvr, _⟩ := resV_sound h' hv0
    obtain ⟨F', β', h2⟩ := finishV_sound h' hS0 hvr h
    exact ⟨u, F', β', hrun, h2⟩
end
end Go.Abs
