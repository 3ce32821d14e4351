/-
Stores, and what a step is.
-/
import Derived.Test.YtoopjhnbcbnleaaDoorA3
namespace Go.Abs
open Go.RowKit
set_option linter.unusedVariables false
set_option linter.unusedSimpArgs false
set_option linter.unnecessarySimpa false

theorem setCells_heap (b : Nat) : ∀ (vs : List Value) (o : Nat) (w : World), (w.setCells b o vs).os = w.os ∧ (w.setCells b o vs).tape = w.tape ∧ (w.setCells b o vs).output = w.output ∧
    (w.setCells b o vs).heap.size = w.heap.size ∧ ∀ k, k ≠ b → (w.setCells b o vs).heap[k]? = w.heap[k]?
  | [], o, w => ⟨rfl, rfl, rfl, rfl, fun _ _ => rfl⟩
  | v :: r, o, w => by
    obtain ⟨h1, h2, h3, h4, h5⟩ := setCells_heap b r (o + 1) (w.setCell ⟨b, o, none⟩ v)
    rw [World.setCells]
    exact ⟨h1, h2, h3, by rw [h4]; simp [World.setCell], fun k hk => by rw [h5 k hk]; exact Below.heap_setCell _ _ _ _ hk⟩

theorem setCells_there (b : Nat) : ∀ (vs : List Value) (o : Nat) (w : World) (x : Addr), (w.cell? x).isSome = true → ((w.setCells b o vs).cell? x).isSome = true
  | [], o, w, x, h => h
  | v :: r, o, w, x, h => by
    rw [World.setCells]
    refine setCells_there b r (o + 1) _ x ?_
    by_cases e : (⟨b, o, none⟩ : Addr) = x
    · subst e
      rw [World.cell?_setCell_same' _ _ _ h]; rfl
    · rw [World.cell?_setCell_other _ _ _ _ e]; exact h

theorem chg_setCells (w : World) (b o : Nat) (vs : List Value) : Chg (fun b' i => b' = b ∧ o ≤ i ∧ i < o + vs.length) w (w.setCells b o vs) := by
  obtain ⟨h1, h2, h3, h4, h5⟩ := setCells_heap b vs o w
  refine ⟨h1, h2, h3, by rw [h4]; exact Nat.le_refl _, fun k hk hn => ?_, fun k i hk hn => ?_, fun k i _ h => setCells_there b vs o w _ h, fun k i _ => World.frozen?_setCells b vs o w _⟩
  · by_cases e : k = b
    · subst e
      have : vs = [] := by
        cases vs with
        | nil => rfl
        | cons v r => exact absurd ⟨rfl, Nat.le_refl _, by simp⟩ (hn o)
      subst this; rfl
    · exact h5 k e
  · refine World.cell?_setCells_out b vs o w _ (fun e1 _ => ?_)
    have e1' : k = b := e1
    have : ¬ (o ≤ i ∧ i < o + vs.length) := fun h => hn ⟨e1', h⟩
    show i < o ∨ o + vs.length ≤ i
    omega

theorem run_storeVar_lies {P : Program} {w : World} {b o : Nat} {t : TypeId} {v : Value} {i : TypeInfo} (hi : P.info? t = some i) (hn : v.cells.size = P.cellsOf t)
    (hc : ∀ j, j < v.cells.size → (w.cell? ⟨b, o + j, none⟩).isSome = true ∧ w.frozen? ⟨b, o + j, none⟩ = false) (h1 : ∀ u ∈ v.cells.toList, u.oneCell' = true) :
    (storeVar t ⟨b, o, none⟩ v).run P w = .ok () (w.setCells b o v.cells.toList) := by
  have hst := run_storeCells_cells (P := P) b o v.cells.toList 0 w (fun j hj => by simpa using (hc j (by simpa using hj)).1) (fun j hj => by simpa using (hc j (by simpa using hj)).2) h1
  have : i.size = v.cells.size := by simp [Program.cellsOf, hi] at hn; omega
  simp at hst
  simp [storeVar, sizeOf, typeInfo, hi, this, hst]

theorem setAll_one (rg : Nat → Reg) (k : Nat) (r : Reg) : setAll rg [(k, r)] = upd rg k r := rfl
theorem setAll_two (rg : Nat → Reg) (k j : Nat) (r s : Reg) : setAll rg [(k, r), (j, s)] = upd (upd rg k r) j s := rfl

/-- What an operation, or a call, has come to: the value v, the regions turned. -/
structure Step (F : Nat → Prop) (β : Nat → Base) (al : Nat → Prop) (rg : Nat → Reg) (w : World) (v : AV) (wr : List (Nat × Reg)) (F' : Nat → Prop) (β' : Nat → Base) (w' : World) (u : Value) : Prop where
  f : ∀ b, F b → F' b
  nf : ∀ b, F' b → F b ∨ (∃ k i, fp (β k) (rg k) b i) ∨ w.heap.size ≤ b
  bt : ∀ k, al k → β' k = β k
  val : VR F' β' w' v u
  inv : Inv F' β' (fun k => al k ∨ k ∈ wr.map (·.1)) (setAll rg wr) w'
  chg : Chg (fun b i => ∃ k, k ∈ wr.map (·.1) ∧ fp (β k) (rg k) b i) w w'
  rf : ∀ k ∈ v.refs, al k ∨ k ∈ wr.map (·.1)
  own : ∀ k b i, fp (β' k) (setAll rg wr k) b i → (∃ j, fp (β j) (rg j) b i) ∨ w.heap.size ≤ b

theorem Inv.al_ext {F : Nat → Prop} {β : Nat → Base} {al al' : Nat → Prop} {rg : Nat → Reg} {w : World} (h : Inv F β al rg w) (ha : ∀ k, al k → al' k) : Inv F β al' rg w :=
  ⟨h.ok, h.dj, h.nf, h.ff, fun k hk => ha k (h.tk k hk), fun k j hj => ha j (h.sc k j hj)⟩

/-- Nothing has turned but the tape's place. -/
theorem Step.quiet {F : Nat → Prop} {β : Nat → Base} {al : Nat → Prop} {rg : Nat → Reg} {w w' : World} {v : AV} {u : Value} (hI : Inv F β al rg w) (hc : Chg (fun _ _ => False) w w') (hv : VR F β w' v u) (hr : ∀ k ∈ v.refs, al k) :
    Step F β al rg w v [] F β w' u where
  f := fun _ h => h
  nf := fun _ h => .inl h
  bt := fun _ _ => rfl
  val := hv
  inv := (hI.keep hc).al_ext fun _ h => .inl h
  chg := hc.mono fun _ _ _ h => h.elim
  rf := fun k hk => .inl (hr k hk)
  own := fun k b i h => .inl ⟨k, h⟩

theorem comps_refs {v : AV} {k : Nat} (h : k ∈ refsL v.comps) : k ∈ v.refs := by
  cases v <;> simpa [AV.comps, refsL, AV.refs] using h

theorem VR.cells_len {F : Nat → Prop} {β : Nat → Base} {w : World} {a : AV} {v : Value} (h : VR F β w a v) (hs : a.solid = true) : v.cells.size = wAll a.comps := by
  have := (h.comps hs).len
  simpa using this

theorem getD_set_ne' {α : Type} (l : List α) (i j : Nat) (x d : α) (h : i ≠ j) : (l.set i x).getD j d = l.getD j d := by
  simp [List.getElem?_set_ne h]

theorem evStore_sound {P : Program} {F : Nat → Prop} {β : Nat → Base} {al : Nat → Prop} {rg rgK : Nat → Reg} {w : World} {t : TypeId} {a x : AV} {v u : Value} {out : Out}
    (hI : Inv F β al rg w) (hs : SubR rgK rg) (h : evStore P t a x rgK = some out) (hv : VR F β w a v) (hu : VR F β w x u) (hx : ∀ k ∈ x.refs, al k) :
    ∃ ad w', v = .pointer (some ad) ∧ (storeVar t ad u).run P w = .ok () w' ∧ Step F β al rg w out.v out.wr F β w' undef := by
  unfold evStore at h
  split at h
  · cases h
  · rename_i hh
    obtain ⟨i, hi⟩ : ∃ i, P.info? t = some i := by
      cases hq : P.info? t with
      | none => simp [hq] at hh
      | some d => exact ⟨d, rfl⟩
    have hsol : x.solid = true := by cases hq : x.solid <;> simp_all
    split at h
    · rename_i k o
      unfold VR at hv
      split at h
      · rename_i cs hk
        have hrg := hs.at hk (by simp)
        split at h
        · rename_i p r h1
          split at h
          · rename_i m q h2
            split at h
            · rename_i hsz
              obtain rfl := Option.some.inj h
              have hok := hI.ok k
              rw [hrg] at hok
              obtain ⟨vs, hc, hbl, hm⟩ := hok
              have hcl := hc.len
              obtain ⟨y, z, rfl, hy, hcp, hz⟩ := CRs.split h1 hc
              obtain ⟨y2, z2, rfl, hy2, _, hcq⟩ := CRs.split h2 hz
              have hcu := hu.comps hsol
              have hlu : u.cells.toList.length = P.cellsOf t := by rw [hcu.len, hsz]
              have hin : ∀ j, j < u.cells.size → (w.cell? ⟨(β k).b, (β k).o + o + j, none⟩).isSome = true ∧ w.frozen? ⟨(β k).b, (β k).o + o + j, none⟩ = false := by
                intro j hj
                have hj' : j < y2.length := by rw [hy2, ← hlu]; simpa using hj
                have := hm (o + j) y2[j] (by
                  rw [List.getElem?_append_right (by omega), List.getElem?_append_left (by omega), ← hy]
                  simp [hj'])
                rw [← Nat.add_assoc] at this
                exact ⟨by rw [this.1]; rfl, this.2⟩
              have hrun := run_storeVar_lies (P := P) (b := (β k).b) (o := (β k).o + o) hi (by rw [← hlu]; simp) hin hcu.one
              have hchg := chg_setCells w (β k).b ((β k).o + o) u.cells.toList
              have hfpk : ∀ b i, (b = (β k).b ∧ (β k).o + o ≤ i ∧ i < (β k).o + o + u.cells.toList.length) → fp (β k) (rg k) b i := by
                rintro b i ⟨rfl, h1, h2⟩
                rw [hrg]
                refine ⟨rfl, by omega, ?_⟩
                rw [← hcl]; simp only [List.length_append]; omega
              have hchg2 : Chg (fp (β k) (rg k)) w _ := hchg.mono fun b i _ h => hfpk b i h
              have hsame : Same F w (w.setCells (β k).b ((β k).o + o) u.cells.toList) := hI.same hchg2 fun b i h => ⟨k, h⟩
              have hal : al k := hI.tk k (by rw [hrg]; simp)
              have hfpn : ∀ b j, fp (β k) (.cells (p ++ x.comps ++ q)) b j → fp (β k) (rg k) b j := by
                rintro b j ⟨rfl, h3, h4⟩
                rw [hrg]
                refine ⟨rfl, h3, ?_⟩
                have e1 : wAll (p ++ x.comps ++ q) = wAll cs := by
                  have a1 := (CRs.append.2 ⟨y ++ u.cells.toList, z2, rfl, CRs.append.2 ⟨y, u.cells.toList, rfl, hcp, hcu⟩, hcq⟩).len
                  rw [← a1, ← hcl]; simp only [List.length_append]; omega
                omega
              refine ⟨_, _, hv, hrun, ⟨fun _ h => h, fun _ h => .inl h, fun _ _ => rfl, by unfold VR; trivial, ?_, hchg2.mono fun b i _ h => ⟨k, by simp, h⟩, fun j hj => by simp [AV.refs] at hj, ?own⟩⟩
              case own =>
                intro j b i hf
                rw [setAll_one] at hf
                by_cases e : j = k
                · subst e; rw [upd_same] at hf; exact .inl ⟨j, hfpn b i hf⟩
                · rw [upd_ne _ _ _ e] at hf; exact .inl ⟨j, hf⟩
              have : setAll rg [(k, .cells (p ++ x.comps ++ q))] = upd rg k (.cells (p ++ x.comps ++ q)) := rfl
              rw [this]
              refine (hI.turn (r := .cells (p ++ x.comps ++ q)) hchg2 ?_ ?_ ?_ hal).al_ext fun _ h => .inl h
              · refine ⟨y ++ u.cells.toList ++ z2, CRs.append.2 ⟨y ++ u.cells.toList, z2, rfl, CRs.append.2 ⟨y, u.cells.toList, rfl, hcp.mono (fun _ h => h) hsame (fun _ _ => rfl), hcu.mono (fun _ h => h) hsame (fun _ _ => rfl)⟩, hcq.mono (fun _ h => h) hsame (fun _ _ => rfl)⟩, Nat.lt_of_lt_of_le hbl hchg.size, ?_⟩
                intro j v' hj
                refine ⟨?_, ?_⟩
                · by_cases hjo : j < o
                  · rw [List.append_assoc, List.getElem?_append_left (by omega)] at hj
                    rw [World.cell?_setCells_out _ _ _ _ _ (fun _ _ => .inl (by show (β k).o + j < _; omega))]
                    exact (hm j v' (by rw [List.getElem?_append_left (by omega)]; exact hj)).1
                  · by_cases hj2 : j < o + u.cells.toList.length
                    · rw [List.append_assoc, List.getElem?_append_right (by omega), List.getElem?_append_left (by omega)] at hj
                      have hlt : j - y.length < u.cells.toList.length := by omega
                      have := World.cell?_setCells_in (β k).b u.cells.toList ((β k).o + o) w (fun j hj => (hin j (by simpa using hj)).1) (j - y.length) hlt
                      rw [show (β k).o + o + (j - y.length) = (β k).o + j by omega] at this
                      rw [this]
                      rw [List.getElem?_eq_getElem hlt] at hj; exact hj
                    · rw [List.getElem?_append_right (by simp only [List.length_append]; omega)] at hj
                      rw [World.cell?_setCells_out _ _ _ _ _ (fun _ _ => .inr (by show _ ≤ (β k).o + j; omega))]
                      refine (hm j v' ?_).1
                      rw [List.getElem?_append_right (by omega), List.getElem?_append_right (by omega)]
                      rw [← hj]; congr 1; simp only [List.length_append]; omega
                · rw [World.frozen?_setCells]
                  have hlen : j < (y ++ (y2 ++ z2)).length := by
                    have := (List.getElem?_eq_some_iff.1 hj).1
                    simp only [List.length_append] at this ⊢; omega
                  exact (hm j _ (List.getElem?_eq_getElem hlen)).2
              · exact hfpn
              · intro j hj
                simp only [Reg.refs, refsL_append] at hj
                rcases hj with (hj | hj) | hj
                · exact hI.sc k j (by rw [hrg]; exact split_refs h1 j (.inl hj))
                · exact hx j (comps_refs hj)
                · exact hI.sc k j (by rw [hrg]; exact split_refs h1 j (.inr (split_refs h2 j (.inr hj))))
            · cases h
          · cases h
        · cases h
      · cases h
    · rename_i k i' o
      split at h
      · rename_i t' xs ut hk hut
        split at h
        · rename_i y hy
          obtain ⟨z, hz, rfl⟩ := Option.map_eq_some_iff.1 h
          unfold VR at hv
          obtain ⟨rfl, hil⟩ := hv
          have hrg := hs.at hk (by simp)
          have hok := hI.ok k
          rw [hrg] at hok
          obtain ⟨hA, hbor⟩ := hok
          rw [hA.len] at hil
          obtain ⟨hnc, _, _, _⟩ := tyIs_spec hut
          have hyr := AV.get_sound hy hsol hu
          have hno : 0 < (β k).cap := by have := hA.cap; omega
          · 
            rw [List.getD_eq_getElem?_getD, List.getElem?_eq_getElem hil] at hz
            obtain ⟨vs, hr, hvs⟩ := hA.row hno i' _ (List.getElem?_eq_getElem hil)
            obtain ⟨p, q, r, rfl, hp, hq, hzr⟩ := RD.setSub hyr hz hr
            have hrl := hr.len
            simp only [List.length_append] at hrl
            have hb1 : (i' + 1) * t'.nc ≤ (β k).cap * t'.nc := Nat.mul_le_mul_right _ (by have := hA.cap; omega)
            rw [Nat.add_mul, Nat.one_mul] at hb1
            have hlu : u.cells.toList.length = ut.nc := hyr.len
            have hin : ∀ j, j < u.cells.size → (w.cell? ⟨(β k).b, (β k).o + i' * (β k).s + o + j, none⟩).isSome = true ∧ w.frozen? ⟨(β k).b, (β k).o + i' * (β k).s + o + j, none⟩ = false := by
              intro j hj
              have hj' : j < ut.nc := by rw [← hlu]; simpa using hj
              have := hA.own hno hbor (i' * t'.nc + o + j) (by omega)
              rw [hA.s]
              rwa [show (β k).o + (i' * t'.nc + o + j) = (β k).o + i' * t'.nc + o + j by omega] at this
            have hrun := run_storeVar_lies (P := P) (b := (β k).b) (o := (β k).o + i' * (β k).s + o) hi (by rw [← hnc, ← hlu]; simp) hin hyr.one
            have hchg := chg_setCells w (β k).b ((β k).o + i' * (β k).s + o) u.cells.toList
            have hchg2 : Chg (fp (β k) (rg k)) w _ := hchg.mono fun b i _ h => by
              rw [hrg]; obtain ⟨rfl, h1, h2⟩ := h
              rw [hA.s] at h1 h2
              exact ⟨hbor, rfl, by omega, by omega⟩
            have hsame : Same F w (w.setCells (β k).b ((β k).o + i' * (β k).s + o) u.cells.toList) := hI.same hchg2 fun b i h => ⟨k, h⟩
            have hal : al k := hI.tk k (by rw [hrg]; simp)
            refine ⟨_, _, rfl, hrun, ⟨fun _ h => h, fun _ h => .inl h, fun _ _ => rfl, by unfold VR; trivial, ?_, hchg2.mono fun b i _ h => ⟨k, by simp, h⟩, fun j hj => by simp [AV.refs] at hj, ?own⟩⟩
            case own =>
              intro j b i hf
              rw [setAll_one] at hf
              by_cases e : j = k
              · subst e; rw [upd_same] at hf; exact .inl ⟨j, by rw [hrg]; exact hf⟩
              · rw [upd_ne _ _ _ e] at hf; exact .inl ⟨j, hf⟩
            have : setAll rg [(k, .own t' (xs.set i' z))] = upd rg k (.own t' (xs.set i' z)) := rfl
            rw [this]
            refine (hI.turn (r := .own t' (xs.set i' z)) hchg2 ⟨⟨hA.s, by rw [hA.len]; simp, by simpa using hA.cap, by simpa using hA.max, hA.adr, fun _ => ?_, fun _ => Nat.lt_of_lt_of_le (hA.lt hno) hchg.size, fun _ e => (by rw [hbor] at e; cases e), fun _ _ j hj => ?_⟩, hbor⟩ ?_ ?_ hal).al_ext fun _ h => .inl h
            · intro j x' hj
              by_cases e : i' = j
              · subst e
                rw [List.getElem?_set_self hil] at hj
                obtain rfl := Option.some.inj hj
                refine ⟨p ++ u.cells.toList ++ r, hzr.mono (fun _ h => h) hsame, fun m v' hm => ?_⟩
                rw [hA.s]
                by_cases hmo : m < o
                · rw [List.append_assoc, List.getElem?_append_left (by omega)] at hm
                  rw [World.cell?_setCells_out _ _ _ _ _ (fun _ _ => .inl (by show (β k).o + i' * t'.nc + m < _; omega))]
                  exact hvs m v' (by rw [List.append_assoc, List.getElem?_append_left (by omega)]; exact hm)
                · by_cases hm2 : m < o + u.cells.toList.length
                  · rw [List.append_assoc, List.getElem?_append_right (by omega), List.getElem?_append_left (by omega)] at hm
                    have hlt : m - p.length < u.cells.toList.length := by omega
                    have := World.cell?_setCells_in (β k).b u.cells.toList ((β k).o + i' * t'.nc + o) w (fun j hj => by have := (hin j (by simpa using hj)).1; rwa [hA.s] at this) (m - p.length) hlt
                    rw [show (β k).o + i' * t'.nc + o + (m - p.length) = (β k).o + i' * t'.nc + m by omega] at this
                    rw [this]
                    rw [List.getElem?_eq_getElem hlt] at hm; exact hm
                  · rw [List.getElem?_append_right (by simp only [List.length_append]; omega)] at hm
                    rw [World.cell?_setCells_out _ _ _ _ _ (fun _ _ => .inr (by show _ ≤ (β k).o + i' * t'.nc + m; omega))]
                    refine hvs m v' ?_
                    rw [List.getElem?_append_right (by simp only [List.length_append]; omega)]
                    rw [← hm]; congr 1; simp only [List.length_append]; omega
              · rw [List.getElem?_set_ne e] at hj
                obtain ⟨vs', hr', hvs'⟩ := hA.row hno j _ hj
                refine ⟨vs', hr'.mono (fun _ h => h) hsame, fun m v' hm => ?_⟩
                have hml : m < t'.nc := by rw [← hr'.len]; exact (List.getElem?_eq_some_iff.1 hm).1
                rw [World.cell?_setCells_out _ _ _ _ _ (fun _ _ => ?_)]
                · exact hvs' m v' hm
                · show (β k).o + j * t'.nc + m < _ ∨ _ ≤ (β k).o + j * t'.nc + m
                  rw [hA.s]
                  rcases Nat.lt_or_gt_of_ne e with hlt | hlt
                  · right
                    have : (i' + 1) * t'.nc ≤ j * t'.nc := Nat.mul_le_mul_right _ hlt
                    rw [Nat.add_mul, Nat.one_mul] at this
                    omega
                  · left
                    have : (j + 1) * t'.nc ≤ i' * t'.nc := Nat.mul_le_mul_right _ hlt
                    rw [Nat.add_mul, Nat.one_mul] at this
                    omega
            · have := hA.own hno hbor j hj
              exact ⟨setCells_there _ _ _ _ _ this.1, by rw [World.frozen?_setCells]; exact this.2⟩
            · rintro b j h3
              rw [hrg]; exact h3
            · intro j hj; simp [Reg.refs] at hj
        · cases h
      · cases h
    · cases h
end Go.Abs
