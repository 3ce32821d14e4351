/-
Loads and stores.
-/
import Derived.Test.YtoopjhnbcbnleaaDoorA2
namespace Go.Abs
open Go.RowKit
set_option linter.unusedVariables false

/-- The cells us lie in memory from cell o of block b on. -/
def Lies (w : World) (b o : Nat) (us : List Value) : Prop := ∀ i v, us[i]? = some v → w.cell? ⟨b, o + i, none⟩ = some v

theorem Lies.app {w : World} {b o : Nat} {x y : List Value} (h : Lies w b o (x ++ y)) : Lies w b o x ∧ Lies w b (o + x.length) y :=
  ⟨fun i v hi => h i v (by rw [List.getElem?_append_left (List.getElem?_eq_some_iff.1 hi).1]; exact hi),
   fun i v hi => by have := h (x.length + i) v (by rw [List.getElem?_append_right (by omega)]; simpa using hi); rwa [← Nat.add_assoc] at this⟩

theorem info_of {P : Program} {t : TypeId} {d : TypeDesc} (h : P.underlying t = some d) : ∃ i, P.info? t = some i := by
  unfold Program.underlying at h
  cases hq : P.info? t with
  | none => simp [hq] at h
  | some i => exact ⟨i, rfl⟩

theorem run_isAgg {P : Program} {t : TypeId} {d : TypeDesc} (h : P.underlying t = some d) (w : World) : (isAgg t).run P w = .ok (aggT P t) w := by
  unfold isAgg aggT
  rw [Sem.run_bind, run_underlying h w, h]
  cases d <;> rfl

theorem isRow_of {P : Program} {t : TypeId} {d : TypeDesc} (h : P.underlying t = some d) (ha : aggT P t = true) : d.isRow = true := by
  unfold aggT at ha
  rw [h] at ha
  cases d <;> simp_all

theorem run_load_cell {P : Program} {w : World} {b o : Nat} {v : Value} (h : w.cell? ⟨b, o, none⟩ = some v) : (load ⟨b, o, none⟩).run P w = .ok v w := by
  simp [load, Sem.run, h]

/-- A variable is read. -/
theorem run_loadVar_lies {P : Program} {w : World} {b o : Nat} {t : TypeId} {us : List Value} {d : TypeDesc} (hu : P.underlying t = some d) (hl : Lies w b o us) :
    (aggT P t = true → us.length = P.cellsOf t → (loadVar t ⟨b, o, none⟩).run P w = .ok (.agg us.toArray) w) ∧
    (aggT P t = false → ∀ v, us = [v] → (loadVar t ⟨b, o, none⟩).run P w = .ok v w) := by
  obtain ⟨i, hi⟩ := info_of hu
  refine ⟨fun ha hn => ?_, fun ha v hv => ?_⟩
  · refine run_loadVar_mid w b o t us d (fun j v hv => hl j v hv) hu (isRow_of hu ha) ?_
    rw [hi]; simp [Program.cellsOf, hi] at hn; simp [hn]
  · subst hv
    unfold loadVar
    rw [Sem.run_bind, run_isAgg hu w, ha]
    simp only [Result.andThen_ok, Bool.false_eq_true, if_false]
    exact run_load_cell (by simpa using hl 0 v rfl)

theorem mkLoad_sound {F : Nat → Prop} {β : Nat → Base} {w : World} {agg : Bool} {m : List AV} {c : AV} {us : List Value} (h : mkLoad agg m = some c) (hc : CRs F β w m us) :
    (agg = true → VR F β w c (.agg us.toArray)) ∧ (agg = false → ∃ v, us = [v] ∧ VR F β w c v) := by
  have wrap : ∀ cs : List AV, CRs F β w cs us → VR F β w (.agg cs) (.agg us.toArray) := fun cs h => by unfold VR; exact ⟨us, rfl, h⟩
  have single : ∀ c : AV, c.isDat = false → c.w = 1 → CRs F β w [c] us → ∃ v, us = [v] ∧ VR F β w c v := by
    intro c hd hw h
    obtain ⟨u, r, rfl, _, hv, k⟩ := (CRs.oneCons hd).1 h
    unfold CRs at k; subst k
    exact ⟨u, rfl, hv⟩
  unfold mkLoad at h
  split at h
  · rename_i a x
    obtain ⟨p, q, rfl, hr, k⟩ := hc.datCons
    unfold CRs at k; subst k
    simp only [List.append_nil]
    split at h
    · rename_i ha; obtain rfl := Option.some.inj h
      refine ⟨fun _ => ?_, fun e => by rw [ha] at e; cases e⟩
      unfold VR; rw [if_pos (by rfl)]; exact ⟨p, rfl, hr⟩
    · rename_i ha
      split at h
      · rename_i hh; obtain rfl := Option.some.inj h
        refine ⟨fun e => absurd e ha, fun _ => ?_⟩
        have hl := RD.len (t := a) hr
        rw [hh.2] at hl
        match p, hl with
        | [v], _ => exact ⟨v, rfl, by unfold VR; rw [if_neg (by simp [hh.1])]; exact hr⟩
      · cases h
  · rename_i n a x
    split at h
    · rename_i ha; obtain rfl := Option.some.inj h
      obtain ⟨p, q, rfl, hr, k⟩ := hc.datCons
      unfold CRs at k; subst k
      simp only [List.append_nil]
      refine ⟨fun _ => ?_, fun e => by rw [ha] at e; cases e⟩
      unfold VR; rw [if_pos (by rfl)]; exact ⟨p, rfl, hr⟩
    · cases h
  · rename_i c h1 h2
    split at h
    · rename_i ha; obtain rfl := Option.some.inj h
      exact ⟨fun _ => wrap _ hc, fun e => by rw [ha] at e; cases e⟩
    · rename_i ha
      split at h
      · rename_i hw; obtain rfl := Option.some.inj h
        refine ⟨fun e => absurd e ha, fun _ => ?_⟩
        cases c with
        | dat t x =>
          obtain ⟨p, q, rfl, hr, k⟩ := hc.datCons
          unfold CRs at k; subst k
          simp only [List.append_nil]
          have hl := hr.len
          have hw' : t.nc = 1 := hw
          rw [hw'] at hl
          match p, hl with
          | [v], _ =>
            refine ⟨v, rfl, ?_⟩
            unfold VR
            rw [if_neg]
            · exact hr
            · intro e
              cases t with
              | st a => exact h1 _ _ rfl
              | arr n a => exact h2 _ _ _ rfl
              | _ => simp [Ty.isAgg] at e
        | agg l => simp [AV.w] at hw
        | _ => exact single _ rfl hw hc
      · cases h
  · split at h
    · rename_i ha; obtain rfl := Option.some.inj h
      exact ⟨fun _ => wrap _ hc, fun e => by rw [ha] at e; cases e⟩
    · cases h

theorem refs_explode {c : AV} {k : Nat} (h : k ∈ refsL c.explode) : k ∈ c.refs := by
  unfold AV.explode at h
  split at h
  · simp [refsL, AV.refs] at h
  · simp [refsL, AV.refs] at h
  · rw [mem_refsL] at h
    obtain ⟨a, ha, hk⟩ := h
    obtain ⟨i, _, rfl⟩ := List.mem_map.1 ha
    simp [AV.refs] at hk
  · simpa [refsL] using h

theorem refsL_append {as bs : List AV} {k : Nat} : k ∈ refsL (as ++ bs) ↔ k ∈ refsL as ∨ k ∈ refsL bs := by
  simp only [mem_refsL, List.mem_append]
  constructor
  · rintro ⟨a, h | h, hk⟩
    · exact .inl ⟨a, h, hk⟩
    · exact .inr ⟨a, h, hk⟩
  · rintro (⟨a, h, hk⟩ | ⟨a, h, hk⟩)
    · exact ⟨a, .inl h, hk⟩
    · exact ⟨a, .inr h, hk⟩

theorem split_refs : ∀ {n : Nat} {cs : List AV} {o : Nat} {p q : List AV}, split n cs o = some (p, q) → ∀ k, k ∈ refsL p ∨ k ∈ refsL q → k ∈ refsL cs
  | 0, cs, o, p, q, h => by simp [split] at h
  | n + 1, cs, 0, p, q, h => by
    simp [split] at h
    obtain ⟨rfl, rfl⟩ := h
    rintro k (hk | hk)
    · simp [refsL] at hk
    · exact hk
  | n + 1, [], o + 1, p, q, h => by simp [split] at h
  | n + 1, c :: cs, o + 1, p, q, h => by
    simp only [split] at h
    split at h
    · obtain ⟨⟨p', q'⟩, hs, e⟩ := Option.map_eq_some_iff.1 h
      simp only [Prod.mk.injEq] at e
      obtain ⟨rfl, rfl⟩ := e
      intro k hk
      simp only [refsL, List.mem_append] at hk ⊢
      rcases hk with (hk | hk) | hk
      · exact .inl hk
      · exact .inr (split_refs hs k (.inl hk))
      · exact .inr (split_refs hs k (.inr hk))
    · intro k hk
      have := split_refs h k hk
      rw [refsL_append] at this
      simp only [refsL, List.mem_append]
      exact this.imp refs_explode id

theorem mkLoad_refs {agg : Bool} {m : List AV} {c : AV} (h : mkLoad agg m = some c) : ∀ k ∈ c.refs, k ∈ refsL m := by
  unfold mkLoad at h
  split at h
  · split at h
    · obtain rfl := Option.some.inj h; intro k hk; simp [AV.refs] at hk
    · split at h
      · obtain rfl := Option.some.inj h; intro k hk; simp [AV.refs] at hk
      · cases h
  · split at h
    · obtain rfl := Option.some.inj h; intro k hk; simp [AV.refs] at hk
    · cases h
  · split at h
    · obtain rfl := Option.some.inj h; intro k hk; simpa [AV.refs] using hk
    · split at h
      · obtain rfl := Option.some.inj h; intro k hk; simpa [refsL] using hk
      · cases h
  · split at h
    · obtain rfl := Option.some.inj h; intro k hk; simpa [AV.refs] using hk
    · cases h

theorem tyIs_spec {P : Program} {t : TypeId} {u : Ty} (h : tyIs P t = some u) : u.nc = P.cellsOf t ∧ u.isAgg = aggT P t ∧ (u.isAgg = true ∨ u.nc = 1) ∧ ∃ d, P.underlying t = some d := by
  unfold tyIs at h
  split at h
  · split at h
    · rename_i hh; obtain rfl := Option.some.inj h
      exact ⟨hh.1, hh.2.1, hh.2.2.1, Option.isSome_iff_exists.1 hh.2.2.2⟩
    · cases h
  · cases h

/-- Data that lies in memory, read at the program's type for it. -/
theorem run_loadVar_data {P : Program} {F : Nat → Prop} {β : Nat → Base} {w : World} {t : TypeId} {u : Ty} {y : u.car} {q : List Value} {b o : Nat} (ht : tyIs P t = some u) (hq : RD F w u y q) (hl : Lies w b o q) :
    ∃ v, (loadVar t ⟨b, o, none⟩).run P w = .ok v w ∧ VR F β w (.dat u y) v := by
  obtain ⟨h1, h2, h3, d, hd⟩ := tyIs_spec ht
  have hv := run_loadVar_lies (P := P) hd hl
  have hlen := hq.len
  cases ha : aggT P t with
  | true => exact ⟨_, hv.1 ha (hlen.trans h1), by unfold VR; rw [if_pos (h2.trans ha)]; exact ⟨q, rfl, hq⟩⟩
  | false =>
    rw [ha] at h2
    rcases h3 with h3 | h3
    · rw [h2] at h3; cases h3
    · rw [h3] at hlen
      match q, hlen with
      | [v], _ => exact ⟨v, hv.2 ha v rfl, by unfold VR; rw [if_neg (by simp [h2])]; exact hq⟩

/-- What the evaluator sees of the regions. -/
def SubR (rgK rg : Nat → Reg) : Prop := ∀ k, rgK k ≠ .dead → rgK k = rg k

theorem SubR.at {rgK rg : Nat → Reg} (h : SubR rgK rg) {k : Nat} {r : Reg} (hk : rgK k = r) (hr : r ≠ .dead) : rg k = r := by rw [← h k (by rw [hk]; exact hr), hk]

theorem evLoad_sound {P : Program} {F : Nat → Prop} {β : Nat → Base} {al : Nat → Prop} {rg rgK : Nat → Reg} {w : World} {t : TypeId} {a c : AV} {v : Value}
    (hI : Inv F β al rg w) (hs : SubR rgK rg) (h : evLoad P t a rgK = some c) (hv : VR F β w a v) :
    ∃ u ad, v = .pointer (some ad) ∧ (loadVar t ad).run P w = .ok u w ∧ VR F β w c u ∧ ∀ k ∈ c.refs, al k := by
  unfold evLoad at h
  split at h
  · cases h
  · rename_i hn
    obtain ⟨d, hd⟩ : ∃ d, P.underlying t = some d := by
      cases hq : P.underlying t with
      | none => simp [hq] at hn
      | some d => exact ⟨d, rfl⟩
    split at h
    · rename_i k o
      unfold VR at hv
      split at h
      · rename_i cs hk
        have hrg := hs.at hk (by simp)
        split at h
        · rename_i p r h1
          split at h
          · rename_i m q h2
            have hok := hI.ok k
            rw [hrg] at hok
            obtain ⟨vs, hc, _, hm⟩ := hok
            obtain ⟨x, y, rfl, hx, _, hy⟩ := CRs.split h1 hc
            obtain ⟨x2, y2, rfl, hx2, hm2, _⟩ := CRs.split h2 hy
            have hl : Lies w (β k).b ((β k).o + o) x2 := by
              have h0 : Lies w (β k).b (β k).o (x ++ (x2 ++ y2)) := fun i v hi => (hm i v hi).1
              have := h0.app.2.app.1
              rwa [hx] at this
            have hrun := run_loadVar_lies (P := P) hd hl
            have hmk := mkLoad_sound h hm2
            have hrf : ∀ j ∈ c.refs, al j := fun j hj => hI.sc k j (by
              rw [hrg]
              exact split_refs h1 j (.inr (split_refs h2 j (.inl (mkLoad_refs h j hj)))))
            cases ha : aggT P t with
            | true => rw [ha] at hmk; exact ⟨_, _, hv, hrun.1 ha hx2, hmk.1 rfl, hrf⟩
            | false =>
              rw [ha] at hmk
              obtain ⟨u, rfl, hu⟩ := hmk.2 rfl
              exact ⟨_, _, hv, hrun.2 ha u rfl, hu, hrf⟩
          · cases h
        · cases h
      · cases h
    · rename_i t' xs i o
      split at h
      · rename_i u hu
        obtain ⟨y, hy, rfl⟩ := Option.map_eq_some_iff.1 h
        unfold VR at hv
        obtain ⟨b, c, rfl, hb, hi, hrow⟩ := hv
        rw [List.getD_eq_getElem?_getD, List.getElem?_eq_getElem hi] at hy
        obtain ⟨vs, hr, hvs⟩ := hrow i _ (List.getElem?_eq_getElem hi)
        obtain ⟨p, q, r, rfl, hp, hq⟩ := RD.sub hy hr
        have hl : Lies w b (c + i * t'.nc + o) q := by
          have h0 : Lies w b (c + i * t'.nc) (p ++ q ++ r) := hvs
          have := h0.app.1.app.2
          rwa [hp] at this
        obtain ⟨v, h1, h2⟩ := run_loadVar_data (β := β) hu hq hl
        exact ⟨v, _, rfl, h1, h2, fun k hk => by simp [AV.refs] at hk⟩
      · cases h
    · rename_i k i o
      unfold VR at hv
      obtain ⟨rfl, hi⟩ := hv
      have main : ∀ (t' : Ty) (xs : List t'.car) (u : Ty), tyIs P t = some u → Arr F w (β k) t' xs → (Ty.sub u t' (xs.getD i t'.dflt) o).map (.dat u) = some c →
          ∃ u ad, Value.pointer (some ⟨(β k).b, (β k).o + i * (β k).s + o, none⟩) = .pointer (some ad) ∧ (loadVar t ad).run P w = .ok u w ∧ VR F β w c u ∧ ∀ k ∈ c.refs, al k := by
        intro t' xs u hu hA h
        obtain ⟨y, hy, rfl⟩ := Option.map_eq_some_iff.1 h
        rw [hA.len] at hi
        rw [List.getD_eq_getElem?_getD, List.getElem?_eq_getElem hi] at hy
        have hno : 0 < (β k).cap := by have := hA.cap; omega
        · 
          obtain ⟨vs, hr, hvs⟩ := hA.row hno i _ (List.getElem?_eq_getElem hi)
          obtain ⟨p, q, r, rfl, hp, hq⟩ := RD.sub hy hr
          have hl : Lies w (β k).b ((β k).o + i * (β k).s + o) q := by
            have h0 : Lies w (β k).b ((β k).o + i * t'.nc) (p ++ q ++ r) := hvs
            have := h0.app.1.app.2
            rw [hp] at this
            rwa [hA.s]
          obtain ⟨v, h1, h2⟩ := run_loadVar_data (β := β) hu hq hl
          exact ⟨v, _, rfl, h1, h2, fun k hk => by simp [AV.refs] at hk⟩
      split at h
      · rename_i t' xs u hk hu
        have hok := hI.ok k; rw [hs.at hk (by simp)] at hok
        exact main t' xs u hu hok h
      · rename_i t' xs u hk hu
        have hok := hI.ok k; rw [hs.at hk (by simp)] at hok
        exact main t' xs u hu hok.1 h
      · cases h
    · cases h
end Go.Abs
