/-
Parts of data, values put together, loads and stores: what the abstract machine does is what the machine does.
-/
import Derived.Test.YtoopjhnbcbnleaaDoorA1
namespace Go.Abs
open Go.RowKit
set_option linter.unusedVariables false

theorem flatten_len {α : Type} {n : Nat} : ∀ {css : List (List α)}, (∀ c ∈ css, c.length = n) → css.flatten.length = css.length * n
  | [], _ => by simp
  | c :: css, h => by
    rw [List.flatten_cons, List.length_append, h c (by simp), flatten_len (css := css) fun c hc => h c (by simp [hc]), List.length_cons, Nat.add_mul, Nat.one_mul, Nat.add_comm]

theorem RD.sub {F : Nat → Prop} {w : World} {u : Ty} : ∀ {t : Ty} {x : t.car} {o : Nat} {y : u.car} {cs : List Value}, Ty.sub u t x o = some y → RD F w t x cs →
    ∃ p q r, cs = p ++ q ++ r ∧ p.length = o ∧ RD F w u y q
  | .int k, x, o, y, cs, h, hr => by
    unfold Ty.sub at h
    split at h
    · rename_i e; subst e; split at h
      · rename_i ho; obtain rfl := Option.some.inj h; exact ⟨[], cs, [], by simp, by simp [ho], hr⟩
      · cases h
    · cases h
  | .bool, x, o, y, cs, h, hr => by
    unfold Ty.sub at h
    split at h
    · rename_i e; subst e; split at h
      · rename_i ho; obtain rfl := Option.some.inj h; exact ⟨[], cs, [], by simp, by simp [ho], hr⟩
      · cases h
    · cases h
  | .str, x, o, y, cs, h, hr => by
    unfold Ty.sub at h
    split at h
    · rename_i e; subst e; split at h
      · rename_i ho; obtain rfl := Option.some.inj h; exact ⟨[], cs, [], by simp, by simp [ho], hr⟩
      · cases h
    · cases h
  | .unit, x, o, y, cs, h, hr => by
    unfold Ty.sub at h
    split at h
    · rename_i e; subst e; split at h
      · rename_i ho; obtain rfl := Option.some.inj h; exact ⟨[], cs, [], by simp, by simp [ho], hr⟩
      · cases h
    · cases h
  | .list a, x, o, y, cs, h, hr => by
    unfold Ty.sub at h
    split at h
    · rename_i e; subst e; split at h
      · rename_i ho; obtain rfl := Option.some.inj h; exact ⟨[], cs, [], by simp, by simp [ho], hr⟩
      · cases h
    · cases h
  | .st a, x, o, y, cs, h, hr => by
    unfold Ty.sub at h
    split at h
    · rename_i e; subst e; split at h
      · rename_i ho; obtain rfl := Option.some.inj h; exact ⟨[], cs, [], by simp, by simp [ho], hr⟩
      · cases h
    · exact RD.sub (t := a) h hr
  | .pair a b, x, o, y, cs, h, hr => by
    unfold Ty.sub at h
    split at h
    · rename_i e; subst e; split at h
      · rename_i ho; obtain rfl := Option.some.inj h; exact ⟨[], cs, [], by simp, by simp [ho], hr⟩
      · cases h
    · obtain ⟨c, d, rfl, h1, h2⟩ := hr
      split at h
      · obtain ⟨p, q, r, rfl, hl, hq⟩ := RD.sub h h1
        exact ⟨p, q, r ++ d, by simp, hl, hq⟩
      · rename_i ho
        obtain ⟨p, q, r, rfl, hl, hq⟩ := RD.sub h h2
        exact ⟨c ++ p, q, r, by simp, by rw [List.length_append, hl, h1.len]; omega, hq⟩
  | .arr n a, x, o, y, cs, h, hr => by
    unfold Ty.sub at h
    split at h
    · rename_i e; subst e; split at h
      · rename_i ho; obtain rfl := Option.some.inj h; exact ⟨[], cs, [], by simp, by simp [ho], hr⟩
      · cases h
    · split at h
      · cases h
      · rename_i hz
        split at h
        · rename_i hn
          obtain ⟨hl, css, rfl, hcn, hc⟩ := hr
          have hx : o / a.nc < (x : List a.car).length := by omega
          have hx' : o / a.nc < css.length := by omega
          rw [List.getD_eq_getElem?_getD, List.getElem?_eq_getElem hx] at h
          have hi := hc (o / a.nc) _ _ (List.getElem?_eq_getElem hx) (List.getElem?_eq_getElem hx')
          obtain ⟨p, q, r, e, hp, hq⟩ := RD.sub h hi
          have hall : ∀ c ∈ css, c.length = a.nc := by
            intro c hm
            obtain ⟨i, hi, rfl⟩ := List.getElem_of_mem hm
            exact (hc i _ _ (List.getElem?_eq_getElem (by omega)) (List.getElem?_eq_getElem hi)).len
          refine ⟨(css.take (o / a.nc)).flatten ++ p, q, r ++ (css.drop (o / a.nc + 1)).flatten, ?_, ?_, hq⟩
          · conv => lhs; rw [← List.take_append_drop (o / a.nc) css, List.drop_eq_getElem_cons hx']
            rw [List.flatten_append, List.flatten_cons, e]; simp
          · rw [List.length_append, hp, flatten_len (n := a.nc) fun c hc => hall c (List.mem_of_mem_take hc), List.length_take, Nat.min_eq_left (by omega)]
            rw [Nat.mul_comm]; exact Nat.div_add_mod o a.nc
        · cases h

theorem RD.setSub {F : Nat → Prop} {w : World} {u : Ty} {y : u.car} {ds : List Value} (hy : RD F w u y ds) : ∀ {t : Ty} {x : t.car} {o : Nat} {z : t.car} {cs : List Value}, Ty.setSub u y t x o = some z → RD F w t x cs →
    ∃ p q r, cs = p ++ q ++ r ∧ p.length = o ∧ q.length = u.nc ∧ RD F w t z (p ++ ds ++ r)
  | .int k, x, o, z, cs, h, hr => by
    unfold Ty.setSub at h
    split at h
    · rename_i e; subst e; split at h
      · rename_i ho; obtain rfl := Option.some.inj h; exact ⟨[], cs, [], by simp, by simp [ho], hr.len, by simpa using hy⟩
      · cases h
    · cases h
  | .bool, x, o, z, cs, h, hr => by
    unfold Ty.setSub at h
    split at h
    · rename_i e; subst e; split at h
      · rename_i ho; obtain rfl := Option.some.inj h; exact ⟨[], cs, [], by simp, by simp [ho], hr.len, by simpa using hy⟩
      · cases h
    · cases h
  | .str, x, o, z, cs, h, hr => by
    unfold Ty.setSub at h
    split at h
    · rename_i e; subst e; split at h
      · rename_i ho; obtain rfl := Option.some.inj h; exact ⟨[], cs, [], by simp, by simp [ho], hr.len, by simpa using hy⟩
      · cases h
    · cases h
  | .unit, x, o, z, cs, h, hr => by
    unfold Ty.setSub at h
    split at h
    · rename_i e; subst e; split at h
      · rename_i ho; obtain rfl := Option.some.inj h; exact ⟨[], cs, [], by simp, by simp [ho], hr.len, by simpa using hy⟩
      · cases h
    · cases h
  | .list a, x, o, z, cs, h, hr => by
    unfold Ty.setSub at h
    split at h
    · rename_i e; subst e; split at h
      · rename_i ho; obtain rfl := Option.some.inj h; exact ⟨[], cs, [], by simp, by simp [ho], hr.len, by simpa using hy⟩
      · cases h
    · cases h
  | .st a, x, o, z, cs, h, hr => by
    unfold Ty.setSub at h
    split at h
    · rename_i e; subst e; split at h
      · rename_i ho; obtain rfl := Option.some.inj h; exact ⟨[], cs, [], by simp, by simp [ho], hr.len, by simpa using hy⟩
      · cases h
    · exact RD.setSub (t := a) hy h hr
  | .pair a b, x, o, z, cs, h, hr => by
    unfold Ty.setSub at h
    split at h
    · rename_i e; subst e; split at h
      · rename_i ho; obtain rfl := Option.some.inj h; exact ⟨[], cs, [], by simp, by simp [ho], hr.len, by simpa using hy⟩
      · cases h
    · obtain ⟨c, d, rfl, h1, h2⟩ := hr
      split at h
      · obtain ⟨z', hz, rfl⟩ := Option.map_eq_some_iff.1 h
        obtain ⟨p, q, r, rfl, hl, hq, hz'⟩ := RD.setSub hy hz h1
        exact ⟨p, q, r ++ d, by simp, hl, hq, p ++ ds ++ r, d, by simp, hz', h2⟩
      · rename_i ho
        obtain ⟨z', hz, rfl⟩ := Option.map_eq_some_iff.1 h
        obtain ⟨p, q, r, rfl, hl, hq, hz'⟩ := RD.setSub hy hz h2
        exact ⟨c ++ p, q, r, by simp, by rw [List.length_append, hl, h1.len]; omega, hq, c, p ++ ds ++ r, by simp, h1, hz'⟩
  | .arr n a, x, o, z, cs, h, hr => by
    unfold Ty.setSub at h
    split at h
    · rename_i e; subst e; split at h
      · rename_i ho; obtain rfl := Option.some.inj h; exact ⟨[], cs, [], by simp, by simp [ho], hr.len, by simpa using hy⟩
      · cases h
    · split at h
      · cases h
      · rename_i hz
        split at h
        · rename_i hn
          obtain ⟨z', hz', rfl⟩ := Option.map_eq_some_iff.1 h
          obtain ⟨hl, css, rfl, hcn, hc⟩ := hr
          have hx : o / a.nc < (x : List a.car).length := by omega
          have hx' : o / a.nc < css.length := by omega
          rw [List.getD_eq_getElem?_getD, List.getElem?_eq_getElem hx] at hz'
          have hi := hc (o / a.nc) _ _ (List.getElem?_eq_getElem hx) (List.getElem?_eq_getElem hx')
          obtain ⟨p, q, r, e, hp, hq, hzz⟩ := RD.setSub hy hz' hi
          have hall : ∀ c ∈ css, c.length = a.nc := by
            intro c hm
            obtain ⟨i, hi, rfl⟩ := List.getElem_of_mem hm
            exact (hc i _ _ (List.getElem?_eq_getElem (by omega)) (List.getElem?_eq_getElem hi)).len
          refine ⟨(css.take (o / a.nc)).flatten ++ p, q, r ++ (css.drop (o / a.nc + 1)).flatten, ?_, ?_, hq, ?_⟩
          · conv => lhs; rw [← List.take_append_drop (o / a.nc) css, List.drop_eq_getElem_cons hx']
            rw [List.flatten_append, List.flatten_cons, e]; simp
          · rw [List.length_append, hp, flatten_len (n := a.nc) fun c hc => hall c (List.mem_of_mem_take hc), List.length_take, Nat.min_eq_left (by omega)]
            rw [Nat.mul_comm]; exact Nat.div_add_mod o a.nc
          · refine ⟨by simpa using hl, css.set (o / a.nc) (p ++ ds ++ r), ?_, by simpa using hcn, fun i x' c' h1 h2 => ?_⟩
            · rw [List.set_eq_take_append_cons_drop, if_pos hx', List.flatten_append, List.flatten_cons]; simp
            · by_cases e : o / a.nc = i
              · subst e
                rw [List.getElem?_set_self (by omega)] at h1 h2
                obtain rfl := Option.some.inj h1
                obtain rfl := Option.some.inj h2
                exact hzz
              · rw [List.getElem?_set_ne e] at h1 h2
                exact hc i _ _ h1 h2
        · cases h

theorem CRs.datCons {F : Nat → Prop} {β : Nat → Base} {w : World} {t : Ty} {x : t.car} {cs : List AV} {us : List Value} (h : CRs F β w (.dat t x :: cs) us) :
    ∃ c r, us = c ++ r ∧ RD F w t x c ∧ CRs F β w cs r := by unfold CRs at h; exact h

def AV.isDat : AV → Bool
  | .dat _ _ | .agg _ => true
  | _ => false

theorem CRs.oneCons {F : Nat → Prop} {β : Nat → Base} {w : World} {c : AV} {cs : List AV} {us : List Value} (hd : c.isDat = false) :
    CRs F β w (c :: cs) us ↔ ∃ u r, us = u :: r ∧ u.oneCell' = true ∧ VR F β w c u ∧ CRs F β w cs r := by
  cases c <;> first | (simp [AV.isDat] at hd; done) | (constructor <;> intro h <;> (first | (unfold CRs at h; exact h) | (unfold CRs; exact h)))

theorem nil_RD (F : Nat → Prop) (w : World) (a : Ty) (A : Option Addr) (c : Nat) : RD F w (.list a) ([] : List a.car) [.slice A 0 c] := ⟨A, c, rfl, Nat.zero_le _, Nat.zero_le _, .inl rfl⟩

theorem asmGo_sound {F : Nat → Prop} {β : Nat → Base} {w : World} {go : (u : Ty) → List AV → Option (u.car × List AV)}
    (hgo : ∀ u cs x r us, go u cs = some (x, r) → CRs F β w cs us → ∃ a b, us = a ++ b ∧ RD F w u x a ∧ CRs F β w r b) {u : Ty} {cs : List AV} {x : u.car} {r : List AV} {us : List Value}
    (h : asmGo go u cs = some (x, r)) (hc : CRs F β w cs us) : ∃ a b, us = a ++ b ∧ RD F w u x a ∧ CRs F β w r b := by
  cases u with
  | pair a b =>
    simp only [asmGo] at h
    cases h1 : go a cs with
    | none => simp [h1] at h
    | some p =>
      obtain ⟨x1, c1⟩ := p
      simp only [h1] at h
      cases h2 : go b c1 with
      | none => simp [h2] at h
      | some q =>
        obtain ⟨x2, c2⟩ := q
        simp only [h2, Option.some.injEq, Prod.mk.injEq] at h
        obtain ⟨rfl, rfl⟩ := h
        obtain ⟨p1, q1, rfl, r1, k1⟩ := hgo _ _ _ _ _ h1 hc
        obtain ⟨p2, q2, rfl, r2, k2⟩ := hgo _ _ _ _ _ h2 k1
        exact ⟨p1 ++ p2, q2, by simp, ⟨p1, p2, rfl, r1, r2⟩, k2⟩
  | st a => exact hgo a cs x r us h hc
  | unit =>
    simp only [asmGo, Option.some.injEq, Prod.mk.injEq] at h
    obtain ⟨_, rfl⟩ := h
    exact ⟨[], us, rfl, rfl, hc⟩
  | _ => simp [asmGo] at h

theorem asm_cst {n : Nat} {u : Ty} {v : Value} {cs : List AV} (h : ∀ a, u = .list a → v ≠ .slice none 0 0) : asm (n + 1) u (.cst v :: cs) = asmGo (asm n) u (.cst v :: cs) := by
  cases v with
  | slice A l c =>
    cases A with
    | some _ => cases u <;> rfl
    | none =>
      cases l with
      | succ _ => cases u <;> rfl
      | zero =>
        cases c with
        | succ _ => cases u <;> rfl
        | zero =>
          cases u with
          | list a => exact absurd rfl (h a rfl)
          | _ => rfl
  | _ => cases u <;> rfl

theorem asm_sound {F : Nat → Prop} {β : Nat → Base} {w : World} : ∀ (n : Nat) (u : Ty) (cs : List AV) (x : u.car) (r : List AV) (us : List Value),
    asm n u cs = some (x, r) → CRs F β w cs us → ∃ a b, us = a ++ b ∧ RD F w u x a ∧ CRs F β w r b := by
  intro n
  induction n with
  | zero => intro u cs x r us h; simp [asm] at h
  | succ n ih =>
    intro u cs x r us h hc
    have gen : asm (n + 1) u cs = asmGo (asm n) u cs → ∃ a b, us = a ++ b ∧ RD F w u x a ∧ CRs F β w r b := fun e => by
      rw [e] at h; exact asmGo_sound ih h hc
    cases cs with
    | nil => exact gen (by cases u <;> rfl)
    | cons c cs =>
      cases c with
      | dat t y =>
        have e : asm (n + 1) u (.dat t y :: cs) = if h : t = u then some (h ▸ y, cs) else asmGo (asm n) u (.dat t y :: cs) := by cases u <;> rfl
        by_cases ht : t = u
        · rw [e, dif_pos ht] at h
          subst ht
          simp only [Option.some.injEq, Prod.mk.injEq] at h
          obtain ⟨rfl, rfl⟩ := h
          exact hc.datCons
        · exact gen (by rw [e, dif_neg ht])
      | full t y =>
        have e : asm (n + 1) u (.full t y :: cs) = if h : Ty.list t = u then some (h ▸ (y : (Ty.list t).car), cs) else asmGo (asm n) u (.full t y :: cs) := by cases u <;> rfl
        by_cases ht : Ty.list t = u
        · rw [e, dif_pos ht] at h
          subst ht
          simp only [Option.some.injEq, Prod.mk.injEq] at h
          obtain ⟨rfl, rfl⟩ := h
          obtain ⟨v, q, rfl, _, hv, k⟩ := (CRs.oneCons rfl).1 hc
          unfold VR at hv
          obtain ⟨A, _, hv⟩ := hv
          exact ⟨[v], q, rfl, hv, k⟩
        · exact gen (by rw [e, dif_neg ht])
      | nul =>
        cases u with
        | list a =>
          obtain ⟨rfl, rfl⟩ : ([] : List a.car) = x ∧ cs = r := by
            have e : asm (n + 1) (.list a) (.nul :: cs) = some (([] : List a.car), cs) := rfl
            rw [e] at h; simpa using h
          obtain ⟨v, q, rfl, _, hv, k⟩ := (CRs.oneCons rfl).1 hc
          unfold VR at hv
          obtain ⟨A, rfl⟩ := hv
          exact ⟨[_], q, rfl, nil_RD F w _ _ _, k⟩
        | _ => exact gen rfl
      | cst v =>
        cases u with
        | list a =>
          by_cases e : v = .slice none 0 0
          · subst e
            obtain ⟨rfl, rfl⟩ : ([] : List a.car) = x ∧ cs = r := by
              have e : asm (n + 1) (.list a) (.cst (.slice none 0 0) :: cs) = some (([] : List a.car), cs) := rfl
              rw [e] at h; simpa using h
            obtain ⟨v, q, rfl, _, hv, k⟩ := (CRs.oneCons rfl).1 hc
            unfold VR at hv
            obtain ⟨rfl, _⟩ := hv
            exact ⟨[_], q, rfl, nil_RD F w _ _ _, k⟩
          · exact gen (asm_cst fun _ _ => e)
        | _ => exact gen (asm_cst fun a e => by cases e)
      | _ => exact gen (by cases u <;> rfl)

/-- A value's cells. -/
theorem VR.comps {F : Nat → Prop} {β : Nat → Base} {w : World} {a : AV} {v : Value} (h : VR F β w a v) (hs : a.solid = true) : CRs F β w a.comps v.cells.toList := by
  have one : ∀ {a : AV} {v : Value}, a.isDat = false → v.oneCell' = true → VR F β w a v → CRs F β w [a] v.cells.toList := by
    intro a v h1 h2 h3
    rw [CRs.oneCons h1]
    have : v.cells = #[v] := by cases v <;> simp_all [Value.cells, Value.oneCell']
    rw [this]
    exact ⟨v, [], rfl, h2, h3, by unfold CRs; rfl⟩
  cases a with
  | dat t x =>
    unfold VR at h
    unfold AV.comps CRs
    split at h
    · obtain ⟨cs, rfl, h⟩ := h
      exact ⟨cs, [], by simp [Value.cells], h, by unfold CRs; rfl⟩
    · have h1 := h.one v (by simp)
      have : v.cells = #[v] := by cases v <;> simp_all [Value.cells, Value.oneCell']
      exact ⟨[v], [], by simp [this], h, by unfold CRs; rfl⟩
  | agg cs =>
    unfold VR at h
    obtain ⟨us, rfl, h⟩ := h
    simpa [Value.cells, AV.comps] using h
  | full t xs => refine one rfl ?_ h; unfold VR at h; obtain ⟨A, rfl, _⟩ := h; rfl
  | ref k o => refine one rfl ?_ h; unfold VR at h; subst h; rfl
  | elt t xs i o => refine one rfl ?_ h; unfold VR at h; obtain ⟨b, c, rfl, _⟩ := h; rfl
  | arr k => refine one rfl ?_ h; unfold VR at h; subst h; rfl
  | aelt k i o => refine one rfl ?_ h; unfold VR at h; obtain ⟨rfl, _⟩ := h; rfl
  | fn f a b => refine one rfl ?_ h; unfold VR at h; obtain ⟨x, y, rfl, _⟩ := h; rfl
  | iface t a => refine one rfl ?_ h; unfold VR at h; obtain ⟨u, rfl, _⟩ := h; rfl
  | cst u => refine one rfl ?_ h; unfold VR at h; obtain ⟨rfl, h⟩ := h; exact h
  | nul => refine one rfl ?_ h; unfold VR at h; obtain ⟨A, rfl⟩ := h; rfl
  | yld k => refine one rfl ?_ h; unfold VR at h; subst h; rfl
  | tup vs => simp [AV.solid] at hs
  | bad => simp [AV.solid] at hs

theorem AV.get_sound {F : Nat → Prop} {β : Nat → Base} {w : World} {u : Ty} {a : AV} {x : u.car} {v : Value} (h : AV.get? u a = some x) (hs : a.solid = true) (hv : VR F β w a v) : RD F w u x v.cells.toList := by
  unfold AV.get? at h
  split at h
  · rename_i y heq
    obtain rfl := Option.some.inj h
    obtain ⟨p, q, e, hp, hq⟩ := asm_sound _ _ _ _ _ _ heq (hv.comps hs)
    unfold CRs at hq; subst hq
    rw [e, List.append_nil]; exact hp
  · cases h
end Go.Abs
