/-
A law's arguments, as they are handed: data.
-/
import Derived.Test.YtoopjhnbcbnleaaDoorA20
import Derived.Carry
import Derived.Deep.Slices
namespace Go.Abs
open Go.RowKit
set_option linter.unusedVariables false
set_option linter.unusedSimpArgs false

/-- Do a struct's fields stand in line as the data's parts do? -/
def rdFs (P : Program) (ok : TypeId → Ty → Bool) : List Field → Ty → Nat → Bool
  | [], .unit, _ => true
  | [f], a, o => (f.offset == o) && ok f.type a && (a.nc == P.cellsOf f.type)
  | f :: g :: fs, .pair a b, o => (f.offset == o) && ok f.type a && (a.nc == P.cellsOf f.type) && rdFs P ok (g :: fs) b (o + a.nc)
  | _, _, _ => false

/-- Is the type's data what the machine lays down for it? -/
def rdOk (P : Program) : Nat → TypeId → Ty → Bool
  | 0, _, _ => false
  | n + 1, t, u => match P.underlying t, u with
    | some (.int k), .int k' => k == k'
    | some .bool, .bool => true
    | some .string, .str => true
    | some (.slice e), .list a => rdOk P n e a && (a.nc == P.cellsOf e) && (a.nc != 0)
    | some (.struct fs), .st a => (a.nc == P.cellsOf t) && rdFs P (rdOk P n) fs.toList a 0
    | _, _ => false

theorem cells?_get {w : World} {a : Addr} {n : Nat} {cs : List Value} (h : w.cells? 0 a n = some cs) : cs.length = n ∧ ∀ (j : Nat) (v : Value), cs[j]? = some v → w.cell? (a.add j) = some v := by
  unfold World.cells? at h
  rw [if_pos (Nat.zero_le _)] at h
  have key : ∀ (l : List Nat) (cs : List Value), l.mapM (fun i => w.cell? (a.add i)) = some cs → cs.length = l.length ∧ ∀ (j : Nat) (v : Value) (i : Nat), l[j]? = some i → cs[j]? = some v → w.cell? (a.add i) = some v := by
    intro l
    induction l with
    | nil => intro cs h; simp at h; subst h; exact ⟨rfl, fun j v i h => by simp at h⟩
    | cons i l ih =>
      intro cs h
      simp only [List.mapM_cons, Option.pure_def, Option.bind_eq_bind, Option.bind_eq_some_iff] at h
      obtain ⟨v, h1, vs, h2, h3⟩ := h
      simp at h3; subst h3
      obtain ⟨g1, g2⟩ := ih vs h2
      refine ⟨by simp [g1], fun j v' i' hi hv => ?_⟩
      cases j with
      | zero => simp at hi hv; subst hi hv; exact h1
      | succ j => exact g2 j v' i' (by simpa using hi) (by simpa using hv)
  obtain ⟨h1, h2⟩ := key _ _ h
  simp at h1
  exact ⟨h1, fun j v hv => h2 j v j (by have := (List.getElem?_eq_some_iff.1 hv).1; rw [List.getElem?_range (by omega)]) hv⟩

theorem mapM_get {α β : Type} {f : α → Option β} : ∀ {l : List α} {r : List β}, l.mapM f = some r → r.length = l.length ∧ ∀ (j : Nat) (x : α), l[j]? = some x → ∃ y, r[j]? = some y ∧ f x = some y
  | [], r, h => by simp at h; subst h; exact ⟨rfl, fun j x h => by simp at h⟩
  | a :: l, r, h => by
    simp only [List.mapM_cons, Option.pure_def, Option.bind_eq_bind, Option.bind_eq_some_iff] at h
    obtain ⟨v, h1, vs, h2, h3⟩ := h
    simp at h3; subst h3
    obtain ⟨g1, g2⟩ := mapM_get h2
    refine ⟨by simp [g1], fun j x hx => ?_⟩
    cases j with
    | zero => simp at hx; subst hx; exact ⟨v, rfl, h1⟩
    | succ j => simpa using g2 j x (by simpa using hx)

section
variable {H : Type} {enc : TypeId × Value → H} {P : Program} {w : World} {spare : Nat → Bool}

theorem fields_RD {rd : TypeId → List Value → Option (DataW H × List MemPlace)} {ok : TypeId → Ty → Bool}
    (ih : ∀ t u cs d, ok t u = true → rd t cs = some d → ∃ x, RD (fun b => b < w.heap.size) w u x cs) (cs : List Value) : ∀ (fs : List Field) (a : Ty) (o : Nat) (xs : List (DataW H × List MemPlace)),
    rdFs P ok fs a o = true → (fs.mapM fun f => rd f.type ((cs.drop f.offset).take (P.cellsOf f.type))) = some xs → cs.length = o + a.nc → ∃ x, RD (fun b => b < w.heap.size) w a x (cs.drop o)
  | [], .unit, o, xs, _, _, hl => ⟨(), by simp [Ty.nc] at hl; rw [List.drop_eq_nil_of_le (by omega)]; rfl⟩
  | [f], a, o, xs, h, hm, hl => by
    simp only [rdFs, Bool.and_eq_true, beq_iff_eq] at h
    obtain ⟨⟨h1, h2⟩, h3⟩ := h
    obtain ⟨_, hg⟩ := mapM_get hm
    obtain ⟨y, _, hy⟩ := hg 0 f rfl
    rw [h1, ← h3, List.take_of_length_le (by simp; omega)] at hy
    exact ih _ _ _ _ h2 hy
  | f :: g :: fs, .pair a b, o, xs, h, hm, hl => by
    simp only [rdFs, Bool.and_eq_true, beq_iff_eq] at h
    obtain ⟨⟨⟨h1, h2⟩, h3⟩, h4⟩ := h
    obtain ⟨_, hg⟩ := mapM_get hm
    obtain ⟨y, _, hy⟩ := hg 0 f rfl
    rw [h1, ← h3] at hy
    rw [List.mapM_cons] at hm
    simp only [Option.pure_def, Option.bind_eq_bind, Option.bind_eq_some_iff] at hm
    obtain ⟨v, _, vs, hvs, _⟩ := hm
    obtain ⟨x1, hx1⟩ := ih _ _ _ _ h2 hy
    obtain ⟨x2, hx2⟩ := fields_RD ih cs (g :: fs) b (o + a.nc) vs h4 hvs (by simp [Ty.nc] at hl; omega)
    refine ⟨(x1, x2), (cs.drop o).take a.nc, cs.drop (o + a.nc), ?_, hx1, hx2⟩
    rw [← List.drop_drop, List.take_append_drop]
  | [], .int _, _, _, h, _, _ | [], .bool, _, _, h, _, _ | [], .str, _, _, h, _, _ | [], .pair _ _, _, _, h, _, _ | [], .st _, _, _, h, _, _ | [], .list _, _, _, h, _, _ | [], .arr _ _, _, _, h, _, _ => by simp [rdFs] at h
  | _ :: _ :: _, .int _, _, _, h, _, _ | _ :: _ :: _, .bool, _, _, h, _, _ | _ :: _ :: _, .str, _, _, h, _, _ | _ :: _ :: _, .unit, _, _, h, _, _ | _ :: _ :: _, .st _, _, _, h, _, _ | _ :: _ :: _, .list _, _, _, h, _, _ | _ :: _ :: _, .arr _ _, _, _, h, _, _ => by simp [rdFs] at h

theorem list_of {α : Type} {Q : Nat → α → Prop} : ∀ (n : Nat), (∀ i, i < n → ∃ x, Q i x) → ∃ xs : List α, xs.length = n ∧ ∀ (i : Nat) (x : α), xs[i]? = some x → Q i x
  | 0, _ => ⟨[], rfl, fun i x h => by simp at h⟩
  | n + 1, h => by
    obtain ⟨xs, h1, h2⟩ := list_of n fun i hi => h i (by omega)
    obtain ⟨x, hx⟩ := h n (by omega)
    refine ⟨xs ++ [x], by simp [h1], fun i y hy => ?_⟩
    rcases Nat.lt_or_ge i n with hi | hi
    · rw [List.getElem?_append_left (by omega)] at hy; exact h2 i y hy
    · rw [List.getElem?_append_right (by omega)] at hy
      have := (List.getElem?_eq_some_iff.1 hy).1
      simp at this
      have e : i = n := by omega
      subst e
      simp [h1] at hy; subst hy; exact hx

theorem add_add {b o m j : Nat} : (Addr.add (Addr.add ⟨b, o, none⟩ m) j) = ⟨b, o + m + j, none⟩ := by
  unfold Addr.add
  by_cases h1 : m = 0 <;> by_cases h2 : j = 0 <;> simp [h1, h2]

theorem trod_RD : ∀ (n : Nat) (t : TypeId) (u : Ty) (cs : List Value) (fuel : Nat) (d : DataW H × List MemPlace), rdOk P n t u = true → DataW.trod enc P w 0 spare true fuel t cs = some d → ∃ x, RD (fun b => b < w.heap.size) w u x cs
  | 0, t, u, cs, fuel, d, hk, _ => by simp [rdOk] at hk
  | n + 1, t, u, cs, 0, d, hk, h => by simp [DataW.trod] at h
  | n + 1, t, u, cs, fuel + 1, d, hk, h => by
    simp only [rdOk] at hk
    split at hk
    · rename_i k k' hu
      simp only [beq_iff_eq] at hk; subst hk
      simp only [DataW.trod, hu] at h
      split at h <;> rename_i heq
      case h_2 k2 k3 x =>
        injection heq with e
        injection e with e
        subst e
        split at h
        · rename_i hc
          obtain ⟨rfl, hwf⟩ := hc
          exact ⟨x, rfl, by rw [wrap_iff]; simpa [Lit.wf] using hwf⟩
        · cases h
      all_goals first | (cases heq; done) | (cases h; done)
    · rename_i hu
      simp only [DataW.trod, hu] at h
      split at h <;> rename_i heq
      case h_1 b => exact ⟨b, rfl⟩
      all_goals first | (cases heq; done) | (cases h; done)
    · rename_i hu
      simp only [DataW.trod, hu] at h
      split at h <;> rename_i heq
      case h_4 s =>
        split at h
        · rename_i hc; exact ⟨s, rfl, hc⟩
        · cases h
      all_goals first | (cases heq; done) | (cases h; done)
    · rename_i e a hu
      simp only [Bool.and_eq_true, beq_iff_eq, bne_iff_ne, ne_eq] at hk
      obtain ⟨⟨h1, h2⟩, h3⟩ := hk
      rcases Deep.open_slice hu h with ⟨rfl, _⟩ | ⟨ad, len, cap, m, f', D, Pl, rfl, _, hlc, hcm, hm, _, hel⟩
      · exact ⟨([] : List a.car), none, 0, rfl, Nat.le_refl _, Nat.zero_le _, .inl rfl⟩
      · have hlm : len ≤ m := by rw [hm]; split <;> omega
        have he : ∀ i, i < len → ∃ x, ∃ cs', w.cells? 0 (ad.add (i * P.cellsOf e)) (P.cellsOf e) = some cs' ∧ RD (fun b => b < w.heap.size) w a x cs' := fun i hi => by
          obtain ⟨cs', g1, g2⟩ := hel i (by omega)
          obtain ⟨x, hx⟩ := trod_RD n e a cs' f' _ h1 g2
          exact ⟨x, cs', g1, hx⟩
        obtain ⟨xs, hl, hx⟩ := list_of len he
        refine ⟨xs, some ad, cap, by rw [hl], by omega, by rw [hl]; exact Nat.le_trans hlc hcm, ?_⟩
        by_cases hz : xs = []
        · exact .inl hz
        · right
          have hpos : 0 < xs.length := List.length_pos_iff.2 hz
          obtain ⟨cs0, g0, hr0⟩ := hx 0 xs[0] (List.getElem?_eq_getElem hpos)
          obtain ⟨hlen0, hc0⟩ := cells?_get g0
          have h0 : w.cell? ad = some (cs0[0]'(by rw [hlen0, ← h2]; omega)) := by
            have := hc0 0 (cs0[0]'(by rw [hlen0, ← h2]; omega)) (List.getElem?_eq_getElem _)
            simpa [Addr.add] using this
          obtain ⟨b, o, sp⟩ := ad
          have hsp : sp = none := by
            unfold World.cell? at h0
            split at h0
            · cases sp with
              | none => rfl
              | some k => simp at h0
            · cases h0
          subst hsp
          have hb : b < w.heap.size := by
            unfold World.cell? at h0
            split at h0
            · rename_i hh
              exact (Array.getElem?_eq_some_iff.1 hh).1
            · cases h0
          refine ⟨b, o, rfl, hb, fun i x hi => ?_⟩
          obtain ⟨cs', g1, g2⟩ := hx i x hi
          obtain ⟨_, g3⟩ := cells?_get g1
          refine ⟨cs', g2, fun j v hv => ?_⟩
          have := g3 j v hv
          rw [add_add, ← h2] at this
          exact this
    · rename_i fs a hu
      simp only [Bool.and_eq_true, beq_iff_eq] at hk
      obtain ⟨h1, h2⟩ := hk
      simp only [DataW.trod, hu] at h
      split at h
      · rename_i hc
        obtain ⟨xs, hxs, _⟩ := Option.map_eq_some_iff.1 h
        have := fields_RD (rd := DataW.trod enc P w 0 spare true fuel) (fun t u cs d g1 g2 => trod_RD n t u cs fuel d g1 g2) cs fs.toList a 0 xs h2 hxs (by omega)
        rw [List.drop_zero] at this
        exact this
      · cases h
    · cases hk

/-- A law's argument is data. -/
theorem arg_VR {r : Reach} {base : Nat} {n : Nat} {t : TypeId} {u : Ty} {v : Value} {d : DataW H} {ps : List MemPlace} (β : Nat → Base) (hk : rdOk P n t u = true) (hv : Value.okWide P w r base t v) (h : DataW.Trod enc P w 0 spare true t v d ps) :
    ∃ x : u.car, VR (fun b => b < w.heap.size) β w (.dat u x) v := by
  obtain ⟨fuel, hf⟩ := h
  obtain ⟨x, hx⟩ := trod_RD n t u _ fuel _ hk hf
  refine ⟨x, ?_⟩
  cases n with
  | zero => simp [rdOk] at hk
  | succ n =>
    have flat : u.isAgg = false → v.cells = #[v] → VR (fun b => b < w.heap.size) β w (.dat u x) v := fun h1 h2 => by
      rw [h2] at hx
      exact mk_flat h1 (by simpa using hx)
    simp only [rdOk] at hk
    split at hk
    · rename_i k k' hu
      simp only [Value.okWide, hu, Cell.okWide] at hv
      exact flat rfl (by
        cases v with
        | agg cs => simp only [Cell.ok, hu] at hv
        | _ => rfl)
    · rename_i hu
      simp only [Value.okWide, hu, Cell.okWide] at hv
      exact flat rfl (by
        cases v with
        | agg cs => simp only [Cell.ok, hu] at hv
        | _ => rfl)
    · rename_i hu
      simp only [Value.okWide, hu, Cell.okWide] at hv
      exact flat rfl (by
        cases v with
        | agg cs => simp only [Cell.ok, hu] at hv
        | _ => rfl)
    · rename_i e a hu
      simp only [Value.okWide, hu, Cell.okWide] at hv
      exact flat rfl (by
        cases v with
        | agg cs => simp only [Cell.ok, hu] at hv
        | _ => rfl)
    · rename_i fs a hu
      simp only [Value.okWide, hu] at hv
      obtain ⟨cs, rfl, _⟩ := hv
      unfold VR
      exact ⟨cs.toList, rfl, hx⟩
    · cases hk

theorem inv0 (w : World) (β : Nat → Base) : Inv (fun b => b < w.heap.size) β (fun k => k < ([] : List Reg).length) (rgOf []) w where
  ok := fun k => by simp [rgOf]; trivial
  dj := fun k k' b i j _ h => by simp [rgOf, fp] at h
  nf := fun k b i h => by simp [rgOf, fp] at h
  ff := fun b h => h
  tk := fun k h => by simp [rgOf] at h
  sc := fun k j h => by simp [rgOf, Reg.refs] at h

/-- A law's call, out of its contract. -/
theorem law_walk {f : FuncId} (hy : f ≠ yid) {as : List AV} {vs : List Value} {β : Nat → Base} (hL : FnOk P f as [] fun o => o = { v := .dat .bool true }) (hv : VRs (fun b => b < w.heap.size) β w as vs) (hr : refsL as = []) :
    Calls P f vs.toArray w fun e w' => e = .returned (.bool true) ∧ Below w.heap.size w w' := by
  refine ((CallsT.fn hy).1 (hL.calls _ β w vs (inv0 w β) hv (fun k hk => by rw [hr] at hk; cases hk))).mono ?_
  rintro e w' ⟨o, u, F', β', rfl, rfl, hst⟩
  refine ⟨by rw [bool_val hst.val], ?_⟩
  exact (hst.chg.mono fun b i _ ⟨k, hk, _⟩ => by simp at hk : Chg (fun _ _ => False) w w').below
end
end Go.Abs
