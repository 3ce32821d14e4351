/-
Trees of conditions: what a function's evaluation comes to, as data; loops; contracts out of them.
-/
import Derived.Test.YtoopjhnbcbnleaaDoorA20
namespace Go.Abs
set_option linter.unusedVariables false

/-- What an evaluation comes to: results, what is owed, branches, calls. -/
inductive Tr (β : Type) : Type 1 where
  | ret (b : β)
  | need (p : Prop) (t : Tr β)
  | br (c : Bool) (t e : Tr β)
  | call {γ : Type} (o : Option γ) (d : γ) (k : γ → Tr β)
  | ask (e : Bool) (k : Bool → Tr β)     -- is a slice nil? (e: it is empty)
  | fail                                 -- a way that is not walked

section
variable {β : Type}

open Classical in
noncomputable def needO (p : Prop) (o : Option β) : Option β := if p then o else none

open Classical in
/-- Both, where they are the same. -/
noncomputable def agree (a b : Option β) : Option β := if a = b then a else none

noncomputable def Tr.opt : Tr β → Option β
  | .ret b => some b
  | .need p t => needO p t.opt
  | .br c t e => bif c then t.opt else e.opt
  | .call o d k => o.bind fun y => (k y).opt
  | .ask e k => bif e then agree (k true).opt (k false).opt else (k false).opt
  | .fail => none

def Tr.wp (Q : β → Prop) : Tr β → Prop
  | .ret b => Q b
  | .need p t => p ∧ t.wp Q
  | .br c t e => bif c then t.wp Q else e.wp Q
  | .call o d k => o.isSome = true ∧ (k (o.getD d)).wp Q
  | .ask e k => ∀ b : Bool, (b = true → e = true) → (k b).wp Q
  | .fail => False

theorem needO_some {p : Prop} {o : Option β} {b : β} : needO p o = some b ↔ p ∧ o = some b := by
  unfold needO; split <;> simp [*]

theorem needO_true {p : Prop} {o : Option β} (h : p) : needO p o = o := by unfold needO; rw [if_pos h]

theorem Tr.sound {Q : β → Prop} : ∀ (t : Tr β) {b : β}, t.opt = some b → Q b → t.wp Q
  | .ret b, b', h, hq => by cases h; exact hq
  | .need p t, b, h, hq => ⟨(needO_some.1 h).1, Tr.sound t (needO_some.1 h).2 hq⟩
  | .br true t e, b, h, hq => Tr.sound t h hq
  | .br false t e, b, h, hq => Tr.sound e h hq
  | .call (some y) d k, b, h, hq => ⟨rfl, Tr.sound (k y) h hq⟩
  | .call none d k, b, h, hq => by cases h
  | .fail, b, h, hq => by cases h
  | .ask false k, b, h, hq => fun c hc => match c, hc with
    | true, hc => absurd (hc rfl) (by simp)
    | false, _ => Tr.sound (k false) h hq
  | .ask true k, b, h, hq => by
    simp only [Tr.opt, cond_true, agree] at h
    split at h
    · rename_i he
      exact fun c _ => match c with
        | true => Tr.sound (k true) h hq
        | false => Tr.sound (k false) (he ▸ h) hq
    · cases h

/-- A loop comes to an end. -/
inductive Runs {σ : Type} (step : σ → Option (σ ⊕ β)) : σ → β → Prop where
  | done {s : σ} {b : β} : step s = some (.inr b) → Runs step s b
  | next {s s' : σ} {b : β} : step s = some (.inl s') → Runs step s' b → Runs step s b

theorem Runs.det {σ : Type} {step : σ → Option (σ ⊕ β)} {s : σ} {b c : β} (h : Runs step s b) : Runs step s c → b = c := by
  induction h with
  | done h => intro k; cases k with
    | done k => rw [h] at k; injection k with k; injection k
    | next k _ => rw [h] at k; injection k with k; injection k
  | next h _ ih => intro k; cases k with
    | done k => rw [h] at k; injection k with k; injection k
    | next k k' => rw [h] at k; injection k with k; injection k with k; subst k; exact ih k'

open Classical in
noncomputable def whileO {σ : Type} (step : σ → Option (σ ⊕ β)) (s : σ) : Option β := if h : ∃ b, Runs step s b then some h.choose else none

theorem whileO_some {σ : Type} {step : σ → Option (σ ⊕ β)} {s : σ} {b : β} : whileO step s = some b ↔ Runs step s b := by
  unfold whileO
  split
  · rename_i h
    exact ⟨fun e => by cases e; exact h.choose_spec, fun k => by rw [h.choose_spec.det k]⟩
  · rename_i h
    exact ⟨fun e => by (cases e), fun k => (h ⟨b, k⟩).elim⟩

theorem whileO_done {σ : Type} {step : σ → Option (σ ⊕ β)} {s : σ} {b : β} (h : step s = some (.inr b)) : whileO step s = some b := whileO_some.2 (.done h)

theorem whileO_next {σ : Type} {step : σ → Option (σ ⊕ β)} {s s' : σ} (h : step s = some (.inl s')) : whileO step s = whileO step s' := by
  have : ∀ b, whileO step s = some b ↔ whileO step s' = some b := fun b => by
    rw [whileO_some, whileO_some]
    exact ⟨fun k => by cases k with
      | done k => rw [h] at k; injection k with k; injection k
      | next k k' => rw [h] at k; injection k with k; injection k with k; subst k; exact k', fun k => .next h k⟩
  cases h1 : whileO step s with
  | some b => exact ((this b).1 h1).symm
  | none => cases h2 : whileO step s' with
    | some b => rw [(this b).2 h2] at h1; cases h1
    | none => rfl

/-- A tree, and the loops that it leads into. -/
noncomputable def loopO {σ : Type} (step : σ → Tr (σ ⊕ β)) (t : Tr (σ ⊕ β)) : Option β := match t.opt with
  | none => none
  | some (.inr b) => some b
  | some (.inl s) => whileO (fun s => (step s).opt) s

theorem loopO_ret {σ : Type} {step : σ → Tr (σ ⊕ β)} {t : Tr (σ ⊕ β)} {b : β} (h : t.opt = some (.inr b)) : loopO step t = some b := by unfold loopO; rw [h]
theorem loopO_go {σ : Type} {step : σ → Tr (σ ⊕ β)} {t : Tr (σ ⊕ β)} {s : σ} (h : t.opt = some (.inl s)) : loopO step t = whileO (fun s => (step s).opt) s := by unfold loopO; rw [h]

theorem opt_fail : (Tr.fail : Tr β).opt = none := rfl
theorem opt_ret (b : β) : (Tr.ret b).opt = some b := rfl
theorem opt_need (p : Prop) (t : Tr β) : (Tr.need p t).opt = needO p t.opt := rfl
theorem opt_br (c : Bool) (t e : Tr β) : (Tr.br c t e).opt = bif c then t.opt else e.opt := rfl
theorem opt_ask (e : Bool) (k : Bool → Tr β) : (Tr.ask e k).opt = bif e then agree (k true).opt (k false).opt else (k false).opt := rfl
theorem agree_self (a : Option β) : agree a a = a := if_pos rfl
theorem opt_call {γ : Type} (o : Option γ) (d : γ) (k : γ → Tr β) : (Tr.call o d k).opt = o.bind fun y => (k y).opt := rfl

/-- A contract out of a function. -/
def entF [Inhabited β] (f : FuncId) (ps : List Pt) (rs : List RPt) (mk : β → Out) (N : DL ps → DR rs → Option β) : Ent :=
  { f, ps, rs, spec := fun d g => { v := (mk ((N d g).getD default)).v, wr := (mk ((N d g).getD default)).wr, ob := [(N d g).isSome = true] } }

/-- The same, where what has not turned is told by the arguments. -/
def entG [Inhabited β] (f : FuncId) (ps : List Pt) (rs : List RPt) (mk : DL ps → DR rs → β → Out) (N : DL ps → DR rs → Option β) : Ent :=
  { f, ps, rs, spec := fun d g => { v := (mk d g ((N d g).getD default)).v, wr := (mk d g ((N d g).getD default)).wr, ob := [(N d g).isSome = true] } }

theorem Kit.nil {P : Program} (h : P.follows .mixedOrders = true) : Kit P [] := ⟨h, by simp⟩
theorem Kit.cons {P : Program} {e : Ent} {es : List Ent} (h : EntOk P e) (k : Kit P es) : Kit P (e :: es) := ⟨k.mix, fun e' he => by
  rcases List.mem_cons.1 he with rfl | he
  · exact h
  · exact k.ok e' he⟩

def outcome {σ : Type} (fn : Func) (idx : σ → Nat) (S : σ → St) (mk : β → Out) (R : Out → Prop) (L : List Item → St → Prop) : σ ⊕ β → Prop
  | .inl s => L (todoOf fn (idx s)) (S s)
  | .inr b => R (mk b)

/-- A function without loops. -/
theorem entOk_tree [Inhabited β] {P : Program} {es : List Ent} (K : Kit P es) {f : FuncId} (hy : (f == yid) = false) {fn : Func} {ps : List Pt} {rs : List RPt} {mk : β → Out} {T : DL ps → DR rs → Tr β} {rts : List Rt} {cuts : List (Nat × Cut)}
    (hf : P.funcs[f]? = some fn) (hn : (fn.name == "runtime.NumGoroutine") = false) (hb : fn.body = some (body fn)) (hl : ps.length ≤ fn.ntmps) (hm : ∀ b, (mk b).ob = [])
    (ht : ∀ d g R L, evFn P es fn rts cuts (mkL ps d) (mkR rs g) R L = (T d g).wp fun b => R (mk b)) : EntOk P (entF f ps rs mk fun d g => (T d g).opt) := by
  refine EntOk.of (fn := fn) hf hn hb fun (d : DL ps) (g : DR rs) hob hok _ => ?_
  have hs : (T d g).opt.isSome = true := hob _ (List.mem_singleton.2 rfl)
  obtain ⟨b, hs⟩ := Option.isSome_iff_exists.1 hs
  have hlen : ∀ (ps : List Pt) (d : DL ps), (mkL ps d).length = ps.length := by
    intro ps
    induction ps with
    | nil => intro d; rfl
    | cons p ps ih => intro d; cases p <;> simp [mkL, ih]
  refine K.fn hy hf hn hb (rts := rts) (ec := none) (cuts := cuts) (Nat.le_trans (Nat.le_of_eq (hlen ps d)) hl) ?_
  refine Eq.mpr (ht d g _ _) (Tr.sound _ hs ?_)
  simp only [entF, hs, Option.getD_some, Out.bare]
  have := hm b
  cases h : mk b
  rw [h] at this
  simp only at this
  subst this
  rfl

theorem runs_at {P : Program} {es : List Ent} (K : Kit P es) {fn : Func} {σ : Type} {idx : σ → Nat} {S : σ → St} {mk : β → Out} {step : σ → Tr (σ ⊕ β)} {hp : List Reg} {rts : List Rt} {cuts : List (Nat × Cut)} {R : Out → Prop}
    {ec : Option Cut} (hst : ∀ s R L, evLoopG P es fn rts ec cuts (idx s) (S s) hp R L = (step s).wp (outcome fn idx S mk R L)) {s : σ} {b : β} (h : Runs (fun s => (step s).opt) s b) (hR : R (mk b)) : AtLoop P fn rts ec hp R (idx s) (S s) := by
  induction h with
  | done h => exact K.loop (by rw [hst]; exact Tr.sound _ h hR)
  | next h _ ih => exact K.loop (by rw [hst]; exact Tr.sound _ h (ih hR))

/-- A function with loops. -/
theorem entOk_loop [Inhabited β] {P : Program} {es : List Ent} (K : Kit P es) {f : FuncId} (hy : (f == yid) = false) {fn : Func} {ps : List Pt} {rs : List RPt} {mk : β → Out} {σ : Type} {idx : σ → Nat} {S : σ → St}
    {T : DL ps → DR rs → Tr (σ ⊕ β)} {step : σ → Tr (σ ⊕ β)} {rts : List Rt} {cuts : List (Nat × Cut)}
    (hf : P.funcs[f]? = some fn) (hn : (fn.name == "runtime.NumGoroutine") = false) (hb : fn.body = some (body fn)) (hl : ps.length ≤ fn.ntmps) (hm : ∀ b, (mk b).ob = [])
    (ht : ∀ d g R L, evFn P es fn rts cuts (mkL ps d) (mkR rs g) R L = (T d g).wp (outcome fn idx S mk R L))
    (hst : ∀ s g R L, evLoop P es fn rts cuts (idx s) (S s) (mkR rs g) R L = (step s).wp (outcome fn idx S mk R L)) : EntOk P (entF f ps rs mk fun d g => loopO step (T d g)) := by
  refine EntOk.of (fn := fn) hf hn hb fun (d : DL ps) (g : DR rs) hob hok _ => ?_
  have hs : (loopO step (T d g)).isSome = true := hob _ (List.mem_singleton.2 rfl)
  obtain ⟨b, hs⟩ := Option.isSome_iff_exists.1 hs
  have hlen : ∀ (ps : List Pt) (d : DL ps), (mkL ps d).length = ps.length := by
    intro ps
    induction ps with
    | nil => intro d; rfl
    | cons p ps ih => intro d; cases p <;> simp [mkL, ih]
  refine K.fn hy hf hn hb (rts := rts) (ec := none) (cuts := cuts) (Nat.le_trans (Nat.le_of_eq (hlen ps d)) hl) ?_
  refine Eq.mpr (ht d g _ _) ?_
  have hR : mk b = ((entF f ps rs mk fun d g => loopO step (T d g)).spec d g).bare := by
    simp only [entF, hs, Option.getD_some, Out.bare]
    have := hm b
    cases h : mk b
    rw [h] at this
    simp only at this
    subst this
    rfl
  unfold loopO at hs
  split at hs
  · cases hs
  · rename_i b' h
    obtain rfl := Option.some.inj hs
    exact Tr.sound _ h hR
  · rename_i s h
    exact Tr.sound _ h (runs_at K (ec := none) (fun s R L => hst s g R L) (whileO_some.1 hs) hR)

theorem mkL_len : ∀ (ps : List Pt) (d : DL ps), (mkL ps d).length = ps.length
  | [], _ => rfl
  | p :: ps, d => by cases p <;> simp [mkL, mkL_len ps]

theorem mkR_len : ∀ (rs : List RPt) (g : DR rs), (mkR rs g).length = rs.length
  | [], _ => rfl
  | r :: rs, g => by cases r <;> simp [mkR, mkR_len rs]

theorem bare_of {o : Out} (h : o.ob = []) {v : AV} {wr : List (Nat × Reg)} {ob : List Prop} (hv : v = o.v) (hw : wr = o.wr) : o = ({ v, wr, ob } : Out).bare := by
  cases o; simp only at h hv hw; subst h hv hw; rfl

/-- A function without loops, that has loops over functions, or is called by them. -/
theorem entOk_treeG [Inhabited β] {P : Program} {es : List Ent} (K : Kit P es) {f : FuncId} (hy : (f == yid) = false) {fn : Func} {ps : List Pt} {rs : List RPt} {mk : DL ps → DR rs → β → Out} {T : DL ps → DR rs → Tr β} {rts : List Rt} {ec : Option Cut} {cuts : List (Nat × Cut)}
    (hf : P.funcs[f]? = some fn) (hn : (fn.name == "runtime.NumGoroutine") = false) (hb : fn.body = some (body fn)) (hl : ps.length ≤ fn.ntmps) (hm : ∀ d g b, (mk d g b).ob = [])
    (ht : ∀ d g R L, evFnG P es fn rts ec cuts (mkL ps d) (mkR rs g) R L = (T d g).wp fun b => R (mk d g b)) : EntOk P (entG f ps rs mk fun d g => (T d g).opt) := by
  refine EntOk.of (fn := fn) hf hn hb fun (d : DL ps) (g : DR rs) hob hok _ => ?_
  have hs : (T d g).opt.isSome = true := hob _ (List.mem_singleton.2 rfl)
  obtain ⟨b, hs⟩ := Option.isSome_iff_exists.1 hs
  refine K.fn hy hf hn hb (rts := rts) (ec := ec) (cuts := cuts) (Nat.le_trans (Nat.le_of_eq (mkL_len ps d)) hl) ?_
  refine Eq.mpr (ht d g _ _) (Tr.sound _ hs ?_)
  exact bare_of (hm d g b) (by show (mk d g (Option.getD _ default)).v = _; dsimp only; rw [hs]; rfl) (by show (mk d g (Option.getD _ default)).wr = _; dsimp only; rw [hs]; rfl)

theorem loopO_sound {P : Program} {es : List Ent} (K : Kit P es) {fn : Func} {σ : Type} {idx : σ → Nat} {S : σ → St} {mk : β → Out} {step : σ → Tr (σ ⊕ β)} {hp : List Reg} {rts : List Rt} {ec : Option Cut} {cuts : List (Nat × Cut)} {R : Out → Prop} {T : Tr (σ ⊕ β)}
    (hst : ∀ s R L, evLoopG P es fn rts ec cuts (idx s) (S s) hp R L = (step s).wp (outcome fn idx S mk R L)) {b : β} (h : loopO step T = some b) (hR : R (mk b)) : T.wp (outcome fn idx S mk R (RunS P none hp.length (finOf P fn rts ec hp R))) := by
  unfold loopO at h
  split at h
  · cases h
  · rename_i b' h'
    obtain rfl := Option.some.inj h
    exact Tr.sound _ h' hR
  · rename_i s h'
    exact Tr.sound _ h' (runs_at K hst (whileO_some.1 h) hR)

/-- The same with loops. -/
theorem entOk_loopG [Inhabited β] {P : Program} {es : List Ent} (K : Kit P es) {f : FuncId} (hy : (f == yid) = false) {fn : Func} {ps : List Pt} {rs : List RPt} {mk : DL ps → DR rs → β → Out} {σ : Type} {idx : σ → Nat} {S : DL ps → DR rs → σ → St}
    {T : DL ps → DR rs → Tr (σ ⊕ β)} {step : DL ps → DR rs → σ → Tr (σ ⊕ β)} {rts : List Rt} {ec : Option Cut} {cuts : List (Nat × Cut)}
    (hf : P.funcs[f]? = some fn) (hn : (fn.name == "runtime.NumGoroutine") = false) (hb : fn.body = some (body fn)) (hl : ps.length ≤ fn.ntmps) (hm : ∀ d g b, (mk d g b).ob = [])
    (ht : ∀ d g R L, evFnG P es fn rts ec cuts (mkL ps d) (mkR rs g) R L = (T d g).wp (outcome fn idx (S d g) (mk d g) R L))
    (hst : ∀ d g s R L, evLoopG P es fn rts ec cuts (idx s) (S d g s) (mkR rs g) R L = (step d g s).wp (outcome fn idx (S d g) (mk d g) R L)) : EntOk P (entG f ps rs mk fun d g => loopO (step d g) (T d g)) := by
  refine EntOk.of (fn := fn) hf hn hb fun (d : DL ps) (g : DR rs) hob hok _ => ?_
  have hs : (loopO (step d g) (T d g)).isSome = true := hob _ (List.mem_singleton.2 rfl)
  obtain ⟨b, hs⟩ := Option.isSome_iff_exists.1 hs
  refine K.fn hy hf hn hb (rts := rts) (ec := ec) (cuts := cuts) (Nat.le_trans (Nat.le_of_eq (mkL_len ps d)) hl) ?_
  refine Eq.mpr (ht d g _ _) (loopO_sound K (hst d g) hs ?_)
  exact bare_of (hm d g b) (by show (mk d g (Option.getD _ default)).v = _; dsimp only; rw [hs]; rfl) (by show (mk d g (Option.getD _ default)).wr = _; dsimp only; rw [hs]; rfl)

-- ---------------------------------------------------------------- rounds
def outcomeR {σ : Type} (L : LoopS) (idx : σ → Nat) (S : σ → St) (mk : β → Out) (R : Out → Prop) (leaf : List Item → St → Prop) : σ ⊕ β → Prop
  | .inl s => leaf (todoR L (idx s)) (S s)
  | .inr b => R (mk b)

theorem runsR_at {P : Program} {es : List Ent} (K : Kit P es) {L : LoopS} {k0 : Nat} {σ : Type} {idx : σ → Nat} {S : σ → St} {mk : β → Out} {step : σ → Tr (σ ⊕ β)} {hp : List Reg} {ec : Option Cut} {cuts : List (Nat × Cut)} {R : Out → Prop}
    (hst : ∀ s R leaf, evRLoop P es L k0 ec cuts (idx s) (S s) hp R leaf = (step s).wp (outcomeR L idx S mk R leaf)) {s : σ} {b : β} (h : Runs (fun s => (step s).opt) s b) (hR : R (mk b)) : AtRLoop P L k0 ec hp R (idx s) (S s) := by
  induction h with
  | done h => exact K.rloop (by rw [hst]; exact Tr.sound _ h hR)
  | next h _ ih => exact K.rloop (by rw [hst]; exact Tr.sound _ h (ih hR))

theorem loopO_soundR {P : Program} {es : List Ent} (K : Kit P es) {L : LoopS} {k0 : Nat} {σ : Type} {idx : σ → Nat} {S : σ → St} {mk : β → Out} {step : σ → Tr (σ ⊕ β)} {hp : List Reg} {ec : Option Cut} {cuts : List (Nat × Cut)} {R : Out → Prop} {T : Tr (σ ⊕ β)}
    (hst : ∀ s R leaf, evRLoop P es L k0 ec cuts (idx s) (S s) hp R leaf = (step s).wp (outcomeR L idx S mk R leaf)) {b : β} (h : loopO step T = some b) (hR : R (mk b)) : T.wp (outcomeR L idx S mk R (RunS P (some k0) hp.length (finR k0 ec hp R))) := by
  unfold loopO at h
  split at h
  · cases h
  · rename_i b' h'
    obtain rfl := Option.some.inj h
    exact Tr.sound _ h' hR
  · rename_i s h'
    exact Tr.sound _ h' (runsR_at K hst (whileO_some.1 h) hR)

theorem entR_of {P : Program} {e : Ent} (he : e.f = yid) (h : ∀ d g, (∀ p ∈ (e.spec d g).ob, p) → FnOk P e.f (mkL e.ps d) (mkR e.rs g) fun o => o = (e.spec d g).bare) : EntOk P e :=
  ⟨fun h => absurd he h, h⟩

/-- A round. Its loop is region k0. -/
theorem entOk_round [Inhabited β] {P : Program} {es : List Ent} (K : Kit P es) {L : LoopS} {k0 : Nat} {ps : List Pt} {rs : List RPt} {mk : DL ps → DR rs → β → Out} {xs : DL ps → List AV} {tm : DR rs → List AV} {jOf : DR rs → Int} {T : DL ps → DR rs → Tr β} {ec : Option Cut} {cuts : List (Nat × Cut)}
    (hreg : ∀ g, rgOf (mkR rs g) k0 = .loop L (tm g) (jOf g)) (hk : k0 < rs.length) (hargs : ∀ d, mkL ps d = .yld k0 :: xs d) (hlen : ∀ d, (xs d).length = L.params.size) (hm : ∀ d g b, (mk d g b).ob = [])
    (ht : ∀ d g R leaf, evRound P es L k0 ec cuts (tm g) (xs d) (mkR rs g) R leaf = (T d g).wp fun b => R (mk d g b)) :
    EntOk P (entG yid ps rs mk fun d g => (T d g).opt) := by
  refine entR_of rfl fun (d : DL ps) (g : DR rs) hob => ?_
  have hs : (T d g).opt.isSome = true := hob _ (List.mem_singleton.2 rfl)
  obtain ⟨b, hs⟩ := Option.isSome_iff_exists.1 hs
  have := K.round (L := L) (k0 := k0) (ec := ec) (cuts := cuts) (tm := tm g) (xs := xs d) (hp := mkR rs g) (R := fun o => o = ((entG yid ps rs mk fun d g => (T d g).opt).spec d g).bare) (hreg g) (by rw [mkR_len]; exact hk) (hlen d) (by
    rw [ht]
    refine Tr.sound _ hs ?_
    exact bare_of (hm d g b) (by show (mk d g (Option.getD _ default)).v = _; dsimp only; rw [hs]; rfl) (by show (mk d g (Option.getD _ default)).wr = _; dsimp only; rw [hs]; rfl))
  rw [← hargs d] at this
  exact this

theorem entOk_roundLoop [Inhabited β] {P : Program} {es : List Ent} (K : Kit P es) {L : LoopS} {k0 : Nat} {ps : List Pt} {rs : List RPt} {mk : DL ps → DR rs → β → Out} {xs : DL ps → List AV} {tm : DR rs → List AV} {jOf : DR rs → Int} {σ : Type} {idx : σ → Nat} {S : DL ps → DR rs → σ → St}
    {T : DL ps → DR rs → Tr (σ ⊕ β)} {step : DL ps → DR rs → σ → Tr (σ ⊕ β)} {ec : Option Cut} {cuts : List (Nat × Cut)}
    (hreg : ∀ g, rgOf (mkR rs g) k0 = .loop L (tm g) (jOf g)) (hk : k0 < rs.length) (hargs : ∀ d, mkL ps d = .yld k0 :: xs d) (hlen : ∀ d, (xs d).length = L.params.size) (hm : ∀ d g b, (mk d g b).ob = [])
    (ht : ∀ d g R leaf, evRound P es L k0 ec cuts (tm g) (xs d) (mkR rs g) R leaf = (T d g).wp (outcomeR L idx (S d g) (mk d g) R leaf))
    (hst : ∀ d g s R leaf, evRLoop P es L k0 ec cuts (idx s) (S d g s) (mkR rs g) R leaf = (step d g s).wp (outcomeR L idx (S d g) (mk d g) R leaf)) :
    EntOk P (entG yid ps rs mk fun d g => loopO (step d g) (T d g)) := by
  refine entR_of rfl fun (d : DL ps) (g : DR rs) hob => ?_
  have hs : (loopO (step d g) (T d g)).isSome = true := hob _ (List.mem_singleton.2 rfl)
  obtain ⟨b, hs⟩ := Option.isSome_iff_exists.1 hs
  have := K.round (L := L) (k0 := k0) (ec := ec) (cuts := cuts) (tm := tm g) (xs := xs d) (hp := mkR rs g) (R := fun o => o = ((entG yid ps rs mk fun d g => loopO (step d g) (T d g)).spec d g).bare) (hreg g) (by rw [mkR_len]; exact hk) (hlen d) (by
    rw [ht]
    refine loopO_soundR K (hst d g) hs ?_
    exact bare_of (hm d g b) (by show (mk d g (Option.getD _ default)).v = _; dsimp only; rw [hs]; rfl) (by show (mk d g (Option.getD _ default)).wr = _; dsimp only; rw [hs]; rfl))
  rw [← hargs d] at this
  exact this

theorem needO_rfl {α : Type} {a : α} {γ : Type} {o : Option γ} : needO (a = a) o = o := needO_true rfl
end
end Go.Abs
