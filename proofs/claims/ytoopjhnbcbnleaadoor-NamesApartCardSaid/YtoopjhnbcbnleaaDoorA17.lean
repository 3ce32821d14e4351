/-
Functions' contracts, and how a caller with regions of its own uses them.
-/
import Derived.Test.YtoopjhnbcbnleaaDoorA16
namespace Go.Abs
open Go.RowKit
set_option linter.unusedVariables false
set_option linter.unusedSimpArgs false
set_option linter.unnecessarySimpa false

/-- What function f comes to at such arguments, and with such regions. -/
structure FnOk (P : Program) (f : FuncId) (as : List AV) (hp : List Reg) (R : Out → Prop) : Prop where
  enters : f ≠ yid → ∀ (vs : Array Value) (w : World), (callFunc f vs).run P w = .ok (.enter f vs) w
  calls : ∀ F β w vs, Inv F β (fun k => k < hp.length) (rgOf hp) w → VRs F β w as vs → (∀ k ∈ refsL as, k < hp.length) →
    CallsT P f vs.toArray w fun e w' => ∃ out u F' β', R out ∧ e = .returned u ∧ Step F β (fun k => k < hp.length) (rgOf hp) w out.v out.wr F' β' w' u

theorem FnOk.mono {P : Program} {f : FuncId} {as : List AV} {hp : List Reg} {R R' : Out → Prop} (h : FnOk P f as hp R) (hr : ∀ o, R o → R' o) : FnOk P f as hp R' :=
  ⟨h.enters, fun F β w vs h1 h2 h3 => (h.calls F β w vs h1 h2 h3).mono fun e w' ⟨o, u, F', β', h4, h5⟩ => ⟨o, u, F', β', hr o h4, h5⟩⟩

theorem enters_of {P : Program} {f : FuncId} {fn : Func} {c : Code} (hf : P.funcs[f]? = some fn) (hn : (fn.name == "runtime.NumGoroutine") = false) (hb : fn.body = some c) (vs : Array Value) (w : World) :
    (callFunc f vs).run P w = .ok (.enter f vs) w := by
  have hn' : ¬ fn.name = "runtime.NumGoroutine" := by simpa using hn
  simp [callFunc, program, hf, hn', hb, Sem.run]

/-- Ends brought to one shape. -/
def endCut (m : Nat) : Option Cut → St → Option St
  | none, s => some s
  | some c, s => cutSt m c s

theorem endCut_sound {ds : List Deferred} {F0 : Nat → Prop} {S0 : Nat → Nat → Prop} {w0 : World} {β0 : Nat → Base} {m0 : Nat} {s : St} {F : Nat → Prop} {β : Nat → Base} {a : Act} {w : World} {ec : Option Cut} {s' : St} (h : endCut m0 ec s = some s') (hI : SR ds F0 S0 w0 β0 m0 s F β a w) : ∃ β', SR ds F0 S0 w0 β0 m0 s' F β' a w := by
  cases ec with
  | none => obtain rfl := Option.some.inj h; exact ⟨β, hI⟩
  | some c => exact cutSt_sound h hI

/-- What a function's end must say. -/
def finOf (P : Program) (fn : Func) (rts : List Rt) (ec : Option Cut) (hp : List Reg) (R : Out → Prop) (j : Option Code) (s : St) : Prop := match j with
  | some (.exit _) => False
  | _ => match endCut hp.length ec s with
    | some s' => match finish P fn rts ec.isSome hp s' with
      | some out => R out
      | none => False
    | none => False

theorem VRs.at0 {F : Nat → Prop} {β : Nat → Base} {w : World} : ∀ {as : List AV} {us : List Value}, VRs F β w as us → ∀ t, t < as.length → VR F β w (as.getD t .bad) (us.getD t undef)
  | [], us, _, t, ht => by simp at ht
  | a :: as, us, h, t, ht => by
    unfold VRs at h
    obtain ⟨u, r, rfl, h1, h2⟩ := h
    cases t with
    | zero => simpa using h1
    | succ t => simpa using VRs.at0 h2 t (by simpa using ht)

theorem refsL_at0 {k : Nat} : ∀ {as : List AV} {t : Nat}, k ∈ (as.getD t .bad).refs → k ∈ refsL as
  | [], t, h => by simp [AV.refs] at h
  | a :: as, 0, h => by rw [refsL, List.mem_append]; exact .inl (by simpa using h)
  | a :: as, t + 1, h => by rw [refsL, List.mem_append]; exact .inr (refsL_at0 (t := t) (by simpa using h))

-- ---------------------------------------------------------------- the marks among the deferred calls
theorem Inv.shut {F : Nat → Prop} {β : Nat → Base} {al : Nat → Prop} {rg : Nat → Reg} {w : World} (h : Inv F β al rg w) {D : Nat} {ds : Option (List Deferred)} (hD : w.heap[D]? = some (.deferred ds)) :
    Inv F β al rg (w.putObj D (.deferred none)) where
  ok := fun k => (h.ok k).keep (fun _ h => h) (fun b i _ v hv => by rw [(cell_putObj hD (fun _ _ _ h => by cases h) (fun _ _ _ h => by cases h) b i).1]; exact hv) (fun _ _ => rfl) (by rw [World.putObj_size]; exact Nat.le_refl _)
    fun b i hf => ⟨(cell_putObj hD (fun _ _ _ h => by cases h) (fun _ _ _ h => by cases h) b i).1, (cell_putObj hD (fun _ _ _ h => by cases h) (fun _ _ _ h => by cases h) b i).2,
      fun _ => World.putObj_heap_other fun e => fp_not (h.ok k) hD i (e ▸ hf)⟩
  dj := h.dj
  nf := h.nf
  ff := fun b hb => by rw [World.putObj_size]; exact h.ff b hb
  tk := h.tk
  sc := h.sc

theorem Fr.shut {F0 : Nat → Prop} {S0 : Nat → Nat → Prop} {w0 : World} {β0 : Nat → Base} {m0 : Nat} {F : Nat → Prop} {β : Nat → Base} {rg : Nat → Reg} {w : World} (h : Fr F0 S0 w0 β0 m0 F β rg w) {D : Nat} {ds : Option (List Deferred)} (hD : w.heap[D]? = some (.deferred ds))
    (hn : w0.heap.size ≤ D) : Fr F0 S0 w0 β0 m0 F β rg (w.putObj D (.deferred none)) where
  chg := h.chg.trans' (chg_putObj hD (fun _ _ _ h => by cases h) (fun _ _ _ h => by cases h)) fun b i ⟨e, _⟩ => .inr (by rw [e]; exact hn)
  f0 := h.f0
  f1 := h.f1
  own := h.own
  bt := h.bt

theorem marks_gone {P : Program} {F0 : Nat → Prop} {S0 : Nat → Nat → Prop} {w0 : World} {β0 : Nat → Base} {m0 : Nat} {s : St} {F : Nat → Prop} {β : Nat → Base} {a : Act} {cs : List Frame} : ∀ (ms : List Nat) (fr : Frame) (w : World), fr.mode = .returning → fr.defers = ms.map markOf →
    SR (ms.map markOf) F0 S0 w0 β0 m0 s F β a w → Marks w0 s β w ms → ∃ w', Steps P (lone fr cs w) (lone { fr with defers := [] } cs w') ∧ SR [] F0 S0 w0 β0 m0 s F β { a with defers := [] } w'
  | [], fr, w, hm, hd, hI, _ => by
    refine ⟨w, ?_, ⟨hI.inv, hI.fr, hI.size, rfl, hI.mle, hI.slot⟩⟩
    have : { fr with defers := [] } = fr := by cases fr; simp at hd; subst hd; rfl
    rw [this]; exact .refl P _
  | D :: ms, fr, w, hm, hd, hI, hM => by
    have hD := hM.row D (List.mem_cons_self ..)
    have h1 := step_collected (P := P) (cs := cs) (fr := fr) (ds := ms.map markOf) (calls := []) (by rw [hm]; simp) (d := markOf D) (r := D) (by rw [hd]; rfl) rfl (run_takeDeferred hD)
    have hnd := List.nodup_cons.1 hM.nodup
    have hsame : Same F w (w.putObj D (.deferred none)) := fun b i _ v hv => by
      rw [(cell_putObj hD (fun _ _ _ h => by cases h) (fun _ _ _ h => by cases h) b i).1]; exact hv
    obtain ⟨w', h2, h3⟩ := marks_gone (P := P) (cs := cs) (a := { a with defers := ms.map markOf }) ms { fr with defers := [] ++ ms.map markOf } (w.putObj D (.deferred none)) hm rfl
      ⟨hI.inv.shut hD, hI.fr.shut hD (hM.new D (List.mem_cons_self ..)), hI.size, rfl, hI.mle, fun t ht => ⟨(hI.slot t ht).1.mono (fun _ h => h) hsame fun _ _ => rfl, (hI.slot t ht).2⟩⟩
      ⟨fun D' h' => by rw [World.putObj_heap_other fun e => hnd.1 (by rw [← e]; exact h')]; exact hM.row D' (List.mem_cons_of_mem _ h'), fun D' h' => hM.new D' (List.mem_cons_of_mem _ h'), hnd.2⟩
    exact ⟨w', .head h1 h2, h3⟩

theorem FnOk.of_run {P : Program} {S : Sums} (hS : SumsOk P S) (hmix : P.follows .mixedOrders = true) {f : FuncId} {fn : Func} {c : Code} (hy : (f == yid) = false) (hf : P.funcs[f]? = some fn) (hn : (fn.name == "runtime.NumGoroutine") = false) (hb : fn.body = some c)
    {as : List AV} {hp : List Reg} {R : Out → Prop} {rts : List Rt} {ec : Option Cut} (hl : as.length ≤ fn.ntmps)
    (h : RunS P none hp.length (finOf P fn rts ec hp R) [.code c] (enter fn as hp)) : FnOk P f as hp R := by
  refine ⟨fun _ => enters_of hf hn hb, fun F β w vs hI hv hr => ?_⟩
  rw [CallsT.fn (by simpa using hy)]
  have hlen := hv.solidVR
  have hSR : SR [] F (fun b i => ∃ k, k < hp.length ∧ fp (β k) (rgOf hp k) b i) w β hp.length (enter fn as hp) F β { tmps := vs.toArray ++ Array.replicate (fn.ntmps - vs.toArray.size) undef, defers := [] } w := by
    refine ⟨hI, ⟨Chg.refl _ w, fun _ h => h, fun _ h => .inl h, fun k b i hf => .inl ⟨k, ?_, hf⟩, fun _ _ => rfl⟩, by simp [enter, hlen], rfl, Nat.le_refl _, fun t ht => ?_⟩
    · rcases Nat.lt_or_ge k hp.length with h | h
      · exact h
      · have e : rgOf hp k = .dead := by simp [rgOf, List.getElem?_eq_none h]
        have hf' : fp (β k) (rgOf hp k) b i := hf
        rw [e] at hf'; exact hf'.elim
    · simp only [enter] at ht ⊢
      rcases Nat.lt_or_ge t as.length with hlt | hge
      · have h1 := hv.at0 t hlt
        rw [show (as ++ List.replicate (fn.ntmps - as.length) AV.bad).getD t .bad = as.getD t .bad by simp [List.getElem?_append_left hlt]]
        have e : (vs.toArray ++ Array.replicate (fn.ntmps - vs.toArray.size) undef).getD t undef = vs.getD t undef := by
          have : t < vs.length := by omega
          simp [Array.getElem?_append, this]
        rw [e]
        exact ⟨h1, fun k hk => hr k (refsL_at0 hk)⟩
      · have : (as ++ List.replicate (fn.ntmps - as.length) AV.bad).getD t .bad = .bad := by
          rw [List.getD_eq_getElem?_getD, List.getElem?_append_right hge]
          simp [List.getElem?_replicate]
          split <;> rfl
        rw [this]
        exact ⟨by unfold VR; trivial, fun k hk => by simp [AV.refs] at hk⟩
  have hrun := h (fun k hk => by cases hk) [] F _ w β F β _ w hSR
  intro cs
  let b : Frame := { (default : Frame) with fn := f, kind := .normal, roundOf := none }
  have henter : Frame.enter P f vs.toArray .normal = b.atR { tmps := vs.toArray ++ Array.replicate (fn.ntmps - vs.toArray.size) undef, defers := [] } [.code c] := by
    simp [Frame.enter, Frame.atR, hf, hb, b]
  obtain ⟨j, a', w', todo, ⟨s', F', β', ms, hI', hM, hfin⟩, hlv, hs⟩ := hrun b cs rfl
  rw [← henter] at hs
  rw [List.append_nil] at hI'
  -- the frame is on its way out
  have hout : Steps P (lone (b.atR a' todo) cs w') (lone { b.atR a' todo with mode := .returning } cs w') := by
    unfold Leaves at hlv
    split at hlv
    · subst hlv; exact .one (stepR_end rfl)
    · obtain ⟨k, rfl⟩ := hlv; exact .one (stepR_ret rfl)
    · exact hfin.elim
    · exact hlv.elim
  obtain ⟨w2, hgone, hI2⟩ := marks_gone (P := P) (cs := cs) ms { b.atR a' todo with mode := .returning } w' rfl hI'.ds hI' hM
  have hfin2 : ∃ s2 out, endCut hp.length ec s' = some s2 ∧ finish P fn rts ec.isSome hp s2 = some out ∧ R out := by
    unfold finOf at hfin
    split at hfin
    · exact hfin.elim
    · split at hfin
      · rename_i s2 h2
        split at hfin
        · rename_i out h3; exact ⟨s2, out, h2, h3, hfin⟩
        · exact hfin.elim
      · exact hfin.elim
  · obtain ⟨s2, out, hec, hout2, hfin2⟩ := hfin2
    obtain ⟨β1, hI2⟩ := endCut_sound hec hI2
    obtain ⟨u, F2, β2, hres, hst⟩ := finish_sound hI2 (fun b i h => h) hout2
    exact ⟨.returned u, w2, _, ⟨out, u, F2, β2, hfin2, rfl, hst⟩, Steps.trans (Steps.trans hs hout) hgone, rfl, rfl, rfl, rfl, fn, hf, hres⟩

theorem FnOk.of_eval {P : Program} {S : Sums} (hS : SumsOk P S) (hmix : P.follows .mixedOrders = true) {f : FuncId} {fn : Func} {c : Code} (hy : (f == yid) = false) (hf : P.funcs[f]? = some fn) (hn : (fn.name == "runtime.NumGoroutine") = false) (hb : fn.body = some c)
    {as : List AV} {hp : List Reg} {R : Out → Prop} (rts : List Rt) (ec : Option Cut) (cuts : List (Nat × Cut)) (n : Nat) (hl : as.length ≤ fn.ntmps)
    (h : run P S none hp.length (finOf P fn rts ec hp R) (RunS P none hp.length (finOf P fn rts ec hp R)) cuts n [.code c] (enter fn as hp)) : FnOk P f as hp R :=
  FnOk.of_run hS hmix hy hf hn hb hl (run_sound hS hmix n _ _ h)

-- ---------------------------------------------------------------- rounds
/-- How a round has been left, as its loop's record tells it. -/
def codeOf : Option Code → Option Int
  | none => some 0
  | some .ret => some 1
  | some (.exit id) => some ((id : Int) + 2)
  | _ => none

theorem jumpOf_code {j : Option Code} {c : Int} (h : codeOf j = some c) : jumpOf c = j ∧ c ≠ -1 ∧ (c = 0 ↔ j = none) := by
  unfold codeOf at h
  split at h
  · obtain rfl := Option.some.inj h; simp [jumpOf]
  · obtain rfl := Option.some.inj h; simp [jumpOf]
  · rename_i id
    obtain rfl := Option.some.inj h
    refine ⟨?_, by omega, by simp; omega⟩
    unfold jumpOf
    rw [if_neg (by omega), if_neg (by omega)]
    simp
  · cases h

/-- What a round's end must say: k0 its loop's region. -/
def finR (k0 : Nat) (ec : Option Cut) (hp : List Reg) (R : Out → Prop) (j : Option Code) (s : St) : Prop := match codeOf j, endCut hp.length ec s with
  | some c, some s => match rgOf s.hp k0 with
    | .loop L tm i => if i = -1 then match finishV [] (outerArrs hp s) hp { s with hp := s.hp.set k0 (.loop L tm c) } (.dat .bool (j.isNone : Bool)) with
      | some out => R out
      | none => False
      else False
    | _ => False
  | _, _ => False

/-- Yield's arguments, in the loop's parameters. -/
def setPs : List Tmp → List AV → List AV → List AV
  | t :: ts, a :: as, tm => setPs ts as (tm.set t a)
  | _, _, tm => tm

theorem setPs_VRs {F : Nat → Prop} {β : Nat → Base} {w : World} : ∀ {ts : List Tmp} {as : List AV} {us : List Value} {tm : List AV} {vs : Array Value}, VRs F β w as us → tm.length = vs.size →
    (∀ t, t < tm.length → VR F β w (tm.getD t .bad) (vs.getD t undef)) →
    (setPs ts as tm).length = ((ts.zip us).foldl (fun tmps (t, a) => tmps.setIfInBounds t a) vs).size ∧ ∀ t, t < (setPs ts as tm).length → VR F β w ((setPs ts as tm).getD t .bad) (((ts.zip us).foldl (fun tmps (t, a) => tmps.setIfInBounds t a) vs).getD t undef)
  | [], as, us, tm, vs, _, h2, h3 => by cases as <;> simp only [setPs, List.zip_nil_left, List.foldl_nil] <;> exact ⟨h2, h3⟩
  | t :: ts, [], us, tm, vs, h1, h2, h3 => by
    unfold VRs at h1; subst h1
    simp only [setPs, List.zip_nil_right, List.foldl_nil]; exact ⟨h2, h3⟩
  | t :: ts, a :: as, us, tm, vs, h1, h2, h3 => by
    unfold VRs at h1
    obtain ⟨u, r, rfl, h4, h5⟩ := h1
    simp only [setPs, List.zip_cons_cons, List.foldl_cons]
    refine setPs_VRs h5 (by simpa using h2) fun i hi => ?_
    simp only [List.length_set] at hi
    by_cases e : t = i
    · subst e
      have e1 : (tm.set t a).getD t .bad = a := by simp [hi]
      have e2 : (vs.setIfInBounds t u).getD t undef = u := by simp [Array.getD, ← h2, hi]
      rw [e1, e2]; exact h4
    · have e2 : (vs.setIfInBounds t u).getD i undef = vs.getD i undef := by
        simp only [Array.getD_eq_getD_getElem?]
        rw [Array.getElem?_setIfInBounds_ne e]
      rw [getD_set_ne' _ _ _ _ _ e, e2]; exact h3 i hi

theorem setPs_refs {k : Nat} : ∀ {ts : List Tmp} {as tm : List AV}, k ∈ refsL (setPs ts as tm) → k ∈ refsL as ∨ k ∈ refsL tm
  | [], as, tm, h => by cases as <;> exact .inr h
  | t :: ts, [], tm, h => .inr h
  | t :: ts, a :: as, tm, h => by
    rw [setPs] at h
    rw [refsL, List.mem_append]
    rcases setPs_refs h with h | h
    · exact .inl (.inr h)
    · obtain ⟨i, hi, h⟩ := refsL_of' h
      simp only [List.length_set] at hi
      by_cases e : t = i
      · subst e
        rw [show (tm.set t a).getD t .bad = a by simp [hi]] at h
        exact .inl (.inl h)
      · rw [getD_set_ne' _ _ _ _ _ e] at h
        exact .inr (refsL_at0 h)

theorem FnOk.of_round {P : Program} {S : Sums} {k0 : Nat} {L : LoopS} {tm xs : List AV} {hp : List Reg} {R : Out → Prop} {j0 : Int} (hreg : rgOf hp k0 = .loop L tm j0) (hk : k0 < hp.length) {ec : Option Cut} (hxl : xs.length = L.params.size)
    (h : RunS P (some k0) hp.length (finR k0 ec hp R) [.code L.assign, .beginRound, .code L.body] { tm := setPs L.params.toList xs tm, hp }) : FnOk P yid (.yld k0 :: xs) hp R := by
  refine ⟨fun h => absurd rfl h, fun F β w vs hI hv hr => ?_⟩
  unfold CallsT; rw [if_pos rfl]
  obtain ⟨u0, us, rfl, hu0, hus⟩ : ∃ u r, vs = u :: r ∧ VR F β w (.yld k0) u ∧ VRs F β w xs r := by unfold VRs at hv; exact hv
  unfold VR at hu0
  have hok := hI.ok k0
  rw [hreg] at hok
  obtain ⟨r, ts, hok⟩ := hok
  have hul := hus.solidVR
  refine ⟨(β k0).b, r, us, by rw [hu0], hok.row, by rw [hok.params]; omega, trivial, fun c cs _ => ?_⟩
  let tmps := (r.params.zip us.toArray).foldl (fun tmps (t, a) => tmps.setIfInBounds t a) r.tmps
  have etm : tmps = (L.params.toList.zip us).foldl (fun tmps (t, a) => tmps.setIfInBounds t a) ts.toArray := by
    simp only [tmps, hok.params, hok.tmps]
    rw [← Array.foldl_toList]
    simp
  have hpar := setPs_VRs (ts := L.params.toList) (tm := tm) (vs := ts.toArray) hus (by simpa using hok.vals.solidVR) fun t ht => by simpa using hok.vals.at0 t ht
  rw [← etm] at hpar
  have hSR : SR [] F (fun b i => ∃ k, k < hp.length ∧ fp (β k) (rgOf hp k) b i) w β hp.length { tm := setPs L.params.toList xs tm, hp } F β { tmps, defers := [] } w := by
    refine ⟨hI, ⟨Chg.refl _ w, fun _ h => h, fun _ h => .inl h, fun k b i hf => .inl ⟨k, ?_, hf⟩, fun _ _ => rfl⟩, hpar.1.symm, rfl, Nat.le_refl _, fun t ht => ⟨hpar.2 t ht, fun k hk => ?_⟩⟩
    · rcases Nat.lt_or_ge k hp.length with h | h
      · exact h
      · have e : rgOf hp k = .dead := by simp [rgOf, List.getElem?_eq_none h]
        have hf' : fp (β k) (rgOf hp k) b i := hf
        rw [e] at hf'; exact hf'.elim
    · rcases setPs_refs (refsL_at0 hk) with h | h
      · exact hr k (by rw [refsL, List.mem_append]; exact .inr h)
      · exact hI.sc k0 k (by rw [hreg]; exact h)
  have hrun := h (fun k e => by cases e; exact hk) [] F _ w β F β _ w hSR
  let b : Frame := { (default : Frame) with fn := r.fn, kind := .normal, roundOf := some (β k0).b }
  have hb0 : Frame.round (β k0).b r.fn tmps r.assign r.body .normal = b.atR { tmps, defers := [] } [.code L.assign, .beginRound, .code L.body] := by
    simp [Frame.round, Frame.atR, b, hok.assign, hok.body]
  obtain ⟨j, a', w', todo, ⟨s', F', β', ms, hI', hM, hfin⟩, hlv, hs⟩ := hrun b (c :: cs) rfl
  rw [← hb0] at hs
  unfold finR at hfin
  split at hfin
  rotate_left
  · exact hfin.elim
  rename_i cj s2 hcj hec
  obtain ⟨β1, hI'⟩ := endCut_sound hec hI'
  split at hfin
  rotate_left
  · exact hfin.elim
  rename_i L2 tm2 i2 hreg2
  split at hfin
  rotate_left
  · exact hfin.elim
  rename_i hi2
  subst hi2
  split at hfin
  rotate_left
  · exact hfin.elim
  rename_i out hout
  have hbt : β1 k0 = β k0 := hI'.fr.bt k0 hk
  have hok2 := hI'.inv.ok k0
  rw [hreg2] at hok2
  obtain ⟨r2, ts2, hok2⟩ := hok2
  obtain ⟨hjump, hne, hz⟩ := jumpOf_code hcj
  let w2 : World := w'.putObj (β1 k0).b (.loop { r2 with state := if j.isNone then .ready else .done, pending := j })
  have hend : (Instr.endRound (β k0).b j).run P w' = .ok (.bool j.isNone) w2 := by
    rw [← hbt]; exact run_endRound j hok2.row
  have hsteps : Steps P (lone (b.atR a' todo) (c :: cs) w') (lone (c.finish (.bool j.isNone)) cs w2) := by
    unfold Leaves at hlv
    split at hlv
    · subst hlv; exact .one (stepR_round_end rfl rfl hend)
    · obtain ⟨k, rfl⟩ := hlv; exact .one (stepR_round_ret rfl rfl hend)
    · obtain ⟨k, rfl, hx⟩ := hlv; exact .one (stepR_round_exit rfl rfl hx hend)
    · exact hlv.elim
  have hc : Chg (fp (β1 k0) (rgOf s2.hp k0)) w' w2 := by
    rw [hreg2]; exact chg_putObj hok2.row (fun _ _ _ h => by cases h) (fun _ _ _ h => by cases h)
  have hsame : Same F' w' w2 := hI'.inv.same hc fun b i h => ⟨k0, h⟩
  have hkl : k0 < s2.hp.length := Nat.lt_of_lt_of_le hk hI'.mle
  have hI2 := hI'.turn hkl hc (r := .loop L2 tm2 cj) ⟨_, ts2, loop_turn hok2 hsame rfl rfl rfl rfl (fun h => absurd h hne) fun _ => ⟨by
      cases j with
      | none => simp [hz.2 rfl]
      | some x => simp [show cj ≠ 0 from fun h => by have := hz.1 h; cases this], hjump.symm⟩⟩
    (fun b i h => by rw [hreg2]; exact h) fun i hi => hI'.inv.sc k0 i (by rw [hreg2]; exact hi)
  obtain ⟨F2, β2, hst⟩ := finishV_sound hI2 (fun b i h => h) (mk_bool (j.isNone)) hout
  exact ⟨.returned (.bool j.isNone), w2, ⟨out, _, F2, β2, hfin, rfl, hst⟩, stepsIn_wide.2 (Steps.trans hs hsteps)⟩

-- ---------------------------------------------------------------- the caller's view
abbrev Loc := FuncId → List AV → List Reg → Option Out

/-- An answer without what it takes for granted. -/
def Out.bare (o : Out) : Out := { v := o.v, wr := o.wr }

structure LocOk (P : Program) (L : Loc) : Prop where
  ok : ∀ f as hp out, L f as hp = some out → (∀ p ∈ out.ob, p) → FnOk P f as hp fun o => o = out.bare
  enters : ∀ f as hp out, L f as hp = some out → f ≠ yid → ∀ (vs : Array Value) (w : World), (callFunc f vs).run P w = .ok (.enter f vs) w

def backOf (ks : List Nat) (nk : Nat) (j : Nat) : Nat := match ks[j]? with
  | some k => k
  | none => nk + (j - ks.length)

/-- Functions' answers, for a caller whose regions are numbered otherwise. -/
def mkS (L : Loc) : Sums := fun f as rg nk =>
  let ks := reach 64 rg (refsL as) []
  if distinct ks && (refsL as).all (fun k => ks.contains k) && ks.all (fun k => ((refsL as).contains k || (rg k).live) && (rg k).refs.all fun j => ks.contains j) then
    match L f (renL (fun k => posOf k ks) as) (ks.map fun k => (rg k).ren fun k => posOf k ks) with
    | some out => if out.wr.all (fun p => decide (p.1 < ks.length + gap)) then
        some { v := out.v.ren (backOf ks nk), wr := out.wr.map fun p => (backOf ks nk p.1, p.2.ren (backOf ks nk)), ob := out.ob }
      else none
    | none => none
  else none

theorem backOf_pos {ks : List Nat} {nk k : Nat} (h : k ∈ ks) : backOf ks nk (posOf k ks) = k := by
  unfold backOf; rw [posOf_get h]

theorem mkS_ok {P : Program} {L : Loc} (hL : LocOk P L) : SumsOk P (mkS L) := by
  constructor
  · intro f as rg nk out h
    unfold mkS at h
    dsimp only at h
    split at h
    · split at h
      · rename_i o ho
        exact hL.enters f _ _ o ho
      · cases h
    · cases h
  · intro f as rgK nk out h hob F β al rg w vs hI hsub hn hr hv
    unfold mkS at h
    dsimp only at h
    split at h
    · rename_i hc
      generalize reach 64 rgK (refsL as) [] = ks at *
      simp only [Bool.and_eq_true, List.all_eq_true, Bool.or_eq_true, List.contains_eq_mem, decide_eq_true_eq] at hc
      obtain ⟨⟨hdis, hin⟩, hclosed⟩ := hc
      split at h
      · rename_i o ho
        split at h
        · rename_i hkeys
          obtain rfl := Option.some.inj h
          simp only [List.all_eq_true, decide_eq_true_eq] at hkeys
          let ρ : Nat → Nat := fun k => posOf k ks
          let τ : Nat → Nat := backOf ks nk
          let m := ks.length
          let lhp := ks.map fun k => (rgK k).ren ρ
          have hlen : lhp.length = m := by simp [lhp, m]
          have τρ : ∀ k ∈ ks, τ (ρ k) = k := fun k hk => backOf_pos hk
          have ρlt : ∀ k ∈ ks, ρ k < m := fun k hk => (List.getElem?_eq_some_iff.1 (posOf_get hk)).1
          have τin : ∀ j, j < m → ks[j]? = some (τ j) ∧ τ j ∈ ks := fun j hj => by
            have e : ks[j]? = some ks[j] := List.getElem?_eq_getElem hj
            have : τ j = ks[j] := by simp [τ, backOf, e]
            rw [this]; exact ⟨e, List.getElem_mem hj⟩
          have τnew : ∀ j, m ≤ j → τ j = nk + (j - m) := fun j hj => by
            simp only [τ, backOf]; rw [List.getElem?_eq_none hj]
          have hal : ∀ k ∈ ks, al k := fun k hk => by
            rcases (hclosed k hk).1 with h | h
            · exact hr k h
            · refine hI.tk k ?_
              have hne : rgK k ≠ .dead := fun e => by rw [e] at h; cases h
              rw [← hsub k hne]; exact hne
          have hlrg : ∀ j, j < m → rgOf lhp j = (rgK (τ j)).ren ρ := fun j hj => by
            have := (τin j hj).1
            simp [rgOf, lhp, this]
          have hlrg' : ∀ j, m ≤ j → rgOf lhp j = .dead := fun j hj => by
            have : ks[j]? = none := List.getElem?_eq_none hj
            simp [rgOf, lhp, this]
          let βl : Nat → Base := fun j => β (τ j)
          have rgl : ∀ j, rgOf lhp j = .dead ∨ (j < m ∧ rg (τ j) = rgK (τ j) ∧ rgK (τ j) ≠ .dead ∧ rgOf lhp j = (rg (τ j)).ren ρ) := fun j => by
            rcases Nat.lt_or_ge j m with hj | hj
            · rw [hlrg j hj]
              by_cases hd : rgK (τ j) = .dead
              · left; rw [hd]; rfl
              · right; exact ⟨hj, (hsub _ hd).symm, hd, by rw [hsub _ hd]⟩
            · exact .inl (hlrg' j hj)
          have fpl : ∀ j b i, fp (βl j) (rgOf lhp j) b i → j < m ∧ fp (β (τ j)) (rg (τ j)) b i := fun j b i hf => by
            rcases rgl j with e | ⟨h1, h2, h3, h4⟩
            · rw [e] at hf; exact hf.elim
            · rw [h4, fp_ren] at hf; exact ⟨h1, hf⟩
          have hIl : Inv F βl (fun k => k < lhp.length) (rgOf lhp) w := by
            refine hI.pull (src := fun k j => k < m ∧ τ k = j) (fun j => ?_) (fun k k' j h1 h2 => ?_) (fun k hk => ?_) fun i j hj => ?_
            · rcases rgl j with e | ⟨h1, h2, h3, h4⟩
              · exact .inl e
              · right
                refine ⟨τ j, ⟨h1, rfl⟩, ?_, fun b i hf => (fpl j b i hf).2⟩
                rw [h4, RegOk.ren]
                refine (hI.ok (τ j)).keep (fun _ h => h) (fun _ _ _ _ h => h) (fun i hi => ?_) (Nat.le_refl _) fun _ _ _ => ⟨rfl, rfl, fun _ => rfl⟩
                rw [h2] at hi
                show β (τ (ρ i)) = β i
                rw [τρ i ((hclosed (τ j) (τin j h1).2).2 i hi)]
            · have e1 := (τin k h1.1).1; have e2 := (τin k' h2.1).1
              rw [h1.2] at e1; rw [h2.2] at e2
              exact distinct_inj hdis e1 e2
            · rcases rgl k with e | ⟨h1, _⟩
              · exact absurd e hk
              · rw [hlen]; exact h1
            · rcases rgl i with e | ⟨h1, h2, h3, h4⟩
              · rw [e] at hj; simp [Reg.refs] at hj
              · rw [h4, Reg.ren_refs] at hj
                obtain ⟨i', hi', rfl⟩ := hj
                rw [h2] at hi'
                rw [hlen]
                exact ρlt i' ((hclosed (τ i) (τin i h1).2).2 i' hi')
          have hvl : VRs F βl w (renL ρ as) vs := VRs.ren.2 (hv.mono (fun _ h => h) (fun _ _ _ _ h => h) fun k hk => by
            show β (τ (ρ k)) = β k
            rw [τρ k (hin k hk)])
          have hrl : ∀ k ∈ refsL (renL ρ as), k < lhp.length := fun k hk => by
            rw [renL_refs] at hk
            obtain ⟨j, hj, rfl⟩ := hk
            rw [hlen]; exact ρlt j (hin j hj)
          refine ((hL.ok f _ _ o ho hob).calls F βl w vs hIl hvl hrl).mono ?_
          rintro e w' ⟨oo, u, F', βl', rfl, he, hst⟩
          subst he
          simp only [Out.bare] at hst
          -- the caller's places
          let β2 : Nat → Base := fun k => if nk ≤ k ∧ k < nk + gap then βl' (m + (k - nk)) else β k
          have old : ∀ k, al k → β2 k = β k := fun k hk => by
            simp only [β2]; rw [if_neg]; exact fun ⟨h1, h2⟩ => hn k h1 h2 hk
          have okj : ∀ j, (j < lhp.length ∨ j ∈ o.wr.map (·.1)) → j < m + gap := fun j hj => by
            rcases hj with hj | hj
            · rw [hlen] at hj; omega
            · obtain ⟨p, hp, rfl⟩ := List.mem_map.1 hj
              exact hkeys p hp
          have β2τ : ∀ j, j < m + gap → β2 (τ j) = βl' j := fun j hj => by
            rcases Nat.lt_or_ge j m with h | h
            · rw [old _ (hal _ (τin j h).2), hst.bt j (by rw [hlen]; exact h)]
            · rw [τnew j h]
              simp only [β2]
              rw [if_pos ⟨by omega, by omega⟩]
              congr 1; omega
          have τinj : ∀ i j, i < m + gap → j < m + gap → τ i = τ j → i = j := fun i j hi hj e => by
            rcases Nat.lt_or_ge i m with h1 | h1 <;> rcases Nat.lt_or_ge j m with h2 | h2
            · have e1 := (τin i h1).1; have e2 := (τin j h2).1
              rw [e] at e1; exact distinct_inj hdis e1 e2
            · exfalso
              have := hal _ (τin i h1).2
              rw [e, τnew j h2] at this
              exact hn _ (by omega) (by omega) this
            · exfalso
              have := hal _ (τin j h2).2
              rw [← e, τnew i h1] at this
              exact hn _ (by omega) (by omega) this
            · rw [τnew i h1, τnew j h2] at e; omega
          have hwk : (o.wr.map fun p => (τ p.1, p.2.ren τ)).map (·.1) = (o.wr.map (·.1)).map τ := by rw [List.map_map, List.map_map]; rfl
          have hset : ∀ j, j < m + gap → setAll rg (o.wr.map fun p => (τ p.1, p.2.ren τ)) (τ j) = if j ∈ o.wr.map (·.1) then (setAll (rgOf lhp) o.wr j).ren τ else rg (τ j) := fun j hj => by
            have key : ∀ (wr : List (Nat × Reg)), (∀ p ∈ wr, p.1 < m + gap) → wrAt (wr.map fun p => (τ p.1, p.2.ren τ)) (τ j) = (wrAt wr j).map (Reg.ren τ) := by
              intro wr
              induction wr with
              | nil => intro _; rfl
              | cons p ps ih =>
                intro hp
                rw [List.map_cons, wrAt, wrAt, ih fun q hq => hp q (List.mem_cons_of_mem _ hq)]
                cases hw : wrAt ps j with
                | some x => rfl
                | none =>
                  simp only [Option.map_none]
                  by_cases e : p.1 = j
                  · rw [if_pos e, if_pos (by rw [e])]; rfl
                  · rw [if_neg e, if_neg fun e' => e (τinj _ _ (hp p (List.mem_cons_self ..)) hj e')]; rfl
            rw [setAll_at, setAll_at, key _ hkeys]
            split
            · rename_i hm
              have := wrAt_mem.2 hm
              cases hw : wrAt o.wr j with
              | none => exact absurd hw this
              | some x => rfl
            · rename_i hm
              cases hw : wrAt o.wr j with
              | none => rfl
              | some x => exact absurd (wrAt_mem.1 (by rw [hw]; simp)) hm
          have hoff : ∀ k, k ∉ (o.wr.map (·.1)).map τ → setAll rg (o.wr.map fun p => (τ p.1, p.2.ren τ)) k = rg k := fun k hk => by
            rw [setAll_at]
            cases hw : wrAt (o.wr.map fun p => (τ p.1, p.2.ren τ)) k with
            | none => rfl
            | some r => exact absurd (hwk ▸ wrAt_mem.1 (by rw [hw]; simp)) hk
          have hlset : ∀ j, j ∉ o.wr.map (·.1) → setAll (rgOf lhp) o.wr j = rgOf lhp j := fun j hj => by
            rw [setAll_at]
            cases hw : wrAt o.wr j with
            | none => rfl
            | some r => exact absurd (wrAt_mem.1 (by rw [hw]; simp)) hj
          have chg : Chg (fun b i => ∃ j, j ∈ o.wr.map (·.1) ∧ fp (βl j) (rgOf lhp j) b i) w w' := hst.chg
          have same : Same F w w' := hI.same chg fun b i ⟨j, _, hf⟩ => ⟨τ j, (fpl j b i hf).2⟩
          have hfp2 : ∀ k b i, fp (β2 k) (setAll rg (o.wr.map fun p => (τ p.1, p.2.ren τ)) k) b i → (∃ j, j ∈ o.wr.map (·.1) ∧ τ j = k ∧ j < m + gap ∧ fp (βl' j) (setAll (rgOf lhp) o.wr j) b i) ∨
              (k ∉ (o.wr.map (·.1)).map τ ∧ fp (β k) (rg k) b i) := fun k b i hf => by
            by_cases hk : k ∈ (o.wr.map (·.1)).map τ
            · left
              obtain ⟨j, hj, rfl⟩ := List.mem_map.1 hk
              have hjg := okj j (.inr hj)
              rw [hset j hjg, if_pos hj, fp_ren, β2τ j hjg] at hf
              exact ⟨j, hj, rfl, hjg, hf⟩
            · right
              rw [hoff k hk] at hf
              have hak : al k := hI.tk k fun e => by rw [e] at hf; exact hf
              rw [old k hak] at hf
              exact ⟨hk, hf⟩
          -- cells of the call's own regions lie in the caller's, or are new
          have owl : ∀ j b i, fp (βl' j) (setAll (rgOf lhp) o.wr j) b i → (∃ j', j' < m ∧ fp (β (τ j')) (rg (τ j')) b i ∧ fp (βl j') (rgOf lhp j') b i) ∨ w.heap.size ≤ b := fun j b i hf => by
            rcases hst.own j b i hf with ⟨j', h⟩ | h
            · exact .inl ⟨j', (fpl j' b i h).1, (fpl j' b i h).2, h⟩
            · exact .inr h
          refine ⟨u, F', β2, rfl, hst.f, fun b hb => ?_, old, ?_, ?_, ?_, fun k hk => ?_, fun k b i hf => ?_⟩
          · rcases hst.nf b hb with h | ⟨j, i, h⟩ | h
            · exact .inl h
            · exact .inr (.inl ⟨τ j, i, (fpl j b i h).2⟩)
            · exact .inr (.inr h)
          · exact VR.ren.2 (hst.val.mono (fun _ h => h) (fun _ _ _ _ h => h) fun j hj => β2τ j (okj j (hst.rf j hj)))
          · have lsame : ∀ j b i, j ∉ o.wr.map (·.1) → fp (βl j) (rgOf lhp j) b i → fp (βl' j) (setAll (rgOf lhp) o.wr j) = fp (β (τ j)) (rg (τ j)) := fun j b i hj hf => by
              rw [hlset j hj]
              rcases rgl j with e | ⟨h1, h2, h3, h4⟩
              · rw [e] at hf; exact hf.elim
              · rw [h4, fp_ren, hst.bt j (by rw [hlen]; exact h1)]
            -- a region of the call's and one that it has not turned
            have mixed : ∀ j k b i i', j ∈ o.wr.map (·.1) → k ∉ (o.wr.map (·.1)).map τ → fp (βl' j) (setAll (rgOf lhp) o.wr j) b i → fp (β k) (rg k) b i' → False := fun j k b i i' hj hk h1 h2 => by
              rcases owl j b i h1 with ⟨j', hj', h3, h4⟩ | h3
              · by_cases e : τ j' = k
                · have hj'' : j' ∉ o.wr.map (·.1) := fun h => hk (by rw [← e]; exact List.mem_map_of_mem h)
                  refine hst.inv.dj j j' b i i' (fun e' => hj'' (e' ▸ hj)) h1 ?_
                  rw [lsame j' b i hj'' h4, e]; exact h2
                · exact hI.dj (τ j') k b i i' e h3 h2
              · have := (hI.ok k).lt h2; omega
            refine ⟨fun k => ?_, fun k k' b i i' hne h1 h2 => ?_, fun k b i hf hF => ?_, hst.inv.ff, fun k hk => ?_, fun i j hj => ?_⟩
            · by_cases hk : k ∈ (o.wr.map (·.1)).map τ
              · obtain ⟨j, hj, rfl⟩ := List.mem_map.1 hk
                have hjg := okj j (.inr hj)
                rw [hset j hjg, if_pos hj, RegOk.ren, β2τ j hjg]
                exact (hst.inv.ok j).keep (fun _ h => h) (fun _ _ _ _ h => h) (fun i hi => β2τ i (okj i (hst.inv.sc j i hi))) (Nat.le_refl _) fun _ _ _ => ⟨rfl, rfl, fun _ => rfl⟩
              · rw [hoff k hk]
                by_cases hd : rg k = .dead
                · rw [hd]; trivial
                · rw [old k (hI.tk k hd)]
                  refine (hI.ok k).keep hst.f same (fun i hi => old i (hI.sc k i hi)) chg.size fun b i hf => ?_
                  have hl := (hI.ok k).lt hf
                  refine ⟨chg.cell b i hl fun ⟨j, hj, hf'⟩ => ?_, chg.frz b i hl, fun _ => chg.block b hl fun i' ⟨j, hj, hf'⟩ => ?_⟩
                  · exact hI.dj (τ j) k b i i (fun e => hk (by rw [← e]; exact List.mem_map_of_mem hj)) (fpl j b i hf').2 hf
                  · exact hI.dj (τ j) k b i' i (fun e => hk (by rw [← e]; exact List.mem_map_of_mem hj)) (fpl j b i' hf').2 hf
            · rcases hfp2 k b i h1 with ⟨j, g1, g2, g3, g4⟩ | ⟨g1, g2⟩
              · rcases hfp2 k' b i' h2 with ⟨j', e1, e2, e3, e4⟩ | ⟨e1, e2⟩
                · exact hst.inv.dj j j' b i i' (fun e => hne (by rw [← g2, ← e2, e])) g4 e4
                · exact mixed j k' b i i' g1 e1 g4 e2
              · rcases hfp2 k' b i' h2 with ⟨j', e1, e2, e3, e4⟩ | ⟨e1, e2⟩
                · exact mixed j' k b i' i e1 g1 e4 g2
                · exact hI.dj k k' b i i' hne g2 e2
            · rcases hfp2 k b i hf with ⟨j, g1, g2, g3, g4⟩ | ⟨g1, g2⟩
              · exact hst.inv.nf j b i g4 hF
              · rcases hst.nf b hF with h | ⟨j, i', h⟩ | h
                · exact hI.nf k b i g2 h
                · by_cases e : τ j = k
                  · have hj : j ∉ o.wr.map (·.1) := fun h => g1 (by rw [← e]; exact List.mem_map_of_mem h)
                    refine hst.inv.nf j b i ?_ hF
                    rw [lsame j b i' hj h, e]; exact g2
                  · exact hI.dj (τ j) k b i' i e (fpl j b i' h).2 g2
                · have := (hI.ok k).lt g2; omega
            · by_cases hm : k ∈ (o.wr.map (·.1)).map τ
              · exact .inr (by rw [hwk]; exact hm)
              · rw [hoff k hm] at hk; exact .inl (hI.tk k hk)
            · by_cases hm : i ∈ (o.wr.map (·.1)).map τ
              · obtain ⟨j0, hj0, rfl⟩ := List.mem_map.1 hm
                rw [hset j0 (okj j0 (.inr hj0)), if_pos hj0, Reg.ren_refs] at hj
                obtain ⟨i', hi', rfl⟩ := hj
                rcases hst.inv.sc j0 i' hi' with h | h
                · exact .inl (hal _ (τin i' (by rw [← hlen]; exact h)).2)
                · exact .inr (by rw [hwk]; exact List.mem_map_of_mem h)
              · rw [hoff i hm] at hj; exact .inl (hI.sc i j hj)
          · refine chg.mono fun b i _ ⟨j, hj, hf⟩ => ⟨τ j, ?_, (fpl j b i hf).2⟩
            rw [hwk]; exact List.mem_map_of_mem hj
          · have hk' : k ∈ (o.v.ren τ).refs := hk
            rw [ren_refs] at hk'
            obtain ⟨j, hj, rfl⟩ := hk'
            rcases hst.rf j hj with h | h
            · exact .inl (hal _ (τin j (by rw [← hlen]; exact h)).2)
            · exact .inr (by rw [hwk]; exact List.mem_map_of_mem h)
          · rcases hfp2 k b i hf with ⟨j, _, _, _, h⟩ | ⟨_, h⟩
            · rcases owl j b i h with ⟨j', _, h, _⟩ | h
              · exact .inl ⟨τ j', h⟩
              · exact .inr h
            · exact .inl ⟨k, h⟩
        · cases h
      · cases h
    · cases h
end Go.Abs
