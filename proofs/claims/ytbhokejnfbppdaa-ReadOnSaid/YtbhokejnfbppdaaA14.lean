/-
Code: an evaluator over what a frame has still to do. Loops end in cuts.
-/
import Derived.Test.YtbhokejnfbppdaaA13b
import Derived.Control
import Derived.Laws.Cover3
namespace Go.Abs
open Go.RowKit
set_option linter.unusedVariables false
set_option linter.unusedSimpArgs false
set_option linter.unnecessarySimpa false

def conj : List Prop → Prop → Prop
  | [], q => q
  | p :: ps, q => p ∧ conj ps q

theorem conj_all : ∀ {ps : List Prop} {q : Prop}, conj ps q → (∀ p ∈ ps, p) ∧ q
  | [], q, h => ⟨by simp, h⟩
  | p :: ps, q, h => by
    obtain ⟨h1, h2⟩ := conj_all h.2
    exact ⟨by rintro x hx; rcases List.mem_cons.1 hx with rfl | hx; exact h.1; exact h1 x hx, h2⟩

/-- The number of a piece of code's first region. -/
def firstReg : Code → Option Nat
  | .region id _ _ => some id
  | .seq a b => match firstReg a with
    | some i => some i
    | none => firstReg b
  | .cond _ a b => match firstReg a with
    | some i => some i
    | none => firstReg b
  | .block _ c | .loop c | .scope c => firstReg c
  | _ => none

/-- The frame runs on till it returns, and K holds there. -/
def RunW (P : Program) (K : Act → World → Prop) (todo : List Item) (a : Act) (w : World) : Prop :=
  ∀ (b : Frame) (cs : List Frame), ∃ a' w' todo', K a' w' ∧ Steps P (lone (b.at a todo) cs w) (lone { b.at a' todo' with mode := .returning } cs w')

def RunS (P : Program) (m0 : Nat) (fin : St → Prop) (todo : List Item) (s : St) : Prop := ∀ ds F0 S0 w0 β0 F β a w, SR ds F0 S0 w0 β0 m0 s F β a w → RunW P (fun a' w' => ∃ s' F' β', SR ds F0 S0 w0 β0 m0 s' F' β' a' w' ∧ fin s') todo a w

def cutOf (cuts : List (Nat × Cut)) (c : Code) : Option Cut := match firstReg c with
  | some i => (cuts.find? fun p => p.1 == i).map (·.2)
  | none => none

def atCut (m : Nat) (leaf : List Item → St → Prop) (cuts : List (Nat × Cut)) (c : Code) (todo : List Item) (s : St) : Prop := match cutOf cuts c with
  | some cut => match cutSt m cut s with
    | some s' => leaf todo s'
    | none => False
  | none => False

/-- A condition's slot, once its answer is known. -/
def known (s : St) (c : Operand) (b : Bool) : St := match c with
  | .tmp t => { s with tm := s.tm.set t (.dat .bool b) }
  | _ => s

/-- A region that asks alone whether a slice is nil: its slots, the value, whether it asks for 'not', and whether the slice is empty. -/
def nilRegion (P : Program) (tm : List AV) (hp : List Reg) (ops : List Oper) (draw : Bool) : Option (Tmp × Tmp × AV × Bool × Bool) :=
  match draw, ops with
  | false, [{ dst := some d1, op := .move (.tmp a), guard := none, .. }, { dst := some d2, op := .binOp op t (.tmp d1') (.const (.slice none 0 0)) _, guard := none, .. }] =>
    if d1 = d1' ∧ d1 < tm.length ∧ d2 < tm.length ∧ a < tm.length ∧ (op = .eql ∨ op = .neq) then
      match P.underlying t, (tm.getD a .bad).viewF (rgOf hp) with
      | some (.slice _), .dat (.list e) xs => some (d1, d2, .dat (.list e) xs, decide (op = .neq), (xs : List e.car).isEmpty)
      | some (.slice _), .full e xs => some (d1, d2, .full e xs, decide (op = .neq), (xs : List e.car).isEmpty)
      | _, _ => none
    else none
  | _, _ => none

def run (P : Program) (S : Sums) (m : Nat) (fin : St → Prop) (leaf : List Item → St → Prop) (cuts : List (Nat × Cut)) : Nat → List Item → St → Prop
  | 0, _, _ => False
  | n + 1, todo, s => match todo with
    | [] => fin s
    | .code c :: k => match c with
      | .skip => run P S m fin leaf cuts n k s
      | .label _ => run P S m fin leaf cuts n k s
      | .region _ ops draw => match evRegion P S ops draw s with
        | some (s', obs) => conj obs (run P S m fin leaf cuts n k s')
        | none => match nilRegion P s.tm s.hp ops.toList draw with
          | some (d1, d2, v, neg, e) => ∀ b : Bool, (b = true → e = true) → run P S m fin leaf cuts n k { s with tm := (s.tm.set d1 v).set d2 (.dat .bool (bif neg then !b else b)) }
          | none => match evRegion P S ops draw (frzSt m s) with
            | some (s', obs) => conj obs (run P S m fin leaf cuts n k s')
            | none => False
      | .seq a b => run P S m fin leaf cuts n (.code a :: .code b :: k) s
      | .cond c a b => match lookOp s.tm [] [] c with
        | .dat .bool x => bif x then run P S m fin leaf cuts n (.code a :: k) (known s c true) else run P S m fin leaf cuts n (.code b :: k) (known s c false)
        | _ => False
      | .block id c => run P S m fin leaf cuts n (.code c :: .inBlock id :: k) s
      | .loop c => atCut m leaf cuts c (.code c :: .inLoop c :: k) s
      | .exit id => match exitTo id k with
        | some k' => run P S m fin leaf cuts n k' s
        | none => False
      | .ret => fin s
      | _ => False
    | .inBlock _ :: k => run P S m fin leaf cuts n k s
    | .inLoop c :: k => atCut m leaf cuts c (.code c :: .inLoop c :: k) s
    | _ => False

section
variable {P : Program} {S : Sums} {m : Nat} {fin : St → Prop} {cuts : List (Nat × Cut)}

theorem RunW.step {K : Act → World → Prop} {todo todo' : List Item} {a : Act} {w : World} (h : ∀ (b : Frame) (cs : List Frame), step P (lone (b.at a todo) cs w) = .next (lone (b.at a todo') cs w)) (k : RunW P K todo' a w) : RunW P K todo a w :=
  fun b cs => let ⟨a', w', t, h1, h2⟩ := k b cs; ⟨a', w', t, h1, .head (h b cs) h2⟩

theorem RunW.of_wp {K : Act → World → Prop} {c : Code} {k : List Item} {a : Act} {w : World} (h : c.wp P (fun e a' w' => e = .normal ∧ RunW P K k a' w') a w) : RunW P K (.code c :: k) a w := by
  intro b cs
  obtain ⟨e, a', w', ⟨rfl, hq⟩, harr⟩ := h b k cs
  obtain ⟨a2, w2, t, h1, h2⟩ := hq b cs
  exact ⟨a2, w2, t, h1, Steps.trans harr h2⟩

theorem RunW.ret {K : Act → World → Prop} {k : List Item} {a : Act} {w : World} (h : K a w) : RunW P K (.code .ret :: k) a w :=
  fun b cs => ⟨a, w, _, h, .one step_ret⟩

theorem RunW.nil {K : Act → World → Prop} {a : Act} {w : World} (h : K a w) : RunW P K [] a w :=
  fun b cs => ⟨a, w, _, h, .one step_end⟩

theorem RunS.cut {c : Cut} {todo : List Item} {s s' : St} (h : cutSt m c s = some s') (k : RunS P m fin todo s') : RunS P m fin todo s := by
  intro ds F0 S0 w0 β0 F β a w hI
  obtain ⟨β', h'⟩ := cutSt_sound h hI
  exact k ds F0 S0 w0 β0 F β' a w h'

theorem atCut_sound {c : Code} {todo : List Item} {s : St} (h : atCut m (RunS P m fin) cuts c todo s) : RunS P m fin todo s := by
  unfold atCut at h
  split at h
  · split at h
    · rename_i s' hs
      exact RunS.cut hs h
    · exact h.elim
  · exact h.elim

theorem RunS.step {todo todo' : List Item} {s : St} (h : ∀ (a : Act) (w : World) (b : Frame) (cs : List Frame), Go.step P (lone (b.at a todo) cs w) = .next (lone (b.at a todo') cs w)) (k : RunS P m fin todo' s) : RunS P m fin todo s :=
  fun ds F0 S0 w0 β0 F β a w hI => RunW.step (h a w) (k ds F0 S0 w0 β0 F β a w hI)

theorem SR.known {s : St} {ds : List Deferred} {F0 : Nat → Prop} {S0 : Nat → Nat → Prop} {w0 : World} {β0 : Nat → Base} {m0 : Nat} {F : Nat → Prop} {β : Nat → Base} {a : Act} {w : World} (hI : SR ds F0 S0 w0 β0 m0 s F β a w) {c : Operand} {b : Bool} (h : a.eval c = .bool b) :
    SR ds F0 S0 w0 β0 m0 (Abs.known s c b) F β a w := by
  cases c with
  | tmp t =>
    refine ⟨hI.inv, hI.fr, by simpa [Abs.known] using hI.size, hI.ds, hI.mle, fun i hi => ?_⟩
    simp only [Abs.known, List.length_set] at hi ⊢
    by_cases e : t = i
    · subst e
      rw [show (s.tm.set t (AV.dat .bool b)).getD t .bad = .dat .bool b by simp [hi]]
      have h' : a.tmps.getD t undef = .bool b := h
      rw [h']
      exact ⟨mk_bool b, fun k hk => by simp [AV.refs] at hk⟩
    · rw [getD_set_ne' _ _ _ _ _ e]; exact hI.slot i hi
  | _ => exact hI

theorem SR.set {s : St} {ds : List Deferred} {F0 : Nat → Prop} {S0 : Nat → Nat → Prop} {w0 : World} {β0 : Nat → Base} {m0 : Nat} {F : Nat → Prop} {β : Nat → Base} {a : Act} {w : World} (hI : SR ds F0 S0 w0 β0 m0 s F β a w) {t : Nat} {v : AV} {u : Value}
    (hv : VR F β w v u) (hr : ∀ k ∈ v.refs, k < s.hp.length) : SR ds F0 S0 w0 β0 m0 { s with tm := s.tm.set t v } F β (a.put (some t) u) w := by
  refine ⟨hI.inv, hI.fr, by simpa [Act.put] using hI.size, hI.ds, hI.mle, fun i hi => ?_⟩
  simp only [List.length_set] at hi
  by_cases e : t = i
  · subst e
    have h1 : (s.tm.set t v).getD t .bad = v := by simp [hi]
    have h2 : (a.put (some t) u).tmps.getD t undef = u := by
      have := hI.size
      simp [Act.put, Array.getD, this, hi]
    rw [show ({ s with tm := s.tm.set t v } : St).tm = s.tm.set t v from rfl, h1, h2]
    exact ⟨hv, hr⟩
  · have h2 : (a.put (some t) u).tmps.getD i undef = a.tmps.getD i undef := by
      simp only [Act.put, Array.getD_eq_getD_getElem?]
      rw [Array.getElem?_setIfInBounds_ne e]
    rw [show ({ s with tm := s.tm.set t v } : St).tm = s.tm.set t v from rfl, getD_set_ne' _ _ _ _ _ e, h2]
    exact hI.slot i hi

theorem nilRegion_sound {s : St} {id : Nat} {ops : Array Oper} {draw : Bool} {d1 d2 : Tmp} {v : AV} {neg e : Bool} (h : nilRegion P s.tm s.hp ops.toList draw = some (d1, d2, v, neg, e))
    {ds : List Deferred} {F0 : Nat → Prop} {S0 : Nat → Nat → Prop} {w0 : World} {β0 : Nat → Base} {m0 : Nat} {F : Nat → Prop} {β : Nat → Base} {a : Act} {w : World} (hI : SR ds F0 S0 w0 β0 m0 s F β a w) {Q : Exit → Act → World → Prop}
    (hQ : ∀ b : Bool, (b = true → e = true) → ∀ a', SR ds F0 S0 w0 β0 m0 { s with tm := (s.tm.set d1 v).set d2 (.dat .bool (bif neg then !b else b)) } F β a' w → Q .normal a' w) : (Code.region id ops draw).wp P Q a w := by
  unfold nilRegion at h
  split at h
  · rename_i d1' ap ty1 ps1 af1 d2' op t d1'' y ty2 ps2 af2 hops
    split at h
    · rename_i hc
      obtain ⟨rfl, hl1, hl2, hl3, hop⟩ := hc
      -- the value that is asked
      have key : ∀ (v' : AV) (e' : Bool), (s.tm.getD ap .bad).viewF (rgOf s.hp) = v' → (∀ k ∈ v'.refs, k < s.hp.length) → (∀ u, VR F β w v' u → ∃ A n c, u = .slice A n c ∧ (A = none → e' = true)) → (∃ el, P.underlying t = some (.slice el)) →
          (∀ b : Bool, (b = true → e' = true) → ∀ a', SR ds F0 S0 w0 β0 m0 { s with tm := (s.tm.set d1' v').set d2' (.dat .bool (bif decide (op = .neq) then !b else b)) } F β a' w → Q .normal a' w) →
          (Code.region id ops false).wp P Q a w := by
        intro v' e' hv' hr' hs' hel hQ'
        obtain ⟨el, hel⟩ := hel
        have hva : VR F β w v' (a.tmps.getD ap undef) := by
          rw [← hv']
          exact (viewF_sound hI.inv (fun _ _ => rfl) (hI.slot ap hl3).1).1
        obtain ⟨A, n, c, hu, hA⟩ := hs' _ hva
        have hsize := hI.size
        refine wp_region ?_
        have ho : ops = #[{ dst := some d1', op := .move (.tmp ap), type := ty1, pos := ps1, after := af1, guard := none }, { dst := some d2', op := .binOp op t (.tmp d1') (.const (.slice none 0 0)) y, type := ty2, pos := ps2, after := af2, guard := none }] := by
          apply Array.ext'; simpa using hops
        subst ho
        have h1 := hI.set (t := d1') hva hr'
        have hb : ∃ b : Bool, (b = true → e' = true) ∧ ∀ w, (do eqGuard op t (.tmp d1') (.const (.slice none 0 0)) (.slice A n c) (.slice none 0 0); binOp op t (.slice A n c) (.slice none 0 0) : Sem Value).run P w = .ok (.bool (bif decide (op = .neq) then !b else b)) w := by
          have hg : ∀ w, (eqGuard op t (.tmp d1') (.const (.slice none 0 0)) (.slice A n c) (.slice none 0 0)).run P w = .ok () w := fun w => by
            unfold eqGuard; rcases hop with rfl | rfl <;> simp
          refine ⟨A.isNone, fun h => hA (by simpa using h), fun w => ?_⟩
          rw [Sem.run_bind, hg]
          rcases hop with rfl | rfl
          · have : (binOp .eql t (.slice A n c) (.slice none 0 0)).run P w = .ok (.bool A.isNone) w := by
              simp only [binOp]
              simp [run_equal_slice_nil w t el A n c hel]
            simpa [Result.andThen] using this
          · have := run_neq_slice_nil w t el A n c hel
            simpa [Result.andThen] using this
        obtain ⟨b, hbe, hrun⟩ := hb
        have e1 : (a.put (some d1') (a.tmps.getD ap undef)).eval (.tmp d1') = .slice A n c := by
          simp only [Act.eval, Act.put]
          simp [Array.getD, hsize, hl1, ← hu]
        have h2 := h1.set (t := d2') (v := .dat .bool (bif decide (op = .neq) then !b else b)) (u := .bool (bif decide (op = .neq) then !b else b)) (mk_bool _) (fun k hk => by simp [AV.refs] at hk)
        show wpOps P _ Q [0, 1] a w
        simp only [wpOps, List.getElem?_toArray, List.getElem?_cons_zero, List.getElem?_cons_succ, Region.wanted, if_true]
        refine Or.inl (wp_val (u := a.tmps.getD ap undef) (w' := w) (by simp [execOp, Act.eval]) ?_)
        simp only [wpOps, List.getElem?_toArray, List.getElem?_cons_zero, List.getElem?_cons_succ, Region.wanted, if_true]
        refine Or.inl (wp_val (u := .bool (bif decide (op = .neq) then !b else b)) (w' := w) ?_ ?_)
        · simp only [execOp]
          rw [e1]
          have := hrun w
          rw [show (a.put (some d1') (a.tmps.getD ap undef)).eval (.const (.slice none 0 0)) = .slice none 0 0 from rfl]
          rw [Sem.run_bind, this]; rfl
        · exact hQ' b hbe _ h2
      split at h
      · rename_i el et xs hel hv
        simp only [Option.some.injEq, Prod.mk.injEq] at h
        obtain ⟨rfl, rfl, rfl, rfl, rfl⟩ := h
        refine key _ _ hv (fun k hk => by simp [AV.refs] at hk) (fun u hu => ?_) ⟨el, hel⟩ hQ
        unfold VR at hu
        rw [if_neg (by simp [Ty.isAgg])] at hu
        obtain ⟨A, c, h1, _, _, h3⟩ := hu
        refine ⟨A, _, c, by simpa using h1, fun hA => ?_⟩
        rcases h3 with h3 | ⟨b, o, h3, _⟩
        · simp [h3]
        · rw [hA] at h3; cases h3
      · rename_i el et xs hel hv
        simp only [Option.some.injEq, Prod.mk.injEq] at h
        obtain ⟨rfl, rfl, rfl, rfl, rfl⟩ := h
        refine key _ _ hv (fun k hk => by simp [AV.refs] at hk) (fun u hu => ?_) ⟨el, hel⟩ hQ
        unfold VR at hu
        obtain ⟨A, rfl, hu⟩ := hu
        obtain ⟨A', c, h1, _, _, h3⟩ := hu
        simp only [List.cons.injEq, and_true, Value.slice.injEq] at h1
        obtain ⟨rfl, _, _⟩ := h1
        refine ⟨A, _, _, rfl, fun hA => ?_⟩
        rcases h3 with h3 | ⟨b, o, h3, _⟩
        · simp [h3]
        · rw [hA] at h3; cases h3
      · cases h
    · cases h
  · cases h

theorem run_sound (hS : SumsOk P S) (hmix : P.follows .mixedOrders = true) : ∀ (n : Nat) (todo : List Item) (s : St), run P S m fin (RunS P m fin) cuts n todo s → RunS P m fin todo s
  | 0, _, _, h => h.elim
  | n + 1, todo, s, h => by
    have ih := run_sound hS hmix n
    unfold run at h
    split at h
    · exact fun ds F0 S0 w0 β0 F β a w hI => RunW.nil ⟨s, F, β, hI, h⟩
    · rename_i c k
      split at h
      · exact RunS.step (fun a w b cs => step_skip) (ih _ _ h)
      · exact RunS.step (fun a w b cs => step_label) (ih _ _ h)
      · rename_i id ops draw
        split at h
        · rename_i s' obs hev
          obtain ⟨h1, h2⟩ := conj_all h
          intro ds F0 S0 w0 β0 F β a w hI
          refine RunW.of_wp (evRegion_sound hS hmix hev h1 hI fun a' w' F' β' hI' => ⟨rfl, ih _ _ h2 ds F0 S0 w0 β0 F' β' a' w' hI'⟩)
        · split at h
          · rename_i d1 d2 v neg e hnil
            exact fun ds F0 S0 w0 β0 F β a w hI => RunW.of_wp (nilRegion_sound hnil hI fun b hb a' hI' => ⟨rfl, ih _ _ (h b hb) ds F0 S0 w0 β0 F β a' w hI'⟩)
          · split at h
            · rename_i s' obs hev
              obtain ⟨h1, h2⟩ := conj_all h
              intro ds F0 S0 w0 β0 F β a w hI
              obtain ⟨F1, hI1⟩ := hI.freeze m
              exact RunW.of_wp (evRegion_sound hS hmix hev h1 hI1 fun a' w' F' β' hI' => ⟨rfl, ih _ _ h2 ds F0 S0 w0 β0 F' β' a' w' hI'⟩)
            · exact h.elim
      · exact RunS.step (fun a w b cs => step_seq) (ih _ _ h)
      · rename_i x c1 c2
        split at h
        · rename_i t hl
          intro ds F0 S0 w0 β0 F β a w hI
          have hc : a.eval x = .bool t := by
            cases x with
            | tmp i =>
              simp only [lookOp, lookTmp, findRec] at hl
              rcases Nat.lt_or_ge i s.tm.length with hi | hi
              · have := (hI.slot i hi).1
                rw [hl] at this
                exact bool_val this
              · rw [show s.tm.getD i .bad = .bad by simp [List.getElem?_eq_none hi]] at hl; cases hl
            | const v =>
              simp only [lookOp] at hl
              have := ofConst_sound (F := F) (β := β) (w := w) v
              rw [hl] at this
              exact bool_val this
            | func f => simp [lookOp] at hl
            | global g => simp [lookOp] at hl
          cases t with
          | true => exact RunW.step (fun b cs => step_cond hc) (ih _ _ h ds F0 S0 w0 β0 F β a w (hI.known hc))
          | false => exact RunW.step (fun b cs => step_cond hc) (ih _ _ h ds F0 S0 w0 β0 F β a w (hI.known hc))
        · exact h.elim
      · exact RunS.step (fun a w b cs => step_block) (ih _ _ h)
      · exact RunS.step (fun a w b cs => step_loop) (atCut_sound h)
      · split at h
        · rename_i k' hk
          exact RunS.step (fun a w b cs => step_exit hk) (ih _ _ h)
        · exact h.elim
      · exact fun ds F0 S0 w0 β0 F β a w hI => RunW.ret ⟨s, F, β, hI, h⟩
      · exact h.elim
    · exact RunS.step (fun a w b cs => step_inBlock) (ih _ _ h)
    · exact RunS.step (fun a w b cs => step_inLoop) (atCut_sound h)
    · exact h.elim
end
end Go.Abs
