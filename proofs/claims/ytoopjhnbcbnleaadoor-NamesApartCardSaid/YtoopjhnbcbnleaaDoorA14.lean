/-
Code: an evaluator over what a frame has still to do. Loops end in cuts.
-/
import Derived.Test.YtoopjhnbcbnleaaDoorA13b
import Derived.Control
import Derived.Laws.Cover3
namespace Go.Abs
open Go.RowKit
set_option linter.unusedVariables false
set_option linter.unusedSimpArgs false
set_option linter.unnecessarySimpa false

def conj : List Prop → Prop → Prop
  | [], q => q
  | p :: ps, q => p ∧ conj ps q

theorem conj_all : ∀ {ps : List Prop} {q : Prop}, conj ps q → (∀ p ∈ ps, p) ∧ q
  | [], q, h => ⟨by simp, h⟩
  | p :: ps, q, h => by
    obtain ⟨h1, h2⟩ := conj_all h.2
    exact ⟨by rintro x hx; rcases List.mem_cons.1 hx with rfl | hx; exact h.1; exact h1 x hx, h2⟩

/-- The number of a piece of code's first region. -/
def firstReg : Code → Option Nat
  | .region id _ _ => some id
  | .seq a b => match firstReg a with
    | some i => some i
    | none => firstReg b
  | .cond _ a b => match firstReg a with
    | some i => some i
    | none => firstReg b
  | .block _ c | .loop c | .scope c => firstReg c
  | _ => none

/-- How a frame is about to leave. -/
def Leaves : Option Code → List Item → Prop
  | none, todo => todo = []
  | some .ret, todo => ∃ k, todo = .code .ret :: k
  | some (.exit id), todo => ∃ k, todo = .code (.exit id) :: k ∧ exitTo id k = none
  | _, _ => False

/-- The frame runs on till it is about to leave, and K holds there. -/
def RunW (P : Program) (ro : Option Nat) (K : Option Code → Act → World → Prop) (todo : List Item) (a : Act) (w : World) : Prop :=
  ∀ (b : Frame) (cs : List Frame), b.roundOf = ro → ∃ j a' w' todo', K j a' w' ∧ Leaves j todo' ∧ Steps P (lone (b.atR a todo) cs w) (lone (b.atR a' todo') cs w')

/-- The mark of a block for deferred calls. -/
def markOf (D : Nat) : Deferred := { target := .collected D, args := #[] }

/-- Such blocks: empty, new since w0, no region's. -/
structure Marks (w0 : World) (s : St) (β : Nat → Base) (w : World) (ms : List Nat) : Prop where
  row : ∀ D ∈ ms, w.heap[D]? = some (.deferred (some []))
  new : ∀ D ∈ ms, w0.heap.size ≤ D
  nodup : ms.Nodup

/-- What holds where a frame is about to leave. -/
def AtEnd (fin : Option Code → St → Prop) (ds : List Deferred) (F0 : Nat → Prop) (S0 : Nat → Nat → Prop) (w0 : World) (β0 : Nat → Base) (m0 : Nat) (j : Option Code) (a' : Act) (w' : World) : Prop :=
  ∃ s' F' β' ms, SR (ms.map markOf ++ ds) F0 S0 w0 β0 m0 s' F' β' a' w' ∧ Marks w0 s' β' w' ms ∧ fin j s'

def RunS (P : Program) (rd : Option Nat) (m0 : Nat) (fin : Option Code → St → Prop) (todo : List Item) (s : St) : Prop :=
  (∀ k, rd = some k → k < m0) → ∀ ds F0 S0 w0 β0 F β a w, SR ds F0 S0 w0 β0 m0 s F β a w → RunW P (rd.map fun k => (β0 k).b) (AtEnd fin ds F0 S0 w0 β0 m0) todo a w

def cutOf (cuts : List (Nat × Cut)) (c : Code) : Option Cut := match firstReg c with
  | some i => (cuts.find? fun p => p.1 == i).map (·.2)
  | none => none

def atCut (m : Nat) (leaf : List Item → St → Prop) (cuts : List (Nat × Cut)) (c : Code) (todo : List Item) (s : St) : Prop := match cutOf cuts c with
  | some cut => match cutSt m cut s with
    | some s' => leaf todo s'
    | none => False
  | none => False

/-- A condition's slot, once its answer is known. -/
def known (s : St) (c : Operand) (b : Bool) : St := match c with
  | .tmp t => { s with tm := s.tm.set t (.dat .bool b) }
  | _ => s

/-- A region that asks alone whether a slice is nil: its slots, the value, whether it asks for 'not', and whether the slice is empty. -/
def nilRegion (P : Program) (tm : List AV) (hp : List Reg) (ops : List Oper) (draw : Bool) : Option (Tmp × Tmp × AV × Bool × Bool) :=
  match draw, ops with
  | false, [{ dst := some d1, op := .move (.tmp a), guard := none, .. }, { dst := some d2, op := .binOp op t (.tmp d1') (.const (.slice none 0 0)) _, guard := none, .. }] =>
    if d1 = d1' ∧ d1 < tm.length ∧ d2 < tm.length ∧ a < tm.length ∧ (op = .eql ∨ op = .neq) then
      match P.underlying t, (tm.getD a .bad).viewF (rgOf hp) with
      | some (.slice _), .dat (.list e) xs => some (d1, d2, .dat (.list e) xs, decide (op = .neq), (xs : List e.car).isEmpty)
      | some (.slice _), .full e xs => some (d1, d2, .full e xs, decide (op = .neq), (xs : List e.car).isEmpty)
      | _, _ => none
    else none
  | _, _ => none

/-- The slots that a text looks at. -/
def tmpsOf : Operand → List Nat
  | .tmp t => [t]
  | _ => []

def usedIn : Code → List Nat
  | .region _ ops _ => ops.toList.flatMap fun o => o.op.operands.toList.flatMap tmpsOf
  | .seq a b => usedIn a ++ usedIn b
  | .cond c a b => tmpsOf c ++ usedIn a ++ usedIn b
  | .block _ c | .loop c | .scope c => usedIn c
  | .rangeFunc f _ a b => tmpsOf f ++ usedIn a ++ usedIn b
  | _ => []

/-- The slots that are looked at, the others let go. -/
def trim (ks : List Nat) : Nat → List AV → List AV
  | _, [] => []
  | i, a :: as => (if ks.contains i then a else .bad) :: trim ks (i + 1) as

/-- The ways out of a round that its text has. -/
def exitsIn : Code → List Int
  | .seq a b => exitsIn a ++ exitsIn b
  | .cond _ a b => exitsIn a ++ exitsIn b
  | .block _ c | .loop c | .scope c => exitsIn c
  | .ret => [1]
  | .exit id => [(id : Int) + 2]
  | _ => []

def dedup : List Int → List Int
  | [] => []
  | x :: xs => if xs.contains x then dedup xs else x :: dedup xs

/-- A loop over a function: what is owed, the state behind it, how it was left. -/
def rfCall (S : Sums) (f : AV) (ps : Array Tmp) (assign body : Code) (s : St) : Option (List Prop × St × Int) :=
  match f with
  | .fn (.func g) first caps =>
    if g = yid then none else
    let kl := s.hp.length
    let hp1 := s.hp ++ [.loop ⟨ps, assign, body, (firstReg body).getD 0⟩ (trim (usedIn assign ++ usedIn body) 0 s.tm) 0]
    match evCallArgs S g (first ++ [.yld kl] ++ caps) (rgOf hp1) hp1.length with
    | some out =>
      if out.wr.all (fun p => decide (p.1 < hp1.length + gap)) then
        match rgOf (setRegs hp1 out.wr) kl with
        | .loop _ _ j => some (out.ob ++ [j ≠ -1], { tm := s.tm, hp := (setRegs hp1 out.wr).set kl .dead }, j)
        | _ => none
      else none
    | none => none
  | _ => none

/-- A cell's slice of which all is known, or that is empty, made an array of its own. -/
def thaw1 (s : St) (k o : Nat) (t : Ty) : St := match rgOf s.hp k with
  | .cells cs => match split 200 cs o with
    | some (p, .full t' xs :: r) => if t' = t then { s with hp := (s.hp ++ [Reg.arr t' xs]).set k (Reg.cells (p ++ AV.arr s.hp.length :: r)) } else s
    | some (p, .cst (.slice none 0 0) :: r) => { s with hp := (s.hp ++ [Reg.own t []]).set k (Reg.cells (p ++ AV.arr s.hp.length :: r)) }
    | some (p, .nul :: r) => { s with hp := (s.hp ++ [Reg.own t []]).set k (Reg.cells (p ++ AV.arr s.hp.length :: r)) }
    | _ => s
  | _ => s

def opsIn : Code → List Oper
  | .region _ ops _ => ops.toList
  | .seq a b => opsIn a ++ opsIn b
  | .cond _ a b => opsIn a ++ opsIn b
  | .block _ c | .loop c | .scope c => opsIn c
  | .rangeFunc _ _ a b => opsIn a ++ opsIn b
  | _ => []

def loadOf : List Oper → Tmp → Option Tmp
  | [], _ => none
  | o :: r, d => match o.dst, o.op with
    | some d', .load _ (.tmp a) => if d' = d then some a else loadOf r d
    | _, _ => loadOf r d

/-- Cells whose slices a text appends to. -/
def appCells (P : Program) (tm : List AV) (all : List Oper) : List Oper → List (Nat × Nat × Ty)
  | [] => []
  | o :: r => match o.op with
    | .call c => match c.callee, c.args.toList, c.argTypes.toList with
      | .builtin .append, .tmp d :: _, ty :: _ => match loadOf all d with
        | some a => match tm.getD a .bad, P.underlying ty with
          | .ref k o, some (.slice e) => match tyOf P 12 e with
            | some t => (k, o, t) :: appCells P tm all r
            | none => appCells P tm all r
          | _, _ => appCells P tm all r
        | none => appCells P tm all r
      | _, _, _ => appCells P tm all r
    | _ => appCells P tm all r

def thaw (s : St) : List (Nat × Nat × Ty) → St
  | [] => s
  | (k, o, t) :: l => thaw (thaw1 s k o t) l

def rfTry (P : Program) (S : Sums) (f : AV) (ps : Array Tmp) (assign body : Code) (s : St) : Option (List Prop × St × Int) :=
  match rfCall S f ps assign body s with
  | some x => some x
  | none => rfCall S f ps assign body (thaw s (appCells P s.tm (opsIn body) (opsIn body)))

def run (P : Program) (S : Sums) (rd : Option Nat) (m : Nat) (fin : Option Code → St → Prop) (leaf : List Item → St → Prop) (cuts : List (Nat × Cut)) : Nat → List Item → St → Prop
  | 0, _, _ => False
  | n + 1, todo, s => match todo with
    | [] => fin none s
    | .code c :: k => match c with
      | .skip => run P S rd m fin leaf cuts n k s
      | .label _ => run P S rd m fin leaf cuts n k s
      | .region _ ops draw => match evRegion P S ops draw s with
        | some (s', obs) => conj obs (run P S rd m fin leaf cuts n k s')
        | none => match nilRegion P s.tm s.hp ops.toList draw with
          | some (d1, d2, v, neg, e) => ∀ b : Bool, (b = true → e = true) → run P S rd m fin leaf cuts n k { s with tm := (s.tm.set d1 v).set d2 (.dat .bool (bif neg then !b else b)) }
          | none => match evRegion P S ops draw (frzSt m s) with
            | some (s', obs) => conj obs (run P S rd m fin leaf cuts n k s')
            | none => False
      | .seq a b => run P S rd m fin leaf cuts n (.code a :: .code b :: k) s
      | .cond c a b => match lookOp s.tm [] [] c with
        | .dat .bool x => bif x then run P S rd m fin leaf cuts n (.code a :: k) (known s c true) else run P S rd m fin leaf cuts n (.code b :: k) (known s c false)
        | _ => False
      | .block id c => run P S rd m fin leaf cuts n (.code c :: .inBlock id :: k) s
      | .loop c => atCut m leaf cuts c (.code c :: .inLoop c :: k) s
      | .exit id => match exitTo id k with
        | some k' => run P S rd m fin leaf cuts n k' s
        | none => fin (some (.exit id)) s
      | .ret => fin (some .ret) s
      | .rangeFunc f ps assign body => match rd with
        | some _ => False
        | none => match rfTry P S (lookOp s.tm [] [] f) ps assign body s with
          | some (obs, s', j) => conj obs ((dedup (exitsIn body)).foldr (fun c r => match jumpOf c with | some code => bif j == c then run P S rd m fin leaf cuts n (.code code :: k) s' else r | none => r) (j = 0 ∧ run P S rd m fin leaf cuts n k s'))
          | none => False
      | _ => False
    | .inBlock _ :: k => run P S rd m fin leaf cuts n k s
    | .inLoop c :: k => atCut m leaf cuts c (.code c :: .inLoop c :: k) s
    | .beginRound :: k => match rd with
      | some kl => match rgOf s.hp kl with
        | .loop L tm j => j = 0 ∧ run P S rd m fin leaf cuts n k { s with hp := s.hp.set kl (.loop L tm (-1)) }
        | _ => False
      | none => False
    | _ => False

section
variable {P : Program} {S : Sums} {rd : Option Nat} {m : Nat} {fin : Option Code → St → Prop} {cuts : List (Nat × Cut)}

theorem RunW.step {ro : Option Nat} {K : Option Code → Act → World → Prop} {todo todo' : List Item} {a a2 : Act} {w w2 : World} (h : ∀ (b : Frame) (cs : List Frame), b.roundOf = ro → Steps P (lone (b.atR a todo) cs w) (lone (b.atR a2 todo') cs w2)) (k : RunW P ro K todo' a2 w2) : RunW P ro K todo a w :=
  fun b cs hb => let ⟨j, a', w', t, h1, h2, h3⟩ := k b cs hb; ⟨j, a', w', t, h1, h2, Steps.trans (h b cs hb) h3⟩

theorem RunW.step1 {ro : Option Nat} {K : Option Code → Act → World → Prop} {todo todo' : List Item} {a : Act} {w : World} (h : ∀ (b : Frame) (cs : List Frame), Go.step P (lone (b.atR a todo) cs w) = .next (lone (b.atR a todo') cs w)) (k : RunW P ro K todo' a w) : RunW P ro K todo a w :=
  RunW.step (fun b cs _ => .one (h b cs)) k

theorem RunW.of_wp {ro : Option Nat} {K : Option Code → Act → World → Prop} {c : Code} {k : List Item} {a : Act} {w : World} (h : c.wpIn (FR ro) 0 P (fun e a' w' => e = .normal ∧ RunW P ro K k a' w') a w) : RunW P ro K (.code c :: k) a w := by
  intro b cs hb
  obtain ⟨e, a', w', ⟨rfl, hq⟩, harr⟩ := h b k cs hb trivial (fun _ h => by simp [FR, Fence.wide] at h)
  obtain ⟨j, a2, w2, t, h1, h2, h3⟩ := hq b cs hb
  exact ⟨j, a2, w2, t, h1, h2, Steps.trans (StepsIn.steps harr) h3⟩

theorem RunW.leave {ro : Option Nat} {K : Option Code → Act → World → Prop} {todo : List Item} {a : Act} {w : World} {j : Option Code} (h : K j a w) (hl : Leaves j todo) : RunW P ro K todo a w :=
  fun b cs _ => ⟨j, a, w, todo, h, hl, .refl P _⟩

theorem RunW.mono {ro : Option Nat} {K K' : Option Code → Act → World → Prop} {todo : List Item} {a : Act} {w : World} (h : RunW P ro K todo a w) (hk : ∀ j a w, K j a w → K' j a w) : RunW P ro K' todo a w :=
  fun b cs hb => let ⟨j, a', w', t, h1, h2, h3⟩ := h b cs hb; ⟨j, a', w', t, hk _ _ _ h1, h2, h3⟩

theorem AtEnd.now {ds : List Deferred} {F0 : Nat → Prop} {S0 : Nat → Nat → Prop} {w0 : World} {β0 : Nat → Base} {m0 : Nat} {s : St} {F : Nat → Prop} {β : Nat → Base} {a : Act} {w : World} {j : Option Code} (h : SR ds F0 S0 w0 β0 m0 s F β a w) (hf : fin j s) : AtEnd fin ds F0 S0 w0 β0 m0 j a w :=
  ⟨s, F, β, [], by simpa using h, ⟨by simp, by simp, List.nodup_nil⟩, hf⟩

theorem RunS.cut {c : Cut} {todo : List Item} {s s' : St} (h : cutSt m c s = some s') (k : RunS P rd m fin todo s') : RunS P rd m fin todo s := by
  intro hrd ds F0 S0 w0 β0 F β a w hI
  obtain ⟨β', h'⟩ := cutSt_sound h hI
  exact k hrd ds F0 S0 w0 β0 F β' a w h'

theorem atCut_sound {c : Code} {todo : List Item} {s : St} (h : atCut m (RunS P rd m fin) cuts c todo s) : RunS P rd m fin todo s := by
  unfold atCut at h
  split at h
  · split at h
    · rename_i s' hs
      exact RunS.cut hs h
    · exact h.elim
  · exact h.elim

theorem RunS.step {todo todo' : List Item} {s : St} (h : ∀ (a : Act) (w : World) (b : Frame) (cs : List Frame), Go.step P (lone (b.atR a todo) cs w) = .next (lone (b.atR a todo') cs w)) (k : RunS P rd m fin todo' s) : RunS P rd m fin todo s :=
  fun hrd ds F0 S0 w0 β0 F β a w hI => RunW.step1 (h a w) (k hrd ds F0 S0 w0 β0 F β a w hI)

theorem SR.known {s : St} {ds : List Deferred} {F0 : Nat → Prop} {S0 : Nat → Nat → Prop} {w0 : World} {β0 : Nat → Base} {m0 : Nat} {F : Nat → Prop} {β : Nat → Base} {a : Act} {w : World} (hI : SR ds F0 S0 w0 β0 m0 s F β a w) {c : Operand} {b : Bool} (h : a.eval c = .bool b) :
    SR ds F0 S0 w0 β0 m0 (Abs.known s c b) F β a w := by
  cases c with
  | tmp t =>
    refine ⟨hI.inv, hI.fr, by simpa [Abs.known] using hI.size, hI.ds, hI.mle, fun i hi => ?_⟩
    simp only [Abs.known, List.length_set] at hi ⊢
    by_cases e : t = i
    · subst e
      rw [show (s.tm.set t (AV.dat .bool b)).getD t .bad = .dat .bool b by simp [hi]]
      have h' : a.tmps.getD t undef = .bool b := h
      rw [h']
      exact ⟨mk_bool b, fun k hk => by simp [AV.refs] at hk⟩
    · rw [getD_set_ne' _ _ _ _ _ e]; exact hI.slot i hi
  | _ => exact hI

theorem SR.set {s : St} {ds : List Deferred} {F0 : Nat → Prop} {S0 : Nat → Nat → Prop} {w0 : World} {β0 : Nat → Base} {m0 : Nat} {F : Nat → Prop} {β : Nat → Base} {a : Act} {w : World} (hI : SR ds F0 S0 w0 β0 m0 s F β a w) {t : Nat} {v : AV} {u : Value}
    (hv : VR F β w v u) (hr : ∀ k ∈ v.refs, k < s.hp.length) : SR ds F0 S0 w0 β0 m0 { s with tm := s.tm.set t v } F β (a.put (some t) u) w := by
  refine ⟨hI.inv, hI.fr, by simpa [Act.put] using hI.size, hI.ds, hI.mle, fun i hi => ?_⟩
  simp only [List.length_set] at hi
  by_cases e : t = i
  · subst e
    have h1 : (s.tm.set t v).getD t .bad = v := by simp [hi]
    have h2 : (a.put (some t) u).tmps.getD t undef = u := by
      have := hI.size
      simp [Act.put, Array.getD, this, hi]
    rw [show ({ s with tm := s.tm.set t v } : St).tm = s.tm.set t v from rfl, h1, h2]
    exact ⟨hv, hr⟩
  · have h2 : (a.put (some t) u).tmps.getD i undef = a.tmps.getD i undef := by
      simp only [Act.put, Array.getD_eq_getD_getElem?]
      rw [Array.getElem?_setIfInBounds_ne e]
    rw [show ({ s with tm := s.tm.set t v } : St).tm = s.tm.set t v from rfl, getD_set_ne' _ _ _ _ _ e, h2]
    exact hI.slot i hi

theorem nilRegion_sound {ro : Option Nat} {s : St} {id : Nat} {ops : Array Oper} {draw : Bool} {d1 d2 : Tmp} {v : AV} {neg e : Bool} (h : nilRegion P s.tm s.hp ops.toList draw = some (d1, d2, v, neg, e))
    {ds : List Deferred} {F0 : Nat → Prop} {S0 : Nat → Nat → Prop} {w0 : World} {β0 : Nat → Base} {m0 : Nat} {F : Nat → Prop} {β : Nat → Base} {a : Act} {w : World} (hI : SR ds F0 S0 w0 β0 m0 s F β a w) {Q : Exit → Act → World → Prop}
    (hQ : ∀ b : Bool, (b = true → e = true) → ∀ a', SR ds F0 S0 w0 β0 m0 { s with tm := (s.tm.set d1 v).set d2 (.dat .bool (bif neg then !b else b)) } F β a' w → Q .normal a' w) : (Code.region id ops draw).wpIn (FR ro) 0 P Q a w := by
  unfold nilRegion at h
  split at h
  · rename_i d1' ap ty1 ps1 af1 d2' op t d1'' y ty2 ps2 af2 hops
    split at h
    · rename_i hc
      obtain ⟨rfl, hl1, hl2, hl3, hop⟩ := hc
      -- the value that is asked
      have key : ∀ (v' : AV) (e' : Bool), (s.tm.getD ap .bad).viewF (rgOf s.hp) = v' → (∀ k ∈ v'.refs, k < s.hp.length) → (∀ u, VR F β w v' u → ∃ A n c, u = .slice A n c ∧ (A = none → e' = true)) → (∃ el, P.underlying t = some (.slice el)) →
          (∀ b : Bool, (b = true → e' = true) → ∀ a', SR ds F0 S0 w0 β0 m0 { s with tm := (s.tm.set d1' v').set d2' (.dat .bool (bif decide (op = .neq) then !b else b)) } F β a' w → Q .normal a' w) →
          (Code.region id ops false).wpIn (FR ro) 0 P Q a w := by
        intro v' e' hv' hr' hs' hel hQ'
        obtain ⟨el, hel⟩ := hel
        have hva : VR F β w v' (a.tmps.getD ap undef) := by
          rw [← hv']
          exact (viewF_sound hI.inv (fun _ _ => rfl) (hI.slot ap hl3).1).1
        obtain ⟨A, n, c, hu, hA⟩ := hs' _ hva
        have hsize := hI.size
        refine wpIn_region ?_
        have ho : ops = #[{ dst := some d1', op := .move (.tmp ap), type := ty1, pos := ps1, after := af1, guard := none }, { dst := some d2', op := .binOp op t (.tmp d1') (.const (.slice none 0 0)) y, type := ty2, pos := ps2, after := af2, guard := none }] := by
          apply Array.ext'; simpa using hops
        subst ho
        have h1 := hI.set (t := d1') hva hr'
        have hb : ∃ b : Bool, (b = true → e' = true) ∧ ∀ w, (do eqGuard op t (.tmp d1') (.const (.slice none 0 0)) (.slice A n c) (.slice none 0 0); binOp op t (.slice A n c) (.slice none 0 0) : Sem Value).run P w = .ok (.bool (bif decide (op = .neq) then !b else b)) w := by
          have hg : ∀ w, (eqGuard op t (.tmp d1') (.const (.slice none 0 0)) (.slice A n c) (.slice none 0 0)).run P w = .ok () w := fun w => by
            unfold eqGuard; rcases hop with rfl | rfl <;> simp
          refine ⟨A.isNone, fun h => hA (by simpa using h), fun w => ?_⟩
          rw [Sem.run_bind, hg]
          rcases hop with rfl | rfl
          · have : (binOp .eql t (.slice A n c) (.slice none 0 0)).run P w = .ok (.bool A.isNone) w := by
              simp only [binOp]
              simp [run_equal_slice_nil w t el A n c hel]
            simpa [Result.andThen] using this
          · have := run_neq_slice_nil w t el A n c hel
            simpa [Result.andThen] using this
        obtain ⟨b, hbe, hrun⟩ := hb
        have e1 : (a.put (some d1') (a.tmps.getD ap undef)).eval (.tmp d1') = .slice A n c := by
          simp only [Act.eval, Act.put]
          simp [Array.getD, hsize, hl1, ← hu]
        have h2 := h1.set (t := d2') (v := .dat .bool (bif decide (op = .neq) then !b else b)) (u := .bool (bif decide (op = .neq) then !b else b)) (mk_bool _) (fun k hk => by simp [AV.refs] at hk)
        show wpOpsIn (FR ro) 0 P _ Q [0, 1] a w
        simp only [wpOpsIn, List.getElem?_toArray, List.getElem?_cons_zero, List.getElem?_cons_succ, Region.wanted, if_true]
        refine (wpR_val (by simp) (u := a.tmps.getD ap undef) (w' := w) (by simp [execOp, Act.eval]) ?_)
        simp only [wpOpsIn, List.getElem?_toArray, List.getElem?_cons_zero, List.getElem?_cons_succ, Region.wanted, if_true]
        refine (wpR_val (by simp) (u := .bool (bif decide (op = .neq) then !b else b)) (w' := w) ?_ ?_)
        · simp only [execOp]
          rw [e1]
          have := hrun w
          rw [show (a.put (some d1') (a.tmps.getD ap undef)).eval (.const (.slice none 0 0)) = .slice none 0 0 from rfl]
          rw [Sem.run_bind, this]; rfl
        · exact hQ' b hbe _ h2
      split at h
      · rename_i el et xs hel hv
        simp only [Option.some.injEq, Prod.mk.injEq] at h
        obtain ⟨rfl, rfl, rfl, rfl, rfl⟩ := h
        refine key _ _ hv (fun k hk => by simp [AV.refs] at hk) (fun u hu => ?_) ⟨el, hel⟩ hQ
        unfold VR at hu
        rw [if_neg (by simp [Ty.isAgg])] at hu
        obtain ⟨A, c, h1, _, _, h3⟩ := hu
        refine ⟨A, _, c, by simpa using h1, fun hA => ?_⟩
        rcases h3 with h3 | ⟨b, o, h3, _⟩
        · simp [h3]
        · rw [hA] at h3; cases h3
      · rename_i el et xs hel hv
        simp only [Option.some.injEq, Prod.mk.injEq] at h
        obtain ⟨rfl, rfl, rfl, rfl, rfl⟩ := h
        refine key _ _ hv (fun k hk => by simp [AV.refs] at hk) (fun u hu => ?_) ⟨el, hel⟩ hQ
        unfold VR at hu
        obtain ⟨A, rfl, hu⟩ := hu
        obtain ⟨A', c, h1, _, _, h3⟩ := hu
        simp only [List.cons.injEq, and_true, Value.slice.injEq] at h1
        obtain ⟨rfl, _, _⟩ := h1
        refine ⟨A, _, _, rfl, fun hA => ?_⟩
        rcases h3 with h3 | ⟨b, o, h3, _⟩
        · simp [h3]
        · rw [hA] at h3; cases h3
      · cases h
    · cases h
  · cases h

-- ---------------------------------------------------------------- a block that is no cells
/-- The world is as it was, but for block D, which is no cells. -/
theorem cell_putObj {w : World} {D : Nat} {o o' : Obj} (h : w.heap[D]? = some o) (ho : ∀ c t f, o ≠ .cells c t f) (ho' : ∀ c t f, o' ≠ .cells c t f) (b i : Nat) : (w.putObj D o').cell? ⟨b, i, none⟩ = w.cell? ⟨b, i, none⟩ ∧ (w.putObj D o').frozen? ⟨b, i, none⟩ = w.frozen? ⟨b, i, none⟩ := by
  by_cases e : b = D
  · subst e
    have hlt := (Array.getElem?_eq_some_iff.1 h).1
    have h' := World.putObj_heap_same (w := w) (o := o') hlt
    unfold World.cell? World.frozen?
    simp only [h, h']
    constructor
    · cases o with
      | cells c t f => exact absurd rfl (ho c t f)
      | _ => cases o' with
        | cells c t f => exact absurd rfl (ho' c t f)
        | _ => rfl
    · cases o with
      | cells c t f => exact absurd rfl (ho c t f)
      | _ => cases o' with
        | cells c t f => exact absurd rfl (ho' c t f)
        | _ => rfl
  · have h' := World.putObj_heap_other (w := w) (o := o') e
    unfold World.cell? World.frozen?
    simp only [h']
    exact ⟨trivial, trivial⟩

theorem chg_putObj {w : World} {D : Nat} {o o' : Obj} (h : w.heap[D]? = some o) (ho : ∀ c t f, o ≠ .cells c t f) (ho' : ∀ c t f, o' ≠ .cells c t f) : Chg (fun b i => b = D ∧ i = 0) w (w.putObj D o') where
  os := rfl
  tape := rfl
  output := rfl
  size := by rw [World.putObj_size]; exact Nat.le_refl _
  block := fun b hb hn => World.putObj_heap_other fun e => hn 0 ⟨e, rfl⟩
  cell := fun b i _ _ => (cell_putObj h ho ho' b i).1
  there := fun b i _ hs => by rw [(cell_putObj h ho ho' b i).1]; exact hs
  frz := fun b i _ => (cell_putObj h ho ho' b i).2

end
end Go.Abs
