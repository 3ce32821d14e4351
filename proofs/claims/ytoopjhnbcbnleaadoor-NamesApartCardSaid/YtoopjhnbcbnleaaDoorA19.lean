/-
What a proof of a function begins with.
-/
import Derived.Test.YtoopjhnbcbnleaaDoorA18
namespace Go.Abs
set_option linter.unusedVariables false

def body (fn : Func) : Code := fn.body.getD .skip

/-- A function's evaluation from its entry on. -/
def evFnG (P : Program) (es : List Ent) (fn : Func) (rts : List Rt) (ec : Option Cut) (cuts : List (Nat × Cut)) (as : List AV) (hp : List Reg) (R : Out → Prop) (L : List Item → St → Prop) : Prop :=
  run P (mkS (locOf es)) none hp.length (finOf P fn rts ec hp R) L cuts 600 [.code (body fn)] (enter fn as hp)

def evFn (P : Program) (es : List Ent) (fn : Func) (rts : List Rt) (cuts : List (Nat × Cut)) (as : List AV) (hp : List Reg) (R : Out → Prop) (L : List Item → St → Prop) : Prop := evFnG P es fn rts none cuts as hp R L

/-- The loops over functions that a text has, those within their rounds too. -/
def loopsIn : Code → List LoopS
  | .seq a b => loopsIn a ++ loopsIn b
  | .cond _ a b => loopsIn a ++ loopsIn b
  | .block _ c | .loop c | .scope c => loopsIn c
  | .rangeFunc _ ps a b => ⟨ps, a, b, (firstReg b).getD 0⟩ :: (loopsIn a ++ loopsIn b)
  | _ => []

/-- A function's i-th loop over a function. -/
def loopAt (fn : Func) (i : Nat) : LoopS := (loopsIn (body fn)).getD i ⟨#[], .skip, .skip, 0⟩

/-- A round's evaluation, of the loop that is region k0. -/
def evRound (P : Program) (es : List Ent) (L : LoopS) (k0 : Nat) (ec : Option Cut) (cuts : List (Nat × Cut)) (tm xs : List AV) (hp : List Reg) (R : Out → Prop) (leaf : List Item → St → Prop) : Prop :=
  run P (mkS (locOf es)) (some k0) hp.length (finR k0 ec hp R) leaf cuts 600 [.code L.assign, .beginRound, .code L.body] { tm := setPs L.params.toList xs tm, hp }

/-- What is to do from the loop's head on whose first region is i. -/
def loopTodo (i : Nat) : Code → List Item → Option (List Item)
  | .seq a b, k => match loopTodo i a (.code b :: k) with
    | some t => some t
    | none => loopTodo i b k
  | .cond _ a b, k => match loopTodo i a k with
    | some t => some t
    | none => loopTodo i b k
  | .block n c, k => loopTodo i c (.inBlock n :: k)
  | .loop c, k => if firstReg c = some i then some (.code c :: .inLoop c :: k) else loopTodo i c (.inLoop c :: k)
  | _, _ => none

def todoOf (fn : Func) (i : Nat) : List Item := (loopTodo i (body fn) []).getD []

/-- A function's evaluation from a loop's head on. -/
def evLoopG (P : Program) (es : List Ent) (fn : Func) (rts : List Rt) (ec : Option Cut) (cuts : List (Nat × Cut)) (i : Nat) (s : St) (hp : List Reg) (R : Out → Prop) (L : List Item → St → Prop) : Prop :=
  run P (mkS (locOf es)) none hp.length (finOf P fn rts ec hp R) L cuts 600 (todoOf fn i) s

def evLoop (P : Program) (es : List Ent) (fn : Func) (rts : List Rt) (cuts : List (Nat × Cut)) (i : Nat) (s : St) (hp : List Reg) (R : Out → Prop) (L : List Item → St → Prop) : Prop := evLoopG P es fn rts none cuts i s hp R L

def todoR (L : LoopS) (i : Nat) : List Item := (loopTodo i L.body []).getD []

/-- A round's evaluation from a loop's head on. -/
def evRLoop (P : Program) (es : List Ent) (L : LoopS) (k0 : Nat) (ec : Option Cut) (cuts : List (Nat × Cut)) (i : Nat) (s : St) (hp : List Reg) (R : Out → Prop) (leaf : List Item → St → Prop) : Prop :=
  run P (mkS (locOf es)) (some k0) hp.length (finR k0 ec hp R) leaf cuts 600 (todoR L i) s

/-- A loop's head, at a state. -/
def AtLoop (P : Program) (fn : Func) (rts : List Rt) (ec : Option Cut) (hp : List Reg) (R : Out → Prop) (i : Nat) (s : St) : Prop := RunS P none hp.length (finOf P fn rts ec hp R) (todoOf fn i) s

def AtRLoop (P : Program) (L : LoopS) (k0 : Nat) (ec : Option Cut) (hp : List Reg) (R : Out → Prop) (i : Nat) (s : St) : Prop := RunS P (some k0) hp.length (finR k0 ec hp R) (todoR L i) s

/-- A state: n slots, of which some are known, and the regions. -/
def st (n : Nat) (l : List (Nat × AV)) (hp : List Reg) : St := { tm := l.foldl (fun tm p => tm.set p.1 p.2) (List.replicate n .bad), hp }

structure Kit (P : Program) (es : List Ent) : Prop where
  mix : P.follows .mixedOrders = true
  ok : ∀ e ∈ es, EntOk P e

theorem Kit.fn {P : Program} {es : List Ent} (K : Kit P es) {f : FuncId} {fn : Func} (hy : (f == yid) = false) (hf : P.funcs[f]? = some fn) (hn : (fn.name == "runtime.NumGoroutine") = false) (hb : fn.body = some (body fn)) {rts : List Rt} {ec : Option Cut} {cuts : List (Nat × Cut)}
    {as : List AV} {hp : List Reg} {R : Out → Prop} (hl : as.length ≤ fn.ntmps) (h : evFnG P es fn rts ec cuts as hp R (RunS P none hp.length (finOf P fn rts ec hp R))) : FnOk P f as hp R :=
  FnOk.of_eval (sums_ok K.ok) K.mix hy hf hn hb rts ec cuts 600 hl h

theorem Kit.loop {P : Program} {es : List Ent} (K : Kit P es) {fn : Func} {rts : List Rt} {ec : Option Cut} {cuts : List (Nat × Cut)} {i : Nat} {s : St} {hp : List Reg} {R : Out → Prop}
    (h : evLoopG P es fn rts ec cuts i s hp R (RunS P none hp.length (finOf P fn rts ec hp R))) : AtLoop P fn rts ec hp R i s :=
  run_sound (sums_ok K.ok) K.mix 600 _ _ h

theorem Kit.round {P : Program} {es : List Ent} (K : Kit P es) {L : LoopS} {k0 : Nat} {ec : Option Cut} {cuts : List (Nat × Cut)} {tm xs : List AV} {hp : List Reg} {R : Out → Prop} {j0 : Int} (hreg : rgOf hp k0 = .loop L tm j0) (hk : k0 < hp.length) (hxl : xs.length = L.params.size)
    (h : evRound P es L k0 ec cuts tm xs hp R (RunS P (some k0) hp.length (finR k0 ec hp R))) : FnOk P yid (.yld k0 :: xs) hp R :=
  FnOk.of_round (S := mkS (locOf es)) hreg hk hxl (run_sound (sums_ok K.ok) K.mix 600 _ _ h)

theorem Kit.rloop {P : Program} {es : List Ent} (K : Kit P es) {L : LoopS} {k0 : Nat} {ec : Option Cut} {cuts : List (Nat × Cut)} {i : Nat} {s : St} {hp : List Reg} {R : Out → Prop}
    (h : evRLoop P es L k0 ec cuts i s hp R (RunS P (some k0) hp.length (finR k0 ec hp R))) : AtRLoop P L k0 ec hp R i s :=
  run_sound (sums_ok K.ok) K.mix 600 _ _ h
end Go.Abs
