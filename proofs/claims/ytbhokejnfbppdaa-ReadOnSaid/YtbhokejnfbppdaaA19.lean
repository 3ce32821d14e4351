/-
What a proof of a function begins with.
-/
import Derived.Test.YtbhokejnfbppdaaA18
namespace Go.Abs
set_option linter.unusedVariables false

def body (fn : Func) : Code := fn.body.getD .skip

/-- A function's evaluation from its entry on. -/
def evFn (P : Program) (es : List Ent) (fn : Func) (rts : List Rt) (cuts : List (Nat × Cut)) (as : List AV) (hp : List Reg) (R : Out → Prop) (L : List Item → St → Prop) : Prop :=
  run P (mkS (locOf es)) hp.length (finOf P fn rts hp R) L cuts 600 [.code (body fn)] (enter fn as hp)

/-- What is to do from the loop's head on whose first region is i. -/
def loopTodo (i : Nat) : Code → List Item → Option (List Item)
  | .seq a b, k => match loopTodo i a (.code b :: k) with
    | some t => some t
    | none => loopTodo i b k
  | .cond _ a b, k => match loopTodo i a k with
    | some t => some t
    | none => loopTodo i b k
  | .block n c, k => loopTodo i c (.inBlock n :: k)
  | .loop c, k => if firstReg c = some i then some (.code c :: .inLoop c :: k) else loopTodo i c (.inLoop c :: k)
  | _, _ => none

def todoOf (fn : Func) (i : Nat) : List Item := (loopTodo i (body fn) []).getD []

/-- A function's evaluation from a loop's head on. -/
def evLoop (P : Program) (es : List Ent) (fn : Func) (rts : List Rt) (cuts : List (Nat × Cut)) (i : Nat) (s : St) (hp : List Reg) (R : Out → Prop) (L : List Item → St → Prop) : Prop :=
  run P (mkS (locOf es)) hp.length (finOf P fn rts hp R) L cuts 600 (todoOf fn i) s

/-- A loop's head, at a state. -/
def AtLoop (P : Program) (fn : Func) (rts : List Rt) (hp : List Reg) (R : Out → Prop) (i : Nat) (s : St) : Prop := RunS P hp.length (finOf P fn rts hp R) (todoOf fn i) s

/-- A state: n slots, of which some are known, and the regions. -/
def st (n : Nat) (l : List (Nat × AV)) (hp : List Reg) : St := { tm := l.foldl (fun tm p => tm.set p.1 p.2) (List.replicate n .bad), hp }

structure Kit (P : Program) (es : List Ent) : Prop where
  mix : P.follows .mixedOrders = true
  ok : ∀ e ∈ es, EntOk P e

theorem Kit.fn {P : Program} {es : List Ent} (K : Kit P es) {f : FuncId} {fn : Func} (hf : P.funcs[f]? = some fn) (hn : (fn.name == "runtime.NumGoroutine") = false) (hb : fn.body = some (body fn)) {rts : List Rt} {cuts : List (Nat × Cut)}
    {as : List AV} {hp : List Reg} {R : Out → Prop} (hl : as.length ≤ fn.ntmps) (h : evFn P es fn rts cuts as hp R (RunS P hp.length (finOf P fn rts hp R))) : FnOk P f as hp R :=
  FnOk.of_eval (sums_ok K.ok) K.mix hf hn hb rts cuts 600 hl h

theorem Kit.loop {P : Program} {es : List Ent} (K : Kit P es) {fn : Func} {rts : List Rt} {cuts : List (Nat × Cut)} {i : Nat} {s : St} {hp : List Reg} {R : Out → Prop}
    (h : evLoop P es fn rts cuts i s hp R (RunS P hp.length (finOf P fn rts hp R))) : AtLoop P fn rts hp R i s :=
  run_sound (sums_ok K.ok) K.mix 600 _ _ h
end Go.Abs
