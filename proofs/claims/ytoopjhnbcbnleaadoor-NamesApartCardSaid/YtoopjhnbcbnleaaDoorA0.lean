/-
An abstract machine for the loaded programs: typed data, values over it, regions of memory that a call owns, and one function that runs operations over them. Definitions alone; what they are good for is proved in the texts behind.
-/
import Derived.Orders
import Derived.Laws.Sem
import Derived.KernelRfl
namespace Go.Abs
set_option linter.unusedVariables false

/-- Types of plain data. -/
inductive Ty where
  | int (k : IntKind) | bool | str | unit
  | pair (a b : Ty) | st (a : Ty) | list (a : Ty) | arr (n : Nat) (a : Ty)
  deriving DecidableEq, Inhabited

@[reducible] def Ty.car : Ty → Type
  | .int _ => Int
  | .bool => Bool
  | .str => ByteArray
  | .unit => Unit
  | .pair a b => a.car × b.car
  | .st a => a.car
  | .list a => List a.car
  | .arr _ a => List a.car

/-- How many cells of memory a value takes. -/
def Ty.nc : Ty → Nat
  | .int _ | .bool | .str | .list _ => 1
  | .unit => 0
  | .pair a b => a.nc + b.nc
  | .st a => a.nc
  | .arr n a => n * a.nc

def Ty.dflt : (t : Ty) → t.car
  | .int _ => (0 : Int)
  | .bool => false
  | .str => (⟨#[]⟩ : ByteArray)
  | .unit => ()
  | .pair a b => (a.dflt, b.dflt)
  | .st a => a.dflt
  | .list _ => []
  | .arr n a => List.replicate n a.dflt

/-- Is a value of it an aggregate? -/
def Ty.isAgg : Ty → Bool
  | .st _ | .arr _ _ => true
  | _ => false

/-- The part of type u that begins o cells into a value. -/
def Ty.sub (u : Ty) : (t : Ty) → t.car → Nat → Option u.car
  | .pair a b, x, o => if h : Ty.pair a b = u then (if o = 0 then some (h ▸ x) else none) else if o < a.nc then Ty.sub u a x.1 o else Ty.sub u b x.2 (o - a.nc)
  | .st a, x, o => if h : Ty.st a = u then (if o = 0 then some (h ▸ x) else none) else Ty.sub u a x o
  | .arr n a, x, o => if h : Ty.arr n a = u then (if o = 0 then some (h ▸ x) else none) else if a.nc = 0 then none else if o / a.nc < n then Ty.sub u a (x.getD (o / a.nc) a.dflt) (o % a.nc) else none
  | .int k, x, o => if h : Ty.int k = u then (if o = 0 then some (h ▸ x) else none) else none
  | .bool, x, o => if h : Ty.bool = u then (if o = 0 then some (h ▸ x) else none) else none
  | .str, x, o => if h : Ty.str = u then (if o = 0 then some (h ▸ x) else none) else none
  | .unit, x, o => if h : Ty.unit = u then (if o = 0 then some (h ▸ x) else none) else none
  | .list a, x, o => if h : Ty.list a = u then (if o = 0 then some (h ▸ x) else none) else none

/-- A value with the part of type u that begins o cells in turned. -/
def Ty.setSub (u : Ty) (y : u.car) : (t : Ty) → t.car → Nat → Option t.car
  | .pair a b, x, o => if h : u = Ty.pair a b then (if o = 0 then some (h ▸ y) else none) else if o < a.nc then (Ty.setSub u y a x.1 o).map fun z => (z, x.2) else (Ty.setSub u y b x.2 (o - a.nc)).map fun z => (x.1, z)
  | .st a, x, o => if h : u = Ty.st a then (if o = 0 then some (h ▸ y) else none) else Ty.setSub u y a x o
  | .arr n a, x, o => if h : u = Ty.arr n a then (if o = 0 then some (h ▸ y) else none) else if a.nc = 0 then none else if o / a.nc < n then (Ty.setSub u y a (x.getD (o / a.nc) a.dflt) (o % a.nc)).map fun z => x.set (o / a.nc) z else none
  | .int k, _, o => if h : u = Ty.int k then (if o = 0 then some (h ▸ y) else none) else none
  | .bool, _, o => if h : u = Ty.bool then (if o = 0 then some (h ▸ y) else none) else none
  | .str, _, o => if h : u = Ty.str then (if o = 0 then some (h ▸ y) else none) else none
  | .unit, _, o => if h : u = Ty.unit then (if o = 0 then some (h ▸ y) else none) else none
  | .list a, _, o => if h : u = Ty.list a then (if o = 0 then some (h ▸ y) else none) else none

/-- Equality as Go has it for comparable data. -/
def Ty.eqD : (t : Ty) → t.car → t.car → Bool
  | .int _, x, y => (x : Int) == y
  | .bool, x, y => (x : Bool) == y
  | .str, x, y => (x : ByteArray) == y
  | .unit, _, _ => true
  | .pair a b, x, y => a.eqD x.1 y.1 && b.eqD x.2 y.2
  | .st a, x, y => a.eqD x y
  | .list _, _, _ => false
  | .arr _ a, x, y => (x.zip y).all fun p => a.eqD p.1 p.2

/-- Values. -/
inductive AV where
  | dat (t : Ty) (x : t.car)
  | full (t : Ty) (xs : List t.car)         -- a slice whose capacity is its length
  | ref (k o : Nat)                         -- cell o of region k
  | elt (t : Ty) (xs : List t.car) (i o : Nat)   -- cell o of element i of a slice that is read alone
  | arr (k : Nat)                           -- the slice that is region k
  | aelt (k i o : Nat)                      -- cell o of element i of region k
  | fn (f : Fn) (first caps : List AV)
  | iface (t : TypeId) (v : AV)
  | agg (cs : List AV)
  | tup (vs : List AV)
  | cst (v : Value)
  | nul                                     -- a slice of capacity 0
  | yld (k : Nat)                           -- the function that is handed to an iterator; region k is its loop
  | bad
  deriving Inhabited

/-- A loop over a function, as its text has it. -/
structure LoopS where
  params : Array Tmp
  assign : Code
  body : Code
  tag : Nat        -- a function's loops are told apart by it
  deriving Inhabited

/-- Regions of memory that the call may write. -/
inductive Reg where
  | cells (cs : List AV)
  | arr (t : Ty) (xs : List t.car)      -- an array that may grow
  | own (t : Ty) (xs : List t.car)      -- .. and whose elements may be written
  | fz (t : Ty) (xs : List t.car)       -- .. that nobody writes any more
  | loop (L : LoopS) (tm : List AV) (j : Int)   -- a loop over a function: its slots; how it stands (-1: in a round, 0: ready, else: left by jump j)
  | dead
  deriving Inhabited

mutual
/-- The regions that a value leads to. -/
def AV.refs : AV → List Nat
  | .ref k _ | .arr k | .aelt k _ _ | .yld k => [k]
  | .fn _ a b => refsL a ++ refsL b
  | .iface _ a => a.refs
  | .agg cs => refsL cs
  | .tup vs => refsL vs
  | _ => []
def refsL : List AV → List Nat
  | [] => []
  | a :: as => a.refs ++ refsL as
end

def Reg.refs : Reg → List Nat
  | .cells cs => refsL cs
  | .loop _ tm _ => refsL tm
  | _ => []

def upd {α : Type} (f : Nat → α) (k : Nat) (x : α) : Nat → α := fun j => if j = k then x else f j
def setAll (rg : Nat → Reg) (wr : List (Nat × Reg)) : Nat → Reg := wr.foldl (fun rg p => upd rg p.1 p.2) rg

def AV.w : AV → Nat
  | .dat t _ => t.nc
  | .agg _ => 0
  | _ => 1

def AV.comps : AV → List AV
  | .agg cs => cs
  | a => [a]

/-- A value whose cells are known. -/
def AV.solid : AV → Bool
  | .tup _ | .bad => false
  | _ => true

/-- An aggregate. -/
def AV.isAggV : AV → Bool
  | .agg _ => true
  | .dat t _ => t.isAgg
  | _ => false

def wAll : List AV → Nat
  | [] => 0
  | c :: cs => c.w + wAll cs

def AV.explode : AV → List AV
  | .dat (.pair a b) x => [.dat a x.1, .dat b x.2]
  | .dat (.st a) x => [.dat a x]
  | .dat (.arr n a) x => (List.range n).map fun i => .dat a (x.getD i a.dflt)
  | a => [a]

/-- Components in line, cut at cell o. -/
def split : Nat → List AV → Nat → Option (List AV × List AV)
  | 0, _, _ => none
  | _ + 1, cs, 0 => some ([], cs)
  | _ + 1, [], _ + 1 => none
  | n + 1, c :: cs, o + 1 =>
    if c.w ≤ o + 1 then (split n cs (o + 1 - c.w)).map fun p => (c :: p.1, p.2) else split n (c.explode ++ cs) (o + 1)

/-- A value of type u out of components in line. -/
def asmGo (go : (u : Ty) → List AV → Option (u.car × List AV)) : (u : Ty) → List AV → Option (u.car × List AV)
  | .pair a b, cs => match go a cs with
    | some (x, cs1) => match go b cs1 with
      | some (y, cs2) => some ((x, y), cs2)
      | none => none
    | none => none
  | .st a, cs => go a cs
  | .unit, cs => some ((), cs)
  | _, _ => none

def asm : Nat → (u : Ty) → List AV → Option (u.car × List AV)
  | 0, _, _ => none
  | n + 1, u, .dat t x :: r => if h : t = u then some (h ▸ x, r) else asmGo (asm n) u (.dat t x :: r)
  | n + 1, u, .full t x :: r => if h : Ty.list t = u then some (h ▸ (x : (Ty.list t).car), r) else asmGo (asm n) u (.full t x :: r)
  | _ + 1, .list _, .cst (.slice none 0 0) :: r => some ([], r)
  | _ + 1, .list _, .nul :: r => some ([], r)
  | n + 1, u, cs => asmGo (asm n) u cs

def AV.get? (u : Ty) (a : AV) : Option u.car :=
  match asm 100 u a.comps with
  | some (x, []) => some x
  | _ => none

/-- An array, seen as data. -/
def AV.view (rg : Nat → Reg) : AV → AV
  | .arr k => match rg k with
    | .arr t xs | .own t xs => .dat (.list t) xs
    | _ => .bad
  | a => a

/-- An array that nobody writes any more is data. -/
def AV.viewF (rg : Nat → Reg) : AV → AV
  | .arr k => match rg k with
    | .fz t xs => .dat (.list t) xs
    | _ => .arr k
  | a => a

-- ---------------------------------------------------------------- types of the program
def foldTy : List Ty → Ty
  | [] => .unit
  | [a] => a
  | a :: b :: r => .pair a (foldTy (b :: r))

def tyOf (P : Program) : Nat → TypeId → Option Ty
  | 0, _ => none
  | n + 1, t => match P.underlying t with
    | some (.int k) => some (.int k)
    | some .bool => some .bool
    | some .string => some .str
    | some (.slice e) => (tyOf P n e).map .list
    | some (.array m e) => (tyOf P n e).map (.arr m)
    | some (.struct fs) => (fs.toList.mapM fun f => tyOf P n f.type).map fun ts => .st (foldTy ts)
    | _ => none

def tyDepth : Nat := 12

def elemOf (P : Program) (t : TypeId) : Option TypeId := match P.underlying t with
  | some (.slice e) => some e
  | _ => none

/-- Is a value of the type an aggregate? -/
def aggT (P : Program) (t : TypeId) : Bool := match P.underlying t with
  | some (.struct _) | some (.array _ _) => true
  | _ => false

/-- A data type of the program, held against its table. -/
def tyIs (P : Program) (t : TypeId) : Option Ty := match tyOf P tyDepth t with
  | some u => if u.nc = P.cellsOf t ∧ u.isAgg = aggT P t ∧ (u.isAgg = true ∨ u.nc = 1) ∧ (P.underlying t).isSome = true then some u else none
  | none => none

/-- Constants and zero values. -/
def ofCell : Value → AV
  | .int k n => if k.wrap n = n then .dat (.int k) n else .bad
  | .bool b => .dat .bool b
  | .string s => if s.size ≤ 9223372036854775807 then .dat .str s else .bad
  | .agg _ | .tuple _ => .bad
  | v => .cst v

def ofConst : Value → AV
  | .agg cs => if cs.all (·.oneCell') then .agg (cs.toList.map ofCell) else .bad
  | .tuple cs => if cs.size = 0 then .tup [] else .bad
  | v => ofCell v

structure Out where
  v : AV
  wr : List (Nat × Reg) := []
  ob : List Prop := []

/-- A value that has been loaded: of an aggregate's type, or of one cell. -/
def mkLoad (agg : Bool) : List AV → Option AV
  | [.dat (.st a) x] => if agg then some (.dat (.st a) x) else if a.isAgg = false ∧ a.nc = 1 then some (.dat a x) else none
  | [.dat (.arr n a) x] => if agg then some (.dat (.arr n a) x) else none
  | [c] => if agg then some (.agg [c]) else if c.w = 1 then some c else none
  | cs => if agg then some (.agg cs) else none

def rgOf (l : List Reg) (k : Nat) : Reg := l.getD k .dead

def evLoad (P : Program) (t : TypeId) (a : AV) (rg : Nat → Reg) : Option AV :=
  if (P.underlying t).isNone then none else match a with
  | .ref k o => match rg k with
    | .cells cs => match split 200 cs o with
      | some (_, r) => match split 200 r (P.cellsOf t) with
        | some (m, _) => mkLoad (aggT P t) m
        | none => none
      | none => none
    | _ => none
  | .elt t' xs i o => match tyIs P t with
    | some u => (Ty.sub u t' (xs.getD i t'.dflt) o).map (.dat u)
    | none => none
  | .aelt k i o => match rg k, tyIs P t with
    | .arr t' xs, some u | .own t' xs, some u => (Ty.sub u t' (xs.getD i t'.dflt) o).map (.dat u)
    | _, _ => none
  | _ => none

def evStore (P : Program) (t : TypeId) (a v : AV) (rg : Nat → Reg) : Option Out :=
  if (P.info? t).isNone ∨ v.solid = false then none else match a with
  | .ref k o => match rg k with
    | .cells cs => match split 200 cs o with
      | some (p, r) => match split 200 r (P.cellsOf t) with
        | some (_, q) => if wAll v.comps = P.cellsOf t then some { v := .bad, wr := [(k, .cells (p ++ v.comps ++ q))] } else none
        | none => none
      | none => none
    | _ => none
  | .aelt k i o => match rg k, tyIs P t with
    | .own t' xs, some u => match AV.get? u v with
      | some y => (Ty.setSub u y t' (xs.getD i t'.dflt) o).map fun z => { v := .bad, wr := [(k, .own t' (xs.set i z))] }
      | none => none
    | _, _ => none
  | _ => none

def evInt2 (op : BinOp) (k : IntKind) (x y : Int) : Option Out :=
  match op with
  | .add => some { v := .dat (.int k) (k.wrap (x + y)) }
  | .sub => some { v := .dat (.int k) (k.wrap (x - y)) }
  | .mul => some { v := .dat (.int k) (k.wrap (x * y)) }
  | .quo => some { v := .dat (.int k) (k.wrap (x.tdiv y)), ob := [y ≠ 0] }
  | .rem => some { v := .dat (.int k) (x.tmod y), ob := [y ≠ 0] }
  | .eql => some { v := .dat .bool (x == y) }
  | .neq => some { v := .dat .bool (x != y) }
  | .lss => some { v := .dat .bool (decide (x < y)) }
  | .leq => some { v := .dat .bool (decide (x ≤ y)) }
  | .gtr => some { v := .dat .bool (decide (x > y)) }
  | .geq => some { v := .dat .bool (decide (x ≥ y)) }
  | .and => some { v := .dat (.int k) (k.wrap (BitVec.ofInt k.bits x &&& BitVec.ofInt k.bits y).toNat) }
  | .or => some { v := .dat (.int k) (k.wrap (BitVec.ofInt k.bits x ||| BitVec.ofInt k.bits y).toNat) }
  | _ => none

def evBin (op : BinOp) (a b : AV) : Option Out :=
  match a, b with
  | .dat (.int k) x, .dat (.int k') y =>
    match op with
    | .shl => some { v := .dat (.int k) (k.wrap (x * 2 ^ min (y : Int).toNat k.bits)), ob := [0 ≤ (y : Int)] }
    | .shr => some { v := .dat (.int k) ((x : Int).fdiv (2 ^ min (y : Int).toNat k.bits)), ob := [0 ≤ (y : Int)] }
    | _ => if k = k' then evInt2 op k x y else none
  | .dat .str x, .dat .str y =>
    match op with
    | .add => some { v := .dat .str ((x : ByteArray) ++ y), ob := [(x : ByteArray).size + (y : ByteArray).size ≤ 9223372036854775807] }
    | .eql => some { v := .dat .bool ((x : ByteArray).toList == (y : ByteArray).toList) }
    | .neq => some { v := .dat .bool (!((x : ByteArray).toList == (y : ByteArray).toList)) }
    | .lss => some { v := .dat .bool (Op.bytesLess (x : ByteArray).toList (y : ByteArray).toList) }
    | .geq => some { v := .dat .bool (!Op.bytesLess (x : ByteArray).toList (y : ByteArray).toList) }
    | _ => none
  | _, _ => none

/-- Do a struct's fields stand in line as the data's parts do? -/
def eqFs (P : Program) (ok : TypeId → Ty → Bool) : List Field → Ty → Nat → Bool
  | [], .unit, _ => true
  | [f], a, o => (f.name != "_") && (f.offset == o) && ok f.type a && (a.nc == P.cellsOf f.type) && (a.isAgg == aggT P f.type) && (a.isAgg || a.nc == 1)
  | f :: g :: fs, .pair a b, o => (f.name != "_") && (f.offset == o) && ok f.type a && (a.nc == P.cellsOf f.type) && (a.isAgg == aggT P f.type) && (a.isAgg || a.nc == 1) && eqFs P ok (g :: fs) b (o + a.nc)
  | _, _, _ => false

/-- May values of the type be held against each other, as data? -/
def eqOk (P : Program) : Nat → TypeId → Ty → Bool
  | 0, _, _ => false
  | n + 1, t, u => match P.underlying t, u with
    | some (.int k), .int k' => k == k'
    | some .bool, .bool => true
    | some .string, .str => true
    | some (.struct fs), .st a => !P.stoodInHeld t && eqFs P (eqOk P n) fs.toList a 0
    | _, _ => false

/-- Equality at a type of data. -/
def evEq (P : Program) (t : TypeId) (neg : Bool) (a b : AV) : Option Out :=
  match tyIs P t with
  | some u => if eqOk P 20 t u = true ∧ P.eqGuardType P.depth t = false ∧ a.solid = true ∧ b.solid = true ∧ a.isAggV = u.isAgg ∧ b.isAggV = u.isAgg then match a.get? u, b.get? u with
    | some x, some y => some { v := .dat .bool (if neg then !(u.eqD x y) else u.eqD x y) }
    | _, _ => none
    else none
  | none => none

/-- A cut's bound: d where none is given. -/
def numOf (d : Int) : Option AV → Option Int
  | none => some d
  | some (.dat (.int _) n) => some n
  | _ => none

def cutOut (e : Ty) (xs : List e.car) (l h : Int) : Option AV → Option Out
  | none => some { v := .dat (.list e) ((xs.take h.toNat).drop l.toNat), ob := [0 ≤ l ∧ l ≤ h ∧ h ≤ xs.length] }
  | some (.dat (.int .i64) m) => some { v := .full e ((xs.take h.toNat).drop l.toNat), ob := [0 ≤ l ∧ l ≤ h ∧ (m : Int) = h ∧ h ≤ xs.length] }
  | _ => none

def evCut (P : Program) (t : TypeId) (e : Ty) (xs : List e.car) (lo hi mx : Option AV) : Option Out :=
  match numOf 0 lo, numOf (xs.length : Int) hi, elemOf P t with
  | some l, some h, some te => if P.cellsOf te = e.nc ∧ (P.info? te).isSome = true ∧ (mx.isNone ∨ hi.isSome) then cutOut e xs l h mx else none
  | _, _, _ => none

def cutStr (s : ByteArray) (lo hi : Option AV) : Option Out :=
  match numOf 0 lo, numOf (s.size : Int) hi with
  | some l, some h => some { v := .dat .str (s.extract l.toNat h.toNat), ob := [0 ≤ l ∧ l ≤ h ∧ h ≤ s.size] }
  | _, _ => none

def evSlice (P : Program) (t : TypeId) (x : AV) (lo hi mx : Option AV) : Option Out :=
  match x with
  | .dat .str s => match mx, P.underlying t with
    | none, some .string => cutStr s lo hi
    | _, _ => none
  | .dat (.list e) xs => evCut P t e xs lo hi mx
  | .full e xs => evCut P t e xs lo hi mx
  | _ => none

def evIndexAddr (P : Program) (t : TypeId) (x i : AV) (rg : Nat → Reg) : Option Out :=
  match x, i with
  | .dat (.list e) xs, .dat (.int _) n | .full e xs, .dat (.int _) n =>
    match elemOf P t with
    | some te => if P.cellsOf te = e.nc ∧ (P.info? te).isSome then some { v := .elt e xs (n : Int).toNat 0, ob := [0 ≤ (n : Int) ∧ (n : Int) < (xs : List e.car).length] } else none
    | none => none
  | .arr k, .dat (.int _) n => match elemOf P t, rg k with
    | some te, .arr e xs | some te, .own e xs => if P.cellsOf te = e.nc ∧ (P.info? te).isSome then some { v := .aelt k (n : Int).toNat 0, ob := [0 ≤ (n : Int) ∧ (n : Int) < (xs : List e.car).length] } else none
    | _, _ => none
  | _, _ => none

/-- What is appended. -/
def srcOf (P : Program) (tx : TypeId) (e : Ty) (x : AV) (rg : Nat → Reg) : Option (List e.car) :=
  match x with
  | .dat .str s => match P.underlying tx with
    | some .string => if h : Ty.int .u8 = e then some (h ▸ ((s : ByteArray).data.toList.map fun b => ((b.toNat : Int) : (Ty.int .u8).car))) else none
    | _ => none
  | x => match elemOf P tx with
    | some _ => if (x.view rg).isAggV = false ∧ (x.view rg).solid = true then AV.get? (.list e) (x.view rg) else none
    | none => none

/-- The slice that is appended to, with its new elements. -/
def appOut (bytes : Nat) (nk : Nat) (old : List (Nat × Reg)) (e : Ty) (own : Bool) (xs ys : List e.car) : Out :=
  { v := .arr nk, wr := old ++ [(nk, if own then .own e (xs ++ ys) else .arr e (xs ++ ys))], ob := [xs.length + ys.length ≤ 140737488355328 / bytes] }

def evAppend (P : Program) (t tx : TypeId) (s x : AV) (rg : Nat → Reg) (nk : Nat) : Option Out :=
  match elemOf P t with
  | none => none
  | some te =>
    match tyIs P te, P.info? te with
    | some e, some inf => match inf.zero with
      | some z => if z.cells.size = e.nc ∧ 0 < inf.bytes then
        match srcOf P tx e x rg with
        | none => none
        | some ys => match s with
          | .full e' xs => if h : e' = e then some (appOut inf.bytes nk [] e false (h ▸ xs) ys) else none
          | .cst (.slice none 0 0) | .nul => some (appOut inf.bytes nk [] e true [] ys)
          | .arr k => match rg k with
            | .arr e' xs => if h : e' = e then some (appOut inf.bytes nk [(k, .dead)] e false (h ▸ xs) ys) else none
            | .own e' xs => if h : e' = e then some (appOut inf.bytes nk [(k, .dead)] e true (h ▸ xs) ys) else none
            | _ => none
          | _ => none
        else none
      | none => none
    | _, _ => none

def evLen (P : Program) (t : TypeId) (a : AV) (rg : Nat → Reg) : Option AV :=
  match a, P.underlying t with
  | .dat .str s, some .string => some (.dat (.int .i64) ((s : ByteArray).size : Int))
  | .dat (.list e) xs, some (.slice _) => some (.dat (.int .i64) ((xs : List e.car).length : Int))
  | .full e xs, some (.slice _) => some (.dat (.int .i64) ((xs : List e.car).length : Int))
  | .arr k, some (.slice _) => match rg k with
    | .arr e xs => some (.dat (.int .i64) ((xs : List e.car).length : Int))
    | .own e xs => some (.dat (.int .i64) ((xs : List e.car).length : Int))
    | _ => none
  | .nul, some (.slice _) => some (.dat (.int .i64) ((0 : Nat) : Int))
  | .cst (.slice none 0 0), some (.slice _) => some (.dat (.int .i64) ((0 : Nat) : Int))
  | _, _ => none

/-- What is known of functions: a function's answer, out of its arguments. -/
abbrev Sums := FuncId → List AV → (Nat → Reg) → Nat → Option Out

/-- Parts laid into components in line, each at its place. -/
def setParts (places : List (Nat × Nat)) : List (Nat × AV) → List AV → Option (List AV)
  | [], cs => some cs
  | (i, v) :: r, cs => match places[i]? with
    | some pl => match split 200 cs pl.1 with
      | some (p, q) => match split 200 q pl.2 with
        | some (_, q) => if wAll v.comps = pl.2 ∧ v.solid = true then setParts places r (p ++ v.comps ++ q) else none
        | none => none
      | none => none
    | none => none

def placesOf (P : Program) (fs : Array Field) : Option (List (Nat × Nat)) := fs.toList.mapM (fun f => (P.info? f.type).map fun i => (f.offset, i.size))

def evBuild (P : Program) (t : TypeId) (ps : List Nat) (vs : List AV) : Option Out :=
  match P.underlying t, P.info? t with
  | some (.struct fs), some i => match i.zero, placesOf P fs with
    | some (.agg z), some places => if z.all (·.oneCell') = true ∧ ps.length = vs.length then (setParts places (ps.zip vs) (z.toList.map ofCell)).map fun cs => { v := .agg cs } else none
    | _, _ => none
  | _, _ => none

def evBuildSlice (P : Program) (t : TypeId) (n : Nat) (ps : List Nat) (vs : List AV) : Option Out :=
  match elemOf P t with
  | some te => match tyIs P te, P.info? te with
    | some e, some inf => match inf.zero with
      | some z => if ps = List.range n ∧ vs.length = n ∧ n * e.nc ≤ 16777216 ∧ n ≤ 16777216 ∧ (vs.all fun v => v.solid) = true then
        if n = 0 then some { v := .nul } else match vs.mapM fun v => AV.get? e v with
          | some xs => some { v := .full e xs }
          | none => none
        else none
      | none => none
    | _, _ => none
  | none => none

def evNilCheck : AV → Option Out
  | .ref k o => some { v := .ref k o }
  | .elt t xs i o => some { v := .elt t xs i o }
  | .aelt k i o => some { v := .aelt k i o }
  | _ => none

def evFieldAddr (P : Program) (s : TypeId) (f : Nat) (a : AV) : Option Out :=
  match P.underlying s with
  | some (.struct fs) => match fs[f]? with
    | some fd => if P.cellsOf fd.type = 0 then none else match a with
      | .ref k o => some { v := .ref k (o + fd.offset) }
      | .elt t xs i o => some { v := .elt t xs i (o + fd.offset) }
      | .aelt k i o => some { v := .aelt k i (o + fd.offset) }
      | _ => none
    | none => none
  | _ => none

def evField (P : Program) (s : TypeId) (f : Nat) (a : AV) : Option Out :=
  match P.underlying s with
  | some (.struct fs) => match fs[f]? with
    | some fd => if a.isAggV = false ∨ (P.underlying fd.type).isNone = true then none else match split 200 a.comps fd.offset with
      | some (_, r) => match split 200 r (P.cellsOf fd.type) with
        | some (m, _) => (mkLoad (aggT P fd.type) m).map fun v => { v }
        | none => none
      | none => none
    | none => none
  | _ => none

def evIndex (P : Program) (t : TypeId) (x i : AV) : Option Out :=
  match x, i with
  | .dat .str s, .dat (.int _) n => match P.underlying t with
    | some .string => some { v := .dat (.int .u8) (((s : ByteArray)[(n : Int).toNat]?.getD 0).toNat : Int), ob := [0 ≤ (n : Int) ∧ (n : Int) < (s : ByteArray).size] }
    | _ => none
  | _, _ => none

def evExtract (j : Nat) : AV → Option Out
  | .tup vs => vs[j]?.map fun v => { v }
  | _ => none

/-- A string of bytes. -/
def bytesOf (xs : List Int) : ByteArray := xs.foldl (fun r n => r.push (UInt8.ofNat n.toNat)) ByteArray.empty

/-- Bytes, as a string. -/
def evBytes (P : Program) (src dst : TypeId) (a : AV) : Option Out :=
  match elemOf P src, P.underlying dst, a with
  | some te, some .string, .dat (.list (.int .u8)) xs | some te, some .string, .full (.int .u8) xs => match P.underlying te with
    | some (.int .u8) => some { v := .dat .str (bytesOf xs) }
    | _ => none
  | _, _, _ => none

def evConvert (P : Program) (src dst : TypeId) (a : AV) : Option Out :=
  match tyIs P src, tyIs P dst, a with
  | some (.int _), some (.int k), .dat (.int _) n => some { v := .dat (.int k) (k.wrap n) }
  | some .str, some .str, .dat .str s => some { v := .dat .str s }
  | _, _, _ => evBytes P src dst a

def evIface (P : Program) (t : TypeId) (a : AV) : Option Out :=
  match P.underlying t with
  | some (.interface _) => none
  | none => none
  | _ => some { v := .iface t a }

def evUn (op : UnOp) (a : AV) : Option Out :=
  match op, a with
  | .not, .dat .bool b => some { v := .dat .bool (!(b : Bool)) }
  | .neg, .dat (.int k) n => some { v := .dat (.int k) (k.wrap (0 - n)) }
  | _, _ => none

/-- A cut's bounds, as they stand among the operands. -/
def evSliceOp (P : Program) (t : TypeId) (lo hi mx : Option Operand) (as : List AV) : Option Out :=
  match lo.isSome, hi.isSome, mx.isSome, as with
  | false, false, false, [x] => evSlice P t x none none none
  | true, false, false, [x, l] => evSlice P t x (some l) none none
  | false, true, false, [x, h] => evSlice P t x none (some h) none
  | true, true, false, [x, l, h] => evSlice P t x (some l) (some h) none
  | false, true, true, [x, h, m] => evSlice P t x none (some h) (some m)
  | true, true, true, [x, l, h, m] => evSlice P t x (some l) (some h) (some m)
  | _, _, _, _ => none

def evBuiltin (P : Program) (b : Builtin) (ats : Array TypeId) (as : List AV) (rg : Nat → Reg) (nk : Nat) : Option Out :=
  match b, ats.toList, as with
  | .len, [t], [a] => (evLen P t a rg).map fun v => { v }
  | .append, [t, tx], [s, x] => evAppend P t tx s x rg nk
  | _, _, _ => none

/-- Arrays that are handed to a function as data: nobody writes them any more. -/
def frz : List AV → (Nat → Reg) → List AV × List (Nat × Reg)
  | [], _ => ([], [])
  | .arr k :: r, rg => match rg k with
    | .arr t xs | .own t xs => if t.nc = 0 then (.arr k :: (frz r rg).1, (frz r rg).2) else (.dat (.list t) xs :: (frz r (upd rg k (.fz t xs))).1, (k, .fz t xs) :: (frz r (upd rg k (.fz t xs))).2)
    | .fz t xs => (.dat (.list t) xs :: (frz r rg).1, (frz r rg).2)
    | _ => (.arr k :: (frz r rg).1, (frz r rg).2)
  | a :: r, rg => (a :: (frz r rg).1, (frz r rg).2)

def evCallArgs (S : Sums) (f : FuncId) (as : List AV) (rg : Nat → Reg) (nk : Nat) : Option Out :=
  match S f as rg nk with
  | some out => some out
  | none => match S f (frz as rg).1 (setAll rg (frz as rg).2) nk with
    | some out => some { v := out.v, wr := (frz as rg).2 ++ out.wr, ob := out.ob }
    | none => none

/-- In the place of a function's number: a loop's yield. -/
def yid : FuncId := 1000000007

def evCallFn (S : Sums) (as : List AV) (rg : Nat → Reg) (nk : Nat) : Option Out :=
  match as with
  | .fn (.func f) first caps :: args => if f = yid then none else evCallArgs S f (first ++ args ++ caps) rg nk
  | .yld k :: args => evCallArgs S yid (.yld k :: args) rg nk
  | _ => none

def evCall (P : Program) (S : Sums) (c : Call) (as : List AV) (rg : Nat → Reg) (nk : Nat) : Option Out :=
  match c.callee with
  | .builtin b => evBuiltin P b c.argTypes as rg nk
  | .value _ => evCallFn S as rg nk
  | _ => none

def evBinOp (P : Program) (op : BinOp) (t : TypeId) (a b : AV) : Option Out :=
  match evBin op a b with
  | some r => some r
  | none => match op with
    | .eql => evEq P t false a b
    | .neq => evEq P t true a b
    | _ => none

def evBox (P : Program) (t : TypeId) (a : AV) (nk : Nat) : Option Out :=
  if wAll a.comps = P.cellsOf t ∧ a.solid = true then some { v := .ref nk 0, wr := [(nk, .cells a.comps)] } else none

def evAlloc (P : Program) (t : TypeId) (nk : Nat) : Option Out :=
  match P.info? t with
  | some i => match i.zero with
    | some z => if (ofConst z).solid = true then some { v := .ref nk 0, wr := [(nk, .cells (ofConst z).comps)] } else none
    | none => none
  | none => none

/-- One operation: its operands' values, the regions, the next new region's number. -/
def evalOp' (P : Program) (S : Sums) (o : Oper) (as : List AV) (rg : Nat → Reg) (nk : Nat) : Option Out :=
  match o.op, as with
  | .move _, [a] => some { v := a }
  | .assign _, [a] => some { v := a }
  | .box t _, [a] => evBox P t a nk
  | .alloc t, [] => evAlloc P t nk
  | .load t _, [a] => (evLoad P t a rg).map fun v => { v }
  | .store t _ _, [a, v] => evStore P t a v rg
  | .nilCheck _, [a] => evNilCheck a
  | .fieldAddr s _ f, [a] => evFieldAddr P s f a
  | .field s _ f, [a] => evField P s f a
  | .indexAddr t _ _, [x, i] => evIndexAddr P t x i rg
  | .index t _ _, [x, i] => evIndex P t x i
  | .extract _ j, [a] => evExtract j a
  | .build t ps, vs => evBuild P t (ps.toList.map (·.1)) vs
  | .buildSlice t n ps, vs => evBuildSlice P t n (ps.toList.map (·.1)) vs
  | .slice t _ lo hi mx, as => evSliceOp P t lo hi mx as
  | .convert src dst _, [a] => evConvert P src dst a
  | .makeInterface t _, [a] => evIface P t a
  | .makeFunc f first _, vs => some { v := .fn f (vs.take first.size) (vs.drop first.size) }
  | .binOp op t _ _ _, [a, b] => evBinOp P op t a b
  | .unOp op _ _, [a] => evUn op a
  | .call c, as => evCall P S c as rg nk
  | _, _ => none

/-- The regions that an operation's operands lead to. -/
def keys : List AV → List Nat
  | [] => []
  | .ref k _ :: r | .arr k :: r | .aelt k _ _ :: r => k :: keys r
  | .fn _ [] [.ref k _] :: r => k :: keys r
  | _ :: r => keys r

/-- All the regions that may be reached. -/
def reach : Nat → (Nat → Reg) → List Nat → List Nat → List Nat
  | 0, _, _, acc => acc
  | _ + 1, _, [], acc => acc
  | n + 1, rg, k :: ks, acc => if acc.contains k then reach n rg ks acc else reach n rg ((rg k).refs ++ ks) (acc ++ [k])

def keysOf (o : Oper) (as : List AV) (rg : Nat → Reg) : List Nat := match o.op with
  | .call _ => reach 64 rg (refsL as) []
  | _ => keys as

/-- The regions that may be seen. -/
def seen (ks : List Nat) (rg : Nat → Reg) (k : Nat) : Reg := if ks.contains k then rg k else .dead

def Reg.live : Reg → Bool
  | .dead => false
  | _ => true

/-- How many numbers of regions an operation may take. -/
def gap : Nat := 4

-- ---------------------------------------------------------------- regions
/-- What an operation of a region has come to. -/
structure Rec where
  dst : Option Tmp
  chain : List (Nat × Bool)
  gl : List (Bool × Bool)
  v : AV
  rd : List Nat
  wr : List (Nat × Reg)
  deriving Inhabited

/-- Do the guards' answers come out as wanted? -/
def allG (gl : List (Bool × Bool)) : Bool := gl.all fun p => p.1 == p.2

def Rec.pc (r : Rec) : Bool := allG r.gl

/-- What is owed where the guards' answers come out as wanted. -/
def imps : List (Bool × Bool) → Prop → Prop
  | [], p => p
  | (b, w) :: r, p => b = w → imps r p

structure St where
  tm : List AV
  hp : List Reg
  deriving Inhabited

/-- The last record that has written slot t, and its number (records stand the last one first). -/
def findRec (t : Tmp) : List Rec → Option (Nat × Rec)
  | [] => none
  | r :: rs => if r.dst = some t then some (rs.length, r) else findRec t rs

def lookTmp (tm : List AV) (recs : List Rec) (chain : List (Nat × Bool)) (t : Tmp) : AV :=
  match findRec t recs with
  | some (_, r) => if r.chain.all (fun c => chain.contains c) then r.v else .bad
  | none => tm.getD t .bad

def lookOp (tm : List AV) (recs : List Rec) (chain : List (Nat × Bool)) : Operand → AV
  | .tmp t => lookTmp tm recs chain t
  | .const v => ofConst v
  | .func f => .fn (.func f) [] []
  | .global _ => .bad

def setReg (hp : List Reg) (k : Nat) (r : Reg) : List Reg :=
  if k < hp.length then hp.set k r else hp ++ List.replicate (k - hp.length) .dead ++ [r]

def setRegs (hp : List Reg) (wr : List (Nat × Reg)) : List Reg := wr.foldl (fun hp p => setReg hp p.1 p.2) hp

def pickAV (c : Bool) : AV → AV → Option AV
  | .dat t x, .dat u y => if h : u = t then some (.dat t (bif c then x else h ▸ y)) else none
  | _, _ => none

/-- What must hold for an operation to run: the guards' answers in line, and whether they hold. -/
def guardOf (recs : List Rec) : Option (Nat × Bool) → Option (List (Nat × Bool) × List (Bool × Bool))
  | none => some ([], [])
  | some (j, want) => match recs[recs.length - 1 - j]? with
    | some r => match r.dst, r.v with
      | some t, .dat .bool b => match findRec t recs with
        | some (m, _) => if m = j ∧ j < recs.length then some ((j, want) :: r.chain, (b, want) :: r.gl) else none
        | none => none
      | _, _ => none
    | none => none

/-- One of two values, by a record's answer. -/
def evPick (tm : List AV) (o : Oper) (recs : List Rec) (chain : List (Nat × Bool)) (gl : List (Bool × Bool)) (tc : Tmp) (a b : Operand) : Option (Rec × List Prop) :=
  match findRec tc recs with
  | some (m, r) => if r.chain.all (fun c => chain.contains c) then match r.v with
    | .dat .bool c => (pickAV c (lookOp tm recs ((m, true) :: chain) a) (lookOp tm recs ((m, false) :: chain) b)).map fun v =>
        ({ dst := o.dst, chain, gl, v, rd := [], wr := [] }, [])
    | _ => none
    else none
  | none => none

def evPlain (P : Program) (S : Sums) (tm : List AV) (base : Nat) (o : Oper) (recs : List Rec) (hp : List Reg) (chain : List (Nat × Bool)) (gl : List (Bool × Bool)) : Option (Rec × List Prop) :=
  let as := o.op.operands.toList.map (lookOp tm recs chain)
  let ks := keysOf o as (rgOf hp)
  let nk := base + gap * recs.length
  let rg := seen ks (rgOf hp)
  match evalOp' P S o (as.map (AV.viewF rg)) rg nk with
  | none => none
  | some out => if out.wr.all (fun p => (decide (nk ≤ p.1) && decide (p.1 < nk + gap)) || (rg p.1).live) then match chain with
    | [] => some ({ dst := o.dst, chain := [], gl := [], v := out.v, rd := ks, wr := out.wr }, out.ob)
    | c :: chain => match out.wr with
      | [] => some ({ dst := o.dst, chain := c :: chain, gl, v := out.v, rd := ks, wr := [] }, out.ob.map fun p => imps gl p)
      | _ => none
    else none

def dstIn (tm : List AV) (o : Oper) : Bool := match o.dst with
  | some d => decide (d < tm.length)
  | none => true

/-- The next operation of a region: its record, and what it owes. -/
def evNext (P : Program) (S : Sums) (tm : List AV) (base : Nat) (o : Oper) (recs : List Rec) (hp : List Reg) : Option (Rec × List Prop) :=
  if dstIn tm o = false then none else
  match guardOf recs o.guard with
  | none => none
  | some (chain, gl) => match o.op with
    | .pick (.tmp tc) a b => evPick tm o recs chain gl tc a b
    | _ => evPlain P S tm base o recs hp chain gl

def evOps (P : Program) (S : Sums) (tm : List AV) (base : Nat) : List Oper → List Rec → List Reg → List Prop → Option (List Rec × List Reg × List Prop)
  | [], recs, hp, obs => some (recs, hp, obs)
  | o :: r, recs, hp, obs => match evNext P S tm base o recs hp with
    | some (rec, ob) => evOps P S tm base r (rec :: recs) (setRegs hp rec.wr) (ob.reverse ++ obs)
    | none => none

/-- The slots behind a region. -/
def putRecs (tm : List AV) : List Rec → List AV
  | [] => tm
  | r :: rs => match r.dst with
    | some d => (putRecs tm rs).set d (match r.chain with | [] => r.v | _ => .bad)
    | none => putRecs tm rs

/-- May operations i and j (i ahead of j in the text) change places? Else i must be ahead of j. -/
def clash (ops : Array Oper) (ri rj : Rec) (oi oj : Oper) : Bool :=
  (match ri.dst with | some d => (oj.looksAt ops).contains d || rj.dst == some d | none => false) ||
  (match rj.dst with | some d => (oi.looksAt ops).contains d | none => false) ||
  (ri.wr.any fun p => rj.rd.contains p.1 || rj.wr.any fun q => q.1 == p.1) ||
  (rj.wr.any fun p => ri.rd.contains p.1)

/-- The operations that must be ahead of one, as bits: out of its edges, and of those of the operations ahead. -/
def maskOf (M : List Nat) (o : Oper) : Nat := o.after.toList.foldl (fun s e => if Region.binds .any e then s ||| (2 ^ e.on) ||| M.getD e.on 0 else s) 0

def edgesOk (i : Nat) (o : Oper) : Bool := o.after.toList.all fun e => !Region.binds .any e || decide (e.on < i)

/-- A number, reckoned before it is handed on. -/
def forced {α : Type} (n : Nat) (f : Nat → α) : α := match n with
  | 0 => f 0
  | n + 1 => f (n + 1)

def masks : List Oper → List Nat → List Nat
  | [], M => M
  | o :: r, M => forced (maskOf M o) fun x => masks r (M ++ [x])

def pairsOk (ops : Array Oper) (o : Oper) (r : Rec) (m : Nat) : List Oper → List Rec → Nat → Bool
  | o' :: os, r' :: rs, i => (!(clash ops r' r o' o) || m.testBit i) && pairsOk ops o r m os rs (i + 1)
  | _, _, _ => true

/-- Every order of the operations comes to the same: those that meet stand in line. -/
def anyOrder (ops : Array Oper) (M : List Nat) (R : List Rec) : List Oper → List Rec → Nat → Bool
  | o :: os, r :: rs, j => edgesOk j o && (M.getD j 0 == maskOf M o) && pairsOk ops o r (M.getD j 0) (ops.toList.take j) (R.take j) 0 && anyOrder ops M R os rs (j + 1)
  | _, _, _ => true

def evRegion (P : Program) (S : Sums) (ops : Array Oper) (draw : Bool) (s : St) : Option (St × List Prop) :=
  match evOps P S s.tm s.hp.length ops.toList [] s.hp [] with
  | none => none
  | some (recs, hp, obs) => if !draw || anyOrder ops (masks ops.toList []) recs.reverse ops.toList recs.reverse 0 then some ({ tm := putRecs s.tm recs, hp }, obs.reverse) else none

-- ---------------------------------------------------------------- code
inductive Ex where
  | normal | exit (id : Nat) | ret
  deriving DecidableEq, Inhabited

inductive Res where
  | done (e : Ex) (s : St)
  | need (ps : List Prop) (r : Res)
  | br (b : Bool) (x y : Res)
  | loop (c : Code) (s : St) (k : Ex → St → Res)
  | fail
  deriving Inhabited

def evCode (P : Program) (S : Sums) : Code → St → (Ex → St → Res) → Res
  | .skip, s, k => k .normal s
  | .region _ ops draw, s, k => match evRegion P S ops draw s with
    | some (s', obs) => .need obs (k .normal s')
    | none => .fail
  | .seq a b, s, k => evCode P S a s fun e s' => match e with
    | .normal => evCode P S b s' k
    | e => k e s'
  | .cond c a b, s, k => match lookOp s.tm [] [] c with
    | .dat .bool x => .br x (evCode P S a s k) (evCode P S b s k)
    | _ => .fail
  | .block id c, s, k => evCode P S c s fun e s' => match e with
    | .exit j => if j = id then k .normal s' else k (.exit j) s'
    | e => k e s'
  | .exit id, s, k => k (.exit id) s
  | .ret, s, k => k .ret s
  | .loop c, s, k => .loop c s k
  | _, _, _ => .fail

/-- A function's result. -/
def resOne (P : Program) (s : St) : ResultVar → Option AV
  | .tmp t => some (s.tm.getD t .bad)
  | .cell a t => evLoad P t (s.tm.getD a .bad) (rgOf s.hp)

def resAll (P : Program) (fn : Func) (s : St) : Option AV :=
  match fn.results.toList with
  | [r] => resOne P s r
  | rs => (rs.mapM (resOne P s)).map .tup

def enter (fn : Func) (args : List AV) (hp : List Reg) : St :=
  { tm := args ++ List.replicate (fn.ntmps - args.length) .bad, hp }

end Go.Abs
