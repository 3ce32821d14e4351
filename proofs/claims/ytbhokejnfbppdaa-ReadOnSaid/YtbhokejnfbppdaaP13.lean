/-
The seat's functions, printed: trees, Lean functions, contracts.
-/
import Derived.Test.YtbhokejnfbppdaaA22
import Derived.Test.YtbhokejnfbppdaaProg
namespace Go.Abs
open Go.Proofs
set_option linter.unusedVariables false
set_option maxRecDepth 100000

abbrev I64 : Ty := (.int .i64)
abbrev RecordT : Ty := (.st (.pair .str .str))
abbrev RecordD : Type := (ByteArray × ByteArray)
abbrev runtime_errorAddressStringT : Ty := (.st (.pair .str (.int .u64)))
abbrev runtime_errorAddressStringD : Type := (ByteArray × Int)
abbrev SeenT : Ty := (.st (.pair I64 (.pair I64 I64)))
abbrev SeenD : Type := (Int × (Int × Int))
abbrev runtime_boundsErrorT : Ty := (.st (.pair I64 (.pair I64 (.pair .bool (.int .u8)))))
abbrev runtime_boundsErrorD : Type := (Int × (Int × (Bool × Int)))
abbrev RowT : Ty := (.st (.pair I64 (.pair I64 (.pair I64 (.pair .str .str)))))
abbrev RowD : Type := (Int × (Int × (Int × (ByteArray × ByteArray))))
abbrev BatchT : Ty := (.st (.pair I64 (.pair I64 (.pair I64 (.pair .bool (.list RecordT))))))
abbrev BatchD : Type := (Int × (Int × (Int × (Bool × (List RecordD)))))
abbrev ProdT : Ty := (.st (.pair I64 (.pair I64 (.pair I64 (.list SeenT)))))
abbrev ProdD : Type := (Int × (Int × (Int × (List SeenD))))
abbrev OpenT : Ty := (.st (.pair I64 (.pair I64 (.list BatchT))))
abbrev OpenD : Type := (Int × (Int × (List BatchD)))
abbrev PartT : Ty := (.st (.pair I64 (.pair I64 (.pair (.list RowT) (.pair (.list OpenT) (.list ProdT))))))
abbrev PartD : Type := (Int × (Int × ((List RowD) × ((List OpenD) × (List ProdD)))))
theorem prog_mix : Try.prog.follows .mixedOrders = true := by kernel_rfl

-- roving/rovingref13.GreatRows (0 l, 1 l, 3 i)
namespace rovingref13_GreatRows
def mk (b : Bool) : Out := { v := .dat .bool b }
inductive S where
  | l4 (x0 : (List RowD)) (x3 : Int)
def idx : S → Nat
  | .l4 _ _ => 4
def stt : S → St
  | .l4 x0 x3 => st 29 [(0, .dat (.list RowT) x0), (3, .dat I64 x3)] []
def T (a0 : (List RowD)) : Tr (S ⊕ Bool) :=
  (.br (decide ((((List.length a0) : Nat) : Int) > (300 : Int)))
    (.ret (.inr true))
    (.ret (.inl (.l4 a0 (0 : Int)))))
def T4 (x0 : (List RowD)) (x3 : Int) : Tr (S ⊕ Bool) :=
  (.br (decide (x3 < (((List.length x0) : Nat) : Int)))
    (.need (((0 : Int) ≤ x3) ∧ (x3 < (((List.length x0) : Nat) : Int)))
    (.need (((decide ((((ByteArray.size (List.getD x0 (Int.toNat x3) (Ty.dflt RowT)).2.2.2.1) : Nat) : Int) > (200 : Int))) = false) → (((0 : Int) ≤ x3) ∧ (x3 < (((List.length x0) : Nat) : Int))))
    (.br (bif (decide ((((ByteArray.size (List.getD x0 (Int.toNat x3) (Ty.dflt RowT)).2.2.2.1) : Nat) : Int) > (200 : Int))) then true else (decide ((((ByteArray.size (List.getD x0 (Int.toNat x3) (Ty.dflt RowT)).2.2.2.2) : Nat) : Int) > (200 : Int))))
      (.ret (.inr true))
      (.ret (.inl (.l4 x0 (Go.IntKind.wrap Go.IntKind.i64 (x3 + (1 : Int)))))))))
    (.ret (.inr false)))
def step : S → Tr (S ⊕ Bool)
  | .l4 x0 x3 => T4 x0 x3
def cuts : List (Nat × Cut) := [(4, { slots := [(0, .dat (.list RowT)), (3, .dat I64)], regs := [] })]
theorem tr (a0 : (List RowD)) (R : Out → Prop) (L : List Item → St → Prop) : evFn Try.prog [] Try.f14 [.dat .bool] cuts [.dat (.list RowT) a0] [] R L = (T a0).wp (outcome Try.f14 idx stt mk R L) := by kernel_rfl
theorem tr4 (x0 : (List RowD)) (x3 : Int) (R : Out → Prop) (L : List Item → St → Prop) : evLoop Try.prog [] Try.f14 [.dat .bool] cuts 4 (stt (.l4 x0 x3)) [] R L = (T4 x0 x3).wp (outcome Try.f14 idx stt mk R L) := by kernel_rfl
noncomputable def f (a0 : (List RowD)) : Option Bool := loopO (step) (T a0)
def e (N : (List RowD) → Option Bool) : Ent := entF 14 [.dat (.list RowT)] [] mk fun d g => N (d.1)
theorem ok : EntOk Try.prog (e f) := entOk_loop (ps := [.dat (.list RowT)]) (rs := []) (mk := mk) (idx := idx) (S := stt) (step := step) (T := fun d g => T (d.1)) (Kit.nil prog_mix) (by decide) (fn := Try.f14) (cuts := cuts) (rts := [.dat .bool])
  rfl (by decide) rfl (Nat.le_of_ble_eq_true rfl) (fun _ => rfl) (fun d g R L => tr (d.1) R L) (fun s g R L => match s with
    | .l4 x0 x3 => tr4 x0 x3 R L)
end rovingref13_GreatRows

-- roving/rovingref13.SameRows (0 a, 1 b, 2 a, 3 b, 5 i)
namespace rovingref13_SameRows
def mk (b : Bool) : Out := { v := .dat .bool b }
inductive S where
  | l4 (x0 : (List RowD)) (x1 : (List RowD)) (x5 : Int)
def idx : S → Nat
  | .l4 _ _ _ => 4
def stt : S → St
  | .l4 x0 x1 x5 => st 26 [(0, .dat (.list RowT) x0), (1, .dat (.list RowT) x1), (5, .dat I64 x5)] []
def T (a0 : (List RowD)) (a1 : (List RowD)) : Tr (S ⊕ Bool) :=
  (.br ((((List.length a0) : Nat) : Int) != (((List.length a1) : Nat) : Int))
    (.ret (.inr false))
    (.ret (.inl (.l4 a0 a1 (0 : Int)))))
def T4 (x0 : (List RowD)) (x1 : (List RowD)) (x5 : Int) : Tr (S ⊕ Bool) :=
  (.br (decide (x5 < (((List.length x0) : Nat) : Int)))
    (.need (((0 : Int) ≤ x5) ∧ (x5 < (((List.length x0) : Nat) : Int)))
    (.need (((0 : Int) ≤ x5) ∧ (x5 < (((List.length x1) : Nat) : Int)))
    (.br (!(Go.Abs.Ty.eqD RowT (List.getD x0 (Int.toNat x5) (Ty.dflt RowT)) (List.getD x1 (Int.toNat x5) (Ty.dflt RowT))))
      (.ret (.inr false))
      (.ret (.inl (.l4 x0 x1 (Go.IntKind.wrap Go.IntKind.i64 (x5 + (1 : Int)))))))))
    (.ret (.inr true)))
def step : S → Tr (S ⊕ Bool)
  | .l4 x0 x1 x5 => T4 x0 x1 x5
def cuts : List (Nat × Cut) := [(4, { slots := [(0, .dat (.list RowT)), (1, .dat (.list RowT)), (5, .dat I64)], regs := [] })]
theorem tr (a0 : (List RowD)) (a1 : (List RowD)) (R : Out → Prop) (L : List Item → St → Prop) : evFn Try.prog [] Try.f11 [.dat .bool] cuts [.dat (.list RowT) a0, .dat (.list RowT) a1] [] R L = (T a0 a1).wp (outcome Try.f11 idx stt mk R L) := by kernel_rfl
theorem tr4 (x0 : (List RowD)) (x1 : (List RowD)) (x5 : Int) (R : Out → Prop) (L : List Item → St → Prop) : evLoop Try.prog [] Try.f11 [.dat .bool] cuts 4 (stt (.l4 x0 x1 x5)) [] R L = (T4 x0 x1 x5).wp (outcome Try.f11 idx stt mk R L) := by kernel_rfl
noncomputable def f (a0 : (List RowD)) (a1 : (List RowD)) : Option Bool := loopO (step) (T a0 a1)
def e (N : (List RowD) → (List RowD) → Option Bool) : Ent := entF 11 [.dat (.list RowT), .dat (.list RowT)] [] mk fun d g => N (d.1) (d.2.1)
theorem ok : EntOk Try.prog (e f) := entOk_loop (ps := [.dat (.list RowT), .dat (.list RowT)]) (rs := []) (mk := mk) (idx := idx) (S := stt) (step := step) (T := fun d g => T (d.1) (d.2.1)) (Kit.nil prog_mix) (by decide) (fn := Try.f11) (cuts := cuts) (rts := [.dat .bool])
  rfl (by decide) rfl (Nat.le_of_ble_eq_true rfl) (fun _ => rfl) (fun d g R L => tr (d.1) (d.2.1) R L) (fun s g R L => match s with
    | .l4 x0 x1 x5 => tr4 x0 x1 x5 R L)
end rovingref13_SameRows

-- roving/rovingref13.GreatBatches (0 l, 1 l, 3 i, 4 k)
namespace rovingref13_GreatBatches
def mk (b : Bool) : Out := { v := .dat .bool b }
inductive S where
  | l4 (x0 : (List BatchD)) (x3 : Int)
  | l9 (x0 : (List BatchD)) (x3 : Int) (x4 : Int)
def idx : S → Nat
  | .l4 _ _ => 4
  | .l9 _ _ _ => 9
def stt : S → St
  | .l4 x0 x3 => st 55 [(0, .dat (.list BatchT) x0), (3, .dat I64 x3)] []
  | .l9 x0 x3 x4 => st 55 [(0, .dat (.list BatchT) x0), (3, .dat I64 x3), (4, .dat I64 x4)] []
def T (a0 : (List BatchD)) : Tr (S ⊕ Bool) :=
  (.br (decide ((((List.length a0) : Nat) : Int) > (40 : Int)))
    (.ret (.inr true))
    (.ret (.inl (.l4 a0 (0 : Int)))))
def T4 (x0 : (List BatchD)) (x3 : Int) : Tr (S ⊕ Bool) :=
  (.br (decide (x3 < (((List.length x0) : Nat) : Int)))
    (.need (((0 : Int) ≤ x3) ∧ (x3 < (((List.length x0) : Nat) : Int)))
    (.br (decide ((((List.length (List.getD x0 (Int.toNat x3) (Ty.dflt BatchT)).2.2.2.2) : Nat) : Int) > (40 : Int)))
      (.ret (.inr true))
      (.ret (.inl (.l9 x0 x3 (0 : Int))))))
    (.ret (.inr false)))
def T9 (x0 : (List BatchD)) (x3 : Int) (x4 : Int) : Tr (S ⊕ Bool) :=
  (.need (((0 : Int) ≤ x3) ∧ (x3 < (((List.length x0) : Nat) : Int)))
  (.br (decide (x4 < (((List.length (List.getD x0 (Int.toNat x3) (Ty.dflt BatchT)).2.2.2.2) : Nat) : Int)))
    (.need (((0 : Int) ≤ x3) ∧ (x3 < (((List.length x0) : Nat) : Int)))
    (.need (((0 : Int) ≤ x4) ∧ (x4 < (((List.length (List.getD x0 (Int.toNat x3) (Ty.dflt BatchT)).2.2.2.2) : Nat) : Int)))
    (.need (((decide ((((ByteArray.size (List.getD (List.getD x0 (Int.toNat x3) (Ty.dflt BatchT)).2.2.2.2 (Int.toNat x4) (Ty.dflt RecordT)).1) : Nat) : Int) > (200 : Int))) = false) → (((0 : Int) ≤ x3) ∧ (x3 < (((List.length x0) : Nat) : Int))))
    (.need (((decide ((((ByteArray.size (List.getD (List.getD x0 (Int.toNat x3) (Ty.dflt BatchT)).2.2.2.2 (Int.toNat x4) (Ty.dflt RecordT)).1) : Nat) : Int) > (200 : Int))) = false) → (((0 : Int) ≤ x4) ∧ (x4 < (((List.length (List.getD x0 (Int.toNat x3) (Ty.dflt BatchT)).2.2.2.2) : Nat) : Int))))
    (.br (bif (decide ((((ByteArray.size (List.getD (List.getD x0 (Int.toNat x3) (Ty.dflt BatchT)).2.2.2.2 (Int.toNat x4) (Ty.dflt RecordT)).1) : Nat) : Int) > (200 : Int))) then true else (decide ((((ByteArray.size (List.getD (List.getD x0 (Int.toNat x3) (Ty.dflt BatchT)).2.2.2.2 (Int.toNat x4) (Ty.dflt RecordT)).2) : Nat) : Int) > (200 : Int))))
      (.ret (.inr true))
      (.ret (.inl (.l9 x0 x3 (Go.IntKind.wrap Go.IntKind.i64 (x4 + (1 : Int)))))))))))
    (.ret (.inl (.l4 x0 (Go.IntKind.wrap Go.IntKind.i64 (x3 + (1 : Int))))))))
def step : S → Tr (S ⊕ Bool)
  | .l4 x0 x3 => T4 x0 x3
  | .l9 x0 x3 x4 => T9 x0 x3 x4
def cuts : List (Nat × Cut) := [(4, { slots := [(0, .dat (.list BatchT)), (3, .dat I64)], regs := [] }), (9, { slots := [(0, .dat (.list BatchT)), (3, .dat I64), (4, .dat I64)], regs := [] })]
theorem tr (a0 : (List BatchD)) (R : Out → Prop) (L : List Item → St → Prop) : evFn Try.prog [] Try.f16 [.dat .bool] cuts [.dat (.list BatchT) a0] [] R L = (T a0).wp (outcome Try.f16 idx stt mk R L) := by kernel_rfl
theorem tr4 (x0 : (List BatchD)) (x3 : Int) (R : Out → Prop) (L : List Item → St → Prop) : evLoop Try.prog [] Try.f16 [.dat .bool] cuts 4 (stt (.l4 x0 x3)) [] R L = (T4 x0 x3).wp (outcome Try.f16 idx stt mk R L) := by kernel_rfl
theorem tr9 (x0 : (List BatchD)) (x3 : Int) (x4 : Int) (R : Out → Prop) (L : List Item → St → Prop) : evLoop Try.prog [] Try.f16 [.dat .bool] cuts 9 (stt (.l9 x0 x3 x4)) [] R L = (T9 x0 x3 x4).wp (outcome Try.f16 idx stt mk R L) := by kernel_rfl
noncomputable def f (a0 : (List BatchD)) : Option Bool := loopO (step) (T a0)
def e (N : (List BatchD) → Option Bool) : Ent := entF 16 [.dat (.list BatchT)] [] mk fun d g => N (d.1)
theorem ok : EntOk Try.prog (e f) := entOk_loop (ps := [.dat (.list BatchT)]) (rs := []) (mk := mk) (idx := idx) (S := stt) (step := step) (T := fun d g => T (d.1)) (Kit.nil prog_mix) (by decide) (fn := Try.f16) (cuts := cuts) (rts := [.dat .bool])
  rfl (by decide) rfl (Nat.le_of_ble_eq_true rfl) (fun _ => rfl) (fun d g R L => tr (d.1) R L) (fun s g R L => match s with
    | .l4 x0 x3 => tr4 x0 x3 R L
    | .l9 x0 x3 x4 => tr9 x0 x3 x4 R L)
end rovingref13_GreatBatches

-- roving/rovingref13.Great (0 p, 1 p, 3 i, 4 i)
namespace rovingref13_Great
def mk (b : Bool) : Out := { v := .dat .bool b }
inductive S where
  | l4 (x3 : Int) (g0x0 : PartD)
  | l9 (x4 : Int) (g0x0 : PartD)
def idx : S → Nat
  | .l4 _ _ => 4
  | .l9 _ _ => 9
def stt : S → St
  | .l4 x3 g0x0 => st 49 [(1, .ref 0 0), (3, .dat I64 x3)] [.cells [.dat PartT g0x0]]
  | .l9 x4 g0x0 => st 49 [(1, .ref 0 0), (4, .dat I64 x4)] [.cells [.dat PartT g0x0]]
def T (N0 : (List RowD) → Option Bool) (N1 : (List BatchD) → Option Bool) (a0 : PartD) : Tr (S ⊕ Bool) :=
  (.call (N0 a0.2.2.1) default fun r0 =>
  (.br (bif (bif r0 then true else (decide ((((List.length a0.2.2.2.1) : Nat) : Int) > (40 : Int)))) then true else (decide ((((List.length a0.2.2.2.2) : Nat) : Int) > (40 : Int))))
    (.ret (.inr true))
    (.ret (.inl (.l4 (0 : Int) a0)))))
def T4 (N0 : (List RowD) → Option Bool) (N1 : (List BatchD) → Option Bool) (x3 : Int) (g0x0 : PartD) : Tr (S ⊕ Bool) :=
  (.br (decide (x3 < (((List.length g0x0.2.2.2.1) : Nat) : Int)))
    (.need (((0 : Int) ≤ x3) ∧ (x3 < (((List.length g0x0.2.2.2.1) : Nat) : Int)))
    (.call (N1 (List.getD g0x0.2.2.2.1 (Int.toNat x3) (Ty.dflt OpenT)).2.2) default fun r0 =>
    (.br r0
      (.ret (.inr true))
      (.ret (.inl (.l4 (Go.IntKind.wrap Go.IntKind.i64 (x3 + (1 : Int))) g0x0))))))
    (.ret (.inl (.l9 (0 : Int) g0x0))))
def T9 (N0 : (List RowD) → Option Bool) (N1 : (List BatchD) → Option Bool) (x4 : Int) (g0x0 : PartD) : Tr (S ⊕ Bool) :=
  (.br (decide (x4 < (((List.length g0x0.2.2.2.2) : Nat) : Int)))
    (.need (((0 : Int) ≤ x4) ∧ (x4 < (((List.length g0x0.2.2.2.2) : Nat) : Int)))
    (.br (decide ((((List.length (List.getD g0x0.2.2.2.2 (Int.toNat x4) (Ty.dflt ProdT)).2.2.2) : Nat) : Int) > (40 : Int)))
      (.ret (.inr true))
      (.ret (.inl (.l9 (Go.IntKind.wrap Go.IntKind.i64 (x4 + (1 : Int))) g0x0)))))
    (.ret (.inr false)))
def step (N0 : (List RowD) → Option Bool) (N1 : (List BatchD) → Option Bool) : S → Tr (S ⊕ Bool)
  | .l4 x3 g0x0 => T4 N0 N1 x3 g0x0
  | .l9 x4 g0x0 => T9 N0 N1 x4 g0x0
def cuts : List (Nat × Cut) := [(4, { slots := [(1, .ref 0 0), (3, .dat I64)], regs := [.cells (.slot 1) [.dat PartT]] }), (9, { slots := [(1, .ref 0 0), (4, .dat I64)], regs := [.cells (.slot 1) [.dat PartT]] })]
theorem tr (N0 : (List RowD) → Option Bool) (N1 : (List BatchD) → Option Bool) (a0 : PartD) (R : Out → Prop) (L : List Item → St → Prop) : evFn Try.prog [rovingref13_GreatRows.e N0, rovingref13_GreatBatches.e N1] Try.f7 [.dat .bool] cuts [.dat PartT a0] [] R L = (T N0 N1 a0).wp (outcome Try.f7 idx stt mk R L) := by kernel_rfl
theorem tr4 (N0 : (List RowD) → Option Bool) (N1 : (List BatchD) → Option Bool) (x3 : Int) (g0x0 : PartD) (R : Out → Prop) (L : List Item → St → Prop) : evLoop Try.prog [rovingref13_GreatRows.e N0, rovingref13_GreatBatches.e N1] Try.f7 [.dat .bool] cuts 4 (stt (.l4 x3 g0x0)) [] R L = (T4 N0 N1 x3 g0x0).wp (outcome Try.f7 idx stt mk R L) := by kernel_rfl
theorem tr9 (N0 : (List RowD) → Option Bool) (N1 : (List BatchD) → Option Bool) (x4 : Int) (g0x0 : PartD) (R : Out → Prop) (L : List Item → St → Prop) : evLoop Try.prog [rovingref13_GreatRows.e N0, rovingref13_GreatBatches.e N1] Try.f7 [.dat .bool] cuts 9 (stt (.l9 x4 g0x0)) [] R L = (T9 N0 N1 x4 g0x0).wp (outcome Try.f7 idx stt mk R L) := by kernel_rfl
noncomputable def f (a0 : PartD) : Option Bool := loopO (step rovingref13_GreatRows.f rovingref13_GreatBatches.f) (T rovingref13_GreatRows.f rovingref13_GreatBatches.f a0)
def e (N : PartD → Option Bool) : Ent := entF 7 [.dat PartT] [] mk fun d g => N (d.1)
theorem ok : EntOk Try.prog (e f) := entOk_loop (ps := [.dat PartT]) (rs := []) (mk := mk) (idx := idx) (S := stt) (step := step rovingref13_GreatRows.f rovingref13_GreatBatches.f) (T := fun d g => T rovingref13_GreatRows.f rovingref13_GreatBatches.f (d.1)) (Kit.cons rovingref13_GreatRows.ok (Kit.cons rovingref13_GreatBatches.ok (Kit.nil prog_mix))) (by decide) (fn := Try.f7) (cuts := cuts) (rts := [.dat .bool])
  rfl (by decide) rfl (Nat.le_of_ble_eq_true rfl) (fun _ => rfl) (fun d g R L => tr rovingref13_GreatRows.f rovingref13_GreatBatches.f (d.1) R L) (fun s g R L => match s with
    | .l4 x3 g0x0 => tr4 rovingref13_GreatRows.f rovingref13_GreatBatches.f x3 g0x0 R L
    | .l9 x4 g0x0 => tr9 rovingref13_GreatRows.f rovingref13_GreatBatches.f x4 g0x0 R L)
end rovingref13_Great

-- roving/read.offset (0 r, 1 r)
namespace read_offset
def mk (b : Int) : Out := { v := .dat I64 b }
def T (a0 : RowD) : Tr (Int) :=
  (.ret (List.getD (a0 :: ([] : List RowD)) 0 (Ty.dflt RowT)).1)
theorem tr (a0 : RowD) (R : Out → Prop) (L : List Item → St → Prop) : evFn Try.prog [] Try.f18 [.dat I64] [] [.elt RowT [a0] 0 0] [] R L = (T a0).wp (fun b => R (mk b)) := by kernel_rfl
noncomputable def f (a0 : RowD) : Option Int := (T a0).opt
def e (N : RowD → Option Int) : Ent := entF 18 [.ptr RowT] [] mk fun d g => N (d.1)
theorem ok : EntOk Try.prog (e f) := entOk_tree (ps := [.ptr RowT]) (rs := []) (mk := mk) (T := fun d g => T (d.1)) (Kit.nil prog_mix) (by decide) (fn := Try.f18) (cuts := []) (rts := [.dat I64])
  rfl (by decide) rfl (Nat.le_of_ble_eq_true rfl) (fun _ => rfl) (fun d g R L => tr (d.1) R L)
end read_offset

-- roving/read.rises[roving/api.Row] (0 l, 1 of, 2 l, 3 of, 5 i)
namespace read_rises_api_Row
def mk (b : Bool) : Out := { v := .dat .bool b }
inductive S where
  | l2 (x0 : (List RowD)) (x5 : Int)
def idx : S → Nat
  | .l2 _ _ => 2
def stt : S → St
  | .l2 x0 x5 => st 24 [(0, .dat (.list RowT) x0), (1, .fn (.func 18) [] []), (5, .dat I64 x5)] []
def T (N0 : RowD → Option Int) (a0 : (List RowD)) : Tr (S ⊕ Bool) :=
  (.ret (.inl (.l2 a0 (1 : Int))))
def T2 (N0 : RowD → Option Int) (x0 : (List RowD)) (x5 : Int) : Tr (S ⊕ Bool) :=
  (.br (decide (x5 < (((List.length x0) : Nat) : Int)))
    (.need (((0 : Int) ≤ x5) ∧ (x5 < (((List.length x0) : Nat) : Int)))
    (.call (N0 (List.getD x0 (Int.toNat x5) (Ty.dflt RowT))) default fun r0 =>
    (.need (((0 : Int) ≤ (Go.IntKind.wrap Go.IntKind.i64 (x5 - (1 : Int)))) ∧ ((Go.IntKind.wrap Go.IntKind.i64 (x5 - (1 : Int))) < (((List.length x0) : Nat) : Int)))
    (.call (N0 (List.getD x0 (Int.toNat (Go.IntKind.wrap Go.IntKind.i64 (x5 - (1 : Int)))) (Ty.dflt RowT))) default fun r1 =>
    (.br (decide (r0 ≤ r1))
      (.ret (.inr false))
      (.ret (.inl (.l2 x0 (Go.IntKind.wrap Go.IntKind.i64 (x5 + (1 : Int)))))))))))
    (.ret (.inr true)))
def step (N0 : RowD → Option Int) : S → Tr (S ⊕ Bool)
  | .l2 x0 x5 => T2 N0 x0 x5
def cuts : List (Nat × Cut) := [(2, { slots := [(0, .dat (.list RowT)), (1, .fn 18 []), (5, .dat I64)], regs := [] })]
theorem tr (N0 : RowD → Option Int) (a0 : (List RowD)) (R : Out → Prop) (L : List Item → St → Prop) : evFn Try.prog [read_offset.e N0] Try.f17 [.dat .bool] cuts [.dat (.list RowT) a0, .fn (.func 18) [] []] [] R L = (T N0 a0).wp (outcome Try.f17 idx stt mk R L) := by kernel_rfl
theorem tr2 (N0 : RowD → Option Int) (x0 : (List RowD)) (x5 : Int) (R : Out → Prop) (L : List Item → St → Prop) : evLoop Try.prog [read_offset.e N0] Try.f17 [.dat .bool] cuts 2 (stt (.l2 x0 x5)) [] R L = (T2 N0 x0 x5).wp (outcome Try.f17 idx stt mk R L) := by kernel_rfl
noncomputable def f (a0 : (List RowD)) : Option Bool := loopO (step read_offset.f) (T read_offset.f a0)
def e (N : (List RowD) → Option Bool) : Ent := entF 17 [.dat (.list RowT), .fn 18 []] [] mk fun d g => N (d.1)
theorem ok : EntOk Try.prog (e f) := entOk_loop (ps := [.dat (.list RowT), .fn 18 []]) (rs := []) (mk := mk) (idx := idx) (S := stt) (step := step read_offset.f) (T := fun d g => T read_offset.f (d.1)) (Kit.cons read_offset.ok (Kit.nil prog_mix)) (by decide) (fn := Try.f17) (cuts := cuts) (rts := [.dat .bool])
  rfl (by decide) rfl (Nat.le_of_ble_eq_true rfl) (fun _ => rfl) (fun d g R L => tr read_offset.f (d.1) R L) (fun s g R L => match s with
    | .l2 x0 x5 => tr2 read_offset.f x0 x5 R L)
end read_rises_api_Row

-- roving/read.pid (0 o, 1 o)
namespace read_pid
def mk (b : Int) : Out := { v := .dat I64 b }
def T (a0 : OpenD) : Tr (Int) :=
  (.ret (List.getD (a0 :: ([] : List OpenD)) 0 (Ty.dflt OpenT)).1)
theorem tr (a0 : OpenD) (R : Out → Prop) (L : List Item → St → Prop) : evFn Try.prog [] Try.f20 [.dat I64] [] [.elt OpenT [a0] 0 0] [] R L = (T a0).wp (fun b => R (mk b)) := by kernel_rfl
noncomputable def f (a0 : OpenD) : Option Int := (T a0).opt
def e (N : OpenD → Option Int) : Ent := entF 20 [.ptr OpenT] [] mk fun d g => N (d.1)
theorem ok : EntOk Try.prog (e f) := entOk_tree (ps := [.ptr OpenT]) (rs := []) (mk := mk) (T := fun d g => T (d.1)) (Kit.nil prog_mix) (by decide) (fn := Try.f20) (cuts := []) (rts := [.dat I64])
  rfl (by decide) rfl (Nat.le_of_ble_eq_true rfl) (fun _ => rfl) (fun d g R L => tr (d.1) R L)
end read_pid

-- roving/read.rises[roving/api.Open] (0 l, 1 of, 2 l, 3 of, 5 i)
namespace read_rises_api_Open
def mk (b : Bool) : Out := { v := .dat .bool b }
inductive S where
  | l2 (x0 : (List OpenD)) (x5 : Int)
def idx : S → Nat
  | .l2 _ _ => 2
def stt : S → St
  | .l2 x0 x5 => st 24 [(0, .dat (.list OpenT) x0), (1, .fn (.func 20) [] []), (5, .dat I64 x5)] []
def T (N0 : OpenD → Option Int) (a0 : (List OpenD)) : Tr (S ⊕ Bool) :=
  (.ret (.inl (.l2 a0 (1 : Int))))
def T2 (N0 : OpenD → Option Int) (x0 : (List OpenD)) (x5 : Int) : Tr (S ⊕ Bool) :=
  (.br (decide (x5 < (((List.length x0) : Nat) : Int)))
    (.need (((0 : Int) ≤ x5) ∧ (x5 < (((List.length x0) : Nat) : Int)))
    (.call (N0 (List.getD x0 (Int.toNat x5) (Ty.dflt OpenT))) default fun r0 =>
    (.need (((0 : Int) ≤ (Go.IntKind.wrap Go.IntKind.i64 (x5 - (1 : Int)))) ∧ ((Go.IntKind.wrap Go.IntKind.i64 (x5 - (1 : Int))) < (((List.length x0) : Nat) : Int)))
    (.call (N0 (List.getD x0 (Int.toNat (Go.IntKind.wrap Go.IntKind.i64 (x5 - (1 : Int)))) (Ty.dflt OpenT))) default fun r1 =>
    (.br (decide (r0 ≤ r1))
      (.ret (.inr false))
      (.ret (.inl (.l2 x0 (Go.IntKind.wrap Go.IntKind.i64 (x5 + (1 : Int)))))))))))
    (.ret (.inr true)))
def step (N0 : OpenD → Option Int) : S → Tr (S ⊕ Bool)
  | .l2 x0 x5 => T2 N0 x0 x5
def cuts : List (Nat × Cut) := [(2, { slots := [(0, .dat (.list OpenT)), (1, .fn 20 []), (5, .dat I64)], regs := [] })]
theorem tr (N0 : OpenD → Option Int) (a0 : (List OpenD)) (R : Out → Prop) (L : List Item → St → Prop) : evFn Try.prog [read_pid.e N0] Try.f19 [.dat .bool] cuts [.dat (.list OpenT) a0, .fn (.func 20) [] []] [] R L = (T N0 a0).wp (outcome Try.f19 idx stt mk R L) := by kernel_rfl
theorem tr2 (N0 : OpenD → Option Int) (x0 : (List OpenD)) (x5 : Int) (R : Out → Prop) (L : List Item → St → Prop) : evLoop Try.prog [read_pid.e N0] Try.f19 [.dat .bool] cuts 2 (stt (.l2 x0 x5)) [] R L = (T2 N0 x0 x5).wp (outcome Try.f19 idx stt mk R L) := by kernel_rfl
noncomputable def f (a0 : (List OpenD)) : Option Bool := loopO (step read_pid.f) (T read_pid.f a0)
def e (N : (List OpenD) → Option Bool) : Ent := entF 19 [.dat (.list OpenT), .fn 20 []] [] mk fun d g => N (d.1)
theorem ok : EntOk Try.prog (e f) := entOk_loop (ps := [.dat (.list OpenT), .fn 20 []]) (rs := []) (mk := mk) (idx := idx) (S := stt) (step := step read_pid.f) (T := fun d g => T read_pid.f (d.1)) (Kit.cons read_pid.ok (Kit.nil prog_mix)) (by decide) (fn := Try.f19) (cuts := cuts) (rts := [.dat .bool])
  rfl (by decide) rfl (Nat.le_of_ble_eq_true rfl) (fun _ => rfl) (fun d g R L => tr read_pid.f (d.1) R L) (fun s g R L => match s with
    | .l2 x0 x5 => tr2 read_pid.f x0 x5 R L)
end read_rises_api_Open

-- roving/read.Check$1 (0 o, 1 o)
namespace read_Check_1
def mk (b : Bool) : Out := { v := .dat .bool b }
def T (a0 : OpenD) : Tr (Bool) :=
  (.ret ((((List.length a0.2.2) : Nat) : Int) == (0 : Int)))
theorem tr (a0 : OpenD) (R : Out → Prop) (L : List Item → St → Prop) : evFn Try.prog [] Try.f22 [.dat .bool] [] [.dat OpenT a0] [] R L = (T a0).wp (fun b => R (mk b)) := by kernel_rfl
noncomputable def f (a0 : OpenD) : Option Bool := (T a0).opt
def e (N : OpenD → Option Bool) : Ent := entF 22 [.dat OpenT] [] mk fun d g => N (d.1)
theorem ok : EntOk Try.prog (e f) := entOk_tree (ps := [.dat OpenT]) (rs := []) (mk := mk) (T := fun d g => T (d.1)) (Kit.nil prog_mix) (by decide) (fn := Try.f22) (cuts := []) (rts := [.dat .bool])
  rfl (by decide) rfl (Nat.le_of_ble_eq_true rfl) (fun _ => rfl) (fun d g R L => tr (d.1) R L)
end read_Check_1

-- slices.IndexFunc[[]roving/api.Open,roving/api.Open] (0 s, 1 f, 2 s, 3 f, 5 i)
namespace slices_IndexFunc_api_Open_api_Open
def mk (b : Int) : Out := { v := .dat I64 b }
inductive S where
  | l2 (x0 : (List OpenD)) (x7 : Int) (x8 : Int)
def idx : S → Nat
  | .l2 _ _ _ => 2
def stt : S → St
  | .l2 x0 x7 x8 => st 19 [(0, .dat (.list OpenT) x0), (1, .fn (.func 22) [] []), (7, .dat I64 x7), (8, .dat I64 x8)] []
def T (N0 : OpenD → Option Bool) (a0 : (List OpenD)) : Tr (S ⊕ Int) :=
  (.ret (.inl (.l2 a0 (((List.length a0) : Nat) : Int) (0 : Int))))
def T2 (N0 : OpenD → Option Bool) (x0 : (List OpenD)) (x7 : Int) (x8 : Int) : Tr (S ⊕ Int) :=
  (.br (decide (x8 < x7))
    (.need (((0 : Int) ≤ x8) ∧ (x8 < (((List.length x0) : Nat) : Int)))
    (.call (N0 (List.getD x0 (Int.toNat x8) (Ty.dflt OpenT))) default fun r0 =>
    (.br r0
      (.ret (.inr x8))
      (.ret (.inl (.l2 x0 x7 (Go.IntKind.wrap Go.IntKind.i64 (x8 + (1 : Int)))))))))
    (.ret (.inr (-(1 : Int)))))
def step (N0 : OpenD → Option Bool) : S → Tr (S ⊕ Int)
  | .l2 x0 x7 x8 => T2 N0 x0 x7 x8
def cuts : List (Nat × Cut) := [(2, { slots := [(0, .dat (.list OpenT)), (1, .fn 22 []), (7, .dat I64), (8, .dat I64)], regs := [] })]
theorem tr (N0 : OpenD → Option Bool) (a0 : (List OpenD)) (R : Out → Prop) (L : List Item → St → Prop) : evFn Try.prog [read_Check_1.e N0] Try.f28 [.dat I64] cuts [.dat (.list OpenT) a0, .fn (.func 22) [] []] [] R L = (T N0 a0).wp (outcome Try.f28 idx stt mk R L) := by kernel_rfl
theorem tr2 (N0 : OpenD → Option Bool) (x0 : (List OpenD)) (x7 : Int) (x8 : Int) (R : Out → Prop) (L : List Item → St → Prop) : evLoop Try.prog [read_Check_1.e N0] Try.f28 [.dat I64] cuts 2 (stt (.l2 x0 x7 x8)) [] R L = (T2 N0 x0 x7 x8).wp (outcome Try.f28 idx stt mk R L) := by kernel_rfl
noncomputable def f (a0 : (List OpenD)) : Option Int := loopO (step read_Check_1.f) (T read_Check_1.f a0)
def e (N : (List OpenD) → Option Int) : Ent := entF 28 [.dat (.list OpenT), .fn 22 []] [] mk fun d g => N (d.1)
theorem ok : EntOk Try.prog (e f) := entOk_loop (ps := [.dat (.list OpenT), .fn 22 []]) (rs := []) (mk := mk) (idx := idx) (S := stt) (step := step read_Check_1.f) (T := fun d g => T read_Check_1.f (d.1)) (Kit.cons read_Check_1.ok (Kit.nil prog_mix)) (by decide) (fn := Try.f28) (cuts := cuts) (rts := [.dat I64])
  rfl (by decide) rfl (Nat.le_of_ble_eq_true rfl) (fun _ => rfl) (fun d g R L => tr read_Check_1.f (d.1) R L) (fun s g R L => match s with
    | .l2 x0 x7 x8 => tr2 read_Check_1.f x0 x7 x8 R L)
end slices_IndexFunc_api_Open_api_Open

-- slices.ContainsFunc[[]roving/api.Open,roving/api.Open] (0 s, 1 f, 2 s, 3 f)
namespace slices_ContainsFunc_api_Open_api_Open
def mk (b : Bool) : Out := { v := .dat .bool b }
def T (N0 : (List OpenD) → Option Int) (a0 : (List OpenD)) : Tr (Bool) :=
  (.call (N0 a0) default fun r0 =>
  (.ret (decide (r0 ≥ (0 : Int)))))
theorem tr (N0 : (List OpenD) → Option Int) (a0 : (List OpenD)) (R : Out → Prop) (L : List Item → St → Prop) : evFn Try.prog [slices_IndexFunc_api_Open_api_Open.e N0] Try.f21 [.dat .bool] [] [.dat (.list OpenT) a0, .fn (.func 22) [] []] [] R L = (T N0 a0).wp (fun b => R (mk b)) := by kernel_rfl
noncomputable def f (a0 : (List OpenD)) : Option Bool := (T slices_IndexFunc_api_Open_api_Open.f a0).opt
def e (N : (List OpenD) → Option Bool) : Ent := entF 21 [.dat (.list OpenT), .fn 22 []] [] mk fun d g => N (d.1)
theorem ok : EntOk Try.prog (e f) := entOk_tree (ps := [.dat (.list OpenT), .fn 22 []]) (rs := []) (mk := mk) (T := fun d g => T slices_IndexFunc_api_Open_api_Open.f (d.1)) (Kit.cons slices_IndexFunc_api_Open_api_Open.ok (Kit.nil prog_mix)) (by decide) (fn := Try.f21) (cuts := []) (rts := [.dat .bool])
  rfl (by decide) rfl (Nat.le_of_ble_eq_true rfl) (fun _ => rfl) (fun d g R L => tr slices_IndexFunc_api_Open_api_Open.f (d.1) R L)
end slices_ContainsFunc_api_Open_api_Open

-- roving/read.Check (0 p, 1 p, 3 n)
namespace read_Check
def mk (b : Int) : Out := { v := .dat I64 b }
def T (N0 : (List RowD) → Option Bool) (N1 : (List OpenD) → Option Bool) (N2 : (List OpenD) → Option Bool) (a0 : PartD) : Tr (Int) :=
  (.br (decide (a0.1 < (0 : Int)))
    (.ret (2 : Int))
    (.br (decide (a0.1 > a0.2.1))
      (.ret (2 : Int))
      (.br (decide (a0.2.1 > (1048576 : Int)))
        (.ret (2 : Int))
        (.call (N0 a0.2.2.1) default fun r0 =>
        (.br (!r0)
          (.ret (2 : Int))
          (.call (N1 a0.2.2.2.1) default fun r1 =>
          (.br (!r1)
            (.ret (2 : Int))
            (.need (((decide ((((List.length a0.2.2.1) : Nat) : Int) > (0 : Int))) = true) → (((0 : Int) ≤ (0 : Int)) ∧ ((0 : Int) < (((List.length a0.2.2.1) : Nat) : Int))))
            (.need (((decide ((List.getD a0.2.2.1 0 (Ty.dflt RowT)).1 < a0.1)) = false) → (((decide ((((List.length a0.2.2.1) : Nat) : Int) > (0 : Int))) = true) → (((0 : Int) ≤ (Go.IntKind.wrap Go.IntKind.i64 ((((List.length a0.2.2.1) : Nat) : Int) - (1 : Int)))) ∧ ((Go.IntKind.wrap Go.IntKind.i64 ((((List.length a0.2.2.1) : Nat) : Int) - (1 : Int))) < (((List.length a0.2.2.1) : Nat) : Int)))))
            (.br (bif (decide ((((List.length a0.2.2.1) : Nat) : Int) > (0 : Int))) then (bif (decide ((List.getD a0.2.2.1 0 (Ty.dflt RowT)).1 < a0.1)) then true else (decide ((List.getD a0.2.2.1 (Int.toNat (Go.IntKind.wrap Go.IntKind.i64 ((((List.length a0.2.2.1) : Nat) : Int) - (1 : Int)))) (Ty.dflt RowT)).1 ≥ a0.2.1))) else false)
              (.ret (2 : Int))
              (.call (N2 a0.2.2.2.1) default fun r2 =>
              (.br r2
                (.ret (2 : Int))
                (.ret (0 : Int))))))))))))))
theorem tr (N0 : (List RowD) → Option Bool) (N1 : (List OpenD) → Option Bool) (N2 : (List OpenD) → Option Bool) (a0 : PartD) (R : Out → Prop) (L : List Item → St → Prop) : evFn Try.prog [read_rises_api_Row.e N0, read_rises_api_Open.e N1, slices_ContainsFunc_api_Open_api_Open.e N2] Try.f8 [.dat I64] [] [.dat PartT a0] [] R L = (T N0 N1 N2 a0).wp (fun b => R (mk b)) := by kernel_rfl
noncomputable def f (a0 : PartD) : Option Int := (T read_rises_api_Row.f read_rises_api_Open.f slices_ContainsFunc_api_Open_api_Open.f a0).opt
def e (N : PartD → Option Int) : Ent := entF 8 [.dat PartT] [] mk fun d g => N (d.1)
theorem ok : EntOk Try.prog (e f) := entOk_tree (ps := [.dat PartT]) (rs := []) (mk := mk) (T := fun d g => T read_rises_api_Row.f read_rises_api_Open.f slices_ContainsFunc_api_Open_api_Open.f (d.1)) (Kit.cons read_rises_api_Row.ok (Kit.cons read_rises_api_Open.ok (Kit.cons slices_ContainsFunc_api_Open_api_Open.ok (Kit.nil prog_mix)))) (by decide) (fn := Try.f8) (cuts := []) (rts := [.dat I64])
  rfl (by decide) rfl (Nat.le_of_ble_eq_true rfl) (fun _ => rfl) (fun d g R L => tr read_rises_api_Row.f read_rises_api_Open.f slices_ContainsFunc_api_Open_api_Open.f (d.1) R L)
end read_Check

-- roving/rovinglaw13.some ()
namespace rovinglaw13_some
def mk (b : PartD) : Out := { v := .dat PartT b }
def T : Tr (PartD) :=
  (.ret ((0 : Int), ((10 : Int), ((((2 : Int), ((1 : Int), ((0 : Int), ((ByteArray.mk (List.toArray ([] : List UInt8))), (ByteArray.mk (List.toArray ([] : List UInt8))))))) :: (((4 : Int), ((1 : Int), ((1 : Int), ((ByteArray.mk (List.toArray ([] : List UInt8))), (ByteArray.mk (List.toArray ([] : List UInt8))))))) :: (((5 : Int), ((1 : Int), ((2 : Int), ((ByteArray.mk (List.toArray ([] : List UInt8))), (ByteArray.mk (List.toArray ([] : List UInt8))))))) :: (((9 : Int), ((1 : Int), ((3 : Int), ((ByteArray.mk (List.toArray ([] : List UInt8))), (ByteArray.mk (List.toArray ([] : List UInt8))))))) :: ([] : List RowD))))), (([] : List OpenD), ([] : List ProdD))))))
theorem tr (R : Out → Prop) (L : List Item → St → Prop) : evFn Try.prog [] Try.f23 [.dat PartT] [] [] [] R L = (T).wp (fun b => R (mk b)) := by kernel_rfl
noncomputable def f : Option PartD := (T).opt
def e (N : Option PartD) : Ent := entF 23 [] [] mk fun d g => N
theorem ok : EntOk Try.prog (e f) := entOk_tree (ps := []) (rs := []) (mk := mk) (T := fun d g => T) (Kit.nil prog_mix) (by decide) (fn := Try.f23) (cuts := []) (rts := [.dat PartT])
  rfl (by decide) rfl (Nat.le_of_ble_eq_true rfl) (fun _ => rfl) (fun d g R L => tr R L)
end rovinglaw13_some

-- roving/read.from$1 (0 r, 2 r)
namespace read_from_1
def mk (b : (Bool × Int)) : Out := { v := .dat .bool b.1, wr := [(0, .cells [.dat I64 b.2])] }
def T (a0 : RowD) (g0x0 : Int) : Tr ((Bool × Int)) :=
  (.ret ((decide (a0.1 ≥ g0x0)), g0x0))
theorem tr (a0 : RowD) (g0x0 : Int) (R : Out → Prop) (L : List Item → St → Prop) : evFn Try.prog [] Try.f30 [.dat .bool] [] [.dat RowT a0, .ref 0 0] [.cells [.dat I64 g0x0]] R L = (T a0 g0x0).wp (fun b => R (mk b)) := by kernel_rfl
noncomputable def f (a0 : RowD) (g0x0 : Int) : Option (Bool × Int) := (T a0 g0x0).opt
def e (N : RowD → Int → Option (Bool × Int)) : Ent := entF 30 [.dat RowT, .ref 0 0] [.cells [.dat I64]] mk fun d g => N (d.1) (g.1.1)
theorem ok : EntOk Try.prog (e f) := entOk_tree (ps := [.dat RowT, .ref 0 0]) (rs := [.cells [.dat I64]]) (mk := mk) (T := fun d g => T (d.1) (g.1.1)) (Kit.nil prog_mix) (by decide) (fn := Try.f30) (cuts := []) (rts := [.dat .bool])
  rfl (by decide) rfl (Nat.le_of_ble_eq_true rfl) (fun _ => rfl) (fun d g R L => tr (d.1) (g.1.1) R L)
end read_from_1

-- slices.IndexFunc[[]roving/api.Row,roving/api.Row] (0 s, 1 f, 2 s, 3 f, 5 i)
namespace slices_IndexFunc_api_Row_api_Row
def mk (b : (Int × Int)) : Out := { v := .dat I64 b.1, wr := [(0, .cells [.dat I64 b.2])] }
inductive S where
  | l2 (x0 : (List RowD)) (x7 : Int) (x8 : Int) (g0x0 : Int)
def idx : S → Nat
  | .l2 _ _ _ _ => 2
def stt : S → St
  | .l2 x0 x7 x8 g0x0 => st 19 [(0, .dat (.list RowT) x0), (1, .fn (.func 30) [] [.ref 0 0]), (7, .dat I64 x7), (8, .dat I64 x8)] [.cells [.dat I64 g0x0]]
def T (N0 : RowD → Int → Option (Bool × Int)) (a0 : (List RowD)) (g0x0 : Int) : Tr (S ⊕ (Int × Int)) :=
  (.ret (.inl (.l2 a0 (((List.length a0) : Nat) : Int) (0 : Int) g0x0)))
def T2 (N0 : RowD → Int → Option (Bool × Int)) (x0 : (List RowD)) (x7 : Int) (x8 : Int) (g0x0 : Int) : Tr (S ⊕ (Int × Int)) :=
  (.br (decide (x8 < x7))
    (.need (((0 : Int) ≤ x8) ∧ (x8 < (((List.length x0) : Nat) : Int)))
    (.call (N0 (List.getD x0 (Int.toNat x8) (Ty.dflt RowT)) g0x0) default fun r0 =>
    (.br r0.1
      (.ret (.inr (x8, r0.2)))
      (.ret (.inl (.l2 x0 x7 (Go.IntKind.wrap Go.IntKind.i64 (x8 + (1 : Int))) r0.2))))))
    (.ret (.inr ((-(1 : Int)), g0x0))))
def step (N0 : RowD → Int → Option (Bool × Int)) : S → Tr (S ⊕ (Int × Int))
  | .l2 x0 x7 x8 g0x0 => T2 N0 x0 x7 x8 g0x0
def cuts : List (Nat × Cut) := [(2, { slots := [(0, .dat (.list RowT)), (1, .fn 30 [(0, 0)]), (7, .dat I64), (8, .dat I64)], regs := [.cells (.at 0) [.dat I64]] })]
theorem tr (N0 : RowD → Int → Option (Bool × Int)) (a0 : (List RowD)) (g0x0 : Int) (R : Out → Prop) (L : List Item → St → Prop) : evFn Try.prog [read_from_1.e N0] Try.f29 [.dat I64] cuts [.dat (.list RowT) a0, .fn (.func 30) [] [.ref 0 0]] [.cells [.dat I64 g0x0]] R L = (T N0 a0 g0x0).wp (outcome Try.f29 idx stt mk R L) := by kernel_rfl
theorem tr2 (N0 : RowD → Int → Option (Bool × Int)) (x0 : (List RowD)) (x7 : Int) (x8 : Int) (g0x0 : Int) (cg0x0 : Int) (R : Out → Prop) (L : List Item → St → Prop) : evLoop Try.prog [read_from_1.e N0] Try.f29 [.dat I64] cuts 2 (stt (.l2 x0 x7 x8 g0x0)) [.cells [.dat I64 cg0x0]] R L = (T2 N0 x0 x7 x8 g0x0).wp (outcome Try.f29 idx stt mk R L) := by kernel_rfl
noncomputable def f (a0 : (List RowD)) (g0x0 : Int) : Option (Int × Int) := loopO (step read_from_1.f) (T read_from_1.f a0 g0x0)
def e (N : (List RowD) → Int → Option (Int × Int)) : Ent := entF 29 [.dat (.list RowT), .fn 30 [(0, 0)]] [.cells [.dat I64]] mk fun d g => N (d.1) (g.1.1)
theorem ok : EntOk Try.prog (e f) := entOk_loop (ps := [.dat (.list RowT), .fn 30 [(0, 0)]]) (rs := [.cells [.dat I64]]) (mk := mk) (idx := idx) (S := stt) (step := step read_from_1.f) (T := fun d g => T read_from_1.f (d.1) (g.1.1)) (Kit.cons read_from_1.ok (Kit.nil prog_mix)) (by decide) (fn := Try.f29) (cuts := cuts) (rts := [.dat I64])
  rfl (by decide) rfl (Nat.le_of_ble_eq_true rfl) (fun _ => rfl) (fun d g R L => tr read_from_1.f (d.1) (g.1.1) R L) (fun s g R L => match s with
    | .l2 x0 x7 x8 g0x0 => tr2 read_from_1.f x0 x7 x8 g0x0 (g.1.1) R L)
end slices_IndexFunc_api_Row_api_Row

-- roving/read.from (0 l, 1 n, 2 l, 3 n, 5 k)
namespace read_from
def mk (b : (List RowD)) : Out := { v := .full RowT b }
def T (N0 : (List RowD) → Int → Option (Int × Int)) (a0 : (List RowD)) (a1 : Int) : Tr ((List RowD)) :=
  (.call (N0 a0 a1) default fun r0 =>
  (.br (decide (r0.1 < (0 : Int)))
    (.ret ([] : List RowD))
    (.need (((0 : Int) ≤ r0.1) ∧ ((r0.1 ≤ (((List.length a0) : Nat) : Int)) ∧ (((((List.length a0) : Nat) : Int) = (((List.length a0) : Nat) : Int)) ∧ ((((List.length a0) : Nat) : Int) ≤ (((List.length a0) : Nat) : Int)))))
    (.ret (List.drop (Int.toNat r0.1) (List.take (Int.toNat (((List.length a0) : Nat) : Int)) a0))))))
theorem tr (N0 : (List RowD) → Int → Option (Int × Int)) (a0 : (List RowD)) (a1 : Int) (R : Out → Prop) (L : List Item → St → Prop) : evFn Try.prog [slices_IndexFunc_api_Row_api_Row.e N0] Try.f24 [.full RowT] [] [.dat (.list RowT) a0, .dat I64 a1] [] R L = (T N0 a0 a1).wp (fun b => R (mk b)) := by kernel_rfl
noncomputable def f (a0 : (List RowD)) (a1 : Int) : Option (List RowD) := (T slices_IndexFunc_api_Row_api_Row.f a0 a1).opt
def e (N : (List RowD) → Int → Option (List RowD)) : Ent := entF 24 [.dat (.list RowT), .dat I64] [] mk fun d g => N (d.1) (d.2.1)
theorem ok : EntOk Try.prog (e f) := entOk_tree (ps := [.dat (.list RowT), .dat I64]) (rs := []) (mk := mk) (T := fun d g => T slices_IndexFunc_api_Row_api_Row.f (d.1) (d.2.1)) (Kit.cons slices_IndexFunc_api_Row_api_Row.ok (Kit.nil prog_mix)) (by decide) (fn := Try.f24) (cuts := []) (rts := [.full RowT])
  rfl (by decide) rfl (Nat.le_of_ble_eq_true rfl) (fun _ => rfl) (fun d g R L => tr slices_IndexFunc_api_Row_api_Row.f (d.1) (d.2.1) R L)
end read_from

-- roving/read.Fetch (0 p, 1 at, 2 most, 3 committed, 4 p, 5 at, 6 most, 7 committed, 8 rows, 9 next, 10 e, 11 r)
namespace read_Fetch
def mk (b : ((List RowD) × (Int × Int))) : Out := { v := .tup [.full RowT b.1, .dat I64 b.2.1, .dat I64 b.2.2] }
def T (N0 : PartD → Option Int) (N1 : (List RowD) → Int → Option (List RowD)) (a0 : PartD) (a1 : Int) (a2 : Int) : Tr (((List RowD) × (Int × Int))) :=
  (.call (N0 a0) default fun r0 =>
  (.br (r0 != (0 : Int))
    (.ret (([] : List RowD), ((0 : Int), (2 : Int))))
    (.br (decide (a2 < (0 : Int)))
      (.ret (([] : List RowD), ((0 : Int), (2 : Int))))
      (.br (decide (a2 > (64 : Int)))
        (.ret (([] : List RowD), ((0 : Int), (2 : Int))))
        (.br (decide (a1 < a0.1))
          (.ret (([] : List RowD), ((0 : Int), (130 : Int))))
          (.br (decide (a1 > a0.2.1))
            (.ret (([] : List RowD), ((0 : Int), (130 : Int))))
            (.call (N1 a0.2.2.1 a1) default fun r1 =>
            (.br (decide ((((List.length r1) : Nat) : Int) > a2))
              (.need (((0 : Int) ≤ (0 : Int)) ∧ (((0 : Int) ≤ a2) ∧ ((a2 = a2) ∧ (a2 ≤ (((List.length r1) : Nat) : Int)))))
              (.br (decide (a2 > (0 : Int)))
                (.need (((0 : Int) ≤ (Go.IntKind.wrap Go.IntKind.i64 (a2 - (1 : Int)))) ∧ ((Go.IntKind.wrap Go.IntKind.i64 (a2 - (1 : Int))) < (((List.length (List.drop 0 (List.take (Int.toNat a2) r1))) : Nat) : Int)))
                (.ret ((List.drop 0 (List.take (Int.toNat a2) r1)), ((Go.IntKind.wrap Go.IntKind.i64 ((List.getD (List.drop 0 (List.take (Int.toNat a2) r1)) (Int.toNat (Go.IntKind.wrap Go.IntKind.i64 (a2 - (1 : Int)))) (Ty.dflt RowT)).1 + (1 : Int))), (0 : Int)))))
                (.ret ((List.drop 0 (List.take (Int.toNat a2) r1)), (a1, (0 : Int))))))
              (.ret (r1, (a0.2.1, (0 : Int))))))))))))
theorem tr (N0 : PartD → Option Int) (N1 : (List RowD) → Int → Option (List RowD)) (a0 : PartD) (a1 : Int) (a2 : Int) (R : Out → Prop) (L : List Item → St → Prop) : evFn Try.prog [read_Check.e N0, read_from.e N1] Try.f10 [.full RowT, .dat I64, .dat I64] [] [.dat PartT a0, .dat I64 a1, .dat I64 a2, .dat .bool true] [] R L = (T N0 N1 a0 a1 a2).wp (fun b => R (mk b)) := by kernel_rfl
noncomputable def f (a0 : PartD) (a1 : Int) (a2 : Int) : Option ((List RowD) × (Int × Int)) := (T read_Check.f read_from.f a0 a1 a2).opt
def e (N : PartD → Int → Int → Option ((List RowD) × (Int × Int))) : Ent := entF 10 [.dat PartT, .dat I64, .dat I64, .con true] [] mk fun d g => N (d.1) (d.2.1) (d.2.2.1)
theorem ok : EntOk Try.prog (e f) := entOk_tree (ps := [.dat PartT, .dat I64, .dat I64, .con true]) (rs := []) (mk := mk) (T := fun d g => T read_Check.f read_from.f (d.1) (d.2.1) (d.2.2.1)) (Kit.cons read_Check.ok (Kit.cons read_from.ok (Kit.nil prog_mix))) (by decide) (fn := Try.f10) (cuts := []) (rts := [.full RowT, .dat I64, .dat I64])
  rfl (by decide) rfl (Nat.le_of_ble_eq_true rfl) (fun _ => rfl) (fun d g R L => tr read_Check.f read_from.f (d.1) (d.2.1) (d.2.2.1) R L)
end read_Fetch

-- roving/rovinglaw13.wakes (1 l, 2 n, 3 e, 4 m, 5 k, 6 f)
namespace rovinglaw13_wakes
def mk (b : Bool) : Out := { v := .dat .bool b }
def T (N0 : Option PartD) (N1 : PartD → Int → Int → Option ((List RowD) × (Int × Int))) : Tr (Bool) :=
  (.call N0 default fun r0 =>
  (.call (N1 r0 (3 : Int) (2 : Int)) default fun r1 =>
  (.call N0 default fun r2 =>
  (.call (N1 r0 (6 : Int) (9 : Int)) default fun r3 =>
  (.need (((bif (r1.2.2 == (0 : Int)) then ((((List.length r1.1) : Nat) : Int) == (2 : Int)) else false) = true) → (((0 : Int) ≤ (0 : Int)) ∧ ((0 : Int) < (((List.length r1.1) : Nat) : Int))))
  (.ret (bif (bif (bif (bif (bif (bif (r1.2.2 == (0 : Int)) then ((((List.length r1.1) : Nat) : Int) == (2 : Int)) else false) then ((List.getD r1.1 0 (Ty.dflt RowT)).1 == (4 : Int)) else false) then (r1.2.1 == (6 : Int)) else false) then (r3.2.2 == (0 : Int)) else false) then ((((List.length r3.1) : Nat) : Int) == (1 : Int)) else false) then (r3.2.1 == (10 : Int)) else false)))))))
theorem tr (N0 : Option PartD) (N1 : PartD → Int → Int → Option ((List RowD) × (Int × Int))) (R : Out → Prop) (L : List Item → St → Prop) : evFn Try.prog [rovinglaw13_some.e N0, read_Fetch.e N1] Try.f9 [.dat .bool] [] [] [] R L = (T N0 N1).wp (fun b => R (mk b)) := by kernel_rfl
noncomputable def f : Option Bool := (T rovinglaw13_some.f read_Fetch.f).opt
def e (N : Option Bool) : Ent := entF 9 [] [] mk fun d g => N
theorem ok : EntOk Try.prog (e f) := entOk_tree (ps := []) (rs := []) (mk := mk) (T := fun d g => T rovinglaw13_some.f read_Fetch.f) (Kit.cons rovinglaw13_some.ok (Kit.cons read_Fetch.ok (Kit.nil prog_mix))) (by decide) (fn := Try.f9) (cuts := []) (rts := [.dat .bool])
  rfl (by decide) rfl (Nat.le_of_ble_eq_true rfl) (fun _ => rfl) (fun d g R L => tr rovinglaw13_some.f read_Fetch.f R L)
end rovinglaw13_wakes

-- roving/rovinglaw13.ReadOn (0 p, 1 sizes, 2 p, 3 sizes, 5 all, 6 at, 7 n, 8 most, 9 l, 10 next, 11 e)
namespace rovinglaw13_ReadOn
def mk (b : Bool) : Out := { v := .dat .bool b }
inductive S where
  | l6 (x1 : (List Int)) (x6 : Int) (x7 : Int) (g0x0 : PartD) (g1 : (List RowD))
def idx : S → Nat
  | .l6 _ _ _ _ _ => 6
def stt : S → St
  | .l6 x1 x6 x7 g0x0 g1 => st 95 [(1, .dat (.list I64) x1), (2, .ref 0 0), (5, .arr 1), (6, .dat I64 x6), (7, .dat I64 x7)] [.cells [.dat PartT g0x0], .own RowT g1]
def T (N0 : PartD → Option Bool) (N1 : PartD → Option Int) (N2 : Option Bool) (N3 : PartD → Int → Int → Option ((List RowD) × (Int × Int))) (N4 : (List RowD) → (List RowD) → Option Bool) (a0 : PartD) (a1 : (List Int)) : Tr (S ⊕ Bool) :=
  (.call (N0 a0) default fun r0 =>
  (.need ((r0 = false) → ((Option.isSome (N1 a0)) = true))
  (.br (bif (bif r0 then true else ((Option.getD (N1 a0) default) != (0 : Int))) then true else (decide ((((List.length a1) : Nat) : Int) > (100 : Int))))
    (.call N2 default fun r1 =>
    (.ret (.inr r1)))
    (.ret (.inl (.l6 a1 a0.1 (0 : Int) a0 ([] : List RowD)))))))
def T6 (N0 : PartD → Option Bool) (N1 : PartD → Option Int) (N2 : Option Bool) (N3 : PartD → Int → Int → Option ((List RowD) × (Int × Int))) (N4 : (List RowD) → (List RowD) → Option Bool) (x1 : (List Int)) (x6 : Int) (x7 : Int) (g0x0 : PartD) (g1 : (List RowD)) : Tr (S ⊕ Bool) :=
  (.br (bif (decide (x7 < (400 : Int))) then (decide (x6 < g0x0.2.1)) else false)
    (.br (decide ((((List.length x1) : Nat) : Int) > (0 : Int)))
      (.need ((((List.length x1) : Nat) : Int) ≠ (0 : Int))
      (.need (((0 : Int) ≤ (Int.tmod x7 (((List.length x1) : Nat) : Int))) ∧ ((Int.tmod x7 (((List.length x1) : Nat) : Int)) < (((List.length x1) : Nat) : Int)))
      (.need ((64 : Int) ≠ (0 : Int))
      (.need ((64 : Int) ≠ (0 : Int))
      (.call (N3 g0x0 x6 (Go.IntKind.wrap Go.IntKind.i64 ((1 : Int) + (Int.tmod (Go.IntKind.wrap Go.IntKind.i64 ((Int.tmod (List.getD x1 (Int.toNat (Int.tmod x7 (((List.length x1) : Nat) : Int))) (Ty.dflt I64)) (64 : Int)) + (64 : Int))) (64 : Int))))) default fun r0 =>
      (.br (bif (bif (bif (r0.2.2 != (0 : Int)) then true else (decide (r0.2.1 ≤ x6))) then true else (decide (r0.2.1 > g0x0.2.1))) then true else (decide ((((List.length r0.1) : Nat) : Int) > (Go.IntKind.wrap Go.IntKind.i64 ((1 : Int) + (Int.tmod (Go.IntKind.wrap Go.IntKind.i64 ((Int.tmod (List.getD x1 (Int.toNat (Int.tmod x7 (((List.length x1) : Nat) : Int))) (Ty.dflt I64)) (64 : Int)) + (64 : Int))) (64 : Int)))))))
        (.ret (.inr false))
        (.need (((List.length g1) + (List.length r0.1)) ≤ 2513169434916)
        (.ret (.inl (.l6 x1 r0.2.1 (Go.IntKind.wrap Go.IntKind.i64 (x7 + (1 : Int))) g0x0 (g1 ++ r0.1)))))))))))
      (.call (N3 g0x0 x6 (1 : Int)) default fun r0 =>
      (.br (bif (bif (bif (r0.2.2 != (0 : Int)) then true else (decide (r0.2.1 ≤ x6))) then true else (decide (r0.2.1 > g0x0.2.1))) then true else (decide ((((List.length r0.1) : Nat) : Int) > (1 : Int))))
        (.ret (.inr false))
        (.need (((List.length g1) + (List.length r0.1)) ≤ 2513169434916)
        (.ret (.inl (.l6 x1 r0.2.1 (Go.IntKind.wrap Go.IntKind.i64 (x7 + (1 : Int))) g0x0 (g1 ++ r0.1))))))))
    (.need (((x6 == g0x0.2.1) = true) → ((Option.isSome (N4 g1 g0x0.2.2.1)) = true))
    (.need (((bif (x6 == g0x0.2.1) then (Option.getD (N4 g1 g0x0.2.2.1) false) else false) = true) → ((Option.isSome N2) = true))
    (.ret (.inr (bif (bif (x6 == g0x0.2.1) then (Option.getD (N4 g1 g0x0.2.2.1) false) else false) then (Option.getD N2 false) else false))))))
def step (N0 : PartD → Option Bool) (N1 : PartD → Option Int) (N2 : Option Bool) (N3 : PartD → Int → Int → Option ((List RowD) × (Int × Int))) (N4 : (List RowD) → (List RowD) → Option Bool) : S → Tr (S ⊕ Bool)
  | .l6 x1 x6 x7 g0x0 g1 => T6 N0 N1 N2 N3 N4 x1 x6 x7 g0x0 g1
def cuts : List (Nat × Cut) := [(6, { slots := [(1, .dat (.list I64)), (2, .ref 0 0), (5, .arr 1), (6, .dat I64), (7, .dat I64)], regs := [.cells (.slot 2) [.dat PartT], .own (.slot 5) RowT] })]
theorem tr (N0 : PartD → Option Bool) (N1 : PartD → Option Int) (N2 : Option Bool) (N3 : PartD → Int → Int → Option ((List RowD) × (Int × Int))) (N4 : (List RowD) → (List RowD) → Option Bool) (a0 : PartD) (a1 : (List Int)) (R : Out → Prop) (L : List Item → St → Prop) : evFn Try.prog [rovingref13_Great.e N0, read_Check.e N1, rovinglaw13_wakes.e N2, read_Fetch.e N3, rovingref13_SameRows.e N4] Try.f3 [.dat .bool] cuts [.dat PartT a0, .dat (.list I64) a1] [] R L = (T N0 N1 N2 N3 N4 a0 a1).wp (outcome Try.f3 idx stt mk R L) := by kernel_rfl
theorem tr6 (N0 : PartD → Option Bool) (N1 : PartD → Option Int) (N2 : Option Bool) (N3 : PartD → Int → Int → Option ((List RowD) × (Int × Int))) (N4 : (List RowD) → (List RowD) → Option Bool) (x1 : (List Int)) (x6 : Int) (x7 : Int) (g0x0 : PartD) (g1 : (List RowD)) (R : Out → Prop) (L : List Item → St → Prop) : evLoop Try.prog [rovingref13_Great.e N0, read_Check.e N1, rovinglaw13_wakes.e N2, read_Fetch.e N3, rovingref13_SameRows.e N4] Try.f3 [.dat .bool] cuts 6 (stt (.l6 x1 x6 x7 g0x0 g1)) [] R L = (T6 N0 N1 N2 N3 N4 x1 x6 x7 g0x0 g1).wp (outcome Try.f3 idx stt mk R L) := by kernel_rfl
noncomputable def f (a0 : PartD) (a1 : (List Int)) : Option Bool := loopO (step rovingref13_Great.f read_Check.f rovinglaw13_wakes.f read_Fetch.f rovingref13_SameRows.f) (T rovingref13_Great.f read_Check.f rovinglaw13_wakes.f read_Fetch.f rovingref13_SameRows.f a0 a1)
def e (N : PartD → (List Int) → Option Bool) : Ent := entF 3 [.dat PartT, .dat (.list I64)] [] mk fun d g => N (d.1) (d.2.1)
theorem ok : EntOk Try.prog (e f) := entOk_loop (ps := [.dat PartT, .dat (.list I64)]) (rs := []) (mk := mk) (idx := idx) (S := stt) (step := step rovingref13_Great.f read_Check.f rovinglaw13_wakes.f read_Fetch.f rovingref13_SameRows.f) (T := fun d g => T rovingref13_Great.f read_Check.f rovinglaw13_wakes.f read_Fetch.f rovingref13_SameRows.f (d.1) (d.2.1)) (Kit.cons rovingref13_Great.ok (Kit.cons read_Check.ok (Kit.cons rovinglaw13_wakes.ok (Kit.cons read_Fetch.ok (Kit.cons rovingref13_SameRows.ok (Kit.nil prog_mix)))))) (by decide) (fn := Try.f3) (cuts := cuts) (rts := [.dat .bool])
  rfl (by decide) rfl (Nat.le_of_ble_eq_true rfl) (fun _ => rfl) (fun d g R L => tr rovingref13_Great.f read_Check.f rovinglaw13_wakes.f read_Fetch.f rovingref13_SameRows.f (d.1) (d.2.1) R L) (fun s g R L => match s with
    | .l6 x1 x6 x7 g0x0 g1 => tr6 rovingref13_Great.f read_Check.f rovinglaw13_wakes.f read_Fetch.f rovingref13_SameRows.f x1 x6 x7 g0x0 g1 R L)
end rovinglaw13_ReadOn

-- roving/read.Cut (0 p, 1 n, 2 p, 3 n)
namespace read_Cut
def mk (b : (PartD × Int)) : Out := { v := .tup [.dat PartT b.1, .dat I64 b.2] }
def T (N0 : PartD → Option Int) (N1 : (List RowD) → Int → Option (List RowD)) (a0 : PartD) (a1 : Int) : Tr ((PartD × Int)) :=
  (.call (N0 a0) default fun r0 =>
  (.br (r0 != (0 : Int))
    (.ret (((0 : Int), ((0 : Int), (([] : List RowD), (([] : List OpenD), ([] : List ProdD))))), (2 : Int)))
    (.br (decide (a1 < a0.1))
      (.ret (((0 : Int), ((0 : Int), (([] : List RowD), (([] : List OpenD), ([] : List ProdD))))), (130 : Int)))
      (.br (decide (a1 > a0.2.1))
        (.ret (((0 : Int), ((0 : Int), (([] : List RowD), (([] : List OpenD), ([] : List ProdD))))), (130 : Int)))
        (.call (N1 a0.2.2.1 a1) default fun r1 =>
        (.ret ((a1, (a0.2.1, (r1, a0.2.2.2))), (0 : Int))))))))
theorem tr (N0 : PartD → Option Int) (N1 : (List RowD) → Int → Option (List RowD)) (a0 : PartD) (a1 : Int) (R : Out → Prop) (L : List Item → St → Prop) : evFn Try.prog [read_Check.e N0, read_from.e N1] Try.f12 [.dat PartT, .dat I64] [] [.dat PartT a0, .dat I64 a1] [] R L = (T N0 N1 a0 a1).wp (fun b => R (mk b)) := by kernel_rfl
noncomputable def f (a0 : PartD) (a1 : Int) : Option (PartD × Int) := (T read_Check.f read_from.f a0 a1).opt
def e (N : PartD → Int → Option (PartD × Int)) : Ent := entF 12 [.dat PartT, .dat I64] [] mk fun d g => N (d.1) (d.2.1)
theorem ok : EntOk Try.prog (e f) := entOk_tree (ps := [.dat PartT, .dat I64]) (rs := []) (mk := mk) (T := fun d g => T read_Check.f read_from.f (d.1) (d.2.1)) (Kit.cons read_Check.ok (Kit.cons read_from.ok (Kit.nil prog_mix))) (by decide) (fn := Try.f12) (cuts := []) (rts := [.dat PartT, .dat I64])
  rfl (by decide) rfl (Nat.le_of_ble_eq_true rfl) (fun _ => rfl) (fun d g R L => tr read_Check.f read_from.f (d.1) (d.2.1) R L)
end read_Cut

-- roving/read.pending (0 p, 1 p)
namespace read_pending
def mk (b : PartD) : Out := { v := .fn (.func 31) [] [.ref 1 0], wr := [(0, .cells [.dat PartT b]), (1, .cells [.ref 0 0])] }
def T (g0x0 : PartD) : Tr (PartD) :=
  (.ret g0x0)
theorem tr (g0x0 : PartD) (R : Out → Prop) (L : List Item → St → Prop) : evFn Try.prog [] Try.f25 [.asis] [] [.ref 0 0] [.cells [.dat PartT g0x0]] R L = (T g0x0).wp (fun b => R (mk b)) := by kernel_rfl
noncomputable def f (g0x0 : PartD) : Option PartD := (T g0x0).opt
def e (N : PartD → Option PartD) : Ent := entF 25 [.ref 0 0] [.cells [.dat PartT]] mk fun d g => N (g.1.1)
theorem ok : EntOk Try.prog (e f) := entOk_tree (ps := [.ref 0 0]) (rs := [.cells [.dat PartT]]) (mk := mk) (T := fun d g => T (g.1.1)) (Kit.nil prog_mix) (by decide) (fn := Try.f25) (cuts := []) (rts := [.asis])
  rfl (by decide) rfl (Nat.le_of_ble_eq_true rfl) (fun _ => rfl) (fun d g R L => tr (g.1.1) R L)
end read_pending

-- roving/read.Fetch, a round of loop 0 (0 p, 1 at, 2 most, 3 committed, 4 p, 5 at, 6 most, 7 committed, 8 rows, 9 next, 10 e, 11 r)
namespace read_FetchRoundA
noncomputable def mk (a1 : RowD) (g0j : Int) (g1x0 : Int) (g3 : (List RowD)) (b : (Bool × (Int × (List RowD)))) : Out := { v := .dat .bool b.1, wr := [(0, .loop (Go.Abs.loopAt Try.f10 0) (Go.Abs.padL 70 .bad [(6, .ref 1 0), (8, .ref 2 0)]) b.2.1), (1, .cells [.dat I64 g1x0]), (2, .cells [.arr 4]), (3, .dead), (4, .arr RowT b.2.2)] }
def T (a1 : RowD) (g0j : Int) (g1x0 : Int) (g3 : (List RowD)) : Tr ((Bool × (Int × (List RowD)))) :=
  (.need (g0j = (0 : Int))
  (.br ((((List.length g3) : Nat) : Int) == g1x0)
    (.ret (false, ((3 : Int), g3)))
    (.need (((List.length g3) + (List.length (a1 :: ([] : List RowD)))) ≤ 2513169434916)
    (.ret (true, ((0 : Int), (g3 ++ (a1 :: ([] : List RowD)))))))))
def ec : Option Cut := (some { slots := [], regs := [.loop (.at 0) (Go.Abs.padL 70 .bad [(6, .ref 1 0), (8, .ref 2 0)]), .cells (.at 1) [.dat I64], .cells (.at 2) [.arr 4], .dead 3, .arr (.cell 2 0) RowT] })
theorem tr (a1 : RowD) (g0j : Int) (g1x0 : Int) (g3 : (List RowD)) (R : Out → Prop) (L : List Item → St → Prop) : evRound Try.prog [] (Go.Abs.loopAt Try.f10 0) 0 ec [] (Go.Abs.padL 70 .bad [(6, .ref 1 0), (8, .ref 2 0)]) [.dat RowT a1] [.loop (Go.Abs.loopAt Try.f10 0) (Go.Abs.padL 70 .bad [(6, .ref 1 0), (8, .ref 2 0)]) g0j, .cells [.dat I64 g1x0], .cells [.arr 3], .arr RowT g3] R L = (T a1 g0j g1x0 g3).wp (fun b => R (mk a1 g0j g1x0 g3 b)) := by kernel_rfl
noncomputable def f (a1 : RowD) (g0j : Int) (g1x0 : Int) (g3 : (List RowD)) : Option (Bool × (Int × (List RowD))) := (T a1 g0j g1x0 g3).opt
noncomputable def e (N : RowD → Int → Int → (List RowD) → Option (Bool × (Int × (List RowD)))) : Ent := entG yid [.yld 0, .dat RowT] [.loop (Go.Abs.loopAt Try.f10 0) (Go.Abs.padL 70 .bad [(6, .ref 1 0), (8, .ref 2 0)]), .cells [.dat I64], .cells [.arr 3], .arr RowT] (fun d g => mk (d.1) (g.1.2) (g.2.1.1) (g.2.2.2.1)) fun d g => N (d.1) (g.1.2) (g.2.1.1) (g.2.2.2.1)
theorem ok : EntOk Try.prog (e f) := entOk_round (L := (Go.Abs.loopAt Try.f10 0)) (k0 := 0) (ps := [.yld 0, .dat RowT]) (rs := [.loop (Go.Abs.loopAt Try.f10 0) (Go.Abs.padL 70 .bad [(6, .ref 1 0), (8, .ref 2 0)]), .cells [.dat I64], .cells [.arr 3], .arr RowT]) (mk := fun d g => mk (d.1) (g.1.2) (g.2.1.1) (g.2.2.2.1)) (xs := fun d => [.dat RowT (d.1)]) (tm := fun g => (Go.Abs.padL 70 .bad [(6, .ref 1 0), (8, .ref 2 0)])) (jOf := fun g => g.1.2) (T := fun d g => T (d.1) (g.1.2) (g.2.1.1) (g.2.2.2.1)) (Kit.nil prog_mix) (ec := ec) (cuts := [])
  (fun g => by kernel_rfl) (by decide) (fun d => by kernel_rfl) (fun d => by kernel_rfl) (fun _ _ _ => rfl) (fun d g R L => Eq.trans (by kernel_rfl) (tr (d.1) (g.1.2) (g.2.1.1) (g.2.2.2.1) R L))
end read_FetchRoundA

-- roving/read.pending$1 (0 yield, 2 yield, 3 _, 4 o, 5 _, 6 b, 7 j, 8 x)
namespace read_pending_1
noncomputable def mk (g0j : Int) (g1x0 : Int) (g3 : (List RowD)) (g5x0 : PartD) (b : (Int × (Int × (List RowD)))) : Out := { v := .tup [], wr := [(0, .loop (Go.Abs.loopAt Try.f10 0) (Go.Abs.padL 70 .bad [(6, .ref 1 0), (8, .ref 2 0)]) b.1), (1, .cells [.dat I64 b.2.1]), (2, .cells [.arr 6]), (3, .dead), (4, .cells [.ref 5 0]), (5, .cells [.dat PartT g5x0]), (6, .arr RowT b.2.2)] }
inductive S where
  | l1 (x12 : (List OpenD)) (x13 : Int) (x14 : Int) (h0j : Int) (h1x0 : Int) (h6 : (List RowD))
  | l4 (x12 : (List OpenD)) (x13 : Int) (x14 : Int) (x19 : (List BatchD)) (x20 : Int) (x21 : Int) (h0j : Int) (h1x0 : Int) (h6 : (List RowD))
  | l7 (x12 : (List OpenD)) (x13 : Int) (x14 : Int) (x19 : (List BatchD)) (x20 : Int) (x21 : Int) (x26 : (List RecordD)) (x27 : Int) (x28 : Int) (h0j : Int) (h1x0 : Int) (h6x0 : BatchD) (h7 : (List RowD))
def idx : S → Nat
  | .l1 _ _ _ _ _ _ => 1
  | .l4 _ _ _ _ _ _ _ _ _ => 4
  | .l7 _ _ _ _ _ _ _ _ _ _ _ _ _ => 7
noncomputable def stt (g0j : Int) (g1x0 : Int) (g3 : (List RowD)) (g5x0 : PartD) : S → St
  | .l1 x12 x13 x14 h0j h1x0 h6 => st 50 [(0, .yld 0), (12, .dat (.list OpenT) x12), (13, .dat I64 x13), (14, .dat I64 x14)] [.loop (Go.Abs.loopAt Try.f10 0) (Go.Abs.padL 70 .bad [(6, .ref 1 0), (8, .ref 2 0)]) h0j, .cells [.dat I64 h1x0], .cells [.arr 6], .dead, .cells [.ref 5 0], .cells [.dat PartT g5x0], .arr RowT h6]
  | .l4 x12 x13 x14 x19 x20 x21 h0j h1x0 h6 => st 50 [(0, .yld 0), (12, .dat (.list OpenT) x12), (13, .dat I64 x13), (14, .dat I64 x14), (19, .dat (.list BatchT) x19), (20, .dat I64 x20), (21, .dat I64 x21)] [.loop (Go.Abs.loopAt Try.f10 0) (Go.Abs.padL 70 .bad [(6, .ref 1 0), (8, .ref 2 0)]) h0j, .cells [.dat I64 h1x0], .cells [.arr 6], .dead, .cells [.ref 5 0], .cells [.dat PartT g5x0], .arr RowT h6]
  | .l7 x12 x13 x14 x19 x20 x21 x26 x27 x28 h0j h1x0 h6x0 h7 => st 50 [(0, .yld 0), (6, .ref 6 0), (12, .dat (.list OpenT) x12), (13, .dat I64 x13), (14, .dat I64 x14), (19, .dat (.list BatchT) x19), (20, .dat I64 x20), (21, .dat I64 x21), (26, .dat (.list RecordT) x26), (27, .dat I64 x27), (28, .dat I64 x28)] [.loop (Go.Abs.loopAt Try.f10 0) (Go.Abs.padL 70 .bad [(6, .ref 1 0), (8, .ref 2 0)]) h0j, .cells [.dat I64 h1x0], .cells [.arr 7], .dead, .cells [.ref 5 0], .cells [.dat PartT g5x0], .cells [.dat BatchT h6x0], .arr RowT h7]
def T (N0 : RowD → Int → Int → (List RowD) → Option (Bool × (Int × (List RowD)))) (g0j : Int) (g1x0 : Int) (g3 : (List RowD)) (g5x0 : PartD) : Tr (S ⊕ (Int × (Int × (List RowD)))) :=
  (.ret (.inl (.l1 g5x0.2.2.2.1 (((List.length g5x0.2.2.2.1) : Nat) : Int) (0 : Int) g0j g1x0 g3)))
def T1 (N0 : RowD → Int → Int → (List RowD) → Option (Bool × (Int × (List RowD)))) (g0j : Int) (g1x0 : Int) (g3 : (List RowD)) (g5x0 : PartD) (x12 : (List OpenD)) (x13 : Int) (x14 : Int) (h0j : Int) (h1x0 : Int) (h6 : (List RowD)) : Tr (S ⊕ (Int × (Int × (List RowD)))) :=
  (.br (decide (x14 < x13))
    (.need (((0 : Int) ≤ x14) ∧ (x14 < (((List.length x12) : Nat) : Int)))
    (.ret (.inl (.l4 x12 x13 x14 (List.getD x12 (Int.toNat x14) (Ty.dflt OpenT)).2.2 (((List.length (List.getD x12 (Int.toNat x14) (Ty.dflt OpenT)).2.2) : Nat) : Int) (0 : Int) h0j h1x0 h6))))
    (.ret (.inr (h0j, (h1x0, h6)))))
def T4 (N0 : RowD → Int → Int → (List RowD) → Option (Bool × (Int × (List RowD)))) (g0j : Int) (g1x0 : Int) (g3 : (List RowD)) (g5x0 : PartD) (x12 : (List OpenD)) (x13 : Int) (x14 : Int) (x19 : (List BatchD)) (x20 : Int) (x21 : Int) (h0j : Int) (h1x0 : Int) (h6 : (List RowD)) : Tr (S ⊕ (Int × (Int × (List RowD)))) :=
  (.br (decide (x21 < x20))
    (.need (((0 : Int) ≤ x21) ∧ (x21 < (((List.length x19) : Nat) : Int)))
    (.ret (.inl (.l7 x12 x13 x14 x19 x20 x21 (List.getD x19 (Int.toNat x21) (Ty.dflt BatchT)).2.2.2.2 (((List.length (List.getD x19 (Int.toNat x21) (Ty.dflt BatchT)).2.2.2.2) : Nat) : Int) (0 : Int) h0j h1x0 (List.getD x19 (Int.toNat x21) (Ty.dflt BatchT)) h6))))
    (.ret (.inl (.l1 x12 x13 (Go.IntKind.wrap Go.IntKind.i64 (x14 + (1 : Int))) h0j h1x0 h6))))
def T7 (N0 : RowD → Int → Int → (List RowD) → Option (Bool × (Int × (List RowD)))) (g0j : Int) (g1x0 : Int) (g3 : (List RowD)) (g5x0 : PartD) (x12 : (List OpenD)) (x13 : Int) (x14 : Int) (x19 : (List BatchD)) (x20 : Int) (x21 : Int) (x26 : (List RecordD)) (x27 : Int) (x28 : Int) (h0j : Int) (h1x0 : Int) (h6x0 : BatchD) (h7 : (List RowD)) : Tr (S ⊕ (Int × (Int × (List RowD)))) :=
  (.br (decide (x28 < x27))
    (.need (((0 : Int) ≤ x28) ∧ (x28 < (((List.length x26) : Nat) : Int)))
    (.need ((Go.Abs.loopAt Go.Proofs.Try.f10 0) = (Go.Abs.loopAt Go.Proofs.Try.f10 0))
    (.call (N0 ((-(1 : Int)), (h6x0.1, ((Go.IntKind.wrap Go.IntKind.i64 (h6x0.2.2.1 + x28)), ((List.getD x26 (Int.toNat x28) (Ty.dflt RecordT)).1, (List.getD x26 (Int.toNat x28) (Ty.dflt RecordT)).2)))) h0j h1x0 h7) default fun r0 =>
    (.br (!r0.1)
      (.ret (.inr (r0.2.1, (h1x0, r0.2.2))))
      (.ret (.inl (.l7 x12 x13 x14 x19 x20 x21 x26 x27 (Go.IntKind.wrap Go.IntKind.i64 (x28 + (1 : Int))) r0.2.1 h1x0 h6x0 r0.2.2)))))))
    (.ret (.inl (.l4 x12 x13 x14 x19 x20 (Go.IntKind.wrap Go.IntKind.i64 (x21 + (1 : Int))) h0j h1x0 h7))))
def step (N0 : RowD → Int → Int → (List RowD) → Option (Bool × (Int × (List RowD)))) (g0j : Int) (g1x0 : Int) (g3 : (List RowD)) (g5x0 : PartD) : S → Tr (S ⊕ (Int × (Int × (List RowD))))
  | .l1 x12 x13 x14 h0j h1x0 h6 => T1 N0 g0j g1x0 g3 g5x0 x12 x13 x14 h0j h1x0 h6
  | .l4 x12 x13 x14 x19 x20 x21 h0j h1x0 h6 => T4 N0 g0j g1x0 g3 g5x0 x12 x13 x14 x19 x20 x21 h0j h1x0 h6
  | .l7 x12 x13 x14 x19 x20 x21 x26 x27 x28 h0j h1x0 h6x0 h7 => T7 N0 g0j g1x0 g3 g5x0 x12 x13 x14 x19 x20 x21 x26 x27 x28 h0j h1x0 h6x0 h7
def cuts : List (Nat × Cut) := [(1, { slots := [(0, .yld 0), (12, .dat (.list OpenT)), (13, .dat I64), (14, .dat I64)], regs := [.loop (.at 0) (Go.Abs.padL 70 .bad [(6, .ref 1 0), (8, .ref 2 0)]), .cells (.at 1) [.dat I64], .cells (.at 2) [.arr 6], .dead 3, .cells (.at 4) [.ref 5 0], .cells (.at 5) [.dat PartT], .arr (.cell 2 0) RowT] }), (4, { slots := [(0, .yld 0), (12, .dat (.list OpenT)), (13, .dat I64), (14, .dat I64), (19, .dat (.list BatchT)), (20, .dat I64), (21, .dat I64)], regs := [.loop (.at 0) (Go.Abs.padL 70 .bad [(6, .ref 1 0), (8, .ref 2 0)]), .cells (.at 1) [.dat I64], .cells (.at 2) [.arr 6], .dead 3, .cells (.at 4) [.ref 5 0], .cells (.at 5) [.dat PartT], .arr (.cell 2 0) RowT] }), (7, { slots := [(0, .yld 0), (6, .ref 6 0), (12, .dat (.list OpenT)), (13, .dat I64), (14, .dat I64), (19, .dat (.list BatchT)), (20, .dat I64), (21, .dat I64), (26, .dat (.list RecordT)), (27, .dat I64), (28, .dat I64)], regs := [.loop (.at 0) (Go.Abs.padL 70 .bad [(6, .ref 1 0), (8, .ref 2 0)]), .cells (.at 1) [.dat I64], .cells (.at 2) [.arr 7], .dead 3, .cells (.at 4) [.ref 5 0], .cells (.at 5) [.dat PartT], .cells (.slot 6) [.dat BatchT], .arr (.cell 2 0) RowT] })]
def ec : Option Cut := (some { slots := [], regs := [.loop (.at 0) (Go.Abs.padL 70 .bad [(6, .ref 1 0), (8, .ref 2 0)]), .cells (.at 1) [.dat I64], .cells (.at 2) [.arr 6], .dead 3, .cells (.at 4) [.ref 5 0], .cells (.at 5) [.dat PartT], .arr (.cell 2 0) RowT] })
theorem tr (N0 : RowD → Int → Int → (List RowD) → Option (Bool × (Int × (List RowD)))) (g0j : Int) (g1x0 : Int) (g3 : (List RowD)) (g5x0 : PartD) (R : Out → Prop) (L : List Item → St → Prop) : evFnG Try.prog [read_FetchRoundA.e N0] Try.f31 [] ec cuts [.yld 0, .ref 4 0] [.loop (Go.Abs.loopAt Try.f10 0) (Go.Abs.padL 70 .bad [(6, .ref 1 0), (8, .ref 2 0)]) g0j, .cells [.dat I64 g1x0], .cells [.arr 3], .arr RowT g3, .cells [.ref 5 0], .cells [.dat PartT g5x0]] R L = (T N0 g0j g1x0 g3 g5x0).wp (outcome Try.f31 idx (stt g0j g1x0 g3 g5x0) (mk g0j g1x0 g3 g5x0) R L) := by kernel_rfl
theorem tr1 (N0 : RowD → Int → Int → (List RowD) → Option (Bool × (Int × (List RowD)))) (g0j : Int) (g1x0 : Int) (g3 : (List RowD)) (g5x0 : PartD) (x12 : (List OpenD)) (x13 : Int) (x14 : Int) (h0j : Int) (h1x0 : Int) (h6 : (List RowD)) (R : Out → Prop) (L : List Item → St → Prop) : evLoopG Try.prog [read_FetchRoundA.e N0] Try.f31 [] ec cuts 1 (stt g0j g1x0 g3 g5x0 (.l1 x12 x13 x14 h0j h1x0 h6)) [.loop (Go.Abs.loopAt Try.f10 0) (Go.Abs.padL 70 .bad [(6, .ref 1 0), (8, .ref 2 0)]) g0j, .cells [.dat I64 g1x0], .cells [.arr 3], .arr RowT g3, .cells [.ref 5 0], .cells [.dat PartT g5x0]] R L = (T1 N0 g0j g1x0 g3 g5x0 x12 x13 x14 h0j h1x0 h6).wp (outcome Try.f31 idx (stt g0j g1x0 g3 g5x0) (mk g0j g1x0 g3 g5x0) R L) := by kernel_rfl
theorem tr4 (N0 : RowD → Int → Int → (List RowD) → Option (Bool × (Int × (List RowD)))) (g0j : Int) (g1x0 : Int) (g3 : (List RowD)) (g5x0 : PartD) (x12 : (List OpenD)) (x13 : Int) (x14 : Int) (x19 : (List BatchD)) (x20 : Int) (x21 : Int) (h0j : Int) (h1x0 : Int) (h6 : (List RowD)) (R : Out → Prop) (L : List Item → St → Prop) : evLoopG Try.prog [read_FetchRoundA.e N0] Try.f31 [] ec cuts 4 (stt g0j g1x0 g3 g5x0 (.l4 x12 x13 x14 x19 x20 x21 h0j h1x0 h6)) [.loop (Go.Abs.loopAt Try.f10 0) (Go.Abs.padL 70 .bad [(6, .ref 1 0), (8, .ref 2 0)]) g0j, .cells [.dat I64 g1x0], .cells [.arr 3], .arr RowT g3, .cells [.ref 5 0], .cells [.dat PartT g5x0]] R L = (T4 N0 g0j g1x0 g3 g5x0 x12 x13 x14 x19 x20 x21 h0j h1x0 h6).wp (outcome Try.f31 idx (stt g0j g1x0 g3 g5x0) (mk g0j g1x0 g3 g5x0) R L) := by kernel_rfl
theorem tr7 (N0 : RowD → Int → Int → (List RowD) → Option (Bool × (Int × (List RowD)))) (g0j : Int) (g1x0 : Int) (g3 : (List RowD)) (g5x0 : PartD) (x12 : (List OpenD)) (x13 : Int) (x14 : Int) (x19 : (List BatchD)) (x20 : Int) (x21 : Int) (x26 : (List RecordD)) (x27 : Int) (x28 : Int) (h0j : Int) (h1x0 : Int) (h6x0 : BatchD) (h7 : (List RowD)) (R : Out → Prop) (L : List Item → St → Prop) : evLoopG Try.prog [read_FetchRoundA.e N0] Try.f31 [] ec cuts 7 (stt g0j g1x0 g3 g5x0 (.l7 x12 x13 x14 x19 x20 x21 x26 x27 x28 h0j h1x0 h6x0 h7)) [.loop (Go.Abs.loopAt Try.f10 0) (Go.Abs.padL 70 .bad [(6, .ref 1 0), (8, .ref 2 0)]) g0j, .cells [.dat I64 g1x0], .cells [.arr 3], .arr RowT g3, .cells [.ref 5 0], .cells [.dat PartT g5x0]] R L = (T7 N0 g0j g1x0 g3 g5x0 x12 x13 x14 x19 x20 x21 x26 x27 x28 h0j h1x0 h6x0 h7).wp (outcome Try.f31 idx (stt g0j g1x0 g3 g5x0) (mk g0j g1x0 g3 g5x0) R L) := by kernel_rfl
noncomputable def f (g0j : Int) (g1x0 : Int) (g3 : (List RowD)) (g5x0 : PartD) : Option (Int × (Int × (List RowD))) := loopO (step read_FetchRoundA.f g0j g1x0 g3 g5x0) (T read_FetchRoundA.f g0j g1x0 g3 g5x0)
noncomputable def e (N : Int → Int → (List RowD) → PartD → Option (Int × (Int × (List RowD)))) : Ent := entG 31 [.yld 0, .ref 4 0] [.loop (Go.Abs.loopAt Try.f10 0) (Go.Abs.padL 70 .bad [(6, .ref 1 0), (8, .ref 2 0)]), .cells [.dat I64], .cells [.arr 3], .arr RowT, .cells [.ref 5 0], .cells [.dat PartT]] (fun d g => mk (g.1.2) (g.2.1.1) (g.2.2.2.1) (g.2.2.2.2.2.1.1)) fun d g => N (g.1.2) (g.2.1.1) (g.2.2.2.1) (g.2.2.2.2.2.1.1)
theorem ok : EntOk Try.prog (e f) := entOk_loopG (ps := [.yld 0, .ref 4 0]) (rs := [.loop (Go.Abs.loopAt Try.f10 0) (Go.Abs.padL 70 .bad [(6, .ref 1 0), (8, .ref 2 0)]), .cells [.dat I64], .cells [.arr 3], .arr RowT, .cells [.ref 5 0], .cells [.dat PartT]]) (mk := fun d g => mk (g.1.2) (g.2.1.1) (g.2.2.2.1) (g.2.2.2.2.2.1.1)) (idx := idx) (S := fun d g => (stt (g.1.2) (g.2.1.1) (g.2.2.2.1) (g.2.2.2.2.2.1.1))) (step := fun d g => (step read_FetchRoundA.f (g.1.2) (g.2.1.1) (g.2.2.2.1) (g.2.2.2.2.2.1.1))) (T := fun d g => T read_FetchRoundA.f (g.1.2) (g.2.1.1) (g.2.2.2.1) (g.2.2.2.2.2.1.1)) (Kit.cons read_FetchRoundA.ok (Kit.nil prog_mix)) (by decide) (fn := Try.f31) (ec := ec) (cuts := cuts) (rts := [])
  rfl (by decide) rfl (Nat.le_of_ble_eq_true rfl) (fun _ _ _ => rfl) (fun d g R L => Eq.trans (by kernel_rfl) (tr read_FetchRoundA.f (g.1.2) (g.2.1.1) (g.2.2.2.1) (g.2.2.2.2.2.1.1) R L)) (fun d g s R L => match s with
    | .l1 x12 x13 x14 h0j h1x0 h6 => Eq.trans (by kernel_rfl) (tr1 read_FetchRoundA.f (g.1.2) (g.2.1.1) (g.2.2.2.1) (g.2.2.2.2.2.1.1) x12 x13 x14 h0j h1x0 h6 R L)
    | .l4 x12 x13 x14 x19 x20 x21 h0j h1x0 h6 => Eq.trans (by kernel_rfl) (tr4 read_FetchRoundA.f (g.1.2) (g.2.1.1) (g.2.2.2.1) (g.2.2.2.2.2.1.1) x12 x13 x14 x19 x20 x21 h0j h1x0 h6 R L)
    | .l7 x12 x13 x14 x19 x20 x21 x26 x27 x28 h0j h1x0 h6x0 h7 => Eq.trans (by kernel_rfl) (tr7 read_FetchRoundA.f (g.1.2) (g.2.1.1) (g.2.2.2.1) (g.2.2.2.2.2.1.1) x12 x13 x14 x19 x20 x21 x26 x27 x28 h0j h1x0 h6x0 h7 R L))
end read_pending_1

-- roving/read.Fetch (0 p, 1 at, 2 most, 3 committed, 4 p, 5 at, 6 most, 7 committed, 8 rows, 9 next, 10 e, 11 r)
namespace read_Fetch_s2
def mk (b : ((List RowD) × (Int × Int))) : Out := { v := .tup [.dat (.list RowT) b.1, .dat I64 b.2.1, .dat I64 b.2.2] }
def T (N0 : PartD → Option Int) (N1 : (List RowD) → Int → Option (List RowD)) (N2 : PartD → Option PartD) (N3 : Int → Int → (List RowD) → PartD → Option (Int × (Int × (List RowD)))) (a0 : PartD) (a1 : Int) (a2 : Int) (a3 : Bool) : Tr (((List RowD) × (Int × Int))) :=
  (.call (N0 a0) default fun r0 =>
  (.br (r0 != (0 : Int))
    (.ret (([] : List RowD), ((0 : Int), (2 : Int))))
    (.br (decide (a2 < (0 : Int)))
      (.ret (([] : List RowD), ((0 : Int), (2 : Int))))
      (.br (decide (a2 > (64 : Int)))
        (.ret (([] : List RowD), ((0 : Int), (2 : Int))))
        (.br (decide (a1 < a0.1))
          (.ret (([] : List RowD), ((0 : Int), (130 : Int))))
          (.br (decide (a1 > a0.2.1))
            (.ret (([] : List RowD), ((0 : Int), (130 : Int))))
            (.call (N1 a0.2.2.1 a1) default fun r1 =>
            (.br (decide ((((List.length r1) : Nat) : Int) > a2))
              (.need (((0 : Int) ≤ (0 : Int)) ∧ (((0 : Int) ≤ a2) ∧ ((a2 = a2) ∧ (a2 ≤ (((List.length r1) : Nat) : Int)))))
              (.br (decide (a2 > (0 : Int)))
                (.need (((0 : Int) ≤ (Go.IntKind.wrap Go.IntKind.i64 (a2 - (1 : Int)))) ∧ ((Go.IntKind.wrap Go.IntKind.i64 (a2 - (1 : Int))) < (((List.length (List.drop 0 (List.take (Int.toNat a2) r1))) : Nat) : Int)))
                (.ret ((List.drop 0 (List.take (Int.toNat a2) r1)), ((Go.IntKind.wrap Go.IntKind.i64 ((List.getD (List.drop 0 (List.take (Int.toNat a2) r1)) (Int.toNat (Go.IntKind.wrap Go.IntKind.i64 (a2 - (1 : Int)))) (Ty.dflt RowT)).1 + (1 : Int))), (0 : Int)))))
                (.ret ((List.drop 0 (List.take (Int.toNat a2) r1)), (a1, (0 : Int))))))
              (.br a3
                (.ret (r1, (a0.2.1, (0 : Int))))
                (.call (N2 a0) default fun r2 =>
                (.need ((Go.Abs.loopAt Go.Proofs.Try.f10 0) = (Go.Abs.loopAt Go.Proofs.Try.f10 0))
                (.call (N3 (0 : Int) a2 r1 r2) default fun r3 =>
                (.need (r3.1 ≠ (-(1 : Int)))
                (.br (r3.1 == (3 : Int))
                  (.ret (r3.2.2, (a0.2.1, (0 : Int))))
                  (.need (r3.1 = (0 : Int))
                  (.ret (r3.2.2, (a0.2.1, (0 : Int)))))))))))))))))))
theorem tr (N0 : PartD → Option Int) (N1 : (List RowD) → Int → Option (List RowD)) (N2 : PartD → Option PartD) (N3 : Int → Int → (List RowD) → PartD → Option (Int × (Int × (List RowD)))) (a0 : PartD) (a1 : Int) (a2 : Int) (a3 : Bool) (R : Out → Prop) (L : List Item → St → Prop) : evFn Try.prog [read_Check.e N0, read_from.e N1, read_pending.e N2, read_pending_1.e N3] Try.f10 [.dat (.list RowT), .dat I64, .dat I64] [] [.dat PartT a0, .dat I64 a1, .dat I64 a2, .dat .bool a3] [] R L = (T N0 N1 N2 N3 a0 a1 a2 a3).wp (fun b => R (mk b)) := by kernel_rfl
noncomputable def f (a0 : PartD) (a1 : Int) (a2 : Int) (a3 : Bool) : Option ((List RowD) × (Int × Int)) := (T read_Check.f read_from.f read_pending.f read_pending_1.f a0 a1 a2 a3).opt
def e (N : PartD → Int → Int → Bool → Option ((List RowD) × (Int × Int))) : Ent := entF 10 [.dat PartT, .dat I64, .dat I64, .dat .bool] [] mk fun d g => N (d.1) (d.2.1) (d.2.2.1) (d.2.2.2.1)
theorem ok : EntOk Try.prog (e f) := entOk_tree (ps := [.dat PartT, .dat I64, .dat I64, .dat .bool]) (rs := []) (mk := mk) (T := fun d g => T read_Check.f read_from.f read_pending.f read_pending_1.f (d.1) (d.2.1) (d.2.2.1) (d.2.2.2.1)) (Kit.cons read_Check.ok (Kit.cons read_from.ok (Kit.cons read_pending.ok (Kit.cons read_pending_1.ok (Kit.nil prog_mix))))) (by decide) (fn := Try.f10) (cuts := []) (rts := [.dat (.list RowT), .dat I64, .dat I64])
  rfl (by decide) rfl (Nat.le_of_ble_eq_true rfl) (fun _ => rfl) (fun d g R L => tr read_Check.f read_from.f read_pending.f read_pending_1.f (d.1) (d.2.1) (d.2.2.1) (d.2.2.2.1) R L)
end read_Fetch_s2

-- roving/rovinglaw13.ReadHides (0 p, 1 offset, 2 from, 3 most, 4 committed, 5 p, 6 offset, 7 from, 8 most, 9 committed, 11 c, 12 e, 13 a, 14 m, 15 f, 16 b, 17 n, 18 g)
namespace rovinglaw13_ReadHides
def mk (b : Bool) : Out := { v := .dat .bool b }
def T (N0 : PartD → Option Bool) (N1 : PartD → Option Int) (N2 : Option Bool) (N3 : PartD → Int → Option (PartD × Int)) (N4 : PartD → Int → Int → Bool → Option ((List RowD) × (Int × Int))) (N5 : (List RowD) → (List RowD) → Option Bool) (a0 : PartD) (a1 : Int) (a2 : Int) (a3 : Int) (a4 : Bool) : Tr (Bool) :=
  (.call (N0 a0) default fun r0 =>
  (.need ((r0 = false) → ((Option.isSome (N1 a0)) = true))
  (.br (bif r0 then true else ((Option.getD (N1 a0) default) != (0 : Int)))
    (.call N2 default fun r1 =>
    (.ret r1))
    (.call (N3 a0 a1) default fun r1 =>
    (.br (r1.2 != (0 : Int))
      (.need (((bif (decide (a1 < a0.1)) then true else (decide (a1 > a0.2.1))) = true) → ((Option.isSome N2) = true))
      (.ret (bif (bif (decide (a1 < a0.1)) then true else (decide (a1 > a0.2.1))) then (Option.getD N2 false) else false)))
      (.call (N1 r1.1) default fun r2 =>
      (.br (bif (bif (r2 != (0 : Int)) then true else (r1.1.2.1 != a0.2.1)) then true else (r1.1.1 != a1))
        (.ret false)
        (.call (N4 a0 a2 a3 a4) default fun r3 =>
        (.call (N4 r1.1 a2 a3 a4) default fun r4 =>
        (.br (bif (r3.2.2 == (2 : Int)) then true else (decide (a2 ≥ a1)))
          (.need (((bif (r3.2.2 == r4.2.2) then (r3.2.1 == r4.2.1) else false) = true) → ((Option.isSome (N5 r3.1 r4.1)) = true))
          (.need (((bif (bif (r3.2.2 == r4.2.2) then (r3.2.1 == r4.2.1) else false) then (Option.getD (N5 r3.1 r4.1) false) else false) = true) → ((Option.isSome N2) = true))
          (.ret (bif (bif (bif (r3.2.2 == r4.2.2) then (r3.2.1 == r4.2.1) else false) then (Option.getD (N5 r3.1 r4.1) false) else false) then (Option.getD N2 false) else false))))
          (.need (((bif (r4.2.2 == (130 : Int)) then ((((List.length r4.1) : Nat) : Int) == (0 : Int)) else false) = true) → ((Option.isSome N2) = true))
          (.ret (bif (bif (r4.2.2 == (130 : Int)) then ((((List.length r4.1) : Nat) : Int) == (0 : Int)) else false) then (Option.getD N2 false) else false)))))))))))))
theorem tr (N0 : PartD → Option Bool) (N1 : PartD → Option Int) (N2 : Option Bool) (N3 : PartD → Int → Option (PartD × Int)) (N4 : PartD → Int → Int → Bool → Option ((List RowD) × (Int × Int))) (N5 : (List RowD) → (List RowD) → Option Bool) (a0 : PartD) (a1 : Int) (a2 : Int) (a3 : Int) (a4 : Bool) (R : Out → Prop) (L : List Item → St → Prop) : evFn Try.prog [rovingref13_Great.e N0, read_Check.e N1, rovinglaw13_wakes.e N2, read_Cut.e N3, read_Fetch_s2.e N4, rovingref13_SameRows.e N5] Try.f4 [.dat .bool] [] [.dat PartT a0, .dat I64 a1, .dat I64 a2, .dat I64 a3, .dat .bool a4] [] R L = (T N0 N1 N2 N3 N4 N5 a0 a1 a2 a3 a4).wp (fun b => R (mk b)) := by kernel_rfl
noncomputable def f (a0 : PartD) (a1 : Int) (a2 : Int) (a3 : Int) (a4 : Bool) : Option Bool := (T rovingref13_Great.f read_Check.f rovinglaw13_wakes.f read_Cut.f read_Fetch_s2.f rovingref13_SameRows.f a0 a1 a2 a3 a4).opt
def e (N : PartD → Int → Int → Int → Bool → Option Bool) : Ent := entF 4 [.dat PartT, .dat I64, .dat I64, .dat I64, .dat .bool] [] mk fun d g => N (d.1) (d.2.1) (d.2.2.1) (d.2.2.2.1) (d.2.2.2.2.1)
theorem ok : EntOk Try.prog (e f) := entOk_tree (ps := [.dat PartT, .dat I64, .dat I64, .dat I64, .dat .bool]) (rs := []) (mk := mk) (T := fun d g => T rovingref13_Great.f read_Check.f rovinglaw13_wakes.f read_Cut.f read_Fetch_s2.f rovingref13_SameRows.f (d.1) (d.2.1) (d.2.2.1) (d.2.2.2.1) (d.2.2.2.2.1)) (Kit.cons rovingref13_Great.ok (Kit.cons read_Check.ok (Kit.cons rovinglaw13_wakes.ok (Kit.cons read_Cut.ok (Kit.cons read_Fetch_s2.ok (Kit.cons rovingref13_SameRows.ok (Kit.nil prog_mix))))))) (by decide) (fn := Try.f4) (cuts := []) (rts := [.dat .bool])
  rfl (by decide) rfl (Nat.le_of_ble_eq_true rfl) (fun _ => rfl) (fun d g R L => tr rovingref13_Great.f read_Check.f rovinglaw13_wakes.f read_Cut.f read_Fetch_s2.f rovingref13_SameRows.f (d.1) (d.2.1) (d.2.2.1) (d.2.2.2.1) (d.2.2.2.2.1) R L)
end rovinglaw13_ReadHides

-- roving/rovingref13.Rows (0 b, 1 base, 2 b, 3 base, 5 out, 6 j, 7 at)
namespace rovingref13_Rows
def mk (b : (List RowD)) : Out := { v := .dat (.list RowT) b }
inductive S where
  | l3 (x1 : Int) (x6 : Int) (g0x0 : BatchD) (g1 : (List RowD))
def idx : S → Nat
  | .l3 _ _ _ _ => 3
def stt : S → St
  | .l3 x1 x6 g0x0 g1 => st 44 [(1, .dat I64 x1), (2, .ref 0 0), (5, .arr 1), (6, .dat I64 x6)] [.cells [.dat BatchT g0x0], .own RowT g1]
def T (a0 : BatchD) (a1 : Int) : Tr (S ⊕ (List RowD)) :=
  (.ret (.inl (.l3 a1 (0 : Int) a0 ([] : List RowD))))
def T3 (x1 : Int) (x6 : Int) (g0x0 : BatchD) (g1 : (List RowD)) : Tr (S ⊕ (List RowD)) :=
  (.br (decide (x6 < (((List.length g0x0.2.2.2.2) : Nat) : Int)))
    (.br (decide (x1 ≥ (0 : Int)))
      (.need (((0 : Int) ≤ x6) ∧ (x6 < (((List.length g0x0.2.2.2.2) : Nat) : Int)))
      (.need (((0 : Int) ≤ x6) ∧ (x6 < (((List.length g0x0.2.2.2.2) : Nat) : Int)))
      (.need (((List.length g1) + (List.length (((Go.IntKind.wrap Go.IntKind.i64 (x1 + x6)), (g0x0.1, ((Go.IntKind.wrap Go.IntKind.i64 (g0x0.2.2.1 + x6)), ((List.getD g0x0.2.2.2.2 (Int.toNat x6) (Ty.dflt RecordT)).1, (List.getD g0x0.2.2.2.2 (Int.toNat x6) (Ty.dflt RecordT)).2)))) :: ([] : List RowD)))) ≤ 2513169434916)
      (.ret (.inl (.l3 x1 (Go.IntKind.wrap Go.IntKind.i64 (x6 + (1 : Int))) g0x0 (g1 ++ (((Go.IntKind.wrap Go.IntKind.i64 (x1 + x6)), (g0x0.1, ((Go.IntKind.wrap Go.IntKind.i64 (g0x0.2.2.1 + x6)), ((List.getD g0x0.2.2.2.2 (Int.toNat x6) (Ty.dflt RecordT)).1, (List.getD g0x0.2.2.2.2 (Int.toNat x6) (Ty.dflt RecordT)).2)))) :: ([] : List RowD)))))))))
      (.need (((0 : Int) ≤ x6) ∧ (x6 < (((List.length g0x0.2.2.2.2) : Nat) : Int)))
      (.need (((0 : Int) ≤ x6) ∧ (x6 < (((List.length g0x0.2.2.2.2) : Nat) : Int)))
      (.need (((List.length g1) + (List.length (((-(1 : Int)), (g0x0.1, ((Go.IntKind.wrap Go.IntKind.i64 (g0x0.2.2.1 + x6)), ((List.getD g0x0.2.2.2.2 (Int.toNat x6) (Ty.dflt RecordT)).1, (List.getD g0x0.2.2.2.2 (Int.toNat x6) (Ty.dflt RecordT)).2)))) :: ([] : List RowD)))) ≤ 2513169434916)
      (.ret (.inl (.l3 x1 (Go.IntKind.wrap Go.IntKind.i64 (x6 + (1 : Int))) g0x0 (g1 ++ (((-(1 : Int)), (g0x0.1, ((Go.IntKind.wrap Go.IntKind.i64 (g0x0.2.2.1 + x6)), ((List.getD g0x0.2.2.2.2 (Int.toNat x6) (Ty.dflt RecordT)).1, (List.getD g0x0.2.2.2.2 (Int.toNat x6) (Ty.dflt RecordT)).2)))) :: ([] : List RowD))))))))))
    (.ret (.inr g1)))
def step : S → Tr (S ⊕ (List RowD))
  | .l3 x1 x6 g0x0 g1 => T3 x1 x6 g0x0 g1
def cuts : List (Nat × Cut) := [(3, { slots := [(1, .dat I64), (2, .ref 0 0), (5, .arr 1), (6, .dat I64)], regs := [.cells (.slot 2) [.dat BatchT], .own (.slot 5) RowT] })]
theorem tr (a0 : BatchD) (a1 : Int) (R : Out → Prop) (L : List Item → St → Prop) : evFn Try.prog [] Try.f32 [.dat (.list RowT)] cuts [.dat BatchT a0, .dat I64 a1] [] R L = (T a0 a1).wp (outcome Try.f32 idx stt mk R L) := by kernel_rfl
theorem tr3 (x1 : Int) (x6 : Int) (g0x0 : BatchD) (g1 : (List RowD)) (R : Out → Prop) (L : List Item → St → Prop) : evLoop Try.prog [] Try.f32 [.dat (.list RowT)] cuts 3 (stt (.l3 x1 x6 g0x0 g1)) [] R L = (T3 x1 x6 g0x0 g1).wp (outcome Try.f32 idx stt mk R L) := by kernel_rfl
noncomputable def f (a0 : BatchD) (a1 : Int) : Option (List RowD) := loopO (step) (T a0 a1)
def e (N : BatchD → Int → Option (List RowD)) : Ent := entF 32 [.dat BatchT, .dat I64] [] mk fun d g => N (d.1) (d.2.1)
theorem ok : EntOk Try.prog (e f) := entOk_loop (ps := [.dat BatchT, .dat I64]) (rs := []) (mk := mk) (idx := idx) (S := stt) (step := step) (T := fun d g => T (d.1) (d.2.1)) (Kit.nil prog_mix) (by decide) (fn := Try.f32) (cuts := cuts) (rts := [.dat (.list RowT)])
  rfl (by decide) rfl (Nat.le_of_ble_eq_true rfl) (fun _ => rfl) (fun d g R L => tr (d.1) (d.2.1) R L) (fun s g R L => match s with
    | .l3 x1 x6 g0x0 g1 => tr3 x1 x6 g0x0 g1 R L)
end rovingref13_Rows

-- roving/rovingref13.Pending (0 p, 1 p, 3 out, 4 i, 5 o, 6 k)
namespace rovingref13_Pending
def mk (b : (List RowD)) : Out := { v := .dat (.list RowT) b }
inductive S where
  | l3 (x4 : Int) (g0x0 : PartD) (g1 : (List RowD))
  | l7 (x4 : Int) (x6 : Int) (g0x0 : PartD) (g1 : (List RowD)) (g2x0 : OpenD)
def idx : S → Nat
  | .l3 _ _ _ => 3
  | .l7 _ _ _ _ _ => 7
def stt : S → St
  | .l3 x4 g0x0 g1 => st 35 [(1, .ref 0 0), (3, .arr 1), (4, .dat I64 x4)] [.cells [.dat PartT g0x0], .own RowT g1]
  | .l7 x4 x6 g0x0 g1 g2x0 => st 35 [(1, .ref 0 0), (3, .arr 1), (4, .dat I64 x4), (5, .ref 2 0), (6, .dat I64 x6)] [.cells [.dat PartT g0x0], .own RowT g1, .cells [.dat OpenT g2x0]]
def T (N0 : BatchD → Int → Option (List RowD)) (a0 : PartD) : Tr (S ⊕ (List RowD)) :=
  (.ret (.inl (.l3 (0 : Int) a0 ([] : List RowD))))
def T3 (N0 : BatchD → Int → Option (List RowD)) (x4 : Int) (g0x0 : PartD) (g1 : (List RowD)) : Tr (S ⊕ (List RowD)) :=
  (.br (decide (x4 < (((List.length g0x0.2.2.2.1) : Nat) : Int)))
    (.need (((0 : Int) ≤ x4) ∧ (x4 < (((List.length g0x0.2.2.2.1) : Nat) : Int)))
    (.ret (.inl (.l7 x4 (0 : Int) g0x0 g1 (List.getD g0x0.2.2.2.1 (Int.toNat x4) (Ty.dflt OpenT))))))
    (.ret (.inr g1)))
def T7 (N0 : BatchD → Int → Option (List RowD)) (x4 : Int) (x6 : Int) (g0x0 : PartD) (g1 : (List RowD)) (g2x0 : OpenD) : Tr (S ⊕ (List RowD)) :=
  (.br (decide (x6 < (((List.length g2x0.2.2) : Nat) : Int)))
    (.need (((0 : Int) ≤ x6) ∧ (x6 < (((List.length g2x0.2.2) : Nat) : Int)))
    (.call (N0 (List.getD g2x0.2.2 (Int.toNat x6) (Ty.dflt BatchT)) (-(1 : Int))) default fun r0 =>
    (.need (((List.length g1) + (List.length r0)) ≤ 2513169434916)
    (.ret (.inl (.l7 x4 (Go.IntKind.wrap Go.IntKind.i64 (x6 + (1 : Int))) g0x0 (g1 ++ r0) g2x0))))))
    (.ret (.inl (.l3 (Go.IntKind.wrap Go.IntKind.i64 (x4 + (1 : Int))) g0x0 g1))))
def step (N0 : BatchD → Int → Option (List RowD)) : S → Tr (S ⊕ (List RowD))
  | .l3 x4 g0x0 g1 => T3 N0 x4 g0x0 g1
  | .l7 x4 x6 g0x0 g1 g2x0 => T7 N0 x4 x6 g0x0 g1 g2x0
def cuts : List (Nat × Cut) := [(3, { slots := [(1, .ref 0 0), (3, .arr 1), (4, .dat I64)], regs := [.cells (.slot 1) [.dat PartT], .own (.slot 3) RowT] }), (7, { slots := [(1, .ref 0 0), (3, .arr 1), (4, .dat I64), (5, .ref 2 0), (6, .dat I64)], regs := [.cells (.slot 1) [.dat PartT], .own (.slot 3) RowT, .cells (.slot 5) [.dat OpenT]] })]
theorem tr (N0 : BatchD → Int → Option (List RowD)) (a0 : PartD) (R : Out → Prop) (L : List Item → St → Prop) : evFn Try.prog [rovingref13_Rows.e N0] Try.f26 [.dat (.list RowT)] cuts [.dat PartT a0] [] R L = (T N0 a0).wp (outcome Try.f26 idx stt mk R L) := by kernel_rfl
theorem tr3 (N0 : BatchD → Int → Option (List RowD)) (x4 : Int) (g0x0 : PartD) (g1 : (List RowD)) (R : Out → Prop) (L : List Item → St → Prop) : evLoop Try.prog [rovingref13_Rows.e N0] Try.f26 [.dat (.list RowT)] cuts 3 (stt (.l3 x4 g0x0 g1)) [] R L = (T3 N0 x4 g0x0 g1).wp (outcome Try.f26 idx stt mk R L) := by kernel_rfl
theorem tr7 (N0 : BatchD → Int → Option (List RowD)) (x4 : Int) (x6 : Int) (g0x0 : PartD) (g1 : (List RowD)) (g2x0 : OpenD) (R : Out → Prop) (L : List Item → St → Prop) : evLoop Try.prog [rovingref13_Rows.e N0] Try.f26 [.dat (.list RowT)] cuts 7 (stt (.l7 x4 x6 g0x0 g1 g2x0)) [] R L = (T7 N0 x4 x6 g0x0 g1 g2x0).wp (outcome Try.f26 idx stt mk R L) := by kernel_rfl
noncomputable def f (a0 : PartD) : Option (List RowD) := loopO (step rovingref13_Rows.f) (T rovingref13_Rows.f a0)
def e (N : PartD → Option (List RowD)) : Ent := entF 26 [.dat PartT] [] mk fun d g => N (d.1)
theorem ok : EntOk Try.prog (e f) := entOk_loop (ps := [.dat PartT]) (rs := []) (mk := mk) (idx := idx) (S := stt) (step := step rovingref13_Rows.f) (T := fun d g => T rovingref13_Rows.f (d.1)) (Kit.cons rovingref13_Rows.ok (Kit.nil prog_mix)) (by decide) (fn := Try.f26) (cuts := cuts) (rts := [.dat (.list RowT)])
  rfl (by decide) rfl (Nat.le_of_ble_eq_true rfl) (fun _ => rfl) (fun d g R L => tr rovingref13_Rows.f (d.1) R L) (fun s g R L => match s with
    | .l3 x4 g0x0 g1 => tr3 rovingref13_Rows.f x4 g0x0 g1 R L
    | .l7 x4 x6 g0x0 g1 g2x0 => tr7 rovingref13_Rows.f x4 x6 g0x0 g1 g2x0 R L)
end rovingref13_Pending

-- roving/rovinglaw13.alike (0 a, 1 b, 2 a, 3 b)
namespace rovinglaw13_alike
def mk (b : Bool) : Out := { v := .dat .bool b }
def T (N0 : (List RowD) → (List RowD) → Option Bool) (N1 : PartD → Option (List RowD)) (a0 : PartD) (a1 : PartD) : Tr (Bool) :=
  (.need (((bif (a0.1 != a1.1) then true else (a0.2.1 != a1.2.1)) = false) → ((Option.isSome (N0 a0.2.2.1 a1.2.2.1)) = true))
  (.br (bif (bif (bif (a0.1 != a1.1) then true else (a0.2.1 != a1.2.1)) then true else (!(Option.getD (N0 a0.2.2.1 a1.2.2.1) false))) then true else ((((List.length a0.2.2.2.1) : Nat) : Int) != (((List.length a1.2.2.2.1) : Nat) : Int)))
    (.ret false)
    (.call (N1 a0) default fun r0 =>
    (.call (N1 a1) default fun r1 =>
    (.call (N0 r0 r1) default fun r2 =>
    (.ret r2))))))
theorem tr (N0 : (List RowD) → (List RowD) → Option Bool) (N1 : PartD → Option (List RowD)) (a0 : PartD) (a1 : PartD) (R : Out → Prop) (L : List Item → St → Prop) : evFn Try.prog [rovingref13_SameRows.e N0, rovingref13_Pending.e N1] Try.f13 [.dat .bool] [] [.dat PartT a0, .dat PartT a1] [] R L = (T N0 N1 a0 a1).wp (fun b => R (mk b)) := by kernel_rfl
noncomputable def f (a0 : PartD) (a1 : PartD) : Option Bool := (T rovingref13_SameRows.f rovingref13_Pending.f a0 a1).opt
def e (N : PartD → PartD → Option Bool) : Ent := entF 13 [.dat PartT, .dat PartT] [] mk fun d g => N (d.1) (d.2.1)
theorem ok : EntOk Try.prog (e f) := entOk_tree (ps := [.dat PartT, .dat PartT]) (rs := []) (mk := mk) (T := fun d g => T rovingref13_SameRows.f rovingref13_Pending.f (d.1) (d.2.1)) (Kit.cons rovingref13_SameRows.ok (Kit.cons rovingref13_Pending.ok (Kit.nil prog_mix))) (by decide) (fn := Try.f13) (cuts := []) (rts := [.dat .bool])
  rfl (by decide) rfl (Nat.le_of_ble_eq_true rfl) (fun _ => rfl) (fun d g R L => tr rovingref13_SameRows.f rovingref13_Pending.f (d.1) (d.2.1) R L)
end rovinglaw13_alike

-- roving/rovinglaw13.ReadCuts (0 p, 1 a, 2 b, 3 p, 4 a, 5 b, 7 x, 8 e, 9 y, 10 f, 11 z, 12 g)
namespace rovinglaw13_ReadCuts
def mk (b : Bool) : Out := { v := .dat .bool b }
def T (N0 : PartD → Option Bool) (N1 : PartD → Option Int) (N2 : Option Bool) (N3 : PartD → Int → Option (PartD × Int)) (N4 : PartD → PartD → Option Bool) (a0 : PartD) (a1 : Int) (a2 : Int) : Tr (Bool) :=
  (.call (N0 a0) default fun r0 =>
  (.need ((r0 = false) → ((Option.isSome (N1 a0)) = true))
  (.br (bif (bif r0 then true else ((Option.getD (N1 a0) default) != (0 : Int))) then true else (decide (a1 > a2)))
    (.call N2 default fun r1 =>
    (.ret r1))
    (.call (N3 a0 a1) default fun r1 =>
    (.br (r1.2 != (0 : Int))
      (.call N2 default fun r2 =>
      (.ret r2))
      (.call (N3 r1.1 a2) default fun r2 =>
      (.call (N3 a0 a2) default fun r3 =>
      (.need (((r2.2 == r3.2) = true) → ((Option.isSome (N4 r2.1 r3.1)) = true))
      (.need (((bif (r2.2 == r3.2) then (Option.getD (N4 r2.1 r3.1) false) else false) = true) → ((Option.isSome N2) = true))
      (.ret (bif (bif (r2.2 == r3.2) then (Option.getD (N4 r2.1 r3.1) false) else false) then (Option.getD N2 false) else false)))))))))))
theorem tr (N0 : PartD → Option Bool) (N1 : PartD → Option Int) (N2 : Option Bool) (N3 : PartD → Int → Option (PartD × Int)) (N4 : PartD → PartD → Option Bool) (a0 : PartD) (a1 : Int) (a2 : Int) (R : Out → Prop) (L : List Item → St → Prop) : evFn Try.prog [rovingref13_Great.e N0, read_Check.e N1, rovinglaw13_wakes.e N2, read_Cut.e N3, rovinglaw13_alike.e N4] Try.f5 [.dat .bool] [] [.dat PartT a0, .dat I64 a1, .dat I64 a2] [] R L = (T N0 N1 N2 N3 N4 a0 a1 a2).wp (fun b => R (mk b)) := by kernel_rfl
noncomputable def f (a0 : PartD) (a1 : Int) (a2 : Int) : Option Bool := (T rovingref13_Great.f read_Check.f rovinglaw13_wakes.f read_Cut.f rovinglaw13_alike.f a0 a1 a2).opt
def e (N : PartD → Int → Int → Option Bool) : Ent := entF 5 [.dat PartT, .dat I64, .dat I64] [] mk fun d g => N (d.1) (d.2.1) (d.2.2.1)
theorem ok : EntOk Try.prog (e f) := entOk_tree (ps := [.dat PartT, .dat I64, .dat I64]) (rs := []) (mk := mk) (T := fun d g => T rovingref13_Great.f read_Check.f rovinglaw13_wakes.f read_Cut.f rovinglaw13_alike.f (d.1) (d.2.1) (d.2.2.1)) (Kit.cons rovingref13_Great.ok (Kit.cons read_Check.ok (Kit.cons rovinglaw13_wakes.ok (Kit.cons read_Cut.ok (Kit.cons rovinglaw13_alike.ok (Kit.nil prog_mix)))))) (by decide) (fn := Try.f5) (cuts := []) (rts := [.dat .bool])
  rfl (by decide) rfl (Nat.le_of_ble_eq_true rfl) (fun _ => rfl) (fun d g R L => tr rovingref13_Great.f read_Check.f rovinglaw13_wakes.f read_Cut.f rovinglaw13_alike.f (d.1) (d.2.1) (d.2.2.1) R L)
end rovinglaw13_ReadCuts

-- slices.Clone[[]roving/api.Row,roving/api.Row] (0 s, 1 s)
namespace slices_Clone_api_Row_api_Row
def mk (b : (List RowD)) : Out := { v := .arr 0, wr := [(0, .own RowT b)] }
def T (a0 : (List RowD)) : Tr ((List RowD)) :=
  (.ask (List.isEmpty a0) fun nilAns0 =>
  (.br nilAns0
    (.ret ([] : List RowD))
    (.need ((0 + (List.length a0)) ≤ 2513169434916)
    (.ret (([] : List RowD) ++ a0)))))
theorem tr (a0 : (List RowD)) (R : Out → Prop) (L : List Item → St → Prop) : evFn Try.prog [] Try.f27 [.own RowT] [] [.dat (.list RowT) a0] [] R L = (T a0).wp (fun b => R (mk b)) := by kernel_rfl
noncomputable def f (a0 : (List RowD)) : Option (List RowD) := (T a0).opt
def e (N : (List RowD) → Option (List RowD)) : Ent := entF 27 [.dat (.list RowT)] [] mk fun d g => N (d.1)
theorem ok : EntOk Try.prog (e f) := entOk_tree (ps := [.dat (.list RowT)]) (rs := []) (mk := mk) (T := fun d g => T (d.1)) (Kit.nil prog_mix) (by decide) (fn := Try.f27) (cuts := []) (rts := [.own RowT])
  rfl (by decide) rfl (Nat.le_of_ble_eq_true rfl) (fun _ => rfl) (fun d g R L => tr (d.1) R L)
end slices_Clone_api_Row_api_Row

-- roving/read.Plain (0 l, 1 l, 3 out, 4 i)
namespace read_Plain
def mk (b : (List RowD)) : Out := { v := .dat (.list RowT) b }
inductive S where
  | l3 (x8 : Int) (x9 : Int) (g0 : (List RowD))
def idx : S → Nat
  | .l3 _ _ _ => 3
def stt : S → St
  | .l3 x8 x9 g0 => st 18 [(3, .arr 0), (8, .dat I64 x8), (9, .dat I64 x9)] [.own RowT g0]
def T (N0 : (List RowD) → Option (List RowD)) (a0 : (List RowD)) : Tr (S ⊕ (List RowD)) :=
  (.call (N0 a0) default fun r0 =>
  (.ret (.inl (.l3 (((List.length r0) : Nat) : Int) (0 : Int) r0))))
def T3 (N0 : (List RowD) → Option (List RowD)) (x8 : Int) (x9 : Int) (g0 : (List RowD)) : Tr (S ⊕ (List RowD)) :=
  (.br (decide (x9 < x8))
    (.need (((0 : Int) ≤ x9) ∧ (x9 < (((List.length g0) : Nat) : Int)))
    (.ret (.inl (.l3 x8 (Go.IntKind.wrap Go.IntKind.i64 (x9 + (1 : Int))) (List.set g0 (Int.toNat x9) ((0 : Int), (List.getD g0 (Int.toNat x9) (Ty.dflt RowT)).2))))))
    (.ret (.inr g0)))
def step (N0 : (List RowD) → Option (List RowD)) : S → Tr (S ⊕ (List RowD))
  | .l3 x8 x9 g0 => T3 N0 x8 x9 g0
def cuts : List (Nat × Cut) := [(3, { slots := [(3, .arr 0), (8, .dat I64), (9, .dat I64)], regs := [.own (.slot 3) RowT] })]
theorem tr (N0 : (List RowD) → Option (List RowD)) (a0 : (List RowD)) (R : Out → Prop) (L : List Item → St → Prop) : evFn Try.prog [slices_Clone_api_Row_api_Row.e N0] Try.f15 [.dat (.list RowT)] cuts [.dat (.list RowT) a0] [] R L = (T N0 a0).wp (outcome Try.f15 idx stt mk R L) := by kernel_rfl
theorem tr3 (N0 : (List RowD) → Option (List RowD)) (x8 : Int) (x9 : Int) (g0 : (List RowD)) (R : Out → Prop) (L : List Item → St → Prop) : evLoop Try.prog [slices_Clone_api_Row_api_Row.e N0] Try.f15 [.dat (.list RowT)] cuts 3 (stt (.l3 x8 x9 g0)) [] R L = (T3 N0 x8 x9 g0).wp (outcome Try.f15 idx stt mk R L) := by kernel_rfl
noncomputable def f (a0 : (List RowD)) : Option (List RowD) := loopO (step slices_Clone_api_Row_api_Row.f) (T slices_Clone_api_Row_api_Row.f a0)
def e (N : (List RowD) → Option (List RowD)) : Ent := entF 15 [.dat (.list RowT)] [] mk fun d g => N (d.1)
theorem ok : EntOk Try.prog (e f) := entOk_loop (ps := [.dat (.list RowT)]) (rs := []) (mk := mk) (idx := idx) (S := stt) (step := step slices_Clone_api_Row_api_Row.f) (T := fun d g => T slices_Clone_api_Row_api_Row.f (d.1)) (Kit.cons slices_Clone_api_Row_api_Row.ok (Kit.nil prog_mix)) (by decide) (fn := Try.f15) (cuts := cuts) (rts := [.dat (.list RowT)])
  rfl (by decide) rfl (Nat.le_of_ble_eq_true rfl) (fun _ => rfl) (fun d g R L => tr slices_Clone_api_Row_api_Row.f (d.1) R L) (fun s g R L => match s with
    | .l3 x8 x9 g0 => tr3 slices_Clone_api_Row_api_Row.f x8 x9 g0 R L)
end read_Plain

-- roving/rovinglaw13.ReadPlain (0 l, 1 l, 3 m, 4 i, 5 x, 6 y)
namespace rovinglaw13_ReadPlain
def mk (b : Bool) : Out := { v := .dat .bool b }
inductive S where
  | l7 (x0 : (List RowD)) (x17 : (List RowD)) (x18 : Int) (x19 : Int)
def idx : S → Nat
  | .l7 _ _ _ _ => 7
def stt : S → St
  | .l7 x0 x17 x18 x19 => st 34 [(0, .dat (.list RowT) x0), (17, .dat (.list RowT) x17), (18, .dat I64 x18), (19, .dat I64 x19)] []
def T (N0 : (List RowD) → Option Bool) (N1 : Option Bool) (N2 : (List RowD) → Option (List RowD)) (a0 : (List RowD)) : Tr (S ⊕ Bool) :=
  (.call (N0 a0) default fun r0 =>
  (.br r0
    (.call N1 default fun r1 =>
    (.ret (.inr r1)))
    (.call (N2 a0) default fun r1 =>
    (.br ((((List.length r1) : Nat) : Int) != (((List.length a0) : Nat) : Int))
      (.ret (.inr false))
      (.ret (.inl (.l7 a0 r1 (((List.length r1) : Nat) : Int) (0 : Int))))))))
def T7 (N0 : (List RowD) → Option Bool) (N1 : Option Bool) (N2 : (List RowD) → Option (List RowD)) (x0 : (List RowD)) (x17 : (List RowD)) (x18 : Int) (x19 : Int) : Tr (S ⊕ Bool) :=
  (.br (decide (x19 < x18))
    (.need (((0 : Int) ≤ x19) ∧ (x19 < (((List.length x17) : Nat) : Int)))
    (.need (((0 : Int) ≤ x19) ∧ (x19 < (((List.length x0) : Nat) : Int)))
    (.br (!(Go.Abs.Ty.eqD RowT (List.getD x17 (Int.toNat x19) (Ty.dflt RowT)) ((0 : Int), (List.getD x0 (Int.toNat x19) (Ty.dflt RowT)).2)))
      (.ret (.inr false))
      (.ret (.inl (.l7 x0 x17 x18 (Go.IntKind.wrap Go.IntKind.i64 (x19 + (1 : Int)))))))))
    (.call N1 default fun r0 =>
    (.ret (.inr r0))))
def step (N0 : (List RowD) → Option Bool) (N1 : Option Bool) (N2 : (List RowD) → Option (List RowD)) : S → Tr (S ⊕ Bool)
  | .l7 x0 x17 x18 x19 => T7 N0 N1 N2 x0 x17 x18 x19
def cuts : List (Nat × Cut) := [(7, { slots := [(0, .dat (.list RowT)), (17, .dat (.list RowT)), (18, .dat I64), (19, .dat I64)], regs := [] })]
theorem tr (N0 : (List RowD) → Option Bool) (N1 : Option Bool) (N2 : (List RowD) → Option (List RowD)) (a0 : (List RowD)) (R : Out → Prop) (L : List Item → St → Prop) : evFn Try.prog [rovingref13_GreatRows.e N0, rovinglaw13_wakes.e N1, read_Plain.e N2] Try.f6 [.dat .bool] cuts [.dat (.list RowT) a0] [] R L = (T N0 N1 N2 a0).wp (outcome Try.f6 idx stt mk R L) := by kernel_rfl
theorem tr7 (N0 : (List RowD) → Option Bool) (N1 : Option Bool) (N2 : (List RowD) → Option (List RowD)) (x0 : (List RowD)) (x17 : (List RowD)) (x18 : Int) (x19 : Int) (R : Out → Prop) (L : List Item → St → Prop) : evLoop Try.prog [rovingref13_GreatRows.e N0, rovinglaw13_wakes.e N1, read_Plain.e N2] Try.f6 [.dat .bool] cuts 7 (stt (.l7 x0 x17 x18 x19)) [] R L = (T7 N0 N1 N2 x0 x17 x18 x19).wp (outcome Try.f6 idx stt mk R L) := by kernel_rfl
noncomputable def f (a0 : (List RowD)) : Option Bool := loopO (step rovingref13_GreatRows.f rovinglaw13_wakes.f read_Plain.f) (T rovingref13_GreatRows.f rovinglaw13_wakes.f read_Plain.f a0)
def e (N : (List RowD) → Option Bool) : Ent := entF 6 [.dat (.list RowT)] [] mk fun d g => N (d.1)
theorem ok : EntOk Try.prog (e f) := entOk_loop (ps := [.dat (.list RowT)]) (rs := []) (mk := mk) (idx := idx) (S := stt) (step := step rovingref13_GreatRows.f rovinglaw13_wakes.f read_Plain.f) (T := fun d g => T rovingref13_GreatRows.f rovinglaw13_wakes.f read_Plain.f (d.1)) (Kit.cons rovingref13_GreatRows.ok (Kit.cons rovinglaw13_wakes.ok (Kit.cons read_Plain.ok (Kit.nil prog_mix)))) (by decide) (fn := Try.f6) (cuts := cuts) (rts := [.dat .bool])
  rfl (by decide) rfl (Nat.le_of_ble_eq_true rfl) (fun _ => rfl) (fun d g R L => tr rovingref13_GreatRows.f rovinglaw13_wakes.f read_Plain.f (d.1) R L) (fun s g R L => match s with
    | .l7 x0 x17 x18 x19 => tr7 rovingref13_GreatRows.f rovinglaw13_wakes.f read_Plain.f x0 x17 x18 x19 R L)
end rovinglaw13_ReadPlain
end Go.Abs
