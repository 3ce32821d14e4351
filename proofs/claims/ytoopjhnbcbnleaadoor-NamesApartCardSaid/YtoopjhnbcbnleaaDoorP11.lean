/-
The seat's functions, printed: trees, Lean functions, contracts.
-/
import Derived.Test.YtoopjhnbcbnleaaDoorA22
import Derived.Test.YtoopjhnbcbnleaaDoorProg
namespace Go.Abs
open Go.Proofs
set_option linter.unusedVariables false
set_option maxRecDepth 100000

abbrev I64 : Ty := (.int .i64)
abbrev runtime_errorAddressStringT : Ty := (.st (.pair .str (.int .u64)))
abbrev runtime_errorAddressStringD : Type := (ByteArray × Int)
abbrev FileT : Ty := (.st (.pair .str (.pair .str I64)))
abbrev FileD : Type := (ByteArray × (ByteArray × Int))
abbrev names_whatT : Ty := (.st (.pair (.int .i8) (.pair (.int .i8) (.pair I64 I64))))
abbrev names_whatD : Type := (Int × (Int × (Int × Int)))
abbrev runtime_boundsErrorT : Ty := (.st (.pair I64 (.pair I64 (.pair .bool (.int .u8)))))
abbrev runtime_boundsErrorD : Type := (Int × (Int × (Bool × Int)))
abbrev DiskT : Ty := (.st (.pair (.list FileT) (.pair I64 (.pair I64 .bool))))
abbrev DiskD : Type := ((List FileD) × (Int × (Int × Bool)))
theorem prog_mix : Tryd.prog.follows .mixedOrders = true := by kernel_rfl

-- roving/names.Letter (0 tag, 1 tag)
namespace names_Letter
def mk (b : ByteArray) : Out := { v := .dat .str b }
def T (a0 : Int) : Tr (ByteArray) :=
  (.br (bif (decide (a0 < (0 : Int))) then true else (decide ((Go.IntKind.wrap Go.IntKind.i64 a0) ≥ (2 : Int))))
    (.ret (ByteArray.mk (List.toArray ([] : List UInt8))))
    (.need (((0 : Int) ≤ a0) ∧ ((a0 ≤ (Go.IntKind.wrap Go.IntKind.i8 (a0 + (1 : Int)))) ∧ ((Go.IntKind.wrap Go.IntKind.i8 (a0 + (1 : Int))) ≤ (2 : Int))))
    (.ret (ByteArray.extract (ByteArray.mk (List.toArray ((105 : UInt8) :: ((98 : UInt8) :: ([] : List UInt8))))) (Int.toNat a0) (Int.toNat (Go.IntKind.wrap Go.IntKind.i8 (a0 + (1 : Int))))))))
theorem tr (a0 : Int) (R : Out → Prop) (L : List Item → St → Prop) : evFn Tryd.prog [] Tryd.f9 [.dat .str] [] [.dat (.int .i8) a0] [] R L = (T a0).wp (fun b => R (mk b)) := by kernel_rfl
noncomputable def f (a0 : Int) : Option ByteArray := (T a0).opt
def e (N : Int → Option ByteArray) : Ent := entF 9 [.dat (.int .i8)] [] mk fun d g => N (d.1)
theorem ok : EntOk Tryd.prog (e f) := entOk_tree (ps := [.dat (.int .i8)]) (rs := []) (mk := mk) (T := fun d g => T (d.1)) (Kit.nil prog_mix) (by decide) (fn := Tryd.f9) (cuts := []) (rts := [.dat .str])
  rfl (by decide) rfl (Nat.le_of_ble_eq_true rfl) (fun _ => rfl) (fun d g R L => tr (d.1) R L)
end names_Letter

-- roving/names.Meta (0 tag, 1 tag)
namespace names_Meta
def mk (b : ByteArray) : Out := { v := .dat .str b }
def T (N0 : Int → Option ByteArray) (a0 : Int) : Tr (ByteArray) :=
  (.call (N0 a0) default fun r0 =>
  (.br ((ByteArray.toList r0) == (ByteArray.toList (ByteArray.mk (List.toArray ([] : List UInt8)))))
    (.ret (ByteArray.mk (List.toArray ([] : List UInt8))))
    (.call (N0 a0) default fun r1 =>
    (.need (((ByteArray.size r0) + 1) ≤ 9223372036854775807)
    (.ret (r0 ++ (ByteArray.mk (List.toArray ((109 : UInt8) :: ([] : List UInt8))))))))))
theorem tr (N0 : Int → Option ByteArray) (a0 : Int) (R : Out → Prop) (L : List Item → St → Prop) : evFn Tryd.prog [names_Letter.e N0] Tryd.f11 [.dat .str] [] [.dat (.int .i8) a0] [] R L = (T N0 a0).wp (fun b => R (mk b)) := by kernel_rfl
noncomputable def f (a0 : Int) : Option ByteArray := (T names_Letter.f a0).opt
def e (N : Int → Option ByteArray) : Ent := entF 11 [.dat (.int .i8)] [] mk fun d g => N (d.1)
theorem ok : EntOk Tryd.prog (e f) := entOk_tree (ps := [.dat (.int .i8)]) (rs := []) (mk := mk) (T := fun d g => T names_Letter.f (d.1)) (Kit.cons names_Letter.ok (Kit.nil prog_mix)) (by decide) (fn := Tryd.f11) (cuts := []) (rts := [.dat .str])
  rfl (by decide) rfl (Nat.le_of_ble_eq_true rfl) (fun _ => rfl) (fun d g R L => tr names_Letter.f (d.1) R L)
end names_Meta

-- internal/strconv.small (0 i, 1 i)
namespace internal_strconv_small
def mk (b : ByteArray) : Out := { v := .dat .str b }
def T (a0 : Int) : Tr (ByteArray) :=
  (.br (decide (a0 < (10 : Int)))
    (.need (((0 : Int) ≤ a0) ∧ ((a0 ≤ (Go.IntKind.wrap Go.IntKind.i64 (a0 + (1 : Int)))) ∧ ((Go.IntKind.wrap Go.IntKind.i64 (a0 + (1 : Int))) ≤ (36 : Int))))
    (.ret (ByteArray.extract (ByteArray.mk (List.toArray ((48 : UInt8) :: ((49 : UInt8) :: ((50 : UInt8) :: ((51 : UInt8) :: ((52 : UInt8) :: ((53 : UInt8) :: ((54 : UInt8) :: ((55 : UInt8) :: ((56 : UInt8) :: ((57 : UInt8) :: ((97 : UInt8) :: ((98 : UInt8) :: ((99 : UInt8) :: ((100 : UInt8) :: ((101 : UInt8) :: ((102 : UInt8) :: ((103 : UInt8) :: ((104 : UInt8) :: ((105 : UInt8) :: ((106 : UInt8) :: ((107 : UInt8) :: ((108 : UInt8) :: ((109 : UInt8) :: ((110 : UInt8) :: ((111 : UInt8) :: ((112 : UInt8) :: ((113 : UInt8) :: ((114 : UInt8) :: ((115 : UInt8) :: ((116 : UInt8) :: ((117 : UInt8) :: ((118 : UInt8) :: ((119 : UInt8) :: ((120 : UInt8) :: ((121 : UInt8) :: ((122 : UInt8) :: ([] : List UInt8))))))))))))))))))))))))))))))))))))))) (Int.toNat a0) (Int.toNat (Go.IntKind.wrap Go.IntKind.i64 (a0 + (1 : Int)))))))
    (.need (((0 : Int) ≤ (Go.IntKind.wrap Go.IntKind.i64 (a0 * (2 : Int)))) ∧ (((Go.IntKind.wrap Go.IntKind.i64 (a0 * (2 : Int))) ≤ (Go.IntKind.wrap Go.IntKind.i64 ((Go.IntKind.wrap Go.IntKind.i64 (a0 * (2 : Int))) + (2 : Int)))) ∧ ((Go.IntKind.wrap Go.IntKind.i64 ((Go.IntKind.wrap Go.IntKind.i64 (a0 * (2 : Int))) + (2 : Int))) ≤ (200 : Int))))
    (.ret (ByteArray.extract (ByteArray.mk (List.toArray (List.append (List.append ((48 : UInt8) :: ((48 : UInt8) :: ((48 : UInt8) :: ((49 : UInt8) :: ((48 : UInt8) :: ((50 : UInt8) :: ((48 : UInt8) :: ((51 : UInt8) :: ((48 : UInt8) :: ((52 : UInt8) :: ((48 : UInt8) :: ((53 : UInt8) :: ((48 : UInt8) :: ((54 : UInt8) :: ((48 : UInt8) :: ((55 : UInt8) :: ((48 : UInt8) :: ((56 : UInt8) :: ((48 : UInt8) :: ((57 : UInt8) :: ((49 : UInt8) :: ((48 : UInt8) :: ((49 : UInt8) :: ((49 : UInt8) :: ((49 : UInt8) :: ((50 : UInt8) :: ((49 : UInt8) :: ((51 : UInt8) :: ((49 : UInt8) :: ((52 : UInt8) :: ((49 : UInt8) :: ((53 : UInt8) :: ((49 : UInt8) :: ((54 : UInt8) :: ((49 : UInt8) :: ((55 : UInt8) :: ((49 : UInt8) :: ((56 : UInt8) :: ((49 : UInt8) :: ((57 : UInt8) :: ((50 : UInt8) :: ((48 : UInt8) :: ((50 : UInt8) :: ((49 : UInt8) :: ((50 : UInt8) :: ((50 : UInt8) :: ((50 : UInt8) :: ((51 : UInt8) :: ((50 : UInt8) :: ((52 : UInt8) :: ([] : List UInt8))))))))))))))))))))))))))))))))))))))))))))))))))) ((50 : UInt8) :: ((53 : UInt8) :: ((50 : UInt8) :: ((54 : UInt8) :: ((50 : UInt8) :: ((55 : UInt8) :: ((50 : UInt8) :: ((56 : UInt8) :: ((50 : UInt8) :: ((57 : UInt8) :: ((51 : UInt8) :: ((48 : UInt8) :: ((51 : UInt8) :: ((49 : UInt8) :: ((51 : UInt8) :: ((50 : UInt8) :: ((51 : UInt8) :: ((51 : UInt8) :: ((51 : UInt8) :: ((52 : UInt8) :: ((51 : UInt8) :: ((53 : UInt8) :: ((51 : UInt8) :: ((54 : UInt8) :: ((51 : UInt8) :: ((55 : UInt8) :: ((51 : UInt8) :: ((56 : UInt8) :: ((51 : UInt8) :: ((57 : UInt8) :: ((52 : UInt8) :: ((48 : UInt8) :: ((52 : UInt8) :: ((49 : UInt8) :: ((52 : UInt8) :: ((50 : UInt8) :: ((52 : UInt8) :: ((51 : UInt8) :: ((52 : UInt8) :: ((52 : UInt8) :: ((52 : UInt8) :: ((53 : UInt8) :: ((52 : UInt8) :: ((54 : UInt8) :: ((52 : UInt8) :: ((55 : UInt8) :: ((52 : UInt8) :: ((56 : UInt8) :: ((52 : UInt8) :: ((57 : UInt8) :: ([] : List UInt8)))))))))))))))))))))))))))))))))))))))))))))))))))) (List.append ((53 : UInt8) :: ((48 : UInt8) :: ((53 : UInt8) :: ((49 : UInt8) :: ((53 : UInt8) :: ((50 : UInt8) :: ((53 : UInt8) :: ((51 : UInt8) :: ((53 : UInt8) :: ((52 : UInt8) :: ((53 : UInt8) :: ((53 : UInt8) :: ((53 : UInt8) :: ((54 : UInt8) :: ((53 : UInt8) :: ((55 : UInt8) :: ((53 : UInt8) :: ((56 : UInt8) :: ((53 : UInt8) :: ((57 : UInt8) :: ((54 : UInt8) :: ((48 : UInt8) :: ((54 : UInt8) :: ((49 : UInt8) :: ((54 : UInt8) :: ((50 : UInt8) :: ((54 : UInt8) :: ((51 : UInt8) :: ((54 : UInt8) :: ((52 : UInt8) :: ((54 : UInt8) :: ((53 : UInt8) :: ((54 : UInt8) :: ((54 : UInt8) :: ((54 : UInt8) :: ((55 : UInt8) :: ((54 : UInt8) :: ((56 : UInt8) :: ((54 : UInt8) :: ((57 : UInt8) :: ((55 : UInt8) :: ((48 : UInt8) :: ((55 : UInt8) :: ((49 : UInt8) :: ((55 : UInt8) :: ((50 : UInt8) :: ((55 : UInt8) :: ((51 : UInt8) :: ((55 : UInt8) :: ((52 : UInt8) :: ([] : List UInt8))))))))))))))))))))))))))))))))))))))))))))))))))) ((55 : UInt8) :: ((53 : UInt8) :: ((55 : UInt8) :: ((54 : UInt8) :: ((55 : UInt8) :: ((55 : UInt8) :: ((55 : UInt8) :: ((56 : UInt8) :: ((55 : UInt8) :: ((57 : UInt8) :: ((56 : UInt8) :: ((48 : UInt8) :: ((56 : UInt8) :: ((49 : UInt8) :: ((56 : UInt8) :: ((50 : UInt8) :: ((56 : UInt8) :: ((51 : UInt8) :: ((56 : UInt8) :: ((52 : UInt8) :: ((56 : UInt8) :: ((53 : UInt8) :: ((56 : UInt8) :: ((54 : UInt8) :: ((56 : UInt8) :: ((55 : UInt8) :: ((56 : UInt8) :: ((56 : UInt8) :: ((56 : UInt8) :: ((57 : UInt8) :: ((57 : UInt8) :: ((48 : UInt8) :: ((57 : UInt8) :: ((49 : UInt8) :: ((57 : UInt8) :: ((50 : UInt8) :: ((57 : UInt8) :: ((51 : UInt8) :: ((57 : UInt8) :: ((52 : UInt8) :: ((57 : UInt8) :: ((53 : UInt8) :: ((57 : UInt8) :: ((54 : UInt8) :: ((57 : UInt8) :: ((55 : UInt8) :: ((57 : UInt8) :: ((56 : UInt8) :: ((57 : UInt8) :: ((57 : UInt8) :: ([] : List UInt8))))))))))))))))))))))))))))))))))))))))))))))))))))))) (Int.toNat (Go.IntKind.wrap Go.IntKind.i64 (a0 * (2 : Int)))) (Int.toNat (Go.IntKind.wrap Go.IntKind.i64 ((Go.IntKind.wrap Go.IntKind.i64 (a0 * (2 : Int))) + (2 : Int))))))))
theorem tr (a0 : Int) (R : Out → Prop) (L : List Item → St → Prop) : evFn Tryd.prog [] Tryd.f26 [.dat .str] [] [.dat I64 a0] [] R L = (T a0).wp (fun b => R (mk b)) := by kernel_rfl
noncomputable def f (a0 : Int) : Option ByteArray := (T a0).opt
def e (N : Int → Option ByteArray) : Ent := entF 26 [.dat I64] [] mk fun d g => N (d.1)
theorem ok : EntOk Tryd.prog (e f) := entOk_tree (ps := [.dat I64]) (rs := []) (mk := mk) (T := fun d g => T (d.1)) (Kit.nil prog_mix) (by decide) (fn := Tryd.f26) (cuts := []) (rts := [.dat .str])
  rfl (by decide) rfl (Nat.le_of_ble_eq_true rfl) (fun _ => rfl) (fun d g R L => tr (d.1) R L)
end internal_strconv_small

-- math/bits.Len64 (0 x, 1 x, 2 n)
namespace math_bits_Len64
def mk (b : Int) : Out := { v := .dat I64 b }
def T (a0 : Int) : Tr (Int) :=
  (.br (decide (a0 ≥ (4294967296 : Int)))
    (.need ((0 : Int) ≤ (32 : Int))
    (.br (decide ((Int.fdiv a0 ((2 : Int) ^ 32)) ≥ (65536 : Int)))
      (.need ((0 : Int) ≤ (16 : Int))
      (.br (decide ((Int.fdiv (Int.fdiv a0 ((2 : Int) ^ 32)) ((2 : Int) ^ 16)) ≥ (256 : Int)))
        (.need ((0 : Int) ≤ (8 : Int))
        (.need (((0 : Int) ≤ (Go.IntKind.wrap Go.IntKind.u8 (Int.fdiv (Int.fdiv (Int.fdiv a0 ((2 : Int) ^ 32)) ((2 : Int) ^ 16)) ((2 : Int) ^ 8)))) ∧ ((Go.IntKind.wrap Go.IntKind.u8 (Int.fdiv (Int.fdiv (Int.fdiv a0 ((2 : Int) ^ 32)) ((2 : Int) ^ 16)) ((2 : Int) ^ 8))) < ((256 : Nat) : Int)))
        (.ret (Go.IntKind.wrap Go.IntKind.i64 ((56 : Int) + (Go.IntKind.wrap Go.IntKind.i64 (((UInt8.toNat (Option.getD (GetElem?.getElem? (ByteArray.mk (List.toArray (List.append (List.append ((0 : UInt8) :: ((1 : UInt8) :: ((2 : UInt8) :: ((2 : UInt8) :: ((3 : UInt8) :: ((3 : UInt8) :: ((3 : UInt8) :: ((3 : UInt8) :: ((4 : UInt8) :: ((4 : UInt8) :: ((4 : UInt8) :: ((4 : UInt8) :: ((4 : UInt8) :: ((4 : UInt8) :: ((4 : UInt8) :: ((4 : UInt8) :: ((5 : UInt8) :: ((5 : UInt8) :: ((5 : UInt8) :: ((5 : UInt8) :: ((5 : UInt8) :: ((5 : UInt8) :: ((5 : UInt8) :: ((5 : UInt8) :: ((5 : UInt8) :: ((5 : UInt8) :: ((5 : UInt8) :: ((5 : UInt8) :: ((5 : UInt8) :: ((5 : UInt8) :: ((5 : UInt8) :: ((5 : UInt8) :: ((6 : UInt8) :: ((6 : UInt8) :: ((6 : UInt8) :: ((6 : UInt8) :: ((6 : UInt8) :: ((6 : UInt8) :: ((6 : UInt8) :: ((6 : UInt8) :: ((6 : UInt8) :: ((6 : UInt8) :: ((6 : UInt8) :: ((6 : UInt8) :: ((6 : UInt8) :: ((6 : UInt8) :: ((6 : UInt8) :: ((6 : UInt8) :: ((6 : UInt8) :: ((6 : UInt8) :: ((6 : UInt8) :: ((6 : UInt8) :: ((6 : UInt8) :: ((6 : UInt8) :: ((6 : UInt8) :: ((6 : UInt8) :: ((6 : UInt8) :: ((6 : UInt8) :: ((6 : UInt8) :: ((6 : UInt8) :: ((6 : UInt8) :: ((6 : UInt8) :: ((6 : UInt8) :: ((6 : UInt8) :: ([] : List UInt8))))))))))))))))))))))))))))))))))))))))))))))))))))))))))))))))) ((7 : UInt8) :: ((7 : UInt8) :: ((7 : UInt8) :: ((7 : UInt8) :: ((7 : UInt8) :: ((7 : UInt8) :: ((7 : UInt8) :: ((7 : UInt8) :: ((7 : UInt8) :: ((7 : UInt8) :: ((7 : UInt8) :: ((7 : UInt8) :: ((7 : UInt8) :: ((7 : UInt8) :: ((7 : UInt8) :: ((7 : UInt8) :: ((7 : UInt8) :: ((7 : UInt8) :: ((7 : UInt8) :: ((7 : UInt8) :: ((7 : UInt8) :: ((7 : UInt8) :: ((7 : UInt8) :: ((7 : UInt8) :: ((7 : UInt8) :: ((7 : UInt8) :: ((7 : UInt8) :: ((7 : UInt8) :: ((7 : UInt8) :: ((7 : UInt8) :: ((7 : UInt8) :: ((7 : UInt8) :: ((7 : UInt8) :: ((7 : UInt8) :: ((7 : UInt8) :: ((7 : UInt8) :: ((7 : UInt8) :: ((7 : UInt8) :: ((7 : UInt8) :: ((7 : UInt8) :: ((7 : UInt8) :: ((7 : UInt8) :: ((7 : UInt8) :: ((7 : UInt8) :: ((7 : UInt8) :: ((7 : UInt8) :: ((7 : UInt8) :: ((7 : UInt8) :: ((7 : UInt8) :: ((7 : UInt8) :: ((7 : UInt8) :: ((7 : UInt8) :: ((7 : UInt8) :: ((7 : UInt8) :: ((7 : UInt8) :: ((7 : UInt8) :: ((7 : UInt8) :: ((7 : UInt8) :: ((7 : UInt8) :: ((7 : UInt8) :: ((7 : UInt8) :: ((7 : UInt8) :: ((7 : UInt8) :: ((7 : UInt8) :: ([] : List UInt8)))))))))))))))))))))))))))))))))))))))))))))))))))))))))))))))))) (List.append ((8 : UInt8) :: ((8 : UInt8) :: ((8 : UInt8) :: ((8 : UInt8) :: ((8 : UInt8) :: ((8 : UInt8) :: ((8 : UInt8) :: ((8 : UInt8) :: ((8 : UInt8) :: ((8 : UInt8) :: ((8 : UInt8) :: ((8 : UInt8) :: ((8 : UInt8) :: ((8 : UInt8) :: ((8 : UInt8) :: ((8 : UInt8) :: ((8 : UInt8) :: ((8 : UInt8) :: ((8 : UInt8) :: ((8 : UInt8) :: ((8 : UInt8) :: ((8 : UInt8) :: ((8 : UInt8) :: ((8 : UInt8) :: ((8 : UInt8) :: ((8 : UInt8) :: ((8 : UInt8) :: ((8 : UInt8) :: ((8 : UInt8) :: ((8 : UInt8) :: ((8 : UInt8) :: ((8 : UInt8) :: ((8 : UInt8) :: ((8 : UInt8) :: ((8 : UInt8) :: ((8 : UInt8) :: ((8 : UInt8) :: ((8 : UInt8) :: ((8 : UInt8) :: ((8 : UInt8) :: ((8 : UInt8) :: ((8 : UInt8) :: ((8 : UInt8) :: ((8 : UInt8) :: ((8 : UInt8) :: ((8 : UInt8) :: ((8 : UInt8) :: ((8 : UInt8) :: ((8 : UInt8) :: ((8 : UInt8) :: ((8 : UInt8) :: ((8 : UInt8) :: ((8 : UInt8) :: ((8 : UInt8) :: ((8 : UInt8) :: ((8 : UInt8) :: ((8 : UInt8) :: ((8 : UInt8) :: ((8 : UInt8) :: ((8 : UInt8) :: ((8 : UInt8) :: ((8 : UInt8) :: ((8 : UInt8) :: ((8 : UInt8) :: ([] : List UInt8))))))))))))))))))))))))))))))))))))))))))))))))))))))))))))))))) ((8 : UInt8) :: ((8 : UInt8) :: ((8 : UInt8) :: ((8 : UInt8) :: ((8 : UInt8) :: ((8 : UInt8) :: ((8 : UInt8) :: ((8 : UInt8) :: ((8 : UInt8) :: ((8 : UInt8) :: ((8 : UInt8) :: ((8 : UInt8) :: ((8 : UInt8) :: ((8 : UInt8) :: ((8 : UInt8) :: ((8 : UInt8) :: ((8 : UInt8) :: ((8 : UInt8) :: ((8 : UInt8) :: ((8 : UInt8) :: ((8 : UInt8) :: ((8 : UInt8) :: ((8 : UInt8) :: ((8 : UInt8) :: ((8 : UInt8) :: ((8 : UInt8) :: ((8 : UInt8) :: ((8 : UInt8) :: ((8 : UInt8) :: ((8 : UInt8) :: ((8 : UInt8) :: ((8 : UInt8) :: ((8 : UInt8) :: ((8 : UInt8) :: ((8 : UInt8) :: ((8 : UInt8) :: ((8 : UInt8) :: ((8 : UInt8) :: ((8 : UInt8) :: ((8 : UInt8) :: ((8 : UInt8) :: ((8 : UInt8) :: ((8 : UInt8) :: ((8 : UInt8) :: ((8 : UInt8) :: ((8 : UInt8) :: ((8 : UInt8) :: ((8 : UInt8) :: ((8 : UInt8) :: ((8 : UInt8) :: ((8 : UInt8) :: ((8 : UInt8) :: ((8 : UInt8) :: ((8 : UInt8) :: ((8 : UInt8) :: ((8 : UInt8) :: ((8 : UInt8) :: ((8 : UInt8) :: ((8 : UInt8) :: ((8 : UInt8) :: ((8 : UInt8) :: ((8 : UInt8) :: ((8 : UInt8) :: ((8 : UInt8) :: ([] : List UInt8))))))))))))))))))))))))))))))))))))))))))))))))))))))))))))))))))))) (Int.toNat (Go.IntKind.wrap Go.IntKind.u8 (Int.fdiv (Int.fdiv (Int.fdiv a0 ((2 : Int) ^ 32)) ((2 : Int) ^ 16)) ((2 : Int) ^ 8))))) (0 : UInt8))) : Nat) : Int)))))))
        (.need (((0 : Int) ≤ (Go.IntKind.wrap Go.IntKind.u8 (Int.fdiv (Int.fdiv a0 ((2 : Int) ^ 32)) ((2 : Int) ^ 16)))) ∧ ((Go.IntKind.wrap Go.IntKind.u8 (Int.fdiv (Int.fdiv a0 ((2 : Int) ^ 32)) ((2 : Int) ^ 16))) < ((256 : Nat) : Int)))
        (.ret (Go.IntKind.wrap Go.IntKind.i64 ((48 : Int) + (Go.IntKind.wrap Go.IntKind.i64 (((UInt8.toNat (Option.getD (GetElem?.getElem? (ByteArray.mk (List.toArray (List.append (List.append ((0 : UInt8) :: ((1 : UInt8) :: ((2 : UInt8) :: ((2 : UInt8) :: ((3 : UInt8) :: ((3 : UInt8) :: ((3 : UInt8) :: ((3 : UInt8) :: ((4 : UInt8) :: ((4 : UInt8) :: ((4 : UInt8) :: ((4 : UInt8) :: ((4 : UInt8) :: ((4 : UInt8) :: ((4 : UInt8) :: ((4 : UInt8) :: ((5 : UInt8) :: ((5 : UInt8) :: ((5 : UInt8) :: ((5 : UInt8) :: ((5 : UInt8) :: ((5 : UInt8) :: ((5 : UInt8) :: ((5 : UInt8) :: ((5 : UInt8) :: ((5 : UInt8) :: ((5 : UInt8) :: ((5 : UInt8) :: ((5 : UInt8) :: ((5 : UInt8) :: ((5 : UInt8) :: ((5 : UInt8) :: ((6 : UInt8) :: ((6 : UInt8) :: ((6 : UInt8) :: ((6 : UInt8) :: ((6 : UInt8) :: ((6 : UInt8) :: ((6 : UInt8) :: ((6 : UInt8) :: ((6 : UInt8) :: ((6 : UInt8) :: ((6 : UInt8) :: ((6 : UInt8) :: ((6 : UInt8) :: ((6 : UInt8) :: ((6 : UInt8) :: ((6 : UInt8) :: ((6 : UInt8) :: ((6 : UInt8) :: ((6 : UInt8) :: ((6 : UInt8) :: ((6 : UInt8) :: ((6 : UInt8) :: ((6 : UInt8) :: ((6 : UInt8) :: ((6 : UInt8) :: ((6 : UInt8) :: ((6 : UInt8) :: ((6 : UInt8) :: ((6 : UInt8) :: ((6 : UInt8) :: ((6 : UInt8) :: ((6 : UInt8) :: ([] : List UInt8))))))))))))))))))))))))))))))))))))))))))))))))))))))))))))))))) ((7 : UInt8) :: ((7 : UInt8) :: ((7 : UInt8) :: ((7 : UInt8) :: ((7 : UInt8) :: ((7 : UInt8) :: ((7 : UInt8) :: ((7 : UInt8) :: ((7 : UInt8) :: ((7 : UInt8) :: ((7 : UInt8) :: ((7 : UInt8) :: ((7 : UInt8) :: ((7 : UInt8) :: ((7 : UInt8) :: ((7 : UInt8) :: ((7 : UInt8) :: ((7 : UInt8) :: ((7 : UInt8) :: ((7 : UInt8) :: ((7 : UInt8) :: ((7 : UInt8) :: ((7 : UInt8) :: ((7 : UInt8) :: ((7 : UInt8) :: ((7 : UInt8) :: ((7 : UInt8) :: ((7 : UInt8) :: ((7 : UInt8) :: ((7 : UInt8) :: ((7 : UInt8) :: ((7 : UInt8) :: ((7 : UInt8) :: ((7 : UInt8) :: ((7 : UInt8) :: ((7 : UInt8) :: ((7 : UInt8) :: ((7 : UInt8) :: ((7 : UInt8) :: ((7 : UInt8) :: ((7 : UInt8) :: ((7 : UInt8) :: ((7 : UInt8) :: ((7 : UInt8) :: ((7 : UInt8) :: ((7 : UInt8) :: ((7 : UInt8) :: ((7 : UInt8) :: ((7 : UInt8) :: ((7 : UInt8) :: ((7 : UInt8) :: ((7 : UInt8) :: ((7 : UInt8) :: ((7 : UInt8) :: ((7 : UInt8) :: ((7 : UInt8) :: ((7 : UInt8) :: ((7 : UInt8) :: ((7 : UInt8) :: ((7 : UInt8) :: ((7 : UInt8) :: ((7 : UInt8) :: ((7 : UInt8) :: ((7 : UInt8) :: ([] : List UInt8)))))))))))))))))))))))))))))))))))))))))))))))))))))))))))))))))) (List.append ((8 : UInt8) :: ((8 : UInt8) :: ((8 : UInt8) :: ((8 : UInt8) :: ((8 : UInt8) :: ((8 : UInt8) :: ((8 : UInt8) :: ((8 : UInt8) :: ((8 : UInt8) :: ((8 : UInt8) :: ((8 : UInt8) :: ((8 : UInt8) :: ((8 : UInt8) :: ((8 : UInt8) :: ((8 : UInt8) :: ((8 : UInt8) :: ((8 : UInt8) :: ((8 : UInt8) :: ((8 : UInt8) :: ((8 : UInt8) :: ((8 : UInt8) :: ((8 : UInt8) :: ((8 : UInt8) :: ((8 : UInt8) :: ((8 : UInt8) :: ((8 : UInt8) :: ((8 : UInt8) :: ((8 : UInt8) :: ((8 : UInt8) :: ((8 : UInt8) :: ((8 : UInt8) :: ((8 : UInt8) :: ((8 : UInt8) :: ((8 : UInt8) :: ((8 : UInt8) :: ((8 : UInt8) :: ((8 : UInt8) :: ((8 : UInt8) :: ((8 : UInt8) :: ((8 : UInt8) :: ((8 : UInt8) :: ((8 : UInt8) :: ((8 : UInt8) :: ((8 : UInt8) :: ((8 : UInt8) :: ((8 : UInt8) :: ((8 : UInt8) :: ((8 : UInt8) :: ((8 : UInt8) :: ((8 : UInt8) :: ((8 : UInt8) :: ((8 : UInt8) :: ((8 : UInt8) :: ((8 : UInt8) :: ((8 : UInt8) :: ((8 : UInt8) :: ((8 : UInt8) :: ((8 : UInt8) :: ((8 : UInt8) :: ((8 : UInt8) :: ((8 : UInt8) :: ((8 : UInt8) :: ((8 : UInt8) :: ((8 : UInt8) :: ([] : List UInt8))))))))))))))))))))))))))))))))))))))))))))))))))))))))))))))))) ((8 : UInt8) :: ((8 : UInt8) :: ((8 : UInt8) :: ((8 : UInt8) :: ((8 : UInt8) :: ((8 : UInt8) :: ((8 : UInt8) :: ((8 : UInt8) :: ((8 : UInt8) :: ((8 : UInt8) :: ((8 : UInt8) :: ((8 : UInt8) :: ((8 : UInt8) :: ((8 : UInt8) :: ((8 : UInt8) :: ((8 : UInt8) :: ((8 : UInt8) :: ((8 : UInt8) :: ((8 : UInt8) :: ((8 : UInt8) :: ((8 : UInt8) :: ((8 : UInt8) :: ((8 : UInt8) :: ((8 : UInt8) :: ((8 : UInt8) :: ((8 : UInt8) :: ((8 : UInt8) :: ((8 : UInt8) :: ((8 : UInt8) :: ((8 : UInt8) :: ((8 : UInt8) :: ((8 : UInt8) :: ((8 : UInt8) :: ((8 : UInt8) :: ((8 : UInt8) :: ((8 : UInt8) :: ((8 : UInt8) :: ((8 : UInt8) :: ((8 : UInt8) :: ((8 : UInt8) :: ((8 : UInt8) :: ((8 : UInt8) :: ((8 : UInt8) :: ((8 : UInt8) :: ((8 : UInt8) :: ((8 : UInt8) :: ((8 : UInt8) :: ((8 : UInt8) :: ((8 : UInt8) :: ((8 : UInt8) :: ((8 : UInt8) :: ((8 : UInt8) :: ((8 : UInt8) :: ((8 : UInt8) :: ((8 : UInt8) :: ((8 : UInt8) :: ((8 : UInt8) :: ((8 : UInt8) :: ((8 : UInt8) :: ((8 : UInt8) :: ((8 : UInt8) :: ((8 : UInt8) :: ((8 : UInt8) :: ((8 : UInt8) :: ([] : List UInt8))))))))))))))))))))))))))))))))))))))))))))))))))))))))))))))))))))) (Int.toNat (Go.IntKind.wrap Go.IntKind.u8 (Int.fdiv (Int.fdiv a0 ((2 : Int) ^ 32)) ((2 : Int) ^ 16))))) (0 : UInt8))) : Nat) : Int))))))))
      (.br (decide ((Int.fdiv a0 ((2 : Int) ^ 32)) ≥ (256 : Int)))
        (.need ((0 : Int) ≤ (8 : Int))
        (.need (((0 : Int) ≤ (Go.IntKind.wrap Go.IntKind.u8 (Int.fdiv (Int.fdiv a0 ((2 : Int) ^ 32)) ((2 : Int) ^ 8)))) ∧ ((Go.IntKind.wrap Go.IntKind.u8 (Int.fdiv (Int.fdiv a0 ((2 : Int) ^ 32)) ((2 : Int) ^ 8))) < ((256 : Nat) : Int)))
        (.ret (Go.IntKind.wrap Go.IntKind.i64 ((40 : Int) + (Go.IntKind.wrap Go.IntKind.i64 (((UInt8.toNat (Option.getD (GetElem?.getElem? (ByteArray.mk (List.toArray (List.append (List.append ((0 : UInt8) :: ((1 : UInt8) :: ((2 : UInt8) :: ((2 : UInt8) :: ((3 : UInt8) :: ((3 : UInt8) :: ((3 : UInt8) :: ((3 : UInt8) :: ((4 : UInt8) :: ((4 : UInt8) :: ((4 : UInt8) :: ((4 : UInt8) :: ((4 : UInt8) :: ((4 : UInt8) :: ((4 : UInt8) :: ((4 : UInt8) :: ((5 : UInt8) :: ((5 : UInt8) :: ((5 : UInt8) :: ((5 : UInt8) :: ((5 : UInt8) :: ((5 : UInt8) :: ((5 : UInt8) :: ((5 : UInt8) :: ((5 : UInt8) :: ((5 : UInt8) :: ((5 : UInt8) :: ((5 : UInt8) :: ((5 : UInt8) :: ((5 : UInt8) :: ((5 : UInt8) :: ((5 : UInt8) :: ((6 : UInt8) :: ((6 : UInt8) :: ((6 : UInt8) :: ((6 : UInt8) :: ((6 : UInt8) :: ((6 : UInt8) :: ((6 : UInt8) :: ((6 : UInt8) :: ((6 : UInt8) :: ((6 : UInt8) :: ((6 : UInt8) :: ((6 : UInt8) :: ((6 : UInt8) :: ((6 : UInt8) :: ((6 : UInt8) :: ((6 : UInt8) :: ((6 : UInt8) :: ((6 : UInt8) :: ((6 : UInt8) :: ((6 : UInt8) :: ((6 : UInt8) :: ((6 : UInt8) :: ((6 : UInt8) :: ((6 : UInt8) :: ((6 : UInt8) :: ((6 : UInt8) :: ((6 : UInt8) :: ((6 : UInt8) :: ((6 : UInt8) :: ((6 : UInt8) :: ((6 : UInt8) :: ((6 : UInt8) :: ([] : List UInt8))))))))))))))))))))))))))))))))))))))))))))))))))))))))))))))))) ((7 : UInt8) :: ((7 : UInt8) :: ((7 : UInt8) :: ((7 : UInt8) :: ((7 : UInt8) :: ((7 : UInt8) :: ((7 : UInt8) :: ((7 : UInt8) :: ((7 : UInt8) :: ((7 : UInt8) :: ((7 : UInt8) :: ((7 : UInt8) :: ((7 : UInt8) :: ((7 : UInt8) :: ((7 : UInt8) :: ((7 : UInt8) :: ((7 : UInt8) :: ((7 : UInt8) :: ((7 : UInt8) :: ((7 : UInt8) :: ((7 : UInt8) :: ((7 : UInt8) :: ((7 : UInt8) :: ((7 : UInt8) :: ((7 : UInt8) :: ((7 : UInt8) :: ((7 : UInt8) :: ((7 : UInt8) :: ((7 : UInt8) :: ((7 : UInt8) :: ((7 : UInt8) :: ((7 : UInt8) :: ((7 : UInt8) :: ((7 : UInt8) :: ((7 : UInt8) :: ((7 : UInt8) :: ((7 : UInt8) :: ((7 : UInt8) :: ((7 : UInt8) :: ((7 : UInt8) :: ((7 : UInt8) :: ((7 : UInt8) :: ((7 : UInt8) :: ((7 : UInt8) :: ((7 : UInt8) :: ((7 : UInt8) :: ((7 : UInt8) :: ((7 : UInt8) :: ((7 : UInt8) :: ((7 : UInt8) :: ((7 : UInt8) :: ((7 : UInt8) :: ((7 : UInt8) :: ((7 : UInt8) :: ((7 : UInt8) :: ((7 : UInt8) :: ((7 : UInt8) :: ((7 : UInt8) :: ((7 : UInt8) :: ((7 : UInt8) :: ((7 : UInt8) :: ((7 : UInt8) :: ((7 : UInt8) :: ((7 : UInt8) :: ([] : List UInt8)))))))))))))))))))))))))))))))))))))))))))))))))))))))))))))))))) (List.append ((8 : UInt8) :: ((8 : UInt8) :: ((8 : UInt8) :: ((8 : UInt8) :: ((8 : UInt8) :: ((8 : UInt8) :: ((8 : UInt8) :: ((8 : UInt8) :: ((8 : UInt8) :: ((8 : UInt8) :: ((8 : UInt8) :: ((8 : UInt8) :: ((8 : UInt8) :: ((8 : UInt8) :: ((8 : UInt8) :: ((8 : UInt8) :: ((8 : UInt8) :: ((8 : UInt8) :: ((8 : UInt8) :: ((8 : UInt8) :: ((8 : UInt8) :: ((8 : UInt8) :: ((8 : UInt8) :: ((8 : UInt8) :: ((8 : UInt8) :: ((8 : UInt8) :: ((8 : UInt8) :: ((8 : UInt8) :: ((8 : UInt8) :: ((8 : UInt8) :: ((8 : UInt8) :: ((8 : UInt8) :: ((8 : UInt8) :: ((8 : UInt8) :: ((8 : UInt8) :: ((8 : UInt8) :: ((8 : UInt8) :: ((8 : UInt8) :: ((8 : UInt8) :: ((8 : UInt8) :: ((8 : UInt8) :: ((8 : UInt8) :: ((8 : UInt8) :: ((8 : UInt8) :: ((8 : UInt8) :: ((8 : UInt8) :: ((8 : UInt8) :: ((8 : UInt8) :: ((8 : UInt8) :: ((8 : UInt8) :: ((8 : UInt8) :: ((8 : UInt8) :: ((8 : UInt8) :: ((8 : UInt8) :: ((8 : UInt8) :: ((8 : UInt8) :: ((8 : UInt8) :: ((8 : UInt8) :: ((8 : UInt8) :: ((8 : UInt8) :: ((8 : UInt8) :: ((8 : UInt8) :: ((8 : UInt8) :: ((8 : UInt8) :: ([] : List UInt8))))))))))))))))))))))))))))))))))))))))))))))))))))))))))))))))) ((8 : UInt8) :: ((8 : UInt8) :: ((8 : UInt8) :: ((8 : UInt8) :: ((8 : UInt8) :: ((8 : UInt8) :: ((8 : UInt8) :: ((8 : UInt8) :: ((8 : UInt8) :: ((8 : UInt8) :: ((8 : UInt8) :: ((8 : UInt8) :: ((8 : UInt8) :: ((8 : UInt8) :: ((8 : UInt8) :: ((8 : UInt8) :: ((8 : UInt8) :: ((8 : UInt8) :: ((8 : UInt8) :: ((8 : UInt8) :: ((8 : UInt8) :: ((8 : UInt8) :: ((8 : UInt8) :: ((8 : UInt8) :: ((8 : UInt8) :: ((8 : UInt8) :: ((8 : UInt8) :: ((8 : UInt8) :: ((8 : UInt8) :: ((8 : UInt8) :: ((8 : UInt8) :: ((8 : UInt8) :: ((8 : UInt8) :: ((8 : UInt8) :: ((8 : UInt8) :: ((8 : UInt8) :: ((8 : UInt8) :: ((8 : UInt8) :: ((8 : UInt8) :: ((8 : UInt8) :: ((8 : UInt8) :: ((8 : UInt8) :: ((8 : UInt8) :: ((8 : UInt8) :: ((8 : UInt8) :: ((8 : UInt8) :: ((8 : UInt8) :: ((8 : UInt8) :: ((8 : UInt8) :: ((8 : UInt8) :: ((8 : UInt8) :: ((8 : UInt8) :: ((8 : UInt8) :: ((8 : UInt8) :: ((8 : UInt8) :: ((8 : UInt8) :: ((8 : UInt8) :: ((8 : UInt8) :: ((8 : UInt8) :: ((8 : UInt8) :: ((8 : UInt8) :: ((8 : UInt8) :: ((8 : UInt8) :: ((8 : UInt8) :: ([] : List UInt8))))))))))))))))))))))))))))))))))))))))))))))))))))))))))))))))))))) (Int.toNat (Go.IntKind.wrap Go.IntKind.u8 (Int.fdiv (Int.fdiv a0 ((2 : Int) ^ 32)) ((2 : Int) ^ 8))))) (0 : UInt8))) : Nat) : Int)))))))
        (.need (((0 : Int) ≤ (Go.IntKind.wrap Go.IntKind.u8 (Int.fdiv a0 ((2 : Int) ^ 32)))) ∧ ((Go.IntKind.wrap Go.IntKind.u8 (Int.fdiv a0 ((2 : Int) ^ 32))) < ((256 : Nat) : Int)))
        (.ret (Go.IntKind.wrap Go.IntKind.i64 ((32 : Int) + (Go.IntKind.wrap Go.IntKind.i64 (((UInt8.toNat (Option.getD (GetElem?.getElem? (ByteArray.mk (List.toArray (List.append (List.append ((0 : UInt8) :: ((1 : UInt8) :: ((2 : UInt8) :: ((2 : UInt8) :: ((3 : UInt8) :: ((3 : UInt8) :: ((3 : UInt8) :: ((3 : UInt8) :: ((4 : UInt8) :: ((4 : UInt8) :: ((4 : UInt8) :: ((4 : UInt8) :: ((4 : UInt8) :: ((4 : UInt8) :: ((4 : UInt8) :: ((4 : UInt8) :: ((5 : UInt8) :: ((5 : UInt8) :: ((5 : UInt8) :: ((5 : UInt8) :: ((5 : UInt8) :: ((5 : UInt8) :: ((5 : UInt8) :: ((5 : UInt8) :: ((5 : UInt8) :: ((5 : UInt8) :: ((5 : UInt8) :: ((5 : UInt8) :: ((5 : UInt8) :: ((5 : UInt8) :: ((5 : UInt8) :: ((5 : UInt8) :: ((6 : UInt8) :: ((6 : UInt8) :: ((6 : UInt8) :: ((6 : UInt8) :: ((6 : UInt8) :: ((6 : UInt8) :: ((6 : UInt8) :: ((6 : UInt8) :: ((6 : UInt8) :: ((6 : UInt8) :: ((6 : UInt8) :: ((6 : UInt8) :: ((6 : UInt8) :: ((6 : UInt8) :: ((6 : UInt8) :: ((6 : UInt8) :: ((6 : UInt8) :: ((6 : UInt8) :: ((6 : UInt8) :: ((6 : UInt8) :: ((6 : UInt8) :: ((6 : UInt8) :: ((6 : UInt8) :: ((6 : UInt8) :: ((6 : UInt8) :: ((6 : UInt8) :: ((6 : UInt8) :: ((6 : UInt8) :: ((6 : UInt8) :: ((6 : UInt8) :: ((6 : UInt8) :: ((6 : UInt8) :: ([] : List UInt8))))))))))))))))))))))))))))))))))))))))))))))))))))))))))))))))) ((7 : UInt8) :: ((7 : UInt8) :: ((7 : UInt8) :: ((7 : UInt8) :: ((7 : UInt8) :: ((7 : UInt8) :: ((7 : UInt8) :: ((7 : UInt8) :: ((7 : UInt8) :: ((7 : UInt8) :: ((7 : UInt8) :: ((7 : UInt8) :: ((7 : UInt8) :: ((7 : UInt8) :: ((7 : UInt8) :: ((7 : UInt8) :: ((7 : UInt8) :: ((7 : UInt8) :: ((7 : UInt8) :: ((7 : UInt8) :: ((7 : UInt8) :: ((7 : UInt8) :: ((7 : UInt8) :: ((7 : UInt8) :: ((7 : UInt8) :: ((7 : UInt8) :: ((7 : UInt8) :: ((7 : UInt8) :: ((7 : UInt8) :: ((7 : UInt8) :: ((7 : UInt8) :: ((7 : UInt8) :: ((7 : UInt8) :: ((7 : UInt8) :: ((7 : UInt8) :: ((7 : UInt8) :: ((7 : UInt8) :: ((7 : UInt8) :: ((7 : UInt8) :: ((7 : UInt8) :: ((7 : UInt8) :: ((7 : UInt8) :: ((7 : UInt8) :: ((7 : UInt8) :: ((7 : UInt8) :: ((7 : UInt8) :: ((7 : UInt8) :: ((7 : UInt8) :: ((7 : UInt8) :: ((7 : UInt8) :: ((7 : UInt8) :: ((7 : UInt8) :: ((7 : UInt8) :: ((7 : UInt8) :: ((7 : UInt8) :: ((7 : UInt8) :: ((7 : UInt8) :: ((7 : UInt8) :: ((7 : UInt8) :: ((7 : UInt8) :: ((7 : UInt8) :: ((7 : UInt8) :: ((7 : UInt8) :: ((7 : UInt8) :: ([] : List UInt8)))))))))))))))))))))))))))))))))))))))))))))))))))))))))))))))))) (List.append ((8 : UInt8) :: ((8 : UInt8) :: ((8 : UInt8) :: ((8 : UInt8) :: ((8 : UInt8) :: ((8 : UInt8) :: ((8 : UInt8) :: ((8 : UInt8) :: ((8 : UInt8) :: ((8 : UInt8) :: ((8 : UInt8) :: ((8 : UInt8) :: ((8 : UInt8) :: ((8 : UInt8) :: ((8 : UInt8) :: ((8 : UInt8) :: ((8 : UInt8) :: ((8 : UInt8) :: ((8 : UInt8) :: ((8 : UInt8) :: ((8 : UInt8) :: ((8 : UInt8) :: ((8 : UInt8) :: ((8 : UInt8) :: ((8 : UInt8) :: ((8 : UInt8) :: ((8 : UInt8) :: ((8 : UInt8) :: ((8 : UInt8) :: ((8 : UInt8) :: ((8 : UInt8) :: ((8 : UInt8) :: ((8 : UInt8) :: ((8 : UInt8) :: ((8 : UInt8) :: ((8 : UInt8) :: ((8 : UInt8) :: ((8 : UInt8) :: ((8 : UInt8) :: ((8 : UInt8) :: ((8 : UInt8) :: ((8 : UInt8) :: ((8 : UInt8) :: ((8 : UInt8) :: ((8 : UInt8) :: ((8 : UInt8) :: ((8 : UInt8) :: ((8 : UInt8) :: ((8 : UInt8) :: ((8 : UInt8) :: ((8 : UInt8) :: ((8 : UInt8) :: ((8 : UInt8) :: ((8 : UInt8) :: ((8 : UInt8) :: ((8 : UInt8) :: ((8 : UInt8) :: ((8 : UInt8) :: ((8 : UInt8) :: ((8 : UInt8) :: ((8 : UInt8) :: ((8 : UInt8) :: ((8 : UInt8) :: ((8 : UInt8) :: ([] : List UInt8))))))))))))))))))))))))))))))))))))))))))))))))))))))))))))))))) ((8 : UInt8) :: ((8 : UInt8) :: ((8 : UInt8) :: ((8 : UInt8) :: ((8 : UInt8) :: ((8 : UInt8) :: ((8 : UInt8) :: ((8 : UInt8) :: ((8 : UInt8) :: ((8 : UInt8) :: ((8 : UInt8) :: ((8 : UInt8) :: ((8 : UInt8) :: ((8 : UInt8) :: ((8 : UInt8) :: ((8 : UInt8) :: ((8 : UInt8) :: ((8 : UInt8) :: ((8 : UInt8) :: ((8 : UInt8) :: ((8 : UInt8) :: ((8 : UInt8) :: ((8 : UInt8) :: ((8 : UInt8) :: ((8 : UInt8) :: ((8 : UInt8) :: ((8 : UInt8) :: ((8 : UInt8) :: ((8 : UInt8) :: ((8 : UInt8) :: ((8 : UInt8) :: ((8 : UInt8) :: ((8 : UInt8) :: ((8 : UInt8) :: ((8 : UInt8) :: ((8 : UInt8) :: ((8 : UInt8) :: ((8 : UInt8) :: ((8 : UInt8) :: ((8 : UInt8) :: ((8 : UInt8) :: ((8 : UInt8) :: ((8 : UInt8) :: ((8 : UInt8) :: ((8 : UInt8) :: ((8 : UInt8) :: ((8 : UInt8) :: ((8 : UInt8) :: ((8 : UInt8) :: ((8 : UInt8) :: ((8 : UInt8) :: ((8 : UInt8) :: ((8 : UInt8) :: ((8 : UInt8) :: ((8 : UInt8) :: ((8 : UInt8) :: ((8 : UInt8) :: ((8 : UInt8) :: ((8 : UInt8) :: ((8 : UInt8) :: ((8 : UInt8) :: ((8 : UInt8) :: ((8 : UInt8) :: ((8 : UInt8) :: ([] : List UInt8))))))))))))))))))))))))))))))))))))))))))))))))))))))))))))))))))))) (Int.toNat (Go.IntKind.wrap Go.IntKind.u8 (Int.fdiv a0 ((2 : Int) ^ 32))))) (0 : UInt8))) : Nat) : Int)))))))))
    (.br (decide (a0 ≥ (65536 : Int)))
      (.need ((0 : Int) ≤ (16 : Int))
      (.br (decide ((Int.fdiv a0 ((2 : Int) ^ 16)) ≥ (256 : Int)))
        (.need ((0 : Int) ≤ (8 : Int))
        (.need (((0 : Int) ≤ (Go.IntKind.wrap Go.IntKind.u8 (Int.fdiv (Int.fdiv a0 ((2 : Int) ^ 16)) ((2 : Int) ^ 8)))) ∧ ((Go.IntKind.wrap Go.IntKind.u8 (Int.fdiv (Int.fdiv a0 ((2 : Int) ^ 16)) ((2 : Int) ^ 8))) < ((256 : Nat) : Int)))
        (.ret (Go.IntKind.wrap Go.IntKind.i64 ((24 : Int) + (Go.IntKind.wrap Go.IntKind.i64 (((UInt8.toNat (Option.getD (GetElem?.getElem? (ByteArray.mk (List.toArray (List.append (List.append ((0 : UInt8) :: ((1 : UInt8) :: ((2 : UInt8) :: ((2 : UInt8) :: ((3 : UInt8) :: ((3 : UInt8) :: ((3 : UInt8) :: ((3 : UInt8) :: ((4 : UInt8) :: ((4 : UInt8) :: ((4 : UInt8) :: ((4 : UInt8) :: ((4 : UInt8) :: ((4 : UInt8) :: ((4 : UInt8) :: ((4 : UInt8) :: ((5 : UInt8) :: ((5 : UInt8) :: ((5 : UInt8) :: ((5 : UInt8) :: ((5 : UInt8) :: ((5 : UInt8) :: ((5 : UInt8) :: ((5 : UInt8) :: ((5 : UInt8) :: ((5 : UInt8) :: ((5 : UInt8) :: ((5 : UInt8) :: ((5 : UInt8) :: ((5 : UInt8) :: ((5 : UInt8) :: ((5 : UInt8) :: ((6 : UInt8) :: ((6 : UInt8) :: ((6 : UInt8) :: ((6 : UInt8) :: ((6 : UInt8) :: ((6 : UInt8) :: ((6 : UInt8) :: ((6 : UInt8) :: ((6 : UInt8) :: ((6 : UInt8) :: ((6 : UInt8) :: ((6 : UInt8) :: ((6 : UInt8) :: ((6 : UInt8) :: ((6 : UInt8) :: ((6 : UInt8) :: ((6 : UInt8) :: ((6 : UInt8) :: ((6 : UInt8) :: ((6 : UInt8) :: ((6 : UInt8) :: ((6 : UInt8) :: ((6 : UInt8) :: ((6 : UInt8) :: ((6 : UInt8) :: ((6 : UInt8) :: ((6 : UInt8) :: ((6 : UInt8) :: ((6 : UInt8) :: ((6 : UInt8) :: ((6 : UInt8) :: ((6 : UInt8) :: ([] : List UInt8))))))))))))))))))))))))))))))))))))))))))))))))))))))))))))))))) ((7 : UInt8) :: ((7 : UInt8) :: ((7 : UInt8) :: ((7 : UInt8) :: ((7 : UInt8) :: ((7 : UInt8) :: ((7 : UInt8) :: ((7 : UInt8) :: ((7 : UInt8) :: ((7 : UInt8) :: ((7 : UInt8) :: ((7 : UInt8) :: ((7 : UInt8) :: ((7 : UInt8) :: ((7 : UInt8) :: ((7 : UInt8) :: ((7 : UInt8) :: ((7 : UInt8) :: ((7 : UInt8) :: ((7 : UInt8) :: ((7 : UInt8) :: ((7 : UInt8) :: ((7 : UInt8) :: ((7 : UInt8) :: ((7 : UInt8) :: ((7 : UInt8) :: ((7 : UInt8) :: ((7 : UInt8) :: ((7 : UInt8) :: ((7 : UInt8) :: ((7 : UInt8) :: ((7 : UInt8) :: ((7 : UInt8) :: ((7 : UInt8) :: ((7 : UInt8) :: ((7 : UInt8) :: ((7 : UInt8) :: ((7 : UInt8) :: ((7 : UInt8) :: ((7 : UInt8) :: ((7 : UInt8) :: ((7 : UInt8) :: ((7 : UInt8) :: ((7 : UInt8) :: ((7 : UInt8) :: ((7 : UInt8) :: ((7 : UInt8) :: ((7 : UInt8) :: ((7 : UInt8) :: ((7 : UInt8) :: ((7 : UInt8) :: ((7 : UInt8) :: ((7 : UInt8) :: ((7 : UInt8) :: ((7 : UInt8) :: ((7 : UInt8) :: ((7 : UInt8) :: ((7 : UInt8) :: ((7 : UInt8) :: ((7 : UInt8) :: ((7 : UInt8) :: ((7 : UInt8) :: ((7 : UInt8) :: ((7 : UInt8) :: ([] : List UInt8)))))))))))))))))))))))))))))))))))))))))))))))))))))))))))))))))) (List.append ((8 : UInt8) :: ((8 : UInt8) :: ((8 : UInt8) :: ((8 : UInt8) :: ((8 : UInt8) :: ((8 : UInt8) :: ((8 : UInt8) :: ((8 : UInt8) :: ((8 : UInt8) :: ((8 : UInt8) :: ((8 : UInt8) :: ((8 : UInt8) :: ((8 : UInt8) :: ((8 : UInt8) :: ((8 : UInt8) :: ((8 : UInt8) :: ((8 : UInt8) :: ((8 : UInt8) :: ((8 : UInt8) :: ((8 : UInt8) :: ((8 : UInt8) :: ((8 : UInt8) :: ((8 : UInt8) :: ((8 : UInt8) :: ((8 : UInt8) :: ((8 : UInt8) :: ((8 : UInt8) :: ((8 : UInt8) :: ((8 : UInt8) :: ((8 : UInt8) :: ((8 : UInt8) :: ((8 : UInt8) :: ((8 : UInt8) :: ((8 : UInt8) :: ((8 : UInt8) :: ((8 : UInt8) :: ((8 : UInt8) :: ((8 : UInt8) :: ((8 : UInt8) :: ((8 : UInt8) :: ((8 : UInt8) :: ((8 : UInt8) :: ((8 : UInt8) :: ((8 : UInt8) :: ((8 : UInt8) :: ((8 : UInt8) :: ((8 : UInt8) :: ((8 : UInt8) :: ((8 : UInt8) :: ((8 : UInt8) :: ((8 : UInt8) :: ((8 : UInt8) :: ((8 : UInt8) :: ((8 : UInt8) :: ((8 : UInt8) :: ((8 : UInt8) :: ((8 : UInt8) :: ((8 : UInt8) :: ((8 : UInt8) :: ((8 : UInt8) :: ((8 : UInt8) :: ((8 : UInt8) :: ((8 : UInt8) :: ((8 : UInt8) :: ([] : List UInt8))))))))))))))))))))))))))))))))))))))))))))))))))))))))))))))))) ((8 : UInt8) :: ((8 : UInt8) :: ((8 : UInt8) :: ((8 : UInt8) :: ((8 : UInt8) :: ((8 : UInt8) :: ((8 : UInt8) :: ((8 : UInt8) :: ((8 : UInt8) :: ((8 : UInt8) :: ((8 : UInt8) :: ((8 : UInt8) :: ((8 : UInt8) :: ((8 : UInt8) :: ((8 : UInt8) :: ((8 : UInt8) :: ((8 : UInt8) :: ((8 : UInt8) :: ((8 : UInt8) :: ((8 : UInt8) :: ((8 : UInt8) :: ((8 : UInt8) :: ((8 : UInt8) :: ((8 : UInt8) :: ((8 : UInt8) :: ((8 : UInt8) :: ((8 : UInt8) :: ((8 : UInt8) :: ((8 : UInt8) :: ((8 : UInt8) :: ((8 : UInt8) :: ((8 : UInt8) :: ((8 : UInt8) :: ((8 : UInt8) :: ((8 : UInt8) :: ((8 : UInt8) :: ((8 : UInt8) :: ((8 : UInt8) :: ((8 : UInt8) :: ((8 : UInt8) :: ((8 : UInt8) :: ((8 : UInt8) :: ((8 : UInt8) :: ((8 : UInt8) :: ((8 : UInt8) :: ((8 : UInt8) :: ((8 : UInt8) :: ((8 : UInt8) :: ((8 : UInt8) :: ((8 : UInt8) :: ((8 : UInt8) :: ((8 : UInt8) :: ((8 : UInt8) :: ((8 : UInt8) :: ((8 : UInt8) :: ((8 : UInt8) :: ((8 : UInt8) :: ((8 : UInt8) :: ((8 : UInt8) :: ((8 : UInt8) :: ((8 : UInt8) :: ((8 : UInt8) :: ((8 : UInt8) :: ((8 : UInt8) :: ([] : List UInt8))))))))))))))))))))))))))))))))))))))))))))))))))))))))))))))))))))) (Int.toNat (Go.IntKind.wrap Go.IntKind.u8 (Int.fdiv (Int.fdiv a0 ((2 : Int) ^ 16)) ((2 : Int) ^ 8))))) (0 : UInt8))) : Nat) : Int)))))))
        (.need (((0 : Int) ≤ (Go.IntKind.wrap Go.IntKind.u8 (Int.fdiv a0 ((2 : Int) ^ 16)))) ∧ ((Go.IntKind.wrap Go.IntKind.u8 (Int.fdiv a0 ((2 : Int) ^ 16))) < ((256 : Nat) : Int)))
        (.ret (Go.IntKind.wrap Go.IntKind.i64 ((16 : Int) + (Go.IntKind.wrap Go.IntKind.i64 (((UInt8.toNat (Option.getD (GetElem?.getElem? (ByteArray.mk (List.toArray (List.append (List.append ((0 : UInt8) :: ((1 : UInt8) :: ((2 : UInt8) :: ((2 : UInt8) :: ((3 : UInt8) :: ((3 : UInt8) :: ((3 : UInt8) :: ((3 : UInt8) :: ((4 : UInt8) :: ((4 : UInt8) :: ((4 : UInt8) :: ((4 : UInt8) :: ((4 : UInt8) :: ((4 : UInt8) :: ((4 : UInt8) :: ((4 : UInt8) :: ((5 : UInt8) :: ((5 : UInt8) :: ((5 : UInt8) :: ((5 : UInt8) :: ((5 : UInt8) :: ((5 : UInt8) :: ((5 : UInt8) :: ((5 : UInt8) :: ((5 : UInt8) :: ((5 : UInt8) :: ((5 : UInt8) :: ((5 : UInt8) :: ((5 : UInt8) :: ((5 : UInt8) :: ((5 : UInt8) :: ((5 : UInt8) :: ((6 : UInt8) :: ((6 : UInt8) :: ((6 : UInt8) :: ((6 : UInt8) :: ((6 : UInt8) :: ((6 : UInt8) :: ((6 : UInt8) :: ((6 : UInt8) :: ((6 : UInt8) :: ((6 : UInt8) :: ((6 : UInt8) :: ((6 : UInt8) :: ((6 : UInt8) :: ((6 : UInt8) :: ((6 : UInt8) :: ((6 : UInt8) :: ((6 : UInt8) :: ((6 : UInt8) :: ((6 : UInt8) :: ((6 : UInt8) :: ((6 : UInt8) :: ((6 : UInt8) :: ((6 : UInt8) :: ((6 : UInt8) :: ((6 : UInt8) :: ((6 : UInt8) :: ((6 : UInt8) :: ((6 : UInt8) :: ((6 : UInt8) :: ((6 : UInt8) :: ((6 : UInt8) :: ((6 : UInt8) :: ([] : List UInt8))))))))))))))))))))))))))))))))))))))))))))))))))))))))))))))))) ((7 : UInt8) :: ((7 : UInt8) :: ((7 : UInt8) :: ((7 : UInt8) :: ((7 : UInt8) :: ((7 : UInt8) :: ((7 : UInt8) :: ((7 : UInt8) :: ((7 : UInt8) :: ((7 : UInt8) :: ((7 : UInt8) :: ((7 : UInt8) :: ((7 : UInt8) :: ((7 : UInt8) :: ((7 : UInt8) :: ((7 : UInt8) :: ((7 : UInt8) :: ((7 : UInt8) :: ((7 : UInt8) :: ((7 : UInt8) :: ((7 : UInt8) :: ((7 : UInt8) :: ((7 : UInt8) :: ((7 : UInt8) :: ((7 : UInt8) :: ((7 : UInt8) :: ((7 : UInt8) :: ((7 : UInt8) :: ((7 : UInt8) :: ((7 : UInt8) :: ((7 : UInt8) :: ((7 : UInt8) :: ((7 : UInt8) :: ((7 : UInt8) :: ((7 : UInt8) :: ((7 : UInt8) :: ((7 : UInt8) :: ((7 : UInt8) :: ((7 : UInt8) :: ((7 : UInt8) :: ((7 : UInt8) :: ((7 : UInt8) :: ((7 : UInt8) :: ((7 : UInt8) :: ((7 : UInt8) :: ((7 : UInt8) :: ((7 : UInt8) :: ((7 : UInt8) :: ((7 : UInt8) :: ((7 : UInt8) :: ((7 : UInt8) :: ((7 : UInt8) :: ((7 : UInt8) :: ((7 : UInt8) :: ((7 : UInt8) :: ((7 : UInt8) :: ((7 : UInt8) :: ((7 : UInt8) :: ((7 : UInt8) :: ((7 : UInt8) :: ((7 : UInt8) :: ((7 : UInt8) :: ((7 : UInt8) :: ((7 : UInt8) :: ([] : List UInt8)))))))))))))))))))))))))))))))))))))))))))))))))))))))))))))))))) (List.append ((8 : UInt8) :: ((8 : UInt8) :: ((8 : UInt8) :: ((8 : UInt8) :: ((8 : UInt8) :: ((8 : UInt8) :: ((8 : UInt8) :: ((8 : UInt8) :: ((8 : UInt8) :: ((8 : UInt8) :: ((8 : UInt8) :: ((8 : UInt8) :: ((8 : UInt8) :: ((8 : UInt8) :: ((8 : UInt8) :: ((8 : UInt8) :: ((8 : UInt8) :: ((8 : UInt8) :: ((8 : UInt8) :: ((8 : UInt8) :: ((8 : UInt8) :: ((8 : UInt8) :: ((8 : UInt8) :: ((8 : UInt8) :: ((8 : UInt8) :: ((8 : UInt8) :: ((8 : UInt8) :: ((8 : UInt8) :: ((8 : UInt8) :: ((8 : UInt8) :: ((8 : UInt8) :: ((8 : UInt8) :: ((8 : UInt8) :: ((8 : UInt8) :: ((8 : UInt8) :: ((8 : UInt8) :: ((8 : UInt8) :: ((8 : UInt8) :: ((8 : UInt8) :: ((8 : UInt8) :: ((8 : UInt8) :: ((8 : UInt8) :: ((8 : UInt8) :: ((8 : UInt8) :: ((8 : UInt8) :: ((8 : UInt8) :: ((8 : UInt8) :: ((8 : UInt8) :: ((8 : UInt8) :: ((8 : UInt8) :: ((8 : UInt8) :: ((8 : UInt8) :: ((8 : UInt8) :: ((8 : UInt8) :: ((8 : UInt8) :: ((8 : UInt8) :: ((8 : UInt8) :: ((8 : UInt8) :: ((8 : UInt8) :: ((8 : UInt8) :: ((8 : UInt8) :: ((8 : UInt8) :: ((8 : UInt8) :: ((8 : UInt8) :: ([] : List UInt8))))))))))))))))))))))))))))))))))))))))))))))))))))))))))))))))) ((8 : UInt8) :: ((8 : UInt8) :: ((8 : UInt8) :: ((8 : UInt8) :: ((8 : UInt8) :: ((8 : UInt8) :: ((8 : UInt8) :: ((8 : UInt8) :: ((8 : UInt8) :: ((8 : UInt8) :: ((8 : UInt8) :: ((8 : UInt8) :: ((8 : UInt8) :: ((8 : UInt8) :: ((8 : UInt8) :: ((8 : UInt8) :: ((8 : UInt8) :: ((8 : UInt8) :: ((8 : UInt8) :: ((8 : UInt8) :: ((8 : UInt8) :: ((8 : UInt8) :: ((8 : UInt8) :: ((8 : UInt8) :: ((8 : UInt8) :: ((8 : UInt8) :: ((8 : UInt8) :: ((8 : UInt8) :: ((8 : UInt8) :: ((8 : UInt8) :: ((8 : UInt8) :: ((8 : UInt8) :: ((8 : UInt8) :: ((8 : UInt8) :: ((8 : UInt8) :: ((8 : UInt8) :: ((8 : UInt8) :: ((8 : UInt8) :: ((8 : UInt8) :: ((8 : UInt8) :: ((8 : UInt8) :: ((8 : UInt8) :: ((8 : UInt8) :: ((8 : UInt8) :: ((8 : UInt8) :: ((8 : UInt8) :: ((8 : UInt8) :: ((8 : UInt8) :: ((8 : UInt8) :: ((8 : UInt8) :: ((8 : UInt8) :: ((8 : UInt8) :: ((8 : UInt8) :: ((8 : UInt8) :: ((8 : UInt8) :: ((8 : UInt8) :: ((8 : UInt8) :: ((8 : UInt8) :: ((8 : UInt8) :: ((8 : UInt8) :: ((8 : UInt8) :: ((8 : UInt8) :: ((8 : UInt8) :: ((8 : UInt8) :: ([] : List UInt8))))))))))))))))))))))))))))))))))))))))))))))))))))))))))))))))))))) (Int.toNat (Go.IntKind.wrap Go.IntKind.u8 (Int.fdiv a0 ((2 : Int) ^ 16))))) (0 : UInt8))) : Nat) : Int))))))))
      (.br (decide (a0 ≥ (256 : Int)))
        (.need ((0 : Int) ≤ (8 : Int))
        (.need (((0 : Int) ≤ (Go.IntKind.wrap Go.IntKind.u8 (Int.fdiv a0 ((2 : Int) ^ 8)))) ∧ ((Go.IntKind.wrap Go.IntKind.u8 (Int.fdiv a0 ((2 : Int) ^ 8))) < ((256 : Nat) : Int)))
        (.ret (Go.IntKind.wrap Go.IntKind.i64 ((8 : Int) + (Go.IntKind.wrap Go.IntKind.i64 (((UInt8.toNat (Option.getD (GetElem?.getElem? (ByteArray.mk (List.toArray (List.append (List.append ((0 : UInt8) :: ((1 : UInt8) :: ((2 : UInt8) :: ((2 : UInt8) :: ((3 : UInt8) :: ((3 : UInt8) :: ((3 : UInt8) :: ((3 : UInt8) :: ((4 : UInt8) :: ((4 : UInt8) :: ((4 : UInt8) :: ((4 : UInt8) :: ((4 : UInt8) :: ((4 : UInt8) :: ((4 : UInt8) :: ((4 : UInt8) :: ((5 : UInt8) :: ((5 : UInt8) :: ((5 : UInt8) :: ((5 : UInt8) :: ((5 : UInt8) :: ((5 : UInt8) :: ((5 : UInt8) :: ((5 : UInt8) :: ((5 : UInt8) :: ((5 : UInt8) :: ((5 : UInt8) :: ((5 : UInt8) :: ((5 : UInt8) :: ((5 : UInt8) :: ((5 : UInt8) :: ((5 : UInt8) :: ((6 : UInt8) :: ((6 : UInt8) :: ((6 : UInt8) :: ((6 : UInt8) :: ((6 : UInt8) :: ((6 : UInt8) :: ((6 : UInt8) :: ((6 : UInt8) :: ((6 : UInt8) :: ((6 : UInt8) :: ((6 : UInt8) :: ((6 : UInt8) :: ((6 : UInt8) :: ((6 : UInt8) :: ((6 : UInt8) :: ((6 : UInt8) :: ((6 : UInt8) :: ((6 : UInt8) :: ((6 : UInt8) :: ((6 : UInt8) :: ((6 : UInt8) :: ((6 : UInt8) :: ((6 : UInt8) :: ((6 : UInt8) :: ((6 : UInt8) :: ((6 : UInt8) :: ((6 : UInt8) :: ((6 : UInt8) :: ((6 : UInt8) :: ((6 : UInt8) :: ((6 : UInt8) :: ((6 : UInt8) :: ([] : List UInt8))))))))))))))))))))))))))))))))))))))))))))))))))))))))))))))))) ((7 : UInt8) :: ((7 : UInt8) :: ((7 : UInt8) :: ((7 : UInt8) :: ((7 : UInt8) :: ((7 : UInt8) :: ((7 : UInt8) :: ((7 : UInt8) :: ((7 : UInt8) :: ((7 : UInt8) :: ((7 : UInt8) :: ((7 : UInt8) :: ((7 : UInt8) :: ((7 : UInt8) :: ((7 : UInt8) :: ((7 : UInt8) :: ((7 : UInt8) :: ((7 : UInt8) :: ((7 : UInt8) :: ((7 : UInt8) :: ((7 : UInt8) :: ((7 : UInt8) :: ((7 : UInt8) :: ((7 : UInt8) :: ((7 : UInt8) :: ((7 : UInt8) :: ((7 : UInt8) :: ((7 : UInt8) :: ((7 : UInt8) :: ((7 : UInt8) :: ((7 : UInt8) :: ((7 : UInt8) :: ((7 : UInt8) :: ((7 : UInt8) :: ((7 : UInt8) :: ((7 : UInt8) :: ((7 : UInt8) :: ((7 : UInt8) :: ((7 : UInt8) :: ((7 : UInt8) :: ((7 : UInt8) :: ((7 : UInt8) :: ((7 : UInt8) :: ((7 : UInt8) :: ((7 : UInt8) :: ((7 : UInt8) :: ((7 : UInt8) :: ((7 : UInt8) :: ((7 : UInt8) :: ((7 : UInt8) :: ((7 : UInt8) :: ((7 : UInt8) :: ((7 : UInt8) :: ((7 : UInt8) :: ((7 : UInt8) :: ((7 : UInt8) :: ((7 : UInt8) :: ((7 : UInt8) :: ((7 : UInt8) :: ((7 : UInt8) :: ((7 : UInt8) :: ((7 : UInt8) :: ((7 : UInt8) :: ((7 : UInt8) :: ([] : List UInt8)))))))))))))))))))))))))))))))))))))))))))))))))))))))))))))))))) (List.append ((8 : UInt8) :: ((8 : UInt8) :: ((8 : UInt8) :: ((8 : UInt8) :: ((8 : UInt8) :: ((8 : UInt8) :: ((8 : UInt8) :: ((8 : UInt8) :: ((8 : UInt8) :: ((8 : UInt8) :: ((8 : UInt8) :: ((8 : UInt8) :: ((8 : UInt8) :: ((8 : UInt8) :: ((8 : UInt8) :: ((8 : UInt8) :: ((8 : UInt8) :: ((8 : UInt8) :: ((8 : UInt8) :: ((8 : UInt8) :: ((8 : UInt8) :: ((8 : UInt8) :: ((8 : UInt8) :: ((8 : UInt8) :: ((8 : UInt8) :: ((8 : UInt8) :: ((8 : UInt8) :: ((8 : UInt8) :: ((8 : UInt8) :: ((8 : UInt8) :: ((8 : UInt8) :: ((8 : UInt8) :: ((8 : UInt8) :: ((8 : UInt8) :: ((8 : UInt8) :: ((8 : UInt8) :: ((8 : UInt8) :: ((8 : UInt8) :: ((8 : UInt8) :: ((8 : UInt8) :: ((8 : UInt8) :: ((8 : UInt8) :: ((8 : UInt8) :: ((8 : UInt8) :: ((8 : UInt8) :: ((8 : UInt8) :: ((8 : UInt8) :: ((8 : UInt8) :: ((8 : UInt8) :: ((8 : UInt8) :: ((8 : UInt8) :: ((8 : UInt8) :: ((8 : UInt8) :: ((8 : UInt8) :: ((8 : UInt8) :: ((8 : UInt8) :: ((8 : UInt8) :: ((8 : UInt8) :: ((8 : UInt8) :: ((8 : UInt8) :: ((8 : UInt8) :: ((8 : UInt8) :: ((8 : UInt8) :: ((8 : UInt8) :: ([] : List UInt8))))))))))))))))))))))))))))))))))))))))))))))))))))))))))))))))) ((8 : UInt8) :: ((8 : UInt8) :: ((8 : UInt8) :: ((8 : UInt8) :: ((8 : UInt8) :: ((8 : UInt8) :: ((8 : UInt8) :: ((8 : UInt8) :: ((8 : UInt8) :: ((8 : UInt8) :: ((8 : UInt8) :: ((8 : UInt8) :: ((8 : UInt8) :: ((8 : UInt8) :: ((8 : UInt8) :: ((8 : UInt8) :: ((8 : UInt8) :: ((8 : UInt8) :: ((8 : UInt8) :: ((8 : UInt8) :: ((8 : UInt8) :: ((8 : UInt8) :: ((8 : UInt8) :: ((8 : UInt8) :: ((8 : UInt8) :: ((8 : UInt8) :: ((8 : UInt8) :: ((8 : UInt8) :: ((8 : UInt8) :: ((8 : UInt8) :: ((8 : UInt8) :: ((8 : UInt8) :: ((8 : UInt8) :: ((8 : UInt8) :: ((8 : UInt8) :: ((8 : UInt8) :: ((8 : UInt8) :: ((8 : UInt8) :: ((8 : UInt8) :: ((8 : UInt8) :: ((8 : UInt8) :: ((8 : UInt8) :: ((8 : UInt8) :: ((8 : UInt8) :: ((8 : UInt8) :: ((8 : UInt8) :: ((8 : UInt8) :: ((8 : UInt8) :: ((8 : UInt8) :: ((8 : UInt8) :: ((8 : UInt8) :: ((8 : UInt8) :: ((8 : UInt8) :: ((8 : UInt8) :: ((8 : UInt8) :: ((8 : UInt8) :: ((8 : UInt8) :: ((8 : UInt8) :: ((8 : UInt8) :: ((8 : UInt8) :: ((8 : UInt8) :: ((8 : UInt8) :: ((8 : UInt8) :: ((8 : UInt8) :: ([] : List UInt8))))))))))))))))))))))))))))))))))))))))))))))))))))))))))))))))))))) (Int.toNat (Go.IntKind.wrap Go.IntKind.u8 (Int.fdiv a0 ((2 : Int) ^ 8))))) (0 : UInt8))) : Nat) : Int)))))))
        (.need (((0 : Int) ≤ (Go.IntKind.wrap Go.IntKind.u8 a0)) ∧ ((Go.IntKind.wrap Go.IntKind.u8 a0) < ((256 : Nat) : Int)))
        (.ret (Go.IntKind.wrap Go.IntKind.i64 ((0 : Int) + (Go.IntKind.wrap Go.IntKind.i64 (((UInt8.toNat (Option.getD (GetElem?.getElem? (ByteArray.mk (List.toArray (List.append (List.append ((0 : UInt8) :: ((1 : UInt8) :: ((2 : UInt8) :: ((2 : UInt8) :: ((3 : UInt8) :: ((3 : UInt8) :: ((3 : UInt8) :: ((3 : UInt8) :: ((4 : UInt8) :: ((4 : UInt8) :: ((4 : UInt8) :: ((4 : UInt8) :: ((4 : UInt8) :: ((4 : UInt8) :: ((4 : UInt8) :: ((4 : UInt8) :: ((5 : UInt8) :: ((5 : UInt8) :: ((5 : UInt8) :: ((5 : UInt8) :: ((5 : UInt8) :: ((5 : UInt8) :: ((5 : UInt8) :: ((5 : UInt8) :: ((5 : UInt8) :: ((5 : UInt8) :: ((5 : UInt8) :: ((5 : UInt8) :: ((5 : UInt8) :: ((5 : UInt8) :: ((5 : UInt8) :: ((5 : UInt8) :: ((6 : UInt8) :: ((6 : UInt8) :: ((6 : UInt8) :: ((6 : UInt8) :: ((6 : UInt8) :: ((6 : UInt8) :: ((6 : UInt8) :: ((6 : UInt8) :: ((6 : UInt8) :: ((6 : UInt8) :: ((6 : UInt8) :: ((6 : UInt8) :: ((6 : UInt8) :: ((6 : UInt8) :: ((6 : UInt8) :: ((6 : UInt8) :: ((6 : UInt8) :: ((6 : UInt8) :: ((6 : UInt8) :: ((6 : UInt8) :: ((6 : UInt8) :: ((6 : UInt8) :: ((6 : UInt8) :: ((6 : UInt8) :: ((6 : UInt8) :: ((6 : UInt8) :: ((6 : UInt8) :: ((6 : UInt8) :: ((6 : UInt8) :: ((6 : UInt8) :: ((6 : UInt8) :: ((6 : UInt8) :: ([] : List UInt8))))))))))))))))))))))))))))))))))))))))))))))))))))))))))))))))) ((7 : UInt8) :: ((7 : UInt8) :: ((7 : UInt8) :: ((7 : UInt8) :: ((7 : UInt8) :: ((7 : UInt8) :: ((7 : UInt8) :: ((7 : UInt8) :: ((7 : UInt8) :: ((7 : UInt8) :: ((7 : UInt8) :: ((7 : UInt8) :: ((7 : UInt8) :: ((7 : UInt8) :: ((7 : UInt8) :: ((7 : UInt8) :: ((7 : UInt8) :: ((7 : UInt8) :: ((7 : UInt8) :: ((7 : UInt8) :: ((7 : UInt8) :: ((7 : UInt8) :: ((7 : UInt8) :: ((7 : UInt8) :: ((7 : UInt8) :: ((7 : UInt8) :: ((7 : UInt8) :: ((7 : UInt8) :: ((7 : UInt8) :: ((7 : UInt8) :: ((7 : UInt8) :: ((7 : UInt8) :: ((7 : UInt8) :: ((7 : UInt8) :: ((7 : UInt8) :: ((7 : UInt8) :: ((7 : UInt8) :: ((7 : UInt8) :: ((7 : UInt8) :: ((7 : UInt8) :: ((7 : UInt8) :: ((7 : UInt8) :: ((7 : UInt8) :: ((7 : UInt8) :: ((7 : UInt8) :: ((7 : UInt8) :: ((7 : UInt8) :: ((7 : UInt8) :: ((7 : UInt8) :: ((7 : UInt8) :: ((7 : UInt8) :: ((7 : UInt8) :: ((7 : UInt8) :: ((7 : UInt8) :: ((7 : UInt8) :: ((7 : UInt8) :: ((7 : UInt8) :: ((7 : UInt8) :: ((7 : UInt8) :: ((7 : UInt8) :: ((7 : UInt8) :: ((7 : UInt8) :: ((7 : UInt8) :: ((7 : UInt8) :: ([] : List UInt8)))))))))))))))))))))))))))))))))))))))))))))))))))))))))))))))))) (List.append ((8 : UInt8) :: ((8 : UInt8) :: ((8 : UInt8) :: ((8 : UInt8) :: ((8 : UInt8) :: ((8 : UInt8) :: ((8 : UInt8) :: ((8 : UInt8) :: ((8 : UInt8) :: ((8 : UInt8) :: ((8 : UInt8) :: ((8 : UInt8) :: ((8 : UInt8) :: ((8 : UInt8) :: ((8 : UInt8) :: ((8 : UInt8) :: ((8 : UInt8) :: ((8 : UInt8) :: ((8 : UInt8) :: ((8 : UInt8) :: ((8 : UInt8) :: ((8 : UInt8) :: ((8 : UInt8) :: ((8 : UInt8) :: ((8 : UInt8) :: ((8 : UInt8) :: ((8 : UInt8) :: ((8 : UInt8) :: ((8 : UInt8) :: ((8 : UInt8) :: ((8 : UInt8) :: ((8 : UInt8) :: ((8 : UInt8) :: ((8 : UInt8) :: ((8 : UInt8) :: ((8 : UInt8) :: ((8 : UInt8) :: ((8 : UInt8) :: ((8 : UInt8) :: ((8 : UInt8) :: ((8 : UInt8) :: ((8 : UInt8) :: ((8 : UInt8) :: ((8 : UInt8) :: ((8 : UInt8) :: ((8 : UInt8) :: ((8 : UInt8) :: ((8 : UInt8) :: ((8 : UInt8) :: ((8 : UInt8) :: ((8 : UInt8) :: ((8 : UInt8) :: ((8 : UInt8) :: ((8 : UInt8) :: ((8 : UInt8) :: ((8 : UInt8) :: ((8 : UInt8) :: ((8 : UInt8) :: ((8 : UInt8) :: ((8 : UInt8) :: ((8 : UInt8) :: ((8 : UInt8) :: ((8 : UInt8) :: ((8 : UInt8) :: ([] : List UInt8))))))))))))))))))))))))))))))))))))))))))))))))))))))))))))))))) ((8 : UInt8) :: ((8 : UInt8) :: ((8 : UInt8) :: ((8 : UInt8) :: ((8 : UInt8) :: ((8 : UInt8) :: ((8 : UInt8) :: ((8 : UInt8) :: ((8 : UInt8) :: ((8 : UInt8) :: ((8 : UInt8) :: ((8 : UInt8) :: ((8 : UInt8) :: ((8 : UInt8) :: ((8 : UInt8) :: ((8 : UInt8) :: ((8 : UInt8) :: ((8 : UInt8) :: ((8 : UInt8) :: ((8 : UInt8) :: ((8 : UInt8) :: ((8 : UInt8) :: ((8 : UInt8) :: ((8 : UInt8) :: ((8 : UInt8) :: ((8 : UInt8) :: ((8 : UInt8) :: ((8 : UInt8) :: ((8 : UInt8) :: ((8 : UInt8) :: ((8 : UInt8) :: ((8 : UInt8) :: ((8 : UInt8) :: ((8 : UInt8) :: ((8 : UInt8) :: ((8 : UInt8) :: ((8 : UInt8) :: ((8 : UInt8) :: ((8 : UInt8) :: ((8 : UInt8) :: ((8 : UInt8) :: ((8 : UInt8) :: ((8 : UInt8) :: ((8 : UInt8) :: ((8 : UInt8) :: ((8 : UInt8) :: ((8 : UInt8) :: ((8 : UInt8) :: ((8 : UInt8) :: ((8 : UInt8) :: ((8 : UInt8) :: ((8 : UInt8) :: ((8 : UInt8) :: ((8 : UInt8) :: ((8 : UInt8) :: ((8 : UInt8) :: ((8 : UInt8) :: ((8 : UInt8) :: ((8 : UInt8) :: ((8 : UInt8) :: ((8 : UInt8) :: ((8 : UInt8) :: ((8 : UInt8) :: ((8 : UInt8) :: ([] : List UInt8))))))))))))))))))))))))))))))))))))))))))))))))))))))))))))))))))))) (Int.toNat (Go.IntKind.wrap Go.IntKind.u8 a0))) (0 : UInt8))) : Nat) : Int)))))))))
theorem tr (a0 : Int) (R : Out → Prop) (L : List Item → St → Prop) : evFn Tryd.prog [] Tryd.f31 [.dat I64] [] [.dat (.int .u64) a0] [] R L = (T a0).wp (fun b => R (mk b)) := by kernel_rfl
noncomputable def f (a0 : Int) : Option Int := (T a0).opt
def e (N : Int → Option Int) : Ent := entF 31 [.dat (.int .u64)] [] mk fun d g => N (d.1)
theorem ok : EntOk Tryd.prog (e f) := entOk_tree (ps := [.dat (.int .u64)]) (rs := []) (mk := mk) (T := fun d g => T (d.1)) (Kit.nil prog_mix) (by decide) (fn := Tryd.f31) (cuts := []) (rts := [.dat I64])
  rfl (by decide) rfl (Nat.le_of_ble_eq_true rfl) (fun _ => rfl) (fun d g R L => tr (d.1) R L)
end math_bits_Len64

-- internal/strconv.log10Pow2 (0 x, 1 x)
namespace internal_strconv_log10Pow2
def mk (b : Int) : Out := { v := .dat I64 b }
def T (a0 : Int) : Tr (Int) :=
  (.need ((0 : Int) ≤ (18 : Int))
  (.ret (Int.fdiv (Go.IntKind.wrap Go.IntKind.i64 (a0 * (78913 : Int))) ((2 : Int) ^ 18))))
theorem tr (a0 : Int) (R : Out → Prop) (L : List Item → St → Prop) : evFn Tryd.prog [] Tryd.f30 [.dat I64] [] [.dat I64 a0] [] R L = (T a0).wp (fun b => R (mk b)) := by kernel_rfl
noncomputable def f (a0 : Int) : Option Int := (T a0).opt
def e (N : Int → Option Int) : Ent := entF 30 [.dat I64] [] mk fun d g => N (d.1)
theorem ok : EntOk Tryd.prog (e f) := entOk_tree (ps := [.dat I64]) (rs := []) (mk := mk) (T := fun d g => T (d.1)) (Kit.nil prog_mix) (by decide) (fn := Tryd.f30) (cuts := []) (rts := [.dat I64])
  rfl (by decide) rfl (Nat.le_of_ble_eq_true rfl) (fun _ => rfl) (fun d g R L => tr (d.1) R L)
end internal_strconv_log10Pow2

-- internal/strconv.isPowerOfTwo (0 x, 1 x)
namespace internal_strconv_isPowerOfTwo
def mk (b : Bool) : Out := { v := .dat .bool b }
def T (a0 : Int) : Tr (Bool) :=
  (.ret ((Go.IntKind.wrap Go.IntKind.i64 (((BitVec.toNat (HAnd.hAnd (BitVec.ofInt 64 a0) (BitVec.ofInt 64 (Go.IntKind.wrap Go.IntKind.i64 (a0 - (1 : Int)))))) : Nat) : Int)) == (0 : Int)))
theorem tr (a0 : Int) (R : Out → Prop) (L : List Item → St → Prop) : evFn Tryd.prog [] Tryd.f33 [.dat .bool] [] [.dat I64 a0] [] R L = (T a0).wp (fun b => R (mk b)) := by kernel_rfl
noncomputable def f (a0 : Int) : Option Bool := (T a0).opt
def e (N : Int → Option Bool) : Ent := entF 33 [.dat I64] [] mk fun d g => N (d.1)
theorem ok : EntOk Tryd.prog (e f) := entOk_tree (ps := [.dat I64]) (rs := []) (mk := mk) (T := fun d g => T (d.1)) (Kit.nil prog_mix) (by decide) (fn := Tryd.f33) (cuts := []) (rts := [.dat .bool])
  rfl (by decide) rfl (Nat.le_of_ble_eq_true rfl) (fun _ => rfl) (fun d g R L => tr (d.1) R L)
end internal_strconv_isPowerOfTwo

-- math/bits.TrailingZeros64 (0 x, 1 x)
namespace math_bits_TrailingZeros64
def mk (b : Int) : Out := { v := .dat I64 b }
def T (a0 : Int) : Tr (Int) :=
  (.br (a0 == (0 : Int))
    (.ret (64 : Int))
    .fail)
theorem tr (a0 : Int) (R : Out → Prop) (L : List Item → St → Prop) : evFn Tryd.prog [] Tryd.f36 [.dat I64] [] [.dat (.int .u64) a0] [] R L = (T a0).wp (fun b => R (mk b)) := by kernel_rfl
noncomputable def f (a0 : Int) : Option Int := (T a0).opt
def e (N : Int → Option Int) : Ent := entF 36 [.dat (.int .u64)] [] mk fun d g => N (d.1)
theorem ok : EntOk Tryd.prog (e f) := entOk_tree (ps := [.dat (.int .u64)]) (rs := []) (mk := mk) (T := fun d g => T (d.1)) (Kit.nil prog_mix) (by decide) (fn := Tryd.f36) (cuts := []) (rts := [.dat I64])
  rfl (by decide) rfl (Nat.le_of_ble_eq_true rfl) (fun _ => rfl) (fun d g R L => tr (d.1) R L)
end math_bits_TrailingZeros64

-- math/bits.TrailingZeros (0 x, 1 x)
namespace math_bits_TrailingZeros
def mk (b : Int) : Out := { v := .dat I64 b }
def T (N0 : Int → Option Int) (a0 : Int) : Tr (Int) :=
  (.call (N0 a0) default fun r0 =>
  (.ret r0))
theorem tr (N0 : Int → Option Int) (a0 : Int) (R : Out → Prop) (L : List Item → St → Prop) : evFn Tryd.prog [math_bits_TrailingZeros64.e N0] Tryd.f34 [.dat I64] [] [.dat (.int .u64) a0] [] R L = (T N0 a0).wp (fun b => R (mk b)) := by kernel_rfl
noncomputable def f (a0 : Int) : Option Int := (T math_bits_TrailingZeros64.f a0).opt
def e (N : Int → Option Int) : Ent := entF 34 [.dat (.int .u64)] [] mk fun d g => N (d.1)
theorem ok : EntOk Tryd.prog (e f) := entOk_tree (ps := [.dat (.int .u64)]) (rs := []) (mk := mk) (T := fun d g => T math_bits_TrailingZeros64.f (d.1)) (Kit.cons math_bits_TrailingZeros64.ok (Kit.nil prog_mix)) (by decide) (fn := Tryd.f34) (cuts := []) (rts := [.dat I64])
  rfl (by decide) rfl (Nat.le_of_ble_eq_true rfl) (fun _ => rfl) (fun d g R L => tr math_bits_TrailingZeros64.f (d.1) R L)
end math_bits_TrailingZeros

-- internal/strconv.FormatInt (0 i, 1 base, 2 i, 3 base, 5 a, 6 u, 7 nd, 8 _, 9 s)
namespace internal_strconv_FormatInt
def mk (b : ByteArray) : Out := { v := .dat .str b }
def T (N0 : Int → Option ByteArray) (a0 : Int) (a1 : Int) : Tr (ByteArray) :=
  (.br (a1 == (10 : Int))
    (.br (bif (decide ((0 : Int) ≤ a0)) then (decide (a0 < (100 : Int))) else false)
      (.call (N0 a0) default fun r0 =>
      (.ret r0))
      (.br (decide (a0 < (0 : Int)))
        .fail
        .fail))
    .fail)
theorem tr (N0 : Int → Option ByteArray) (a0 : Int) (a1 : Int) (R : Out → Prop) (L : List Item → St → Prop) : evFn Tryd.prog [internal_strconv_small.e N0] Tryd.f25 [.dat .str] [] [.dat I64 a0, .dat I64 a1] [] R L = (T N0 a0 a1).wp (fun b => R (mk b)) := by kernel_rfl
noncomputable def f (a0 : Int) (a1 : Int) : Option ByteArray := (T internal_strconv_small.f a0 a1).opt
def e (N : Int → Int → Option ByteArray) : Ent := entF 25 [.dat I64, .dat I64] [] mk fun d g => N (d.1) (d.2.1)
theorem ok : EntOk Tryd.prog (e f) := entOk_tree (ps := [.dat I64, .dat I64]) (rs := []) (mk := mk) (T := fun d g => T internal_strconv_small.f (d.1) (d.2.1)) (Kit.cons internal_strconv_small.ok (Kit.nil prog_mix)) (by decide) (fn := Tryd.f25) (cuts := []) (rts := [.dat .str])
  rfl (by decide) rfl (Nat.le_of_ble_eq_true rfl) (fun _ => rfl) (fun d g R L => tr internal_strconv_small.f (d.1) (d.2.1) R L)
end internal_strconv_FormatInt

-- internal/strconv.Itoa (0 i, 1 i)
namespace internal_strconv_Itoa
def mk (b : ByteArray) : Out := { v := .dat .str b }
def T (N0 : Int → Int → Option ByteArray) (a0 : Int) : Tr (ByteArray) :=
  (.call (N0 a0 (10 : Int)) default fun r0 =>
  (.ret r0))
theorem tr (N0 : Int → Int → Option ByteArray) (a0 : Int) (R : Out → Prop) (L : List Item → St → Prop) : evFn Tryd.prog [internal_strconv_FormatInt.e N0] Tryd.f24 [.dat .str] [] [.dat I64 a0] [] R L = (T N0 a0).wp (fun b => R (mk b)) := by kernel_rfl
noncomputable def f (a0 : Int) : Option ByteArray := (T internal_strconv_FormatInt.f a0).opt
def e (N : Int → Option ByteArray) : Ent := entF 24 [.dat I64] [] mk fun d g => N (d.1)
theorem ok : EntOk Tryd.prog (e f) := entOk_tree (ps := [.dat I64]) (rs := []) (mk := mk) (T := fun d g => T internal_strconv_FormatInt.f (d.1)) (Kit.cons internal_strconv_FormatInt.ok (Kit.nil prog_mix)) (by decide) (fn := Tryd.f24) (cuts := []) (rts := [.dat .str])
  rfl (by decide) rfl (Nat.le_of_ble_eq_true rfl) (fun _ => rfl) (fun d g R L => tr internal_strconv_FormatInt.f (d.1) R L)
end internal_strconv_Itoa

-- strconv.Itoa (0 i, 1 i)
namespace strconv_Itoa
def mk (b : ByteArray) : Out := { v := .dat .str b }
def T (N0 : Int → Option ByteArray) (a0 : Int) : Tr (ByteArray) :=
  (.call (N0 a0) default fun r0 =>
  (.ret r0))
theorem tr (N0 : Int → Option ByteArray) (a0 : Int) (R : Out → Prop) (L : List Item → St → Prop) : evFn Tryd.prog [internal_strconv_Itoa.e N0] Tryd.f22 [.dat .str] [] [.dat I64 a0] [] R L = (T N0 a0).wp (fun b => R (mk b)) := by kernel_rfl
noncomputable def f (a0 : Int) : Option ByteArray := (T internal_strconv_Itoa.f a0).opt
def e (N : Int → Option ByteArray) : Ent := entF 22 [.dat I64] [] mk fun d g => N (d.1)
theorem ok : EntOk Tryd.prog (e f) := entOk_tree (ps := [.dat I64]) (rs := []) (mk := mk) (T := fun d g => T internal_strconv_Itoa.f (d.1)) (Kit.cons internal_strconv_Itoa.ok (Kit.nil prog_mix)) (by decide) (fn := Tryd.f22) (cuts := []) (rts := [.dat .str])
  rfl (by decide) rfl (Nat.le_of_ble_eq_true rfl) (fun _ => rfl) (fun d g R L => tr internal_strconv_Itoa.f (d.1) R L)
end strconv_Itoa

-- roving/names.Log (0 tag, 1 part, 2 tag, 3 part)
namespace names_Log
def mk (b : ByteArray) : Out := { v := .dat .str b }
def T (N0 : Int → Option ByteArray) (N1 : Int → Option ByteArray) (a0 : Int) (a1 : Int) : Tr (ByteArray) :=
  (.call (N0 a0) default fun r0 =>
  (.br (bif (bif ((ByteArray.toList r0) == (ByteArray.toList (ByteArray.mk (List.toArray ([] : List UInt8))))) then true else (decide (a1 < (0 : Int)))) then true else (decide (a1 ≥ (3 : Int))))
    (.ret (ByteArray.mk (List.toArray ([] : List UInt8))))
    (.call (N0 a0) default fun r1 =>
    (.call (N1 a1) default fun r2 =>
    (.need (((ByteArray.size r0) + (ByteArray.size r2)) ≤ 9223372036854775807)
    (.ret (r0 ++ r2)))))))
theorem tr (N0 : Int → Option ByteArray) (N1 : Int → Option ByteArray) (a0 : Int) (a1 : Int) (R : Out → Prop) (L : List Item → St → Prop) : evFn Tryd.prog [names_Letter.e N0, strconv_Itoa.e N1] Tryd.f13 [.dat .str] [] [.dat (.int .i8) a0, .dat I64 a1] [] R L = (T N0 N1 a0 a1).wp (fun b => R (mk b)) := by kernel_rfl
noncomputable def f (a0 : Int) (a1 : Int) : Option ByteArray := (T names_Letter.f strconv_Itoa.f a0 a1).opt
def e (N : Int → Int → Option ByteArray) : Ent := entF 13 [.dat (.int .i8), .dat I64] [] mk fun d g => N (d.1) (d.2.1)
theorem ok : EntOk Tryd.prog (e f) := entOk_tree (ps := [.dat (.int .i8), .dat I64]) (rs := []) (mk := mk) (T := fun d g => T names_Letter.f strconv_Itoa.f (d.1) (d.2.1)) (Kit.cons names_Letter.ok (Kit.cons strconv_Itoa.ok (Kit.nil prog_mix))) (by decide) (fn := Tryd.f13) (cuts := []) (rts := [.dat .str])
  rfl (by decide) rfl (Nat.le_of_ble_eq_true rfl) (fun _ => rfl) (fun d g R L => tr names_Letter.f strconv_Itoa.f (d.1) (d.2.1) R L)
end names_Log

-- roving/names.Side (0 part, 1 pid, 2 part, 3 pid)
namespace names_Side
def mk (b : ByteArray) : Out := { v := .dat .str b }
def T (N0 : Int → Int → Option ByteArray) (N1 : Int → Option ByteArray) (a0 : Int) (a1 : Int) : Tr (ByteArray) :=
  (.need (((bif (decide (a1 < (1 : Int))) then true else (decide (a1 > (8 : Int)))) = false) → ((Option.isSome (N0 (1 : Int) a0)) = true))
  (.br (bif (bif (decide (a1 < (1 : Int))) then true else (decide (a1 > (8 : Int)))) then true else ((ByteArray.toList (Option.getD (N0 (1 : Int) a0) default)) == (ByteArray.toList (ByteArray.mk (List.toArray ([] : List UInt8))))))
    (.ret (ByteArray.mk (List.toArray ([] : List UInt8))))
    (.call (N0 (1 : Int) a0) default fun r0 =>
    (.need (((ByteArray.size r0) + 1) ≤ 9223372036854775807)
    (.call (N1 a1) default fun r1 =>
    (.need (((ByteArray.size (r0 ++ (ByteArray.mk (List.toArray ((46 : UInt8) :: ([] : List UInt8)))))) + (ByteArray.size r1)) ≤ 9223372036854775807)
    (.ret ((r0 ++ (ByteArray.mk (List.toArray ((46 : UInt8) :: ([] : List UInt8))))) ++ r1))))))))
theorem tr (N0 : Int → Int → Option ByteArray) (N1 : Int → Option ByteArray) (a0 : Int) (a1 : Int) (R : Out → Prop) (L : List Item → St → Prop) : evFn Tryd.prog [names_Log.e N0, strconv_Itoa.e N1] Tryd.f15 [.dat .str] [] [.dat I64 a0, .dat I64 a1] [] R L = (T N0 N1 a0 a1).wp (fun b => R (mk b)) := by kernel_rfl
noncomputable def f (a0 : Int) (a1 : Int) : Option ByteArray := (T names_Log.f strconv_Itoa.f a0 a1).opt
def e (N : Int → Int → Option ByteArray) : Ent := entF 15 [.dat I64, .dat I64] [] mk fun d g => N (d.1) (d.2.1)
theorem ok : EntOk Tryd.prog (e f) := entOk_tree (ps := [.dat I64, .dat I64]) (rs := []) (mk := mk) (T := fun d g => T names_Log.f strconv_Itoa.f (d.1) (d.2.1)) (Kit.cons names_Log.ok (Kit.cons strconv_Itoa.ok (Kit.nil prog_mix))) (by decide) (fn := Tryd.f15) (cuts := []) (rts := [.dat .str])
  rfl (by decide) rfl (Nat.le_of_ble_eq_true rfl) (fun _ => rfl) (fun d g R L => tr names_Log.f strconv_Itoa.f (d.1) (d.2.1) R L)
end names_Side

-- (roving/names.what).name (0 w, 1 w)
namespace names_what_name
def mk (b : ByteArray) : Out := { v := .dat .str b }
def T (N0 : Int → Option ByteArray) (N1 : Int → Int → Option ByteArray) (N2 : Int → Int → Option ByteArray) (a0 : names_whatD) : Tr (ByteArray) :=
  (.br (a0.2.1 == (0 : Int))
    (.call (N0 a0.1) default fun r0 =>
    (.ret r0))
    (.br (a0.2.1 == (1 : Int))
      (.call (N1 a0.1 a0.2.2.1) default fun r0 =>
      (.ret r0))
      (.call (N2 a0.2.2.1 a0.2.2.2) default fun r0 =>
      (.ret r0))))
theorem tr (N0 : Int → Option ByteArray) (N1 : Int → Int → Option ByteArray) (N2 : Int → Int → Option ByteArray) (a0 : names_whatD) (R : Out → Prop) (L : List Item → St → Prop) : evFn Tryd.prog [names_Meta.e N0, names_Log.e N1, names_Side.e N2] Tryd.f21 [.dat .str] [] [.dat names_whatT a0] [] R L = (T N0 N1 N2 a0).wp (fun b => R (mk b)) := by kernel_rfl
noncomputable def f (a0 : names_whatD) : Option ByteArray := (T names_Meta.f names_Log.f names_Side.f a0).opt
def e (N : names_whatD → Option ByteArray) : Ent := entF 21 [.dat names_whatT] [] mk fun d g => N (d.1)
theorem ok : EntOk Tryd.prog (e f) := entOk_tree (ps := [.dat names_whatT]) (rs := []) (mk := mk) (T := fun d g => T names_Meta.f names_Log.f names_Side.f (d.1)) (Kit.cons names_Meta.ok (Kit.cons names_Log.ok (Kit.cons names_Side.ok (Kit.nil prog_mix)))) (by decide) (fn := Tryd.f21) (cuts := []) (rts := [.dat .str])
  rfl (by decide) rfl (Nat.le_of_ble_eq_true rfl) (fun _ => rfl) (fun d g R L => tr names_Meta.f names_Log.f names_Side.f (d.1) R L)
end names_what_name

-- roving/names.Parse, a round of loop 0 (0 name, 1 name, 2 tag, 3 kind, 4 part, 5 pid, 6 ok, 7 w)
namespace names_ParseRoundA
noncomputable def mk (a1 : names_whatD) (g0j : Int) (g1x0 : ByteArray) (g2x0 : Int) (g3x0 : Int) (g4x0 : Int) (g5x0 : Int) (g6x0 : Bool) (b : (Bool × (Int × (Int × (Int × (Int × (Int × Bool))))))) : Out := { v := .dat .bool b.1, wr := [(0, .loop (Go.Abs.loopAt Tryd.f7 0) (Go.Abs.padL 21 .bad [(1, .ref 1 0), (2, .ref 2 0), (3, .ref 3 0), (4, .ref 4 0), (5, .ref 5 0), (6, .ref 6 0)]) b.2.1), (1, .cells [.dat .str g1x0]), (2, .cells [.dat (.int .i8) b.2.2.1]), (3, .cells [.dat (.int .i8) b.2.2.2.1]), (4, .cells [.dat I64 b.2.2.2.2.1]), (5, .cells [.dat I64 b.2.2.2.2.2.1]), (6, .cells [.dat .bool b.2.2.2.2.2.2])] }
def T (N0 : names_whatD → Option ByteArray) (a1 : names_whatD) (g0j : Int) (g1x0 : ByteArray) (g2x0 : Int) (g3x0 : Int) (g4x0 : Int) (g5x0 : Int) (g6x0 : Bool) : Tr ((Bool × (Int × (Int × (Int × (Int × (Int × Bool))))))) :=
  (.need (g0j = (0 : Int))
  (.call (N0 a1) default fun r0 =>
  (.br ((ByteArray.toList r0) == (ByteArray.toList g1x0))
    (.ret (false, ((1 : Int), (a1.1, (a1.2.1, (a1.2.2.1, (a1.2.2.2, true)))))))
    (.ret (true, ((0 : Int), (g2x0, (g3x0, (g4x0, (g5x0, g6x0))))))))))
def ec : Option Cut := (some { slots := [], regs := [.loop (.at 0) (Go.Abs.padL 21 .bad [(1, .ref 1 0), (2, .ref 2 0), (3, .ref 3 0), (4, .ref 4 0), (5, .ref 5 0), (6, .ref 6 0)]), .cells (.at 1) [.dat .str], .cells (.at 2) [.dat (.int .i8)], .cells (.at 3) [.dat (.int .i8)], .cells (.at 4) [.dat I64], .cells (.at 5) [.dat I64], .cells (.at 6) [.dat .bool]] })
theorem tr (N0 : names_whatD → Option ByteArray) (a1 : names_whatD) (g0j : Int) (g1x0 : ByteArray) (g2x0 : Int) (g3x0 : Int) (g4x0 : Int) (g5x0 : Int) (g6x0 : Bool) (R : Out → Prop) (L : List Item → St → Prop) : evRound Tryd.prog [names_what_name.e N0] (Go.Abs.loopAt Tryd.f7 0) 0 ec [] (Go.Abs.padL 21 .bad [(1, .ref 1 0), (2, .ref 2 0), (3, .ref 3 0), (4, .ref 4 0), (5, .ref 5 0), (6, .ref 6 0)]) [.dat names_whatT a1] [.loop (Go.Abs.loopAt Tryd.f7 0) (Go.Abs.padL 21 .bad [(1, .ref 1 0), (2, .ref 2 0), (3, .ref 3 0), (4, .ref 4 0), (5, .ref 5 0), (6, .ref 6 0)]) g0j, .cells [.dat .str g1x0], .cells [.dat (.int .i8) g2x0], .cells [.dat (.int .i8) g3x0], .cells [.dat I64 g4x0], .cells [.dat I64 g5x0], .cells [.dat .bool g6x0]] R L = (T N0 a1 g0j g1x0 g2x0 g3x0 g4x0 g5x0 g6x0).wp (fun b => R (mk a1 g0j g1x0 g2x0 g3x0 g4x0 g5x0 g6x0 b)) := by kernel_rfl
noncomputable def f (a1 : names_whatD) (g0j : Int) (g1x0 : ByteArray) (g2x0 : Int) (g3x0 : Int) (g4x0 : Int) (g5x0 : Int) (g6x0 : Bool) : Option (Bool × (Int × (Int × (Int × (Int × (Int × Bool)))))) := (T names_what_name.f a1 g0j g1x0 g2x0 g3x0 g4x0 g5x0 g6x0).opt
noncomputable def e (N : names_whatD → Int → ByteArray → Int → Int → Int → Int → Bool → Option (Bool × (Int × (Int × (Int × (Int × (Int × Bool))))))) : Ent := entG yid [.yld 0, .dat names_whatT] [.loop (Go.Abs.loopAt Tryd.f7 0) (Go.Abs.padL 21 .bad [(1, .ref 1 0), (2, .ref 2 0), (3, .ref 3 0), (4, .ref 4 0), (5, .ref 5 0), (6, .ref 6 0)]), .cells [.dat .str], .cells [.dat (.int .i8)], .cells [.dat (.int .i8)], .cells [.dat I64], .cells [.dat I64], .cells [.dat .bool]] (fun d g => mk (d.1) (g.1.2) (g.2.1.1) (g.2.2.1.1) (g.2.2.2.1.1) (g.2.2.2.2.1.1) (g.2.2.2.2.2.1.1) (g.2.2.2.2.2.2.1.1)) fun d g => N (d.1) (g.1.2) (g.2.1.1) (g.2.2.1.1) (g.2.2.2.1.1) (g.2.2.2.2.1.1) (g.2.2.2.2.2.1.1) (g.2.2.2.2.2.2.1.1)
theorem ok : EntOk Tryd.prog (e f) := entOk_round (L := (Go.Abs.loopAt Tryd.f7 0)) (k0 := 0) (ps := [.yld 0, .dat names_whatT]) (rs := [.loop (Go.Abs.loopAt Tryd.f7 0) (Go.Abs.padL 21 .bad [(1, .ref 1 0), (2, .ref 2 0), (3, .ref 3 0), (4, .ref 4 0), (5, .ref 5 0), (6, .ref 6 0)]), .cells [.dat .str], .cells [.dat (.int .i8)], .cells [.dat (.int .i8)], .cells [.dat I64], .cells [.dat I64], .cells [.dat .bool]]) (mk := fun d g => mk (d.1) (g.1.2) (g.2.1.1) (g.2.2.1.1) (g.2.2.2.1.1) (g.2.2.2.2.1.1) (g.2.2.2.2.2.1.1) (g.2.2.2.2.2.2.1.1)) (xs := fun d => [.dat names_whatT (d.1)]) (tm := fun g => (Go.Abs.padL 21 .bad [(1, .ref 1 0), (2, .ref 2 0), (3, .ref 3 0), (4, .ref 4 0), (5, .ref 5 0), (6, .ref 6 0)])) (jOf := fun g => g.1.2) (T := fun d g => T names_what_name.f (d.1) (g.1.2) (g.2.1.1) (g.2.2.1.1) (g.2.2.2.1.1) (g.2.2.2.2.1.1) (g.2.2.2.2.2.1.1) (g.2.2.2.2.2.2.1.1)) (Kit.cons names_what_name.ok (Kit.nil prog_mix)) (ec := ec) (cuts := [])
  (fun g => by kernel_rfl) (by decide) (fun d => by kernel_rfl) (fun d => by kernel_rfl) (fun _ _ _ => rfl) (fun d g R L => Eq.trans (by kernel_rfl) (tr names_what_name.f (d.1) (g.1.2) (g.2.1.1) (g.2.2.1.1) (g.2.2.2.1.1) (g.2.2.2.2.1.1) (g.2.2.2.2.2.1.1) (g.2.2.2.2.2.2.1.1) R L))
end names_ParseRoundA

-- roving/names.all (0 yield, 1 yield, 2 tag, 3 q, 4 q, 5 pid)
namespace names_all
noncomputable def mk (g0j : Int) (g1x0 : ByteArray) (g2x0 : Int) (g3x0 : Int) (g4x0 : Int) (g5x0 : Int) (g6x0 : Bool) (b : (Int × (ByteArray × (Int × (Int × (Int × (Int × Bool))))))) : Out := { v := .tup [], wr := [(0, .loop (Go.Abs.loopAt Tryd.f7 0) (Go.Abs.padL 21 .bad [(1, .ref 1 0), (2, .ref 2 0), (3, .ref 3 0), (4, .ref 4 0), (5, .ref 5 0), (6, .ref 6 0)]) b.1), (1, .cells [.dat .str b.2.1]), (2, .cells [.dat (.int .i8) b.2.2.1]), (3, .cells [.dat (.int .i8) b.2.2.2.1]), (4, .cells [.dat I64 b.2.2.2.2.1]), (5, .cells [.dat I64 b.2.2.2.2.2.1]), (6, .cells [.dat .bool b.2.2.2.2.2.2])] }
inductive S where
  | l1 (x6 : Int) (h0j : Int) (h1x0 : ByteArray) (h2x0 : Int) (h3x0 : Int) (h4x0 : Int) (h5x0 : Int) (h6x0 : Bool)
  | l5 (x2 : Int) (x6 : Int) (x14 : Int) (h0j : Int) (h1x0 : ByteArray) (h2x0 : Int) (h3x0 : Int) (h4x0 : Int) (h5x0 : Int) (h6x0 : Bool)
  | l11 (x25 : Int) (h0j : Int) (h1x0 : ByteArray) (h2x0 : Int) (h3x0 : Int) (h4x0 : Int) (h5x0 : Int) (h6x0 : Bool)
  | l14 (x4 : Int) (x25 : Int) (x28 : Int) (h0j : Int) (h1x0 : ByteArray) (h2x0 : Int) (h3x0 : Int) (h4x0 : Int) (h5x0 : Int) (h6x0 : Bool)
def idx : S → Nat
  | .l1 _ _ _ _ _ _ _ _ => 1
  | .l5 _ _ _ _ _ _ _ _ _ _ => 5
  | .l11 _ _ _ _ _ _ _ _ => 11
  | .l14 _ _ _ _ _ _ _ _ _ _ => 14
noncomputable def stt (g0j : Int) (g1x0 : ByteArray) (g2x0 : Int) (g3x0 : Int) (g4x0 : Int) (g5x0 : Int) (g6x0 : Bool) : S → St
  | .l1 x6 h0j h1x0 h2x0 h3x0 h4x0 h5x0 h6x0 => st 40 [(0, .yld 0), (6, .dat (.int .i8) x6)] [.loop (Go.Abs.loopAt Tryd.f7 0) (Go.Abs.padL 21 .bad [(1, .ref 1 0), (2, .ref 2 0), (3, .ref 3 0), (4, .ref 4 0), (5, .ref 5 0), (6, .ref 6 0)]) h0j, .cells [.dat .str h1x0], .cells [.dat (.int .i8) h2x0], .cells [.dat (.int .i8) h3x0], .cells [.dat I64 h4x0], .cells [.dat I64 h5x0], .cells [.dat .bool h6x0]]
  | .l5 x2 x6 x14 h0j h1x0 h2x0 h3x0 h4x0 h5x0 h6x0 => st 40 [(0, .yld 0), (2, .dat (.int .i8) x2), (6, .dat (.int .i8) x6), (14, .dat I64 x14)] [.loop (Go.Abs.loopAt Tryd.f7 0) (Go.Abs.padL 21 .bad [(1, .ref 1 0), (2, .ref 2 0), (3, .ref 3 0), (4, .ref 4 0), (5, .ref 5 0), (6, .ref 6 0)]) h0j, .cells [.dat .str h1x0], .cells [.dat (.int .i8) h2x0], .cells [.dat (.int .i8) h3x0], .cells [.dat I64 h4x0], .cells [.dat I64 h5x0], .cells [.dat .bool h6x0]]
  | .l11 x25 h0j h1x0 h2x0 h3x0 h4x0 h5x0 h6x0 => st 40 [(0, .yld 0), (25, .dat I64 x25)] [.loop (Go.Abs.loopAt Tryd.f7 0) (Go.Abs.padL 21 .bad [(1, .ref 1 0), (2, .ref 2 0), (3, .ref 3 0), (4, .ref 4 0), (5, .ref 5 0), (6, .ref 6 0)]) h0j, .cells [.dat .str h1x0], .cells [.dat (.int .i8) h2x0], .cells [.dat (.int .i8) h3x0], .cells [.dat I64 h4x0], .cells [.dat I64 h5x0], .cells [.dat .bool h6x0]]
  | .l14 x4 x25 x28 h0j h1x0 h2x0 h3x0 h4x0 h5x0 h6x0 => st 40 [(0, .yld 0), (4, .dat I64 x4), (25, .dat I64 x25), (28, .dat I64 x28)] [.loop (Go.Abs.loopAt Tryd.f7 0) (Go.Abs.padL 21 .bad [(1, .ref 1 0), (2, .ref 2 0), (3, .ref 3 0), (4, .ref 4 0), (5, .ref 5 0), (6, .ref 6 0)]) h0j, .cells [.dat .str h1x0], .cells [.dat (.int .i8) h2x0], .cells [.dat (.int .i8) h3x0], .cells [.dat I64 h4x0], .cells [.dat I64 h5x0], .cells [.dat .bool h6x0]]
def T (N0 : names_whatD → Int → ByteArray → Int → Int → Int → Int → Bool → Option (Bool × (Int × (Int × (Int × (Int × (Int × Bool))))))) (g0j : Int) (g1x0 : ByteArray) (g2x0 : Int) (g3x0 : Int) (g4x0 : Int) (g5x0 : Int) (g6x0 : Bool) : Tr (S ⊕ (Int × (ByteArray × (Int × (Int × (Int × (Int × Bool))))))) :=
  (.ret (.inl (.l1 (0 : Int) g0j g1x0 g2x0 g3x0 g4x0 g5x0 g6x0)))
def T1 (N0 : names_whatD → Int → ByteArray → Int → Int → Int → Int → Bool → Option (Bool × (Int × (Int × (Int × (Int × (Int × Bool))))))) (g0j : Int) (g1x0 : ByteArray) (g2x0 : Int) (g3x0 : Int) (g4x0 : Int) (g5x0 : Int) (g6x0 : Bool) (x6 : Int) (h0j : Int) (h1x0 : ByteArray) (h2x0 : Int) (h3x0 : Int) (h4x0 : Int) (h5x0 : Int) (h6x0 : Bool) : Tr (S ⊕ (Int × (ByteArray × (Int × (Int × (Int × (Int × Bool))))))) :=
  (.br (decide (x6 < (2 : Int)))
    (.need ((Go.Abs.loopAt Go.Proofs.Tryd.f7 0) = (Go.Abs.loopAt Go.Proofs.Tryd.f7 0))
    (.call (N0 (x6, ((0 : Int), ((0 : Int), (0 : Int)))) h0j h1x0 h2x0 h3x0 h4x0 h5x0 h6x0) default fun r0 =>
    (.br (!r0.1)
      (.ret (.inr (r0.2.1, (h1x0, (r0.2.2.1, (r0.2.2.2.1, (r0.2.2.2.2.1, (r0.2.2.2.2.2.1, r0.2.2.2.2.2.2))))))))
      (.ret (.inl (.l5 x6 x6 (0 : Int) r0.2.1 h1x0 r0.2.2.1 r0.2.2.2.1 r0.2.2.2.2.1 r0.2.2.2.2.2.1 r0.2.2.2.2.2.2))))))
    (.ret (.inl (.l11 (0 : Int) h0j h1x0 h2x0 h3x0 h4x0 h5x0 h6x0))))
def T5 (N0 : names_whatD → Int → ByteArray → Int → Int → Int → Int → Bool → Option (Bool × (Int × (Int × (Int × (Int × (Int × Bool))))))) (g0j : Int) (g1x0 : ByteArray) (g2x0 : Int) (g3x0 : Int) (g4x0 : Int) (g5x0 : Int) (g6x0 : Bool) (x2 : Int) (x6 : Int) (x14 : Int) (h0j : Int) (h1x0 : ByteArray) (h2x0 : Int) (h3x0 : Int) (h4x0 : Int) (h5x0 : Int) (h6x0 : Bool) : Tr (S ⊕ (Int × (ByteArray × (Int × (Int × (Int × (Int × Bool))))))) :=
  (.br (decide (x14 < (3 : Int)))
    (.need ((Go.Abs.loopAt Go.Proofs.Tryd.f7 0) = (Go.Abs.loopAt Go.Proofs.Tryd.f7 0))
    (.call (N0 (x2, ((1 : Int), (x14, (0 : Int)))) h0j h1x0 h2x0 h3x0 h4x0 h5x0 h6x0) default fun r0 =>
    (.br (!r0.1)
      (.ret (.inr (r0.2.1, (h1x0, (r0.2.2.1, (r0.2.2.2.1, (r0.2.2.2.2.1, (r0.2.2.2.2.2.1, r0.2.2.2.2.2.2))))))))
      (.ret (.inl (.l5 x2 x6 (Go.IntKind.wrap Go.IntKind.i64 (x14 + (1 : Int))) r0.2.1 h1x0 r0.2.2.1 r0.2.2.2.1 r0.2.2.2.2.1 r0.2.2.2.2.2.1 r0.2.2.2.2.2.2))))))
    (.ret (.inl (.l1 (Go.IntKind.wrap Go.IntKind.i8 (x6 + (1 : Int))) h0j h1x0 h2x0 h3x0 h4x0 h5x0 h6x0))))
def T11 (N0 : names_whatD → Int → ByteArray → Int → Int → Int → Int → Bool → Option (Bool × (Int × (Int × (Int × (Int × (Int × Bool))))))) (g0j : Int) (g1x0 : ByteArray) (g2x0 : Int) (g3x0 : Int) (g4x0 : Int) (g5x0 : Int) (g6x0 : Bool) (x25 : Int) (h0j : Int) (h1x0 : ByteArray) (h2x0 : Int) (h3x0 : Int) (h4x0 : Int) (h5x0 : Int) (h6x0 : Bool) : Tr (S ⊕ (Int × (ByteArray × (Int × (Int × (Int × (Int × Bool))))))) :=
  (.br (decide (x25 < (3 : Int)))
    (.ret (.inl (.l14 x25 x25 (0 : Int) h0j h1x0 h2x0 h3x0 h4x0 h5x0 h6x0)))
    (.ret (.inr (h0j, (h1x0, (h2x0, (h3x0, (h4x0, (h5x0, h6x0)))))))))
def T14 (N0 : names_whatD → Int → ByteArray → Int → Int → Int → Int → Bool → Option (Bool × (Int × (Int × (Int × (Int × (Int × Bool))))))) (g0j : Int) (g1x0 : ByteArray) (g2x0 : Int) (g3x0 : Int) (g4x0 : Int) (g5x0 : Int) (g6x0 : Bool) (x4 : Int) (x25 : Int) (x28 : Int) (h0j : Int) (h1x0 : ByteArray) (h2x0 : Int) (h3x0 : Int) (h4x0 : Int) (h5x0 : Int) (h6x0 : Bool) : Tr (S ⊕ (Int × (ByteArray × (Int × (Int × (Int × (Int × Bool))))))) :=
  (.br (decide (x28 < (8 : Int)))
    (.need ((Go.Abs.loopAt Go.Proofs.Tryd.f7 0) = (Go.Abs.loopAt Go.Proofs.Tryd.f7 0))
    (.call (N0 ((1 : Int), ((2 : Int), (x4, (Go.IntKind.wrap Go.IntKind.i64 (x28 + (1 : Int)))))) h0j h1x0 h2x0 h3x0 h4x0 h5x0 h6x0) default fun r0 =>
    (.br (!r0.1)
      (.ret (.inr (r0.2.1, (h1x0, (r0.2.2.1, (r0.2.2.2.1, (r0.2.2.2.2.1, (r0.2.2.2.2.2.1, r0.2.2.2.2.2.2))))))))
      (.ret (.inl (.l14 x4 x25 (Go.IntKind.wrap Go.IntKind.i64 (x28 + (1 : Int))) r0.2.1 h1x0 r0.2.2.1 r0.2.2.2.1 r0.2.2.2.2.1 r0.2.2.2.2.2.1 r0.2.2.2.2.2.2))))))
    (.ret (.inl (.l11 (Go.IntKind.wrap Go.IntKind.i64 (x25 + (1 : Int))) h0j h1x0 h2x0 h3x0 h4x0 h5x0 h6x0))))
def step (N0 : names_whatD → Int → ByteArray → Int → Int → Int → Int → Bool → Option (Bool × (Int × (Int × (Int × (Int × (Int × Bool))))))) (g0j : Int) (g1x0 : ByteArray) (g2x0 : Int) (g3x0 : Int) (g4x0 : Int) (g5x0 : Int) (g6x0 : Bool) : S → Tr (S ⊕ (Int × (ByteArray × (Int × (Int × (Int × (Int × Bool)))))))
  | .l1 x6 h0j h1x0 h2x0 h3x0 h4x0 h5x0 h6x0 => T1 N0 g0j g1x0 g2x0 g3x0 g4x0 g5x0 g6x0 x6 h0j h1x0 h2x0 h3x0 h4x0 h5x0 h6x0
  | .l5 x2 x6 x14 h0j h1x0 h2x0 h3x0 h4x0 h5x0 h6x0 => T5 N0 g0j g1x0 g2x0 g3x0 g4x0 g5x0 g6x0 x2 x6 x14 h0j h1x0 h2x0 h3x0 h4x0 h5x0 h6x0
  | .l11 x25 h0j h1x0 h2x0 h3x0 h4x0 h5x0 h6x0 => T11 N0 g0j g1x0 g2x0 g3x0 g4x0 g5x0 g6x0 x25 h0j h1x0 h2x0 h3x0 h4x0 h5x0 h6x0
  | .l14 x4 x25 x28 h0j h1x0 h2x0 h3x0 h4x0 h5x0 h6x0 => T14 N0 g0j g1x0 g2x0 g3x0 g4x0 g5x0 g6x0 x4 x25 x28 h0j h1x0 h2x0 h3x0 h4x0 h5x0 h6x0
def cuts : List (Nat × Cut) := [(1, { slots := [(0, .yld 0), (6, .dat (.int .i8))], regs := [.loop (.at 0) (Go.Abs.padL 21 .bad [(1, .ref 1 0), (2, .ref 2 0), (3, .ref 3 0), (4, .ref 4 0), (5, .ref 5 0), (6, .ref 6 0)]), .cells (.at 1) [.dat .str], .cells (.at 2) [.dat (.int .i8)], .cells (.at 3) [.dat (.int .i8)], .cells (.at 4) [.dat I64], .cells (.at 5) [.dat I64], .cells (.at 6) [.dat .bool]] }), (5, { slots := [(0, .yld 0), (2, .dat (.int .i8)), (6, .dat (.int .i8)), (14, .dat I64)], regs := [.loop (.at 0) (Go.Abs.padL 21 .bad [(1, .ref 1 0), (2, .ref 2 0), (3, .ref 3 0), (4, .ref 4 0), (5, .ref 5 0), (6, .ref 6 0)]), .cells (.at 1) [.dat .str], .cells (.at 2) [.dat (.int .i8)], .cells (.at 3) [.dat (.int .i8)], .cells (.at 4) [.dat I64], .cells (.at 5) [.dat I64], .cells (.at 6) [.dat .bool]] }), (11, { slots := [(0, .yld 0), (25, .dat I64)], regs := [.loop (.at 0) (Go.Abs.padL 21 .bad [(1, .ref 1 0), (2, .ref 2 0), (3, .ref 3 0), (4, .ref 4 0), (5, .ref 5 0), (6, .ref 6 0)]), .cells (.at 1) [.dat .str], .cells (.at 2) [.dat (.int .i8)], .cells (.at 3) [.dat (.int .i8)], .cells (.at 4) [.dat I64], .cells (.at 5) [.dat I64], .cells (.at 6) [.dat .bool]] }), (14, { slots := [(0, .yld 0), (4, .dat I64), (25, .dat I64), (28, .dat I64)], regs := [.loop (.at 0) (Go.Abs.padL 21 .bad [(1, .ref 1 0), (2, .ref 2 0), (3, .ref 3 0), (4, .ref 4 0), (5, .ref 5 0), (6, .ref 6 0)]), .cells (.at 1) [.dat .str], .cells (.at 2) [.dat (.int .i8)], .cells (.at 3) [.dat (.int .i8)], .cells (.at 4) [.dat I64], .cells (.at 5) [.dat I64], .cells (.at 6) [.dat .bool]] })]
def ec : Option Cut := (some { slots := [], regs := [.loop (.at 0) (Go.Abs.padL 21 .bad [(1, .ref 1 0), (2, .ref 2 0), (3, .ref 3 0), (4, .ref 4 0), (5, .ref 5 0), (6, .ref 6 0)]), .cells (.at 1) [.dat .str], .cells (.at 2) [.dat (.int .i8)], .cells (.at 3) [.dat (.int .i8)], .cells (.at 4) [.dat I64], .cells (.at 5) [.dat I64], .cells (.at 6) [.dat .bool]] })
theorem tr (N0 : names_whatD → Int → ByteArray → Int → Int → Int → Int → Bool → Option (Bool × (Int × (Int × (Int × (Int × (Int × Bool))))))) (g0j : Int) (g1x0 : ByteArray) (g2x0 : Int) (g3x0 : Int) (g4x0 : Int) (g5x0 : Int) (g6x0 : Bool) (R : Out → Prop) (L : List Item → St → Prop) : evFnG Tryd.prog [names_ParseRoundA.e N0] Tryd.f20 [] ec cuts [.yld 0] [.loop (Go.Abs.loopAt Tryd.f7 0) (Go.Abs.padL 21 .bad [(1, .ref 1 0), (2, .ref 2 0), (3, .ref 3 0), (4, .ref 4 0), (5, .ref 5 0), (6, .ref 6 0)]) g0j, .cells [.dat .str g1x0], .cells [.dat (.int .i8) g2x0], .cells [.dat (.int .i8) g3x0], .cells [.dat I64 g4x0], .cells [.dat I64 g5x0], .cells [.dat .bool g6x0]] R L = (T N0 g0j g1x0 g2x0 g3x0 g4x0 g5x0 g6x0).wp (outcome Tryd.f20 idx (stt g0j g1x0 g2x0 g3x0 g4x0 g5x0 g6x0) (mk g0j g1x0 g2x0 g3x0 g4x0 g5x0 g6x0) R L) := by kernel_rfl
theorem tr1 (N0 : names_whatD → Int → ByteArray → Int → Int → Int → Int → Bool → Option (Bool × (Int × (Int × (Int × (Int × (Int × Bool))))))) (g0j : Int) (g1x0 : ByteArray) (g2x0 : Int) (g3x0 : Int) (g4x0 : Int) (g5x0 : Int) (g6x0 : Bool) (x6 : Int) (h0j : Int) (h1x0 : ByteArray) (h2x0 : Int) (h3x0 : Int) (h4x0 : Int) (h5x0 : Int) (h6x0 : Bool) (R : Out → Prop) (L : List Item → St → Prop) : evLoopG Tryd.prog [names_ParseRoundA.e N0] Tryd.f20 [] ec cuts 1 (stt g0j g1x0 g2x0 g3x0 g4x0 g5x0 g6x0 (.l1 x6 h0j h1x0 h2x0 h3x0 h4x0 h5x0 h6x0)) [.loop (Go.Abs.loopAt Tryd.f7 0) (Go.Abs.padL 21 .bad [(1, .ref 1 0), (2, .ref 2 0), (3, .ref 3 0), (4, .ref 4 0), (5, .ref 5 0), (6, .ref 6 0)]) g0j, .cells [.dat .str g1x0], .cells [.dat (.int .i8) g2x0], .cells [.dat (.int .i8) g3x0], .cells [.dat I64 g4x0], .cells [.dat I64 g5x0], .cells [.dat .bool g6x0]] R L = (T1 N0 g0j g1x0 g2x0 g3x0 g4x0 g5x0 g6x0 x6 h0j h1x0 h2x0 h3x0 h4x0 h5x0 h6x0).wp (outcome Tryd.f20 idx (stt g0j g1x0 g2x0 g3x0 g4x0 g5x0 g6x0) (mk g0j g1x0 g2x0 g3x0 g4x0 g5x0 g6x0) R L) := by kernel_rfl
theorem tr5 (N0 : names_whatD → Int → ByteArray → Int → Int → Int → Int → Bool → Option (Bool × (Int × (Int × (Int × (Int × (Int × Bool))))))) (g0j : Int) (g1x0 : ByteArray) (g2x0 : Int) (g3x0 : Int) (g4x0 : Int) (g5x0 : Int) (g6x0 : Bool) (x2 : Int) (x6 : Int) (x14 : Int) (h0j : Int) (h1x0 : ByteArray) (h2x0 : Int) (h3x0 : Int) (h4x0 : Int) (h5x0 : Int) (h6x0 : Bool) (R : Out → Prop) (L : List Item → St → Prop) : evLoopG Tryd.prog [names_ParseRoundA.e N0] Tryd.f20 [] ec cuts 5 (stt g0j g1x0 g2x0 g3x0 g4x0 g5x0 g6x0 (.l5 x2 x6 x14 h0j h1x0 h2x0 h3x0 h4x0 h5x0 h6x0)) [.loop (Go.Abs.loopAt Tryd.f7 0) (Go.Abs.padL 21 .bad [(1, .ref 1 0), (2, .ref 2 0), (3, .ref 3 0), (4, .ref 4 0), (5, .ref 5 0), (6, .ref 6 0)]) g0j, .cells [.dat .str g1x0], .cells [.dat (.int .i8) g2x0], .cells [.dat (.int .i8) g3x0], .cells [.dat I64 g4x0], .cells [.dat I64 g5x0], .cells [.dat .bool g6x0]] R L = (T5 N0 g0j g1x0 g2x0 g3x0 g4x0 g5x0 g6x0 x2 x6 x14 h0j h1x0 h2x0 h3x0 h4x0 h5x0 h6x0).wp (outcome Tryd.f20 idx (stt g0j g1x0 g2x0 g3x0 g4x0 g5x0 g6x0) (mk g0j g1x0 g2x0 g3x0 g4x0 g5x0 g6x0) R L) := by kernel_rfl
theorem tr11 (N0 : names_whatD → Int → ByteArray → Int → Int → Int → Int → Bool → Option (Bool × (Int × (Int × (Int × (Int × (Int × Bool))))))) (g0j : Int) (g1x0 : ByteArray) (g2x0 : Int) (g3x0 : Int) (g4x0 : Int) (g5x0 : Int) (g6x0 : Bool) (x25 : Int) (h0j : Int) (h1x0 : ByteArray) (h2x0 : Int) (h3x0 : Int) (h4x0 : Int) (h5x0 : Int) (h6x0 : Bool) (R : Out → Prop) (L : List Item → St → Prop) : evLoopG Tryd.prog [names_ParseRoundA.e N0] Tryd.f20 [] ec cuts 11 (stt g0j g1x0 g2x0 g3x0 g4x0 g5x0 g6x0 (.l11 x25 h0j h1x0 h2x0 h3x0 h4x0 h5x0 h6x0)) [.loop (Go.Abs.loopAt Tryd.f7 0) (Go.Abs.padL 21 .bad [(1, .ref 1 0), (2, .ref 2 0), (3, .ref 3 0), (4, .ref 4 0), (5, .ref 5 0), (6, .ref 6 0)]) g0j, .cells [.dat .str g1x0], .cells [.dat (.int .i8) g2x0], .cells [.dat (.int .i8) g3x0], .cells [.dat I64 g4x0], .cells [.dat I64 g5x0], .cells [.dat .bool g6x0]] R L = (T11 N0 g0j g1x0 g2x0 g3x0 g4x0 g5x0 g6x0 x25 h0j h1x0 h2x0 h3x0 h4x0 h5x0 h6x0).wp (outcome Tryd.f20 idx (stt g0j g1x0 g2x0 g3x0 g4x0 g5x0 g6x0) (mk g0j g1x0 g2x0 g3x0 g4x0 g5x0 g6x0) R L) := by kernel_rfl
theorem tr14 (N0 : names_whatD → Int → ByteArray → Int → Int → Int → Int → Bool → Option (Bool × (Int × (Int × (Int × (Int × (Int × Bool))))))) (g0j : Int) (g1x0 : ByteArray) (g2x0 : Int) (g3x0 : Int) (g4x0 : Int) (g5x0 : Int) (g6x0 : Bool) (x4 : Int) (x25 : Int) (x28 : Int) (h0j : Int) (h1x0 : ByteArray) (h2x0 : Int) (h3x0 : Int) (h4x0 : Int) (h5x0 : Int) (h6x0 : Bool) (R : Out → Prop) (L : List Item → St → Prop) : evLoopG Tryd.prog [names_ParseRoundA.e N0] Tryd.f20 [] ec cuts 14 (stt g0j g1x0 g2x0 g3x0 g4x0 g5x0 g6x0 (.l14 x4 x25 x28 h0j h1x0 h2x0 h3x0 h4x0 h5x0 h6x0)) [.loop (Go.Abs.loopAt Tryd.f7 0) (Go.Abs.padL 21 .bad [(1, .ref 1 0), (2, .ref 2 0), (3, .ref 3 0), (4, .ref 4 0), (5, .ref 5 0), (6, .ref 6 0)]) g0j, .cells [.dat .str g1x0], .cells [.dat (.int .i8) g2x0], .cells [.dat (.int .i8) g3x0], .cells [.dat I64 g4x0], .cells [.dat I64 g5x0], .cells [.dat .bool g6x0]] R L = (T14 N0 g0j g1x0 g2x0 g3x0 g4x0 g5x0 g6x0 x4 x25 x28 h0j h1x0 h2x0 h3x0 h4x0 h5x0 h6x0).wp (outcome Tryd.f20 idx (stt g0j g1x0 g2x0 g3x0 g4x0 g5x0 g6x0) (mk g0j g1x0 g2x0 g3x0 g4x0 g5x0 g6x0) R L) := by kernel_rfl
noncomputable def f (g0j : Int) (g1x0 : ByteArray) (g2x0 : Int) (g3x0 : Int) (g4x0 : Int) (g5x0 : Int) (g6x0 : Bool) : Option (Int × (ByteArray × (Int × (Int × (Int × (Int × Bool)))))) := loopO (step names_ParseRoundA.f g0j g1x0 g2x0 g3x0 g4x0 g5x0 g6x0) (T names_ParseRoundA.f g0j g1x0 g2x0 g3x0 g4x0 g5x0 g6x0)
noncomputable def e (N : Int → ByteArray → Int → Int → Int → Int → Bool → Option (Int × (ByteArray × (Int × (Int × (Int × (Int × Bool))))))) : Ent := entG 20 [.yld 0] [.loop (Go.Abs.loopAt Tryd.f7 0) (Go.Abs.padL 21 .bad [(1, .ref 1 0), (2, .ref 2 0), (3, .ref 3 0), (4, .ref 4 0), (5, .ref 5 0), (6, .ref 6 0)]), .cells [.dat .str], .cells [.dat (.int .i8)], .cells [.dat (.int .i8)], .cells [.dat I64], .cells [.dat I64], .cells [.dat .bool]] (fun d g => mk (g.1.2) (g.2.1.1) (g.2.2.1.1) (g.2.2.2.1.1) (g.2.2.2.2.1.1) (g.2.2.2.2.2.1.1) (g.2.2.2.2.2.2.1.1)) fun d g => N (g.1.2) (g.2.1.1) (g.2.2.1.1) (g.2.2.2.1.1) (g.2.2.2.2.1.1) (g.2.2.2.2.2.1.1) (g.2.2.2.2.2.2.1.1)
theorem ok : EntOk Tryd.prog (e f) := entOk_loopG (ps := [.yld 0]) (rs := [.loop (Go.Abs.loopAt Tryd.f7 0) (Go.Abs.padL 21 .bad [(1, .ref 1 0), (2, .ref 2 0), (3, .ref 3 0), (4, .ref 4 0), (5, .ref 5 0), (6, .ref 6 0)]), .cells [.dat .str], .cells [.dat (.int .i8)], .cells [.dat (.int .i8)], .cells [.dat I64], .cells [.dat I64], .cells [.dat .bool]]) (mk := fun d g => mk (g.1.2) (g.2.1.1) (g.2.2.1.1) (g.2.2.2.1.1) (g.2.2.2.2.1.1) (g.2.2.2.2.2.1.1) (g.2.2.2.2.2.2.1.1)) (idx := idx) (S := fun d g => (stt (g.1.2) (g.2.1.1) (g.2.2.1.1) (g.2.2.2.1.1) (g.2.2.2.2.1.1) (g.2.2.2.2.2.1.1) (g.2.2.2.2.2.2.1.1))) (step := fun d g => (step names_ParseRoundA.f (g.1.2) (g.2.1.1) (g.2.2.1.1) (g.2.2.2.1.1) (g.2.2.2.2.1.1) (g.2.2.2.2.2.1.1) (g.2.2.2.2.2.2.1.1))) (T := fun d g => T names_ParseRoundA.f (g.1.2) (g.2.1.1) (g.2.2.1.1) (g.2.2.2.1.1) (g.2.2.2.2.1.1) (g.2.2.2.2.2.1.1) (g.2.2.2.2.2.2.1.1)) (Kit.cons names_ParseRoundA.ok (Kit.nil prog_mix)) (by decide) (fn := Tryd.f20) (ec := ec) (cuts := cuts) (rts := [])
  rfl (by decide) rfl (Nat.le_of_ble_eq_true rfl) (fun _ _ _ => rfl) (fun d g R L => Eq.trans (by kernel_rfl) (tr names_ParseRoundA.f (g.1.2) (g.2.1.1) (g.2.2.1.1) (g.2.2.2.1.1) (g.2.2.2.2.1.1) (g.2.2.2.2.2.1.1) (g.2.2.2.2.2.2.1.1) R L)) (fun d g s R L => match s with
    | .l1 x6 h0j h1x0 h2x0 h3x0 h4x0 h5x0 h6x0 => Eq.trans (by kernel_rfl) (tr1 names_ParseRoundA.f (g.1.2) (g.2.1.1) (g.2.2.1.1) (g.2.2.2.1.1) (g.2.2.2.2.1.1) (g.2.2.2.2.2.1.1) (g.2.2.2.2.2.2.1.1) x6 h0j h1x0 h2x0 h3x0 h4x0 h5x0 h6x0 R L)
    | .l5 x2 x6 x14 h0j h1x0 h2x0 h3x0 h4x0 h5x0 h6x0 => Eq.trans (by kernel_rfl) (tr5 names_ParseRoundA.f (g.1.2) (g.2.1.1) (g.2.2.1.1) (g.2.2.2.1.1) (g.2.2.2.2.1.1) (g.2.2.2.2.2.1.1) (g.2.2.2.2.2.2.1.1) x2 x6 x14 h0j h1x0 h2x0 h3x0 h4x0 h5x0 h6x0 R L)
    | .l11 x25 h0j h1x0 h2x0 h3x0 h4x0 h5x0 h6x0 => Eq.trans (by kernel_rfl) (tr11 names_ParseRoundA.f (g.1.2) (g.2.1.1) (g.2.2.1.1) (g.2.2.2.1.1) (g.2.2.2.2.1.1) (g.2.2.2.2.2.1.1) (g.2.2.2.2.2.2.1.1) x25 h0j h1x0 h2x0 h3x0 h4x0 h5x0 h6x0 R L)
    | .l14 x4 x25 x28 h0j h1x0 h2x0 h3x0 h4x0 h5x0 h6x0 => Eq.trans (by kernel_rfl) (tr14 names_ParseRoundA.f (g.1.2) (g.2.1.1) (g.2.2.1.1) (g.2.2.2.1.1) (g.2.2.2.2.1.1) (g.2.2.2.2.2.1.1) (g.2.2.2.2.2.2.1.1) x4 x25 x28 h0j h1x0 h2x0 h3x0 h4x0 h5x0 h6x0 R L))
end names_all

-- roving/names.Parse (0 name, 1 name, 2 tag, 3 kind, 4 part, 5 pid, 6 ok, 7 w)
namespace names_Parse
def mk (b : (Int × (Int × (Int × (Int × Bool))))) : Out := { v := .tup [.dat (.int .i8) b.1, .dat (.int .i8) b.2.1, .dat I64 b.2.2.1, .dat I64 b.2.2.2.1, .dat .bool b.2.2.2.2] }
def T (N0 : Int → ByteArray → Int → Int → Int → Int → Bool → Option (Int × (ByteArray × (Int × (Int × (Int × (Int × Bool))))))) (a0 : ByteArray) : Tr ((Int × (Int × (Int × (Int × Bool))))) :=
  (.need ((Go.Abs.loopAt Go.Proofs.Tryd.f7 0) = (Go.Abs.loopAt Go.Proofs.Tryd.f7 0))
  (.call (N0 (0 : Int) a0 (0 : Int) (0 : Int) (0 : Int) (0 : Int) false) default fun r0 =>
  (.need (r0.1 ≠ (-(1 : Int)))
  (.br (r0.1 == (1 : Int))
    (.ret (r0.2.2.1, (r0.2.2.2.1, (r0.2.2.2.2.1, (r0.2.2.2.2.2.1, r0.2.2.2.2.2.2)))))
    (.need (r0.1 = (0 : Int))
    (.ret ((0 : Int), ((0 : Int), ((0 : Int), ((0 : Int), false))))))))))
theorem tr (N0 : Int → ByteArray → Int → Int → Int → Int → Bool → Option (Int × (ByteArray × (Int × (Int × (Int × (Int × Bool))))))) (a0 : ByteArray) (R : Out → Prop) (L : List Item → St → Prop) : evFn Tryd.prog [names_all.e N0] Tryd.f7 [.dat (.int .i8), .dat (.int .i8), .dat I64, .dat I64, .dat .bool] [] [.dat .str a0] [] R L = (T N0 a0).wp (fun b => R (mk b)) := by kernel_rfl
noncomputable def f (a0 : ByteArray) : Option (Int × (Int × (Int × (Int × Bool)))) := (T names_all.f a0).opt
def e (N : ByteArray → Option (Int × (Int × (Int × (Int × Bool))))) : Ent := entF 7 [.dat .str] [] mk fun d g => N (d.1)
theorem ok : EntOk Tryd.prog (e f) := entOk_tree (ps := [.dat .str]) (rs := []) (mk := mk) (T := fun d g => T names_all.f (d.1)) (Kit.cons names_all.ok (Kit.nil prog_mix)) (by decide) (fn := Tryd.f7) (cuts := []) (rts := [.dat (.int .i8), .dat (.int .i8), .dat I64, .dat I64, .dat .bool])
  rfl (by decide) rfl (Nat.le_of_ble_eq_true rfl) (fun _ => rfl) (fun d g R L => tr names_all.f (d.1) R L)
end names_Parse

-- roving/rovinglaw11.wakes (1 t, 2 k, 3 q, 4 p, 5 ok, 6 _, 7 _, 8 _, 9 _, 10 no)
namespace rovinglaw11_wakes
def mk (b : Bool) : Out := { v := .dat .bool b }
def T (N0 : ByteArray → Option (Int × (Int × (Int × (Int × Bool))))) (N1 : Int → Int → Option ByteArray) (N2 : Int → Option ByteArray) (N3 : Int → Int → Option ByteArray) (N4 : Int → Option ByteArray) : Tr (Bool) :=
  (.call (N0 (ByteArray.mk (List.toArray ((98 : UInt8) :: ((50 : UInt8) :: ((46 : UInt8) :: ((53 : UInt8) :: ([] : List UInt8)))))))) default fun r0 =>
  (.call (N0 (ByteArray.mk (List.toArray ((116 : UInt8) :: ([] : List UInt8))))) default fun r1 =>
  (.call (N1 (2 : Int) (5 : Int)) default fun r2 =>
  (.need (((bif (bif (bif (bif (bif (bif ((ByteArray.toList r2) == (ByteArray.toList (ByteArray.mk (List.toArray ((98 : UInt8) :: ((50 : UInt8) :: ((46 : UInt8) :: ((53 : UInt8) :: ([] : List UInt8))))))))) then r0.2.2.2.2 else false) then (r0.1 == (1 : Int)) else false) then (r0.2.1 == (2 : Int)) else false) then (r0.2.2.1 == (2 : Int)) else false) then (r0.2.2.2.1 == (5 : Int)) else false) then (!r1.2.2.2.2) else false) = true) → ((Option.isSome (N2 (0 : Int))) = true))
  (.need (((bif (bif (bif (bif (bif (bif (bif ((ByteArray.toList r2) == (ByteArray.toList (ByteArray.mk (List.toArray ((98 : UInt8) :: ((50 : UInt8) :: ((46 : UInt8) :: ((53 : UInt8) :: ([] : List UInt8))))))))) then r0.2.2.2.2 else false) then (r0.1 == (1 : Int)) else false) then (r0.2.1 == (2 : Int)) else false) then (r0.2.2.1 == (2 : Int)) else false) then (r0.2.2.2.1 == (5 : Int)) else false) then (!r1.2.2.2.2) else false) then ((ByteArray.toList (Option.getD (N2 (0 : Int)) default)) == (ByteArray.toList (ByteArray.mk (List.toArray ((105 : UInt8) :: ((109 : UInt8) :: ([] : List UInt8))))))) else false) = true) → ((Option.isSome (N3 (0 : Int) (1 : Int))) = true))
  (.need (((bif (bif (bif (bif (bif (bif (bif (bif ((ByteArray.toList r2) == (ByteArray.toList (ByteArray.mk (List.toArray ((98 : UInt8) :: ((50 : UInt8) :: ((46 : UInt8) :: ((53 : UInt8) :: ([] : List UInt8))))))))) then r0.2.2.2.2 else false) then (r0.1 == (1 : Int)) else false) then (r0.2.1 == (2 : Int)) else false) then (r0.2.2.1 == (2 : Int)) else false) then (r0.2.2.2.1 == (5 : Int)) else false) then (!r1.2.2.2.2) else false) then ((ByteArray.toList (Option.getD (N2 (0 : Int)) default)) == (ByteArray.toList (ByteArray.mk (List.toArray ((105 : UInt8) :: ((109 : UInt8) :: ([] : List UInt8))))))) else false) then ((ByteArray.toList (Option.getD (N3 (0 : Int) (1 : Int)) default)) == (ByteArray.toList (ByteArray.mk (List.toArray ((105 : UInt8) :: ((49 : UInt8) :: ([] : List UInt8))))))) else false) = true) → ((Option.isSome (N4 (1 : Int))) = true))
  (.ret (bif (bif (bif (bif (bif (bif (bif (bif (bif ((ByteArray.toList r2) == (ByteArray.toList (ByteArray.mk (List.toArray ((98 : UInt8) :: ((50 : UInt8) :: ((46 : UInt8) :: ((53 : UInt8) :: ([] : List UInt8))))))))) then r0.2.2.2.2 else false) then (r0.1 == (1 : Int)) else false) then (r0.2.1 == (2 : Int)) else false) then (r0.2.2.1 == (2 : Int)) else false) then (r0.2.2.2.1 == (5 : Int)) else false) then (!r1.2.2.2.2) else false) then ((ByteArray.toList (Option.getD (N2 (0 : Int)) default)) == (ByteArray.toList (ByteArray.mk (List.toArray ((105 : UInt8) :: ((109 : UInt8) :: ([] : List UInt8))))))) else false) then ((ByteArray.toList (Option.getD (N3 (0 : Int) (1 : Int)) default)) == (ByteArray.toList (ByteArray.mk (List.toArray ((105 : UInt8) :: ((49 : UInt8) :: ([] : List UInt8))))))) else false) then ((ByteArray.toList (Option.getD (N4 (1 : Int)) default)) == (ByteArray.toList (ByteArray.mk (List.toArray ((98 : UInt8) :: ([] : List UInt8)))))) else false))))))))
theorem tr (N0 : ByteArray → Option (Int × (Int × (Int × (Int × Bool))))) (N1 : Int → Int → Option ByteArray) (N2 : Int → Option ByteArray) (N3 : Int → Int → Option ByteArray) (N4 : Int → Option ByteArray) (R : Out → Prop) (L : List Item → St → Prop) : evFn Tryd.prog [names_Parse.e N0, names_Side.e N1, names_Meta.e N2, names_Log.e N3, names_Letter.e N4] Tryd.f6 [.dat .bool] [] [] [] R L = (T N0 N1 N2 N3 N4).wp (fun b => R (mk b)) := by kernel_rfl
noncomputable def f : Option Bool := (T names_Parse.f names_Side.f names_Meta.f names_Log.f names_Letter.f).opt
def e (N : Option Bool) : Ent := entF 6 [] [] mk fun d g => N
theorem ok : EntOk Tryd.prog (e f) := entOk_tree (ps := []) (rs := []) (mk := mk) (T := fun d g => T names_Parse.f names_Side.f names_Meta.f names_Log.f names_Letter.f) (Kit.cons names_Parse.ok (Kit.cons names_Side.ok (Kit.cons names_Meta.ok (Kit.cons names_Log.ok (Kit.cons names_Letter.ok (Kit.nil prog_mix)))))) (by decide) (fn := Tryd.f6) (cuts := []) (rts := [.dat .bool])
  rfl (by decide) rfl (Nat.le_of_ble_eq_true rfl) (fun _ => rfl) (fun d g R L => tr names_Parse.f names_Side.f names_Meta.f names_Log.f names_Letter.f R L)
end rovinglaw11_wakes

-- roving/rovingref11.Letter (0 tag, 1 tag)
namespace rovingref11_Letter
def mk (b : ByteArray) : Out := { v := .dat .str b }
def T (a0 : Int) : Tr (ByteArray) :=
  (.br (a0 == (0 : Int))
    (.ret (ByteArray.mk (List.toArray ((105 : UInt8) :: ([] : List UInt8)))))
    (.br (a0 == (1 : Int))
      (.ret (ByteArray.mk (List.toArray ((98 : UInt8) :: ([] : List UInt8)))))
      (.ret (ByteArray.mk (List.toArray ([] : List UInt8))))))
theorem tr (a0 : Int) (R : Out → Prop) (L : List Item → St → Prop) : evFn Tryd.prog [] Tryd.f10 [.dat .str] [] [.dat (.int .i8) a0] [] R L = (T a0).wp (fun b => R (mk b)) := by kernel_rfl
noncomputable def f (a0 : Int) : Option ByteArray := (T a0).opt
def e (N : Int → Option ByteArray) : Ent := entF 10 [.dat (.int .i8)] [] mk fun d g => N (d.1)
theorem ok : EntOk Tryd.prog (e f) := entOk_tree (ps := [.dat (.int .i8)]) (rs := []) (mk := mk) (T := fun d g => T (d.1)) (Kit.nil prog_mix) (by decide) (fn := Tryd.f10) (cuts := []) (rts := [.dat .str])
  rfl (by decide) rfl (Nat.le_of_ble_eq_true rfl) (fun _ => rfl) (fun d g R L => tr (d.1) R L)
end rovingref11_Letter

-- roving/rovingref11.Meta (0 tag, 1 tag)
namespace rovingref11_Meta
def mk (b : ByteArray) : Out := { v := .dat .str b }
def T (N0 : Int → Option ByteArray) (a0 : Int) : Tr (ByteArray) :=
  (.call (N0 a0) default fun r0 =>
  (.br ((ByteArray.toList r0) == (ByteArray.toList (ByteArray.mk (List.toArray ([] : List UInt8)))))
    (.ret (ByteArray.mk (List.toArray ([] : List UInt8))))
    (.call (N0 a0) default fun r1 =>
    (.need (((ByteArray.size r0) + 1) ≤ 9223372036854775807)
    (.ret (r0 ++ (ByteArray.mk (List.toArray ((109 : UInt8) :: ([] : List UInt8))))))))))
theorem tr (N0 : Int → Option ByteArray) (a0 : Int) (R : Out → Prop) (L : List Item → St → Prop) : evFn Tryd.prog [rovingref11_Letter.e N0] Tryd.f12 [.dat .str] [] [.dat (.int .i8) a0] [] R L = (T N0 a0).wp (fun b => R (mk b)) := by kernel_rfl
noncomputable def f (a0 : Int) : Option ByteArray := (T rovingref11_Letter.f a0).opt
def e (N : Int → Option ByteArray) : Ent := entF 12 [.dat (.int .i8)] [] mk fun d g => N (d.1)
theorem ok : EntOk Tryd.prog (e f) := entOk_tree (ps := [.dat (.int .i8)]) (rs := []) (mk := mk) (T := fun d g => T rovingref11_Letter.f (d.1)) (Kit.cons rovingref11_Letter.ok (Kit.nil prog_mix)) (by decide) (fn := Tryd.f12) (cuts := []) (rts := [.dat .str])
  rfl (by decide) rfl (Nat.le_of_ble_eq_true rfl) (fun _ => rfl) (fun d g R L => tr rovingref11_Letter.f (d.1) R L)
end rovingref11_Meta

-- roving/rovingref11.digit (0 n, 1 n)
namespace rovingref11_digit
def mk (b : ByteArray) : Out := { v := .dat .str b }
def T (a0 : Int) : Tr (ByteArray) :=
  (.ret (Go.Abs.bytesOf ((Go.IntKind.wrap Go.IntKind.u8 (Go.IntKind.wrap Go.IntKind.i64 ((48 : Int) + a0))) :: ([] : List Int))))
theorem tr (a0 : Int) (R : Out → Prop) (L : List Item → St → Prop) : evFn Tryd.prog [] Tryd.f23 [.dat .str] [] [.dat I64 a0] [] R L = (T a0).wp (fun b => R (mk b)) := by kernel_rfl
noncomputable def f (a0 : Int) : Option ByteArray := (T a0).opt
def e (N : Int → Option ByteArray) : Ent := entF 23 [.dat I64] [] mk fun d g => N (d.1)
theorem ok : EntOk Tryd.prog (e f) := entOk_tree (ps := [.dat I64]) (rs := []) (mk := mk) (T := fun d g => T (d.1)) (Kit.nil prog_mix) (by decide) (fn := Tryd.f23) (cuts := []) (rts := [.dat .str])
  rfl (by decide) rfl (Nat.le_of_ble_eq_true rfl) (fun _ => rfl) (fun d g R L => tr (d.1) R L)
end rovingref11_digit

-- roving/rovingref11.Log (0 tag, 1 part, 2 tag, 3 part)
namespace rovingref11_Log
def mk (b : ByteArray) : Out := { v := .dat .str b }
def T (N0 : Int → Option ByteArray) (N1 : Int → Option ByteArray) (a0 : Int) (a1 : Int) : Tr (ByteArray) :=
  (.call (N0 a0) default fun r0 =>
  (.br (bif (bif ((ByteArray.toList r0) == (ByteArray.toList (ByteArray.mk (List.toArray ([] : List UInt8))))) then true else (decide (a1 < (0 : Int)))) then true else (decide (a1 ≥ (3 : Int))))
    (.ret (ByteArray.mk (List.toArray ([] : List UInt8))))
    (.call (N0 a0) default fun r1 =>
    (.call (N1 a1) default fun r2 =>
    (.need (((ByteArray.size r0) + (ByteArray.size r2)) ≤ 9223372036854775807)
    (.ret (r0 ++ r2)))))))
theorem tr (N0 : Int → Option ByteArray) (N1 : Int → Option ByteArray) (a0 : Int) (a1 : Int) (R : Out → Prop) (L : List Item → St → Prop) : evFn Tryd.prog [rovingref11_Letter.e N0, rovingref11_digit.e N1] Tryd.f14 [.dat .str] [] [.dat (.int .i8) a0, .dat I64 a1] [] R L = (T N0 N1 a0 a1).wp (fun b => R (mk b)) := by kernel_rfl
noncomputable def f (a0 : Int) (a1 : Int) : Option ByteArray := (T rovingref11_Letter.f rovingref11_digit.f a0 a1).opt
def e (N : Int → Int → Option ByteArray) : Ent := entF 14 [.dat (.int .i8), .dat I64] [] mk fun d g => N (d.1) (d.2.1)
theorem ok : EntOk Tryd.prog (e f) := entOk_tree (ps := [.dat (.int .i8), .dat I64]) (rs := []) (mk := mk) (T := fun d g => T rovingref11_Letter.f rovingref11_digit.f (d.1) (d.2.1)) (Kit.cons rovingref11_Letter.ok (Kit.cons rovingref11_digit.ok (Kit.nil prog_mix))) (by decide) (fn := Tryd.f14) (cuts := []) (rts := [.dat .str])
  rfl (by decide) rfl (Nat.le_of_ble_eq_true rfl) (fun _ => rfl) (fun d g R L => tr rovingref11_Letter.f rovingref11_digit.f (d.1) (d.2.1) R L)
end rovingref11_Log

-- roving/rovingref11.Side (0 part, 1 pid, 2 part, 3 pid)
namespace rovingref11_Side
def mk (b : ByteArray) : Out := { v := .dat .str b }
def T (N0 : Int → Option ByteArray) (a0 : Int) (a1 : Int) : Tr (ByteArray) :=
  (.br (bif (bif (bif (decide (a0 < (0 : Int))) then true else (decide (a0 ≥ (3 : Int)))) then true else (decide (a1 < (1 : Int)))) then true else (decide (a1 > (8 : Int))))
    (.ret (ByteArray.mk (List.toArray ([] : List UInt8))))
    (.call (N0 a0) default fun r0 =>
    (.need ((1 + (ByteArray.size r0)) ≤ 9223372036854775807)
    (.need (((ByteArray.size ((ByteArray.mk (List.toArray ((98 : UInt8) :: ([] : List UInt8)))) ++ r0)) + 1) ≤ 9223372036854775807)
    (.call (N0 a1) default fun r1 =>
    (.need (((ByteArray.size (((ByteArray.mk (List.toArray ((98 : UInt8) :: ([] : List UInt8)))) ++ r0) ++ (ByteArray.mk (List.toArray ((46 : UInt8) :: ([] : List UInt8)))))) + (ByteArray.size r1)) ≤ 9223372036854775807)
    (.ret ((((ByteArray.mk (List.toArray ((98 : UInt8) :: ([] : List UInt8)))) ++ r0) ++ (ByteArray.mk (List.toArray ((46 : UInt8) :: ([] : List UInt8))))) ++ r1))))))))
theorem tr (N0 : Int → Option ByteArray) (a0 : Int) (a1 : Int) (R : Out → Prop) (L : List Item → St → Prop) : evFn Tryd.prog [rovingref11_digit.e N0] Tryd.f16 [.dat .str] [] [.dat I64 a0, .dat I64 a1] [] R L = (T N0 a0 a1).wp (fun b => R (mk b)) := by kernel_rfl
noncomputable def f (a0 : Int) (a1 : Int) : Option ByteArray := (T rovingref11_digit.f a0 a1).opt
def e (N : Int → Int → Option ByteArray) : Ent := entF 16 [.dat I64, .dat I64] [] mk fun d g => N (d.1) (d.2.1)
theorem ok : EntOk Tryd.prog (e f) := entOk_tree (ps := [.dat I64, .dat I64]) (rs := []) (mk := mk) (T := fun d g => T rovingref11_digit.f (d.1) (d.2.1)) (Kit.cons rovingref11_digit.ok (Kit.nil prog_mix)) (by decide) (fn := Tryd.f16) (cuts := []) (rts := [.dat .str])
  rfl (by decide) rfl (Nat.le_of_ble_eq_true rfl) (fun _ => rfl) (fun d g R L => tr rovingref11_digit.f (d.1) (d.2.1) R L)
end rovingref11_Side

-- roving/rovingref11.Parse (0 name, 1 name, 7 t, 8 q, 9 q, 10 p)
namespace rovingref11_Parse
def mk (b : (Int × (Int × (Int × (Int × Bool))))) : Out := { v := .tup [.dat (.int .i8) b.1, .dat (.int .i8) b.2.1, .dat I64 b.2.2.1, .dat I64 b.2.2.2.1, .dat .bool b.2.2.2.2] }
inductive S where
  | l2 (x0 : ByteArray) (x7 : Int)
  | l7 (x0 : ByteArray) (x7 : Int) (x8 : Int)
  | l12 (x0 : ByteArray) (x9 : Int)
  | l15 (x0 : ByteArray) (x9 : Int) (x10 : Int)
def idx : S → Nat
  | .l2 _ _ => 2
  | .l7 _ _ _ => 7
  | .l12 _ _ => 12
  | .l15 _ _ _ => 15
def stt : S → St
  | .l2 x0 x7 => st 46 [(0, .dat .str x0), (7, .dat (.int .i8) x7)] []
  | .l7 x0 x7 x8 => st 46 [(0, .dat .str x0), (7, .dat (.int .i8) x7), (8, .dat I64 x8)] []
  | .l12 x0 x9 => st 46 [(0, .dat .str x0), (9, .dat I64 x9)] []
  | .l15 x0 x9 x10 => st 46 [(0, .dat .str x0), (9, .dat I64 x9), (10, .dat I64 x10)] []
def T (N0 : Int → Option ByteArray) (N1 : Int → Int → Option ByteArray) (N2 : Int → Int → Option ByteArray) (a0 : ByteArray) : Tr (S ⊕ (Int × (Int × (Int × (Int × Bool))))) :=
  (.ret (.inl (.l2 a0 (0 : Int))))
def T2 (N0 : Int → Option ByteArray) (N1 : Int → Int → Option ByteArray) (N2 : Int → Int → Option ByteArray) (x0 : ByteArray) (x7 : Int) : Tr (S ⊕ (Int × (Int × (Int × (Int × Bool))))) :=
  (.br (decide (x7 ≤ (1 : Int)))
    (.call (N0 x7) default fun r0 =>
    (.br ((ByteArray.toList x0) == (ByteArray.toList r0))
      (.ret (.inr (x7, ((0 : Int), ((0 : Int), ((0 : Int), true))))))
      (.ret (.inl (.l7 x0 x7 (0 : Int))))))
    (.ret (.inl (.l12 x0 (0 : Int)))))
def T7 (N0 : Int → Option ByteArray) (N1 : Int → Int → Option ByteArray) (N2 : Int → Int → Option ByteArray) (x0 : ByteArray) (x7 : Int) (x8 : Int) : Tr (S ⊕ (Int × (Int × (Int × (Int × Bool))))) :=
  (.br (decide (x8 < (3 : Int)))
    (.call (N1 x7 x8) default fun r0 =>
    (.br ((ByteArray.toList x0) == (ByteArray.toList r0))
      (.ret (.inr (x7, ((1 : Int), (x8, ((0 : Int), true))))))
      (.ret (.inl (.l7 x0 x7 (Go.IntKind.wrap Go.IntKind.i64 (x8 + (1 : Int))))))))
    (.ret (.inl (.l2 x0 (Go.IntKind.wrap Go.IntKind.i8 (x7 + (1 : Int)))))))
def T12 (N0 : Int → Option ByteArray) (N1 : Int → Int → Option ByteArray) (N2 : Int → Int → Option ByteArray) (x0 : ByteArray) (x9 : Int) : Tr (S ⊕ (Int × (Int × (Int × (Int × Bool))))) :=
  (.br (decide (x9 < (3 : Int)))
    (.ret (.inl (.l15 x0 x9 (1 : Int))))
    (.ret (.inr ((0 : Int), ((0 : Int), ((0 : Int), ((0 : Int), false)))))))
def T15 (N0 : Int → Option ByteArray) (N1 : Int → Int → Option ByteArray) (N2 : Int → Int → Option ByteArray) (x0 : ByteArray) (x9 : Int) (x10 : Int) : Tr (S ⊕ (Int × (Int × (Int × (Int × Bool))))) :=
  (.br (decide (x10 ≤ (8 : Int)))
    (.call (N2 x9 x10) default fun r0 =>
    (.br ((ByteArray.toList x0) == (ByteArray.toList r0))
      (.ret (.inr ((1 : Int), ((2 : Int), (x9, (x10, true))))))
      (.ret (.inl (.l15 x0 x9 (Go.IntKind.wrap Go.IntKind.i64 (x10 + (1 : Int))))))))
    (.ret (.inl (.l12 x0 (Go.IntKind.wrap Go.IntKind.i64 (x9 + (1 : Int)))))))
def step (N0 : Int → Option ByteArray) (N1 : Int → Int → Option ByteArray) (N2 : Int → Int → Option ByteArray) : S → Tr (S ⊕ (Int × (Int × (Int × (Int × Bool)))))
  | .l2 x0 x7 => T2 N0 N1 N2 x0 x7
  | .l7 x0 x7 x8 => T7 N0 N1 N2 x0 x7 x8
  | .l12 x0 x9 => T12 N0 N1 N2 x0 x9
  | .l15 x0 x9 x10 => T15 N0 N1 N2 x0 x9 x10
def cuts : List (Nat × Cut) := [(2, { slots := [(0, .dat .str), (7, .dat (.int .i8))], regs := [] }), (7, { slots := [(0, .dat .str), (7, .dat (.int .i8)), (8, .dat I64)], regs := [] }), (12, { slots := [(0, .dat .str), (9, .dat I64)], regs := [] }), (15, { slots := [(0, .dat .str), (9, .dat I64), (10, .dat I64)], regs := [] })]
theorem tr (N0 : Int → Option ByteArray) (N1 : Int → Int → Option ByteArray) (N2 : Int → Int → Option ByteArray) (a0 : ByteArray) (R : Out → Prop) (L : List Item → St → Prop) : evFn Tryd.prog [rovingref11_Meta.e N0, rovingref11_Log.e N1, rovingref11_Side.e N2] Tryd.f8 [.dat (.int .i8), .dat (.int .i8), .dat I64, .dat I64, .dat .bool] cuts [.dat .str a0] [] R L = (T N0 N1 N2 a0).wp (outcome Tryd.f8 idx stt mk R L) := by kernel_rfl
theorem tr2 (N0 : Int → Option ByteArray) (N1 : Int → Int → Option ByteArray) (N2 : Int → Int → Option ByteArray) (x0 : ByteArray) (x7 : Int) (R : Out → Prop) (L : List Item → St → Prop) : evLoop Tryd.prog [rovingref11_Meta.e N0, rovingref11_Log.e N1, rovingref11_Side.e N2] Tryd.f8 [.dat (.int .i8), .dat (.int .i8), .dat I64, .dat I64, .dat .bool] cuts 2 (stt (.l2 x0 x7)) [] R L = (T2 N0 N1 N2 x0 x7).wp (outcome Tryd.f8 idx stt mk R L) := by kernel_rfl
theorem tr7 (N0 : Int → Option ByteArray) (N1 : Int → Int → Option ByteArray) (N2 : Int → Int → Option ByteArray) (x0 : ByteArray) (x7 : Int) (x8 : Int) (R : Out → Prop) (L : List Item → St → Prop) : evLoop Tryd.prog [rovingref11_Meta.e N0, rovingref11_Log.e N1, rovingref11_Side.e N2] Tryd.f8 [.dat (.int .i8), .dat (.int .i8), .dat I64, .dat I64, .dat .bool] cuts 7 (stt (.l7 x0 x7 x8)) [] R L = (T7 N0 N1 N2 x0 x7 x8).wp (outcome Tryd.f8 idx stt mk R L) := by kernel_rfl
theorem tr12 (N0 : Int → Option ByteArray) (N1 : Int → Int → Option ByteArray) (N2 : Int → Int → Option ByteArray) (x0 : ByteArray) (x9 : Int) (R : Out → Prop) (L : List Item → St → Prop) : evLoop Tryd.prog [rovingref11_Meta.e N0, rovingref11_Log.e N1, rovingref11_Side.e N2] Tryd.f8 [.dat (.int .i8), .dat (.int .i8), .dat I64, .dat I64, .dat .bool] cuts 12 (stt (.l12 x0 x9)) [] R L = (T12 N0 N1 N2 x0 x9).wp (outcome Tryd.f8 idx stt mk R L) := by kernel_rfl
theorem tr15 (N0 : Int → Option ByteArray) (N1 : Int → Int → Option ByteArray) (N2 : Int → Int → Option ByteArray) (x0 : ByteArray) (x9 : Int) (x10 : Int) (R : Out → Prop) (L : List Item → St → Prop) : evLoop Tryd.prog [rovingref11_Meta.e N0, rovingref11_Log.e N1, rovingref11_Side.e N2] Tryd.f8 [.dat (.int .i8), .dat (.int .i8), .dat I64, .dat I64, .dat .bool] cuts 15 (stt (.l15 x0 x9 x10)) [] R L = (T15 N0 N1 N2 x0 x9 x10).wp (outcome Tryd.f8 idx stt mk R L) := by kernel_rfl
noncomputable def f (a0 : ByteArray) : Option (Int × (Int × (Int × (Int × Bool)))) := loopO (step rovingref11_Meta.f rovingref11_Log.f rovingref11_Side.f) (T rovingref11_Meta.f rovingref11_Log.f rovingref11_Side.f a0)
def e (N : ByteArray → Option (Int × (Int × (Int × (Int × Bool))))) : Ent := entF 8 [.dat .str] [] mk fun d g => N (d.1)
theorem ok : EntOk Tryd.prog (e f) := entOk_loop (ps := [.dat .str]) (rs := []) (mk := mk) (idx := idx) (S := stt) (step := step rovingref11_Meta.f rovingref11_Log.f rovingref11_Side.f) (T := fun d g => T rovingref11_Meta.f rovingref11_Log.f rovingref11_Side.f (d.1)) (Kit.cons rovingref11_Meta.ok (Kit.cons rovingref11_Log.ok (Kit.cons rovingref11_Side.ok (Kit.nil prog_mix)))) (by decide) (fn := Tryd.f8) (cuts := cuts) (rts := [.dat (.int .i8), .dat (.int .i8), .dat I64, .dat I64, .dat .bool])
  rfl (by decide) rfl (Nat.le_of_ble_eq_true rfl) (fun _ => rfl) (fun d g R L => tr rovingref11_Meta.f rovingref11_Log.f rovingref11_Side.f (d.1) R L) (fun s g R L => match s with
    | .l2 x0 x7 => tr2 rovingref11_Meta.f rovingref11_Log.f rovingref11_Side.f x0 x7 R L
    | .l7 x0 x7 x8 => tr7 rovingref11_Meta.f rovingref11_Log.f rovingref11_Side.f x0 x7 x8 R L
    | .l12 x0 x9 => tr12 rovingref11_Meta.f rovingref11_Log.f rovingref11_Side.f x0 x9 R L
    | .l15 x0 x9 x10 => tr15 rovingref11_Meta.f rovingref11_Log.f rovingref11_Side.f x0 x9 x10 R L)
end rovingref11_Parse

-- roving/rovinglaw11.NamesTell (0 tag, 1 part, 2 pid, 3 name, 4 tag, 5 part, 6 pid, 7 name, 9 a, 10 b, 11 c, 12 d, 13 ok, 14 e, 15 f, 16 g, 17 h, 18 is)
namespace rovinglaw11_NamesTell
def mk (b : Bool) : Out := { v := .dat .bool b }
def T (N0 : Option Bool) (N1 : ByteArray → Option (Int × (Int × (Int × (Int × Bool))))) (N2 : ByteArray → Option (Int × (Int × (Int × (Int × Bool))))) (N3 : Int → Option ByteArray) (N4 : Int → Option ByteArray) (N5 : Int → Option ByteArray) (N6 : Int → Option ByteArray) (N7 : Int → Int → Option ByteArray) (N8 : Int → Int → Option ByteArray) (N9 : Int → Int → Option ByteArray) (N10 : Int → Int → Option ByteArray) (a0 : Int) (a1 : Int) (a2 : Int) (a3 : ByteArray) : Tr (Bool) :=
  (.br (decide ((((ByteArray.size a3) : Nat) : Int) > (100 : Int)))
    (.call N0 default fun r0 =>
    (.ret r0))
    (.call (N1 a3) default fun r0 =>
    (.call (N2 a3) default fun r1 =>
    (.call (N3 a0) default fun r2 =>
    (.call (N4 a0) default fun r3 =>
    (.need ((((ByteArray.toList r2) == (ByteArray.toList r3)) = true) → ((Option.isSome (N5 a0)) = true))
    (.need ((((ByteArray.toList r2) == (ByteArray.toList r3)) = true) → ((Option.isSome (N6 a0)) = true))
    (.need (((bif ((ByteArray.toList r2) == (ByteArray.toList r3)) then ((ByteArray.toList (Option.getD (N5 a0) default)) == (ByteArray.toList (Option.getD (N6 a0) default))) else false) = true) → ((Option.isSome (N7 a0 a1)) = true))
    (.need (((bif ((ByteArray.toList r2) == (ByteArray.toList r3)) then ((ByteArray.toList (Option.getD (N5 a0) default)) == (ByteArray.toList (Option.getD (N6 a0) default))) else false) = true) → ((Option.isSome (N8 a0 a1)) = true))
    (.need (((bif (bif ((ByteArray.toList r2) == (ByteArray.toList r3)) then ((ByteArray.toList (Option.getD (N5 a0) default)) == (ByteArray.toList (Option.getD (N6 a0) default))) else false) then ((ByteArray.toList (Option.getD (N7 a0 a1) default)) == (ByteArray.toList (Option.getD (N8 a0 a1) default))) else false) = true) → ((Option.isSome (N9 a1 a2)) = true))
    (.need (((bif (bif ((ByteArray.toList r2) == (ByteArray.toList r3)) then ((ByteArray.toList (Option.getD (N5 a0) default)) == (ByteArray.toList (Option.getD (N6 a0) default))) else false) then ((ByteArray.toList (Option.getD (N7 a0 a1) default)) == (ByteArray.toList (Option.getD (N8 a0 a1) default))) else false) = true) → ((Option.isSome (N10 a1 a2)) = true))
    (.need (((bif (bif (bif (bif (bif (bif (bif (bif ((ByteArray.toList r2) == (ByteArray.toList r3)) then ((ByteArray.toList (Option.getD (N5 a0) default)) == (ByteArray.toList (Option.getD (N6 a0) default))) else false) then ((ByteArray.toList (Option.getD (N7 a0 a1) default)) == (ByteArray.toList (Option.getD (N8 a0 a1) default))) else false) then ((ByteArray.toList (Option.getD (N9 a1 a2) default)) == (ByteArray.toList (Option.getD (N10 a1 a2) default))) else false) then (r0.1 == r1.1) else false) then (r0.2.1 == r1.2.1) else false) then (r0.2.2.1 == r1.2.2.1) else false) then (r0.2.2.2.1 == r1.2.2.2.1) else false) then (Go.Abs.Ty.eqD .bool r0.2.2.2.2 r1.2.2.2.2) else false) = true) → ((Option.isSome N0) = true))
    (.ret (bif (bif (bif (bif (bif (bif (bif (bif (bif ((ByteArray.toList r2) == (ByteArray.toList r3)) then ((ByteArray.toList (Option.getD (N5 a0) default)) == (ByteArray.toList (Option.getD (N6 a0) default))) else false) then ((ByteArray.toList (Option.getD (N7 a0 a1) default)) == (ByteArray.toList (Option.getD (N8 a0 a1) default))) else false) then ((ByteArray.toList (Option.getD (N9 a1 a2) default)) == (ByteArray.toList (Option.getD (N10 a1 a2) default))) else false) then (r0.1 == r1.1) else false) then (r0.2.1 == r1.2.1) else false) then (r0.2.2.1 == r1.2.2.1) else false) then (r0.2.2.2.1 == r1.2.2.2.1) else false) then (Go.Abs.Ty.eqD .bool r0.2.2.2.2 r1.2.2.2.2) else false) then (Option.getD N0 false) else false))))))))))))))
theorem tr (N0 : Option Bool) (N1 : ByteArray → Option (Int × (Int × (Int × (Int × Bool))))) (N2 : ByteArray → Option (Int × (Int × (Int × (Int × Bool))))) (N3 : Int → Option ByteArray) (N4 : Int → Option ByteArray) (N5 : Int → Option ByteArray) (N6 : Int → Option ByteArray) (N7 : Int → Int → Option ByteArray) (N8 : Int → Int → Option ByteArray) (N9 : Int → Int → Option ByteArray) (N10 : Int → Int → Option ByteArray) (a0 : Int) (a1 : Int) (a2 : Int) (a3 : ByteArray) (R : Out → Prop) (L : List Item → St → Prop) : evFn Tryd.prog [rovinglaw11_wakes.e N0, names_Parse.e N1, rovingref11_Parse.e N2, names_Letter.e N3, rovingref11_Letter.e N4, names_Meta.e N5, rovingref11_Meta.e N6, names_Log.e N7, rovingref11_Log.e N8, names_Side.e N9, rovingref11_Side.e N10] Tryd.f3 [.dat .bool] [] [.dat (.int .i8) a0, .dat I64 a1, .dat I64 a2, .dat .str a3] [] R L = (T N0 N1 N2 N3 N4 N5 N6 N7 N8 N9 N10 a0 a1 a2 a3).wp (fun b => R (mk b)) := by kernel_rfl
noncomputable def f (a0 : Int) (a1 : Int) (a2 : Int) (a3 : ByteArray) : Option Bool := (T rovinglaw11_wakes.f names_Parse.f rovingref11_Parse.f names_Letter.f rovingref11_Letter.f names_Meta.f rovingref11_Meta.f names_Log.f rovingref11_Log.f names_Side.f rovingref11_Side.f a0 a1 a2 a3).opt
def e (N : Int → Int → Int → ByteArray → Option Bool) : Ent := entF 3 [.dat (.int .i8), .dat I64, .dat I64, .dat .str] [] mk fun d g => N (d.1) (d.2.1) (d.2.2.1) (d.2.2.2.1)
theorem ok : EntOk Tryd.prog (e f) := entOk_tree (ps := [.dat (.int .i8), .dat I64, .dat I64, .dat .str]) (rs := []) (mk := mk) (T := fun d g => T rovinglaw11_wakes.f names_Parse.f rovingref11_Parse.f names_Letter.f rovingref11_Letter.f names_Meta.f rovingref11_Meta.f names_Log.f rovingref11_Log.f names_Side.f rovingref11_Side.f (d.1) (d.2.1) (d.2.2.1) (d.2.2.2.1)) (Kit.cons rovinglaw11_wakes.ok (Kit.cons names_Parse.ok (Kit.cons rovingref11_Parse.ok (Kit.cons names_Letter.ok (Kit.cons rovingref11_Letter.ok (Kit.cons names_Meta.ok (Kit.cons rovingref11_Meta.ok (Kit.cons names_Log.ok (Kit.cons rovingref11_Log.ok (Kit.cons names_Side.ok (Kit.cons rovingref11_Side.ok (Kit.nil prog_mix)))))))))))) (by decide) (fn := Tryd.f3) (cuts := []) (rts := [.dat .bool])
  rfl (by decide) rfl (Nat.le_of_ble_eq_true rfl) (fun _ => rfl) (fun d g R L => tr rovinglaw11_wakes.f names_Parse.f rovingref11_Parse.f names_Letter.f rovingref11_Letter.f names_Meta.f rovingref11_Meta.f names_Log.f rovingref11_Log.f names_Side.f rovingref11_Side.f (d.1) (d.2.1) (d.2.2.1) (d.2.2.2.1) R L)
end rovinglaw11_NamesTell

-- roving/rovingref03.Name (0 s, 1 s, 3 i, 4 c)
namespace rovingref03_Name
def mk (b : Bool) : Out := { v := .dat .bool b }
inductive S where
  | l2 (x0 : ByteArray) (x3 : Int)
def idx : S → Nat
  | .l2 _ _ => 2
def stt : S → St
  | .l2 x0 x3 => st 41 [(0, .dat .str x0), (3, .dat I64 x3)] []
def T (a0 : ByteArray) : Tr (S ⊕ Bool) :=
  (.ret (.inl (.l2 a0 (0 : Int))))
def T2 (x0 : ByteArray) (x3 : Int) : Tr (S ⊕ Bool) :=
  (.br (decide (x3 < (((ByteArray.size x0) : Nat) : Int)))
    (.need (((0 : Int) ≤ x3) ∧ (x3 < (((ByteArray.size x0) : Nat) : Int)))
    (.br (!(bif (bif (bif (decide ((((UInt8.toNat (Option.getD (GetElem?.getElem? x0 (Int.toNat x3)) (0 : UInt8))) : Nat) : Int) ≥ (97 : Int))) then (decide ((((UInt8.toNat (Option.getD (GetElem?.getElem? x0 (Int.toNat x3)) (0 : UInt8))) : Nat) : Int) ≤ (122 : Int))) else false) then true else (bif (decide ((((UInt8.toNat (Option.getD (GetElem?.getElem? x0 (Int.toNat x3)) (0 : UInt8))) : Nat) : Int) ≥ (48 : Int))) then (decide ((((UInt8.toNat (Option.getD (GetElem?.getElem? x0 (Int.toNat x3)) (0 : UInt8))) : Nat) : Int) ≤ (57 : Int))) else false)) then true else ((((UInt8.toNat (Option.getD (GetElem?.getElem? x0 (Int.toNat x3)) (0 : UInt8))) : Nat) : Int) == (46 : Int))))
      (.ret (.inr false))
      (.ret (.inl (.l2 x0 (Go.IntKind.wrap Go.IntKind.i64 (x3 + (1 : Int))))))))
    (.ret (.inr (bif (decide ((((ByteArray.size x0) : Nat) : Int) ≥ (1 : Int))) then (decide ((((ByteArray.size x0) : Nat) : Int) ≤ (8 : Int))) else false))))
def step : S → Tr (S ⊕ Bool)
  | .l2 x0 x3 => T2 x0 x3
def cuts : List (Nat × Cut) := [(2, { slots := [(0, .dat .str), (3, .dat I64)], regs := [] })]
theorem tr (a0 : ByteArray) (R : Out → Prop) (L : List Item → St → Prop) : evFn Tryd.prog [] Tryd.f17 [.dat .bool] cuts [.dat .str a0] [] R L = (T a0).wp (outcome Tryd.f17 idx stt mk R L) := by kernel_rfl
theorem tr2 (x0 : ByteArray) (x3 : Int) (R : Out → Prop) (L : List Item → St → Prop) : evLoop Tryd.prog [] Tryd.f17 [.dat .bool] cuts 2 (stt (.l2 x0 x3)) [] R L = (T2 x0 x3).wp (outcome Tryd.f17 idx stt mk R L) := by kernel_rfl
noncomputable def f (a0 : ByteArray) : Option Bool := loopO (step) (T a0)
def e (N : ByteArray → Option Bool) : Ent := entF 17 [.dat .str] [] mk fun d g => N (d.1)
theorem ok : EntOk Tryd.prog (e f) := entOk_loop (ps := [.dat .str]) (rs := []) (mk := mk) (idx := idx) (S := stt) (step := step) (T := fun d g => T (d.1)) (Kit.nil prog_mix) (by decide) (fn := Tryd.f17) (cuts := cuts) (rts := [.dat .bool])
  rfl (by decide) rfl (Nat.le_of_ble_eq_true rfl) (fun _ => rfl) (fun d g R L => tr (d.1) R L) (fun s g R L => match s with
    | .l2 x0 x3 => tr2 x0 x3 R L)
end rovingref03_Name

-- roving/rovinglaw11.NamesBack (0 tag, 1 other, 2 part, 3 to, 4 pid, 5 who, 6 tag, 7 other, 8 part, 9 to, 10 pid, 11 who, 13 l, 14 m, 15 k, 16 s, 17 t, 18 kind, 19 q, 20 p, 21 ok, 22 j, 23 r, 24 alike)
namespace rovinglaw11_NamesBack
def mk (b : Bool) : Out := { v := .dat .bool b }
inductive S where
  | l4 (x0 : Int) (x1 : Int) (x2 : Int) (x3 : Int) (x4 : Int) (x5 : Int) (x14 : (List ByteArray)) (x43 : (List ByteArray)) (x44 : Int) (x45 : Int)
  | l11 (x0 : Int) (x1 : Int) (x2 : Int) (x3 : Int) (x4 : Int) (x5 : Int) (x14 : (List ByteArray)) (x15 : Int) (x16 : ByteArray) (x43 : (List ByteArray)) (x44 : Int) (x45 : Int) (x136 : (List ByteArray)) (x137 : Int) (x138 : Int)
def idx : S → Nat
  | .l4 _ _ _ _ _ _ _ _ _ _ => 4
  | .l11 _ _ _ _ _ _ _ _ _ _ _ _ _ _ _ => 11
def stt : S → St
  | .l4 x0 x1 x2 x3 x4 x5 x14 x43 x44 x45 => st 181 [(0, .dat (.int .i8) x0), (1, .dat (.int .i8) x1), (2, .dat I64 x2), (3, .dat I64 x3), (4, .dat I64 x4), (5, .dat I64 x5), (14, .dat (.list .str) x14), (43, .dat (.list .str) x43), (44, .dat I64 x44), (45, .dat I64 x45)] []
  | .l11 x0 x1 x2 x3 x4 x5 x14 x15 x16 x43 x44 x45 x136 x137 x138 => st 181 [(0, .dat (.int .i8) x0), (1, .dat (.int .i8) x1), (2, .dat I64 x2), (3, .dat I64 x3), (4, .dat I64 x4), (5, .dat I64 x5), (14, .dat (.list .str) x14), (15, .dat I64 x15), (16, .dat .str x16), (43, .dat (.list .str) x43), (44, .dat I64 x44), (45, .dat I64 x45), (136, .dat (.list .str) x136), (137, .dat I64 x137), (138, .dat I64 x138)] []
def T (N0 : Int → Option ByteArray) (N1 : Int → Int → Option ByteArray) (N2 : Int → Int → Option ByteArray) (N3 : ByteArray → Option (Int × (Int × (Int × (Int × Bool))))) (N4 : Option Bool) (N5 : ByteArray → Option Bool) (a0 : Int) (a1 : Int) (a2 : Int) (a3 : Int) (a4 : Int) (a5 : Int) : Tr (S ⊕ Bool) :=
  (.call (N0 a0) default fun r0 =>
  (.call (N1 a0 a2) default fun r1 =>
  (.call (N2 a2 a4) default fun r2 =>
  (.call (N0 a1) default fun r3 =>
  (.call (N1 a1 a3) default fun r4 =>
  (.call (N2 a3 a5) default fun r5 =>
  (.ret (.inl (.l4 a0 a1 a2 a3 a4 a5 (r3 :: (r4 :: (r5 :: ([] : List ByteArray)))) (r0 :: (r1 :: (r2 :: ([] : List ByteArray)))) (((List.length (r0 :: (r1 :: (r2 :: ([] : List ByteArray))))) : Nat) : Int) (0 : Int))))))))))
def T4 (N0 : Int → Option ByteArray) (N1 : Int → Int → Option ByteArray) (N2 : Int → Int → Option ByteArray) (N3 : ByteArray → Option (Int × (Int × (Int × (Int × Bool))))) (N4 : Option Bool) (N5 : ByteArray → Option Bool) (x0 : Int) (x1 : Int) (x2 : Int) (x3 : Int) (x4 : Int) (x5 : Int) (x14 : (List ByteArray)) (x43 : (List ByteArray)) (x44 : Int) (x45 : Int) : Tr (S ⊕ Bool) :=
  (.br (decide (x45 < x44))
    (.need (((0 : Int) ≤ x45) ∧ (x45 < (((List.length x43) : Nat) : Int)))
    (.br ((ByteArray.toList (List.getD x43 (Int.toNat x45) (Ty.dflt .str))) == (ByteArray.toList (ByteArray.mk (List.toArray ([] : List UInt8)))))
      (.ret (.inl (.l4 x0 x1 x2 x3 x4 x5 x14 x43 x44 (Go.IntKind.wrap Go.IntKind.i64 (x45 + (1 : Int))))))
      (.call (N3 (List.getD x43 (Int.toNat x45) (Ty.dflt .str))) default fun r0 =>
      (.need (((bif (!r0.2.2.2.2) then true else ((Go.IntKind.wrap Go.IntKind.i64 r0.2.1) != x45)) = false) → ((Option.isSome (N5 (List.getD x43 (Int.toNat x45) (Ty.dflt .str)))) = true))
      (.br (bif (bif (bif (bif (bif (bif (bif (bif (bif (bif (!r0.2.2.2.2) then true else ((Go.IntKind.wrap Go.IntKind.i64 r0.2.1) != x45)) then true else (!(Option.getD (N5 (List.getD x43 (Int.toNat x45) (Ty.dflt .str))) false))) then true else (bif (decide (x45 < (2 : Int))) then (r0.1 != x0) else false)) then true else (bif (x45 == (2 : Int)) then (r0.1 != (1 : Int)) else false)) then true else (bif (decide (x45 > (0 : Int))) then (r0.2.2.1 != x2) else false)) then true else (bif (x45 == (2 : Int)) then (r0.2.2.2.1 != x4) else false)) then true else (bif (x45 == (0 : Int)) then (bif (r0.2.2.1 != (0 : Int)) then true else (r0.2.2.2.1 != (0 : Int))) else false)) then true else (bif (x45 == (1 : Int)) then (r0.2.2.2.1 != (0 : Int)) else false)) then true else ((ByteArray.toList (List.getD x43 (Int.toNat x45) (Ty.dflt .str))) == (ByteArray.toList (ByteArray.mk (List.toArray ((116 : UInt8) :: ([] : List UInt8))))))) then true else ((ByteArray.toList (List.getD x43 (Int.toNat x45) (Ty.dflt .str))) == (ByteArray.toList (ByteArray.mk (List.toArray ((120 : UInt8) :: ([] : List UInt8)))))))
        (.ret (.inr false))
        (.ret (.inl (.l11 x0 x1 x2 x3 x4 x5 x14 x45 (List.getD x43 (Int.toNat x45) (Ty.dflt .str)) x43 x44 x45 x14 (((List.length x14) : Nat) : Int) (0 : Int)))))))))
    (.call N4 default fun r0 =>
    (.ret (.inr r0))))
def T11 (N0 : Int → Option ByteArray) (N1 : Int → Int → Option ByteArray) (N2 : Int → Int → Option ByteArray) (N3 : ByteArray → Option (Int × (Int × (Int × (Int × Bool))))) (N4 : Option Bool) (N5 : ByteArray → Option Bool) (x0 : Int) (x1 : Int) (x2 : Int) (x3 : Int) (x4 : Int) (x5 : Int) (x14 : (List ByteArray)) (x15 : Int) (x16 : ByteArray) (x43 : (List ByteArray)) (x44 : Int) (x45 : Int) (x136 : (List ByteArray)) (x137 : Int) (x138 : Int) : Tr (S ⊕ Bool) :=
  (.br (decide (x138 < x137))
    (.need (((0 : Int) ≤ x138) ∧ (x138 < (((List.length x136) : Nat) : Int)))
    (.br (!(Go.Abs.Ty.eqD .bool ((ByteArray.toList x16) == (ByteArray.toList (List.getD x136 (Int.toNat x138) (Ty.dflt .str)))) (bif (bif (bif (x15 == x138) then (bif (x15 == (2 : Int)) then true else (x0 == x1)) else false) then (bif (x15 == (0 : Int)) then true else (x2 == x3)) else false) then (bif (decide (x15 < (2 : Int))) then true else (x4 == x5)) else false)))
      (.ret (.inr false))
      (.ret (.inl (.l11 x0 x1 x2 x3 x4 x5 x14 x15 x16 x43 x44 x45 x136 x137 (Go.IntKind.wrap Go.IntKind.i64 (x138 + (1 : Int))))))))
    (.ret (.inl (.l4 x0 x1 x2 x3 x4 x5 x14 x43 x44 (Go.IntKind.wrap Go.IntKind.i64 (x45 + (1 : Int)))))))
def step (N0 : Int → Option ByteArray) (N1 : Int → Int → Option ByteArray) (N2 : Int → Int → Option ByteArray) (N3 : ByteArray → Option (Int × (Int × (Int × (Int × Bool))))) (N4 : Option Bool) (N5 : ByteArray → Option Bool) : S → Tr (S ⊕ Bool)
  | .l4 x0 x1 x2 x3 x4 x5 x14 x43 x44 x45 => T4 N0 N1 N2 N3 N4 N5 x0 x1 x2 x3 x4 x5 x14 x43 x44 x45
  | .l11 x0 x1 x2 x3 x4 x5 x14 x15 x16 x43 x44 x45 x136 x137 x138 => T11 N0 N1 N2 N3 N4 N5 x0 x1 x2 x3 x4 x5 x14 x15 x16 x43 x44 x45 x136 x137 x138
def cuts : List (Nat × Cut) := [(4, { slots := [(0, .dat (.int .i8)), (1, .dat (.int .i8)), (2, .dat I64), (3, .dat I64), (4, .dat I64), (5, .dat I64), (14, .dat (.list .str)), (43, .dat (.list .str)), (44, .dat I64), (45, .dat I64)], regs := [] }), (11, { slots := [(0, .dat (.int .i8)), (1, .dat (.int .i8)), (2, .dat I64), (3, .dat I64), (4, .dat I64), (5, .dat I64), (14, .dat (.list .str)), (15, .dat I64), (16, .dat .str), (43, .dat (.list .str)), (44, .dat I64), (45, .dat I64), (136, .dat (.list .str)), (137, .dat I64), (138, .dat I64)], regs := [] })]
theorem tr (N0 : Int → Option ByteArray) (N1 : Int → Int → Option ByteArray) (N2 : Int → Int → Option ByteArray) (N3 : ByteArray → Option (Int × (Int × (Int × (Int × Bool))))) (N4 : Option Bool) (N5 : ByteArray → Option Bool) (a0 : Int) (a1 : Int) (a2 : Int) (a3 : Int) (a4 : Int) (a5 : Int) (R : Out → Prop) (L : List Item → St → Prop) : evFn Tryd.prog [names_Meta.e N0, names_Log.e N1, names_Side.e N2, names_Parse.e N3, rovinglaw11_wakes.e N4, rovingref03_Name.e N5] Tryd.f4 [.dat .bool] cuts [.dat (.int .i8) a0, .dat (.int .i8) a1, .dat I64 a2, .dat I64 a3, .dat I64 a4, .dat I64 a5] [] R L = (T N0 N1 N2 N3 N4 N5 a0 a1 a2 a3 a4 a5).wp (outcome Tryd.f4 idx stt mk R L) := by kernel_rfl
theorem tr4 (N0 : Int → Option ByteArray) (N1 : Int → Int → Option ByteArray) (N2 : Int → Int → Option ByteArray) (N3 : ByteArray → Option (Int × (Int × (Int × (Int × Bool))))) (N4 : Option Bool) (N5 : ByteArray → Option Bool) (x0 : Int) (x1 : Int) (x2 : Int) (x3 : Int) (x4 : Int) (x5 : Int) (x14 : (List ByteArray)) (x43 : (List ByteArray)) (x44 : Int) (x45 : Int) (R : Out → Prop) (L : List Item → St → Prop) : evLoop Tryd.prog [names_Meta.e N0, names_Log.e N1, names_Side.e N2, names_Parse.e N3, rovinglaw11_wakes.e N4, rovingref03_Name.e N5] Tryd.f4 [.dat .bool] cuts 4 (stt (.l4 x0 x1 x2 x3 x4 x5 x14 x43 x44 x45)) [] R L = (T4 N0 N1 N2 N3 N4 N5 x0 x1 x2 x3 x4 x5 x14 x43 x44 x45).wp (outcome Tryd.f4 idx stt mk R L) := by kernel_rfl
theorem tr11 (N0 : Int → Option ByteArray) (N1 : Int → Int → Option ByteArray) (N2 : Int → Int → Option ByteArray) (N3 : ByteArray → Option (Int × (Int × (Int × (Int × Bool))))) (N4 : Option Bool) (N5 : ByteArray → Option Bool) (x0 : Int) (x1 : Int) (x2 : Int) (x3 : Int) (x4 : Int) (x5 : Int) (x14 : (List ByteArray)) (x15 : Int) (x16 : ByteArray) (x43 : (List ByteArray)) (x44 : Int) (x45 : Int) (x136 : (List ByteArray)) (x137 : Int) (x138 : Int) (R : Out → Prop) (L : List Item → St → Prop) : evLoop Tryd.prog [names_Meta.e N0, names_Log.e N1, names_Side.e N2, names_Parse.e N3, rovinglaw11_wakes.e N4, rovingref03_Name.e N5] Tryd.f4 [.dat .bool] cuts 11 (stt (.l11 x0 x1 x2 x3 x4 x5 x14 x15 x16 x43 x44 x45 x136 x137 x138)) [] R L = (T11 N0 N1 N2 N3 N4 N5 x0 x1 x2 x3 x4 x5 x14 x15 x16 x43 x44 x45 x136 x137 x138).wp (outcome Tryd.f4 idx stt mk R L) := by kernel_rfl
noncomputable def f (a0 : Int) (a1 : Int) (a2 : Int) (a3 : Int) (a4 : Int) (a5 : Int) : Option Bool := loopO (step names_Meta.f names_Log.f names_Side.f names_Parse.f rovinglaw11_wakes.f rovingref03_Name.f) (T names_Meta.f names_Log.f names_Side.f names_Parse.f rovinglaw11_wakes.f rovingref03_Name.f a0 a1 a2 a3 a4 a5)
def e (N : Int → Int → Int → Int → Int → Int → Option Bool) : Ent := entF 4 [.dat (.int .i8), .dat (.int .i8), .dat I64, .dat I64, .dat I64, .dat I64] [] mk fun d g => N (d.1) (d.2.1) (d.2.2.1) (d.2.2.2.1) (d.2.2.2.2.1) (d.2.2.2.2.2.1)
theorem ok : EntOk Tryd.prog (e f) := entOk_loop (ps := [.dat (.int .i8), .dat (.int .i8), .dat I64, .dat I64, .dat I64, .dat I64]) (rs := []) (mk := mk) (idx := idx) (S := stt) (step := step names_Meta.f names_Log.f names_Side.f names_Parse.f rovinglaw11_wakes.f rovingref03_Name.f) (T := fun d g => T names_Meta.f names_Log.f names_Side.f names_Parse.f rovinglaw11_wakes.f rovingref03_Name.f (d.1) (d.2.1) (d.2.2.1) (d.2.2.2.1) (d.2.2.2.2.1) (d.2.2.2.2.2.1)) (Kit.cons names_Meta.ok (Kit.cons names_Log.ok (Kit.cons names_Side.ok (Kit.cons names_Parse.ok (Kit.cons rovinglaw11_wakes.ok (Kit.cons rovingref03_Name.ok (Kit.nil prog_mix))))))) (by decide) (fn := Tryd.f4) (cuts := cuts) (rts := [.dat .bool])
  rfl (by decide) rfl (Nat.le_of_ble_eq_true rfl) (fun _ => rfl) (fun d g R L => tr names_Meta.f names_Log.f names_Side.f names_Parse.f rovinglaw11_wakes.f rovingref03_Name.f (d.1) (d.2.1) (d.2.2.1) (d.2.2.2.1) (d.2.2.2.2.1) (d.2.2.2.2.2.1) R L) (fun s g R L => match s with
    | .l4 x0 x1 x2 x3 x4 x5 x14 x43 x44 x45 => tr4 names_Meta.f names_Log.f names_Side.f names_Parse.f rovinglaw11_wakes.f rovingref03_Name.f x0 x1 x2 x3 x4 x5 x14 x43 x44 x45 R L
    | .l11 x0 x1 x2 x3 x4 x5 x14 x15 x16 x43 x44 x45 x136 x137 x138 => tr11 names_Meta.f names_Log.f names_Side.f names_Parse.f rovinglaw11_wakes.f rovingref03_Name.f x0 x1 x2 x3 x4 x5 x14 x15 x16 x43 x44 x45 x136 x137 x138 R L)
end rovinglaw11_NamesBack

-- roving/rovingref03.Great (0 d, 1 d, 3 i)
namespace rovingref03_Great
def mk (b : Bool) : Out := { v := .dat .bool b }
inductive S where
  | l4 (x3 : Int) (g0x0 : DiskD)
def idx : S → Nat
  | .l4 _ _ => 4
def stt : S → St
  | .l4 x3 g0x0 => st 33 [(1, .ref 0 0), (3, .dat I64 x3)] [.cells [.dat DiskT g0x0]]
def T (a0 : DiskD) : Tr (S ⊕ Bool) :=
  (.br (decide ((((List.length a0.1) : Nat) : Int) > (100 : Int)))
    (.ret (.inr true))
    (.ret (.inl (.l4 (0 : Int) a0))))
def T4 (x3 : Int) (g0x0 : DiskD) : Tr (S ⊕ Bool) :=
  (.br (decide (x3 < (((List.length g0x0.1) : Nat) : Int)))
    (.need (((0 : Int) ≤ x3) ∧ (x3 < (((List.length g0x0.1) : Nat) : Int)))
    (.need (((decide ((((ByteArray.size (List.getD g0x0.1 (Int.toNat x3) (Ty.dflt FileT)).2.1) : Nat) : Int) > (131072 : Int))) = false) → (((0 : Int) ≤ x3) ∧ (x3 < (((List.length g0x0.1) : Nat) : Int))))
    (.br (bif (decide ((((ByteArray.size (List.getD g0x0.1 (Int.toNat x3) (Ty.dflt FileT)).2.1) : Nat) : Int) > (131072 : Int))) then true else (decide ((((ByteArray.size (List.getD g0x0.1 (Int.toNat x3) (Ty.dflt FileT)).1) : Nat) : Int) > (100 : Int))))
      (.ret (.inr true))
      (.ret (.inl (.l4 (Go.IntKind.wrap Go.IntKind.i64 (x3 + (1 : Int))) g0x0))))))
    (.ret (.inr false)))
def step : S → Tr (S ⊕ Bool)
  | .l4 x3 g0x0 => T4 x3 g0x0
def cuts : List (Nat × Cut) := [(4, { slots := [(1, .ref 0 0), (3, .dat I64)], regs := [.cells (.slot 1) [.dat DiskT]] })]
theorem tr (a0 : DiskD) (R : Out → Prop) (L : List Item → St → Prop) : evFn Tryd.prog [] Tryd.f18 [.dat .bool] cuts [.dat DiskT a0] [] R L = (T a0).wp (outcome Tryd.f18 idx stt mk R L) := by kernel_rfl
theorem tr4 (x3 : Int) (g0x0 : DiskD) (R : Out → Prop) (L : List Item → St → Prop) : evLoop Tryd.prog [] Tryd.f18 [.dat .bool] cuts 4 (stt (.l4 x3 g0x0)) [] R L = (T4 x3 g0x0).wp (outcome Tryd.f18 idx stt mk R L) := by kernel_rfl
noncomputable def f (a0 : DiskD) : Option Bool := loopO (step) (T a0)
def e (N : DiskD → Option Bool) : Ent := entF 18 [.dat DiskT] [] mk fun d g => N (d.1)
theorem ok : EntOk Tryd.prog (e f) := entOk_loop (ps := [.dat DiskT]) (rs := []) (mk := mk) (idx := idx) (S := stt) (step := step) (T := fun d g => T (d.1)) (Kit.nil prog_mix) (by decide) (fn := Tryd.f18) (cuts := cuts) (rts := [.dat .bool])
  rfl (by decide) rfl (Nat.le_of_ble_eq_true rfl) (fun _ => rfl) (fun d g R L => tr (d.1) R L) (fun s g R L => match s with
    | .l4 x3 g0x0 => tr4 x3 g0x0 R L)
end rovingref03_Great

-- roving/names.Of (0 d, 1 tag, 2 d, 3 tag, 4 out, 5 _, 6 f, 7 t, 8 _, 9 _, 10 _, 11 ok)
namespace names_Of
def mk (b : (List ByteArray)) : Out := { v := .dat (.list .str) b }
inductive S where
  | l2 (x1 : Int) (x13 : (List FileD)) (x14 : Int) (x15 : Int) (g0 : (List ByteArray))
def idx : S → Nat
  | .l2 _ _ _ _ _ => 2
def stt : S → St
  | .l2 x1 x13 x14 x15 g0 => st 41 [(1, .dat (.int .i8) x1), (4, .arr 0), (13, .dat (.list FileT) x13), (14, .dat I64 x14), (15, .dat I64 x15)] [.own .str g0]
def T (N0 : ByteArray → Option (Int × (Int × (Int × (Int × Bool))))) (a0 : DiskD) (a1 : Int) : Tr (S ⊕ (List ByteArray)) :=
  (.ret (.inl (.l2 a1 a0.1 (((List.length a0.1) : Nat) : Int) (0 : Int) ([] : List ByteArray))))
def T2 (N0 : ByteArray → Option (Int × (Int × (Int × (Int × Bool))))) (x1 : Int) (x13 : (List FileD)) (x14 : Int) (x15 : Int) (g0 : (List ByteArray)) : Tr (S ⊕ (List ByteArray)) :=
  (.br (decide (x15 < x14))
    (.need (((0 : Int) ≤ x15) ∧ (x15 < (((List.length x13) : Nat) : Int)))
    (.call (N0 (List.getD x13 (Int.toNat x15) (Ty.dflt FileT)).1) default fun r0 =>
    (.br (bif r0.2.2.2.2 then (r0.1 == x1) else false)
      (.need (((List.length g0) + (List.length ((List.getD x13 (Int.toNat x15) (Ty.dflt FileT)).1 :: ([] : List ByteArray)))) ≤ 8796093022208)
      (.ret (.inl (.l2 x1 x13 x14 (Go.IntKind.wrap Go.IntKind.i64 (x15 + (1 : Int))) (g0 ++ ((List.getD x13 (Int.toNat x15) (Ty.dflt FileT)).1 :: ([] : List ByteArray)))))))
      (.ret (.inl (.l2 x1 x13 x14 (Go.IntKind.wrap Go.IntKind.i64 (x15 + (1 : Int))) g0))))))
    (.ret (.inr g0)))
def step (N0 : ByteArray → Option (Int × (Int × (Int × (Int × Bool))))) : S → Tr (S ⊕ (List ByteArray))
  | .l2 x1 x13 x14 x15 g0 => T2 N0 x1 x13 x14 x15 g0
def cuts : List (Nat × Cut) := [(2, { slots := [(1, .dat (.int .i8)), (4, .arr 0), (13, .dat (.list FileT)), (14, .dat I64), (15, .dat I64)], regs := [.own (.slot 4) .str] })]
theorem tr (N0 : ByteArray → Option (Int × (Int × (Int × (Int × Bool))))) (a0 : DiskD) (a1 : Int) (R : Out → Prop) (L : List Item → St → Prop) : evFn Tryd.prog [names_Parse.e N0] Tryd.f19 [.dat (.list .str)] cuts [.dat DiskT a0, .dat (.int .i8) a1] [] R L = (T N0 a0 a1).wp (outcome Tryd.f19 idx stt mk R L) := by kernel_rfl
theorem tr2 (N0 : ByteArray → Option (Int × (Int × (Int × (Int × Bool))))) (x1 : Int) (x13 : (List FileD)) (x14 : Int) (x15 : Int) (g0 : (List ByteArray)) (R : Out → Prop) (L : List Item → St → Prop) : evLoop Tryd.prog [names_Parse.e N0] Tryd.f19 [.dat (.list .str)] cuts 2 (stt (.l2 x1 x13 x14 x15 g0)) [] R L = (T2 N0 x1 x13 x14 x15 g0).wp (outcome Tryd.f19 idx stt mk R L) := by kernel_rfl
noncomputable def f (a0 : DiskD) (a1 : Int) : Option (List ByteArray) := loopO (step names_Parse.f) (T names_Parse.f a0 a1)
def e (N : DiskD → Int → Option (List ByteArray)) : Ent := entF 19 [.dat DiskT, .dat (.int .i8)] [] mk fun d g => N (d.1) (d.2.1)
theorem ok : EntOk Tryd.prog (e f) := entOk_loop (ps := [.dat DiskT, .dat (.int .i8)]) (rs := []) (mk := mk) (idx := idx) (S := stt) (step := step names_Parse.f) (T := fun d g => T names_Parse.f (d.1) (d.2.1)) (Kit.cons names_Parse.ok (Kit.nil prog_mix)) (by decide) (fn := Tryd.f19) (cuts := cuts) (rts := [.dat (.list .str)])
  rfl (by decide) rfl (Nat.le_of_ble_eq_true rfl) (fun _ => rfl) (fun d g R L => tr names_Parse.f (d.1) (d.2.1) R L) (fun s g R L => match s with
    | .l2 x1 x13 x14 x15 g0 => tr2 names_Parse.f x1 x13 x14 x15 g0 R L)
end names_Of

-- roving/rovinglaw11.NamesApart (0 d, 1 d, 3 n, 4 _, 5 f, 6 _, 7 _, 8 _, 9 _, 10 ok)
namespace rovinglaw11_NamesApart
def mk (b : Bool) : Out := { v := .dat .bool b }
inductive S where
  | l5 (x3 : Int) (x15 : (List FileD)) (x16 : Int) (x17 : Int) (g0x0 : DiskD)
def idx : S → Nat
  | .l5 _ _ _ _ _ => 5
def stt : S → St
  | .l5 x3 x15 x16 x17 g0x0 => st 58 [(1, .ref 0 0), (3, .dat I64 x3), (15, .dat (.list FileT) x15), (16, .dat I64 x16), (17, .dat I64 x17)] [.cells [.dat DiskT g0x0]]
def T (N0 : DiskD → Option Bool) (N1 : Option Bool) (N2 : ByteArray → Option (Int × (Int × (Int × (Int × Bool))))) (N3 : DiskD → Int → Option (List ByteArray)) (a0 : DiskD) : Tr (S ⊕ Bool) :=
  (.call (N0 a0) default fun r0 =>
  (.br r0
    (.call N1 default fun r1 =>
    (.ret (.inr r1)))
    (.ret (.inl (.l5 (0 : Int) a0.1 (((List.length a0.1) : Nat) : Int) (0 : Int) a0)))))
def T5 (N0 : DiskD → Option Bool) (N1 : Option Bool) (N2 : ByteArray → Option (Int × (Int × (Int × (Int × Bool))))) (N3 : DiskD → Int → Option (List ByteArray)) (x3 : Int) (x15 : (List FileD)) (x16 : Int) (x17 : Int) (g0x0 : DiskD) : Tr (S ⊕ Bool) :=
  (.br (decide (x17 < x16))
    (.need (((0 : Int) ≤ x17) ∧ (x17 < (((List.length x15) : Nat) : Int)))
    (.call (N2 (List.getD x15 (Int.toNat x17) (Ty.dflt FileT)).1) default fun r0 =>
    (.br r0.2.2.2.2
      (.ret (.inl (.l5 (Go.IntKind.wrap Go.IntKind.i64 (x3 + (1 : Int))) x15 x16 (Go.IntKind.wrap Go.IntKind.i64 (x17 + (1 : Int))) g0x0)))
      (.ret (.inl (.l5 x3 x15 x16 (Go.IntKind.wrap Go.IntKind.i64 (x17 + (1 : Int))) g0x0))))))
    (.call (N3 g0x0 (0 : Int)) default fun r0 =>
    (.call (N3 g0x0 (1 : Int)) default fun r1 =>
    (.need ((((Go.IntKind.wrap Go.IntKind.i64 ((((List.length r0) : Nat) : Int) + (((List.length r1) : Nat) : Int))) == x3) = true) → ((Option.isSome (N3 g0x0 (2 : Int))) = true))
    (.need (((bif ((Go.IntKind.wrap Go.IntKind.i64 ((((List.length r0) : Nat) : Int) + (((List.length r1) : Nat) : Int))) == x3) then ((((List.length (Option.getD (N3 g0x0 (2 : Int)) default)) : Nat) : Int) == (0 : Int)) else false) = true) → ((Option.isSome (N3 g0x0 (-(1 : Int)))) = true))
    (.need (((bif (bif ((Go.IntKind.wrap Go.IntKind.i64 ((((List.length r0) : Nat) : Int) + (((List.length r1) : Nat) : Int))) == x3) then ((((List.length (Option.getD (N3 g0x0 (2 : Int)) default)) : Nat) : Int) == (0 : Int)) else false) then ((((List.length (Option.getD (N3 g0x0 (-(1 : Int))) default)) : Nat) : Int) == (0 : Int)) else false) = true) → ((Option.isSome N1) = true))
    (.ret (.inr (bif (bif (bif ((Go.IntKind.wrap Go.IntKind.i64 ((((List.length r0) : Nat) : Int) + (((List.length r1) : Nat) : Int))) == x3) then ((((List.length (Option.getD (N3 g0x0 (2 : Int)) default)) : Nat) : Int) == (0 : Int)) else false) then ((((List.length (Option.getD (N3 g0x0 (-(1 : Int))) default)) : Nat) : Int) == (0 : Int)) else false) then (Option.getD N1 false) else false)))))))))
def step (N0 : DiskD → Option Bool) (N1 : Option Bool) (N2 : ByteArray → Option (Int × (Int × (Int × (Int × Bool))))) (N3 : DiskD → Int → Option (List ByteArray)) : S → Tr (S ⊕ Bool)
  | .l5 x3 x15 x16 x17 g0x0 => T5 N0 N1 N2 N3 x3 x15 x16 x17 g0x0
def cuts : List (Nat × Cut) := [(5, { slots := [(1, .ref 0 0), (3, .dat I64), (15, .dat (.list FileT)), (16, .dat I64), (17, .dat I64)], regs := [.cells (.slot 1) [.dat DiskT]] })]
theorem tr (N0 : DiskD → Option Bool) (N1 : Option Bool) (N2 : ByteArray → Option (Int × (Int × (Int × (Int × Bool))))) (N3 : DiskD → Int → Option (List ByteArray)) (a0 : DiskD) (R : Out → Prop) (L : List Item → St → Prop) : evFn Tryd.prog [rovingref03_Great.e N0, rovinglaw11_wakes.e N1, names_Parse.e N2, names_Of.e N3] Tryd.f5 [.dat .bool] cuts [.dat DiskT a0] [] R L = (T N0 N1 N2 N3 a0).wp (outcome Tryd.f5 idx stt mk R L) := by kernel_rfl
theorem tr5 (N0 : DiskD → Option Bool) (N1 : Option Bool) (N2 : ByteArray → Option (Int × (Int × (Int × (Int × Bool))))) (N3 : DiskD → Int → Option (List ByteArray)) (x3 : Int) (x15 : (List FileD)) (x16 : Int) (x17 : Int) (g0x0 : DiskD) (R : Out → Prop) (L : List Item → St → Prop) : evLoop Tryd.prog [rovingref03_Great.e N0, rovinglaw11_wakes.e N1, names_Parse.e N2, names_Of.e N3] Tryd.f5 [.dat .bool] cuts 5 (stt (.l5 x3 x15 x16 x17 g0x0)) [] R L = (T5 N0 N1 N2 N3 x3 x15 x16 x17 g0x0).wp (outcome Tryd.f5 idx stt mk R L) := by kernel_rfl
noncomputable def f (a0 : DiskD) : Option Bool := loopO (step rovingref03_Great.f rovinglaw11_wakes.f names_Parse.f names_Of.f) (T rovingref03_Great.f rovinglaw11_wakes.f names_Parse.f names_Of.f a0)
def e (N : DiskD → Option Bool) : Ent := entF 5 [.dat DiskT] [] mk fun d g => N (d.1)
theorem ok : EntOk Tryd.prog (e f) := entOk_loop (ps := [.dat DiskT]) (rs := []) (mk := mk) (idx := idx) (S := stt) (step := step rovingref03_Great.f rovinglaw11_wakes.f names_Parse.f names_Of.f) (T := fun d g => T rovingref03_Great.f rovinglaw11_wakes.f names_Parse.f names_Of.f (d.1)) (Kit.cons rovingref03_Great.ok (Kit.cons rovinglaw11_wakes.ok (Kit.cons names_Parse.ok (Kit.cons names_Of.ok (Kit.nil prog_mix))))) (by decide) (fn := Tryd.f5) (cuts := cuts) (rts := [.dat .bool])
  rfl (by decide) rfl (Nat.le_of_ble_eq_true rfl) (fun _ => rfl) (fun d g R L => tr rovingref03_Great.f rovinglaw11_wakes.f names_Parse.f names_Of.f (d.1) R L) (fun s g R L => match s with
    | .l5 x3 x15 x16 x17 g0x0 => tr5 rovingref03_Great.f rovinglaw11_wakes.f names_Parse.f names_Of.f x3 x15 x16 x17 g0x0 R L)
end rovinglaw11_NamesApart
end Go.Abs
