/-
The law ReadCuts: for every input it returns true, and its arguments read afterwards as they read before. No condition beside those of the given row.
-/
import Derived.Test.YtbhokejnfbppdaaQ13c
import Derived.Test.YtbhokejnfbppdaaA23
import Derived.Test.YtbhokejnfbppdaaRows
namespace Go.Proofs.Ytbhokejnfbppdaa
open Go.Abs Go.RowKit Go.WideShapes Go.ChangeShapes Go.ChangeAt
set_option linter.unusedVariables false
set_option maxRecDepth 100000

theorem readCuts_own : ownKnob Try.prog.godebug = none := by kernel_rfl

theorem readCuts_fn (d : DL (([PartT, I64, I64] : List Ty).map Pt.dat)) (hok : okL (mkL (([PartT, I64, I64] : List Ty).map Pt.dat) d)) : FnOk Try.prog 5 (mkL (([PartT, I64, I64] : List Ty).map Pt.dat) d) [] fun o => o = { v := .dat .bool true } := by
  have h := ReadCuts_f d.1 d.2.1 d.2.2.1 hok.1
  refine (rovinglaw13_ReadCuts.ok.ok d () fun p hp => ?_).mono fun o ho => ?_
  · rw [List.mem_singleton.1 hp]
    exact (congrArg Option.isSome h).trans rfl
  · rw [ho]
    exact congrArg (fun r => ({ v := (rovinglaw13_ReadCuts.mk (Option.getD r default)).v, wr := (rovinglaw13_ReadCuts.mk (Option.getD r default)).wr } : Out)) h

theorem readCuts_lifted (os : Os) (started : os.Started) (H : Type) (enc : TypeId × Value → H) :
    ReturnsInHanded {} Try.checked os 5 .any (Rows.readCutsSpec.pre6 enc Try.prog Try.f5 Rows.readCutsRow.domain false) (Rows.readCutsSpec.post enc Try.prog Try.f5 false true false false) := by
  refine returnsInHanded_of_change (C := Try.checked) readCuts_own started (by kernel_rfl) Try.func5
    (ChangeSpec.witness6 (enc := enc) (C := Try.checked) false ⟨#[], #[.agg #[.int .i64 0, .int .i64 0, .slice none 0 0, .slice none 0 0, .slice none 0 0], .int .i64 0, .int .i64 0], []⟩ 8 (by kernel_rfl) (by kernel_rfl) (by kernel_rfl) (by kernel_rfl)) ?_
  intro W base args ds gs before hval hW hcnd _
  refine law_contract (by decide) (us := [PartT, I64, I64]) (tb := 4) (by kernel_rfl) (by kernel_rfl) rfl Try.underlying4 rfl (fun ds h => ?_) readCuts_fn hval hW
  match ds, h with
  | [d0, d1, d2], _ => rfl

theorem readCuts_over : Rows.readCutsRow.holds Try.pinned (OpenSpec.ofChange Rows.readCutsSpec) :=
  OpenClaim.holds_of_wide 5 Try.f5 rfl rfl rfl rfl rfl rfl rfl ⟨rfl, rfl, rfl, rfl, rfl⟩ rfl rfl rfl rfl rfl (by kernel_rfl) Try.func5 (by kernel_rfl)
    (of_decide_eq_true (by kernel_rfl)) (by unfold Func.isWrapper; first | (rw [if_pos (by decide +kernel)]; kernel_rfl) | (rw [if_neg (by decide +kernel)]; exact ⟨rfl, rfl⟩))
    (fun os started H enc _ => readCuts_lifted os started H enc)

theorem readCuts_holds : Rows.ReadCutsSaid := readCuts_over
#print axioms readCuts_holds
end Go.Proofs.Ytbhokejnfbppdaa
