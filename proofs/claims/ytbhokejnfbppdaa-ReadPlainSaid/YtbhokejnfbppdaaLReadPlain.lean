/-
The law ReadPlain: for every input it returns true, and its arguments read afterwards as they read before. No condition beside those of the given row.
-/
import Derived.Test.YtbhokejnfbppdaaQ13b
import Derived.Test.YtbhokejnfbppdaaA23
import Derived.Test.YtbhokejnfbppdaaRows
namespace Go.Proofs.Ytbhokejnfbppdaa
open Go.Abs Go.RowKit Go.WideShapes Go.ChangeShapes Go.ChangeAt
set_option linter.unusedVariables false
set_option maxRecDepth 100000

theorem readPlain_own : ownKnob Try.prog.godebug = none := by kernel_rfl

theorem readPlain_fn (d : DL (([.list RowT] : List Ty).map Pt.dat)) (hok : okL (mkL (([.list RowT] : List Ty).map Pt.dat) d)) : FnOk Try.prog 6 (mkL (([.list RowT] : List Ty).map Pt.dat) d) [] fun o => o = { v := .dat .bool true } := by
  have h := ReadPlain_f d.1 hok.1.1
  refine (rovinglaw13_ReadPlain.ok.ok d () fun p hp => ?_).mono fun o ho => ?_
  · rw [List.mem_singleton.1 hp]
    exact (congrArg Option.isSome h).trans rfl
  · rw [ho]
    exact congrArg (fun r => ({ v := (rovinglaw13_ReadPlain.mk (Option.getD r default)).v, wr := (rovinglaw13_ReadPlain.mk (Option.getD r default)).wr } : Out)) h

theorem readPlain_lifted (os : Os) (started : os.Started) (H : Type) (enc : TypeId × Value → H) :
    ReturnsInHanded {} Try.checked os 6 .any (Rows.readPlainSpec.pre6 enc Try.prog Try.f6 Rows.readPlainRow.domain false) (Rows.readPlainSpec.post enc Try.prog Try.f6 false true false false) := by
  refine returnsInHanded_of_change (C := Try.checked) readPlain_own started (by kernel_rfl) Try.func6
    (ChangeSpec.witness6 (enc := enc) (C := Try.checked) false ⟨#[], #[.slice none 0 0], []⟩ 8 (by kernel_rfl) (by kernel_rfl) (by kernel_rfl) (by kernel_rfl)) ?_
  intro W base args ds gs before hval hW hcnd _
  refine law_contract (by decide) (us := [.list RowT]) (tb := 4) (by kernel_rfl) (by kernel_rfl) rfl Try.underlying4 rfl (fun ds h => ?_) readPlain_fn hval hW
  match ds, h with
  | [d0], _ => rfl

theorem readPlain_over : Rows.readPlainRow.holds Try.pinned (OpenSpec.ofChange Rows.readPlainSpec) :=
  OpenClaim.holds_of_wide 6 Try.f6 rfl rfl rfl rfl rfl rfl rfl ⟨rfl, rfl, rfl, rfl, rfl⟩ rfl rfl rfl rfl rfl (by kernel_rfl) Try.func6 (by kernel_rfl)
    (of_decide_eq_true (by kernel_rfl)) (by unfold Func.isWrapper; first | (rw [if_pos (by decide +kernel)]; kernel_rfl) | (rw [if_neg (by decide +kernel)]; exact ⟨rfl, rfl⟩))
    (fun os started H enc _ => readPlain_lifted os started H enc)

theorem readPlain_holds : Rows.ReadPlainSaid := readPlain_over
#print axioms readPlain_holds
end Go.Proofs.Ytbhokejnfbppdaa
