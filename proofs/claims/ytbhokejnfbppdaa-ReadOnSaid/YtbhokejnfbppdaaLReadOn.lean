/-
The law ReadOn: for every input it returns true, and its arguments read afterwards as they read before. No condition beside those of the given row.
-/
import Derived.Test.YtbhokejnfbppdaaQ13d
import Derived.Test.YtbhokejnfbppdaaA23
import Derived.Test.YtbhokejnfbppdaaRows
namespace Go.Proofs.Ytbhokejnfbppdaa
open Go.Abs Go.RowKit Go.WideShapes Go.ChangeShapes Go.ChangeAt
set_option linter.unusedVariables false
set_option maxRecDepth 100000

theorem readOn_own : ownKnob Try.prog.godebug = none := by kernel_rfl

theorem readOn_fn (d : DL (([PartT, .list I64] : List Ty).map Pt.dat)) (hok : okL (mkL (([PartT, .list I64] : List Ty).map Pt.dat) d)) : FnOk Try.prog 3 (mkL (([PartT, .list I64] : List Ty).map Pt.dat) d) [] fun o => o = { v := .dat .bool true } := by
  have h := ReadOn_f d.1 d.2.1 (⟨hok.1.2.2.1.1, hok.1.2.2.2.1.1⟩ : Fits d.1) (fun o ho => (hok.1.2.2.2.1.2 o ho).2.2.1)
  refine (rovinglaw13_ReadOn.ok.ok d () fun p hp => ?_).mono fun o ho => ?_
  · rw [List.mem_singleton.1 hp]
    exact (congrArg Option.isSome h).trans rfl
  · rw [ho]
    exact congrArg (fun r => ({ v := (rovinglaw13_ReadOn.mk (Option.getD r default)).v, wr := (rovinglaw13_ReadOn.mk (Option.getD r default)).wr } : Out)) h

theorem readOn_lifted (os : Os) (started : os.Started) (H : Type) (enc : TypeId × Value → H) :
    ReturnsInHanded {} Try.checked os 3 .any (Rows.readOnSpec.pre6 enc Try.prog Try.f3 Rows.readOnRow.domain false) (Rows.readOnSpec.post enc Try.prog Try.f3 false true false false) := by
  refine returnsInHanded_of_change (C := Try.checked) readOn_own started (by kernel_rfl) Try.func3
    (ChangeSpec.witness6 (enc := enc) (C := Try.checked) false ⟨#[], #[.agg #[.int .i64 0, .int .i64 0, .slice none 0 0, .slice none 0 0, .slice none 0 0], .slice none 0 0], []⟩ 8 (by kernel_rfl) (by kernel_rfl) (by kernel_rfl) (by kernel_rfl)) ?_
  intro W base args ds gs before hval hW hcnd _
  refine law_contract (by decide) (us := [PartT, .list I64]) (tb := 4) (by kernel_rfl) (by kernel_rfl) rfl Try.underlying4 rfl (fun ds h => ?_) readOn_fn hval hW
  match ds, h with
  | [d0, d1], _ => rfl

theorem readOn_over : Rows.readOnRow.holds Try.pinned (OpenSpec.ofChange Rows.readOnSpec) :=
  OpenClaim.holds_of_wide 3 Try.f3 rfl rfl rfl rfl rfl rfl rfl ⟨rfl, rfl, rfl, rfl, rfl⟩ rfl rfl rfl rfl rfl (by kernel_rfl) Try.func3 (by kernel_rfl)
    (of_decide_eq_true (by kernel_rfl)) (by unfold Func.isWrapper; first | (rw [if_pos (by decide +kernel)]; kernel_rfl) | (rw [if_neg (by decide +kernel)]; exact ⟨rfl, rfl⟩))
    (fun os started H enc _ => readOn_lifted os started H enc)

theorem readOn_holds : Rows.ReadOnSaid := readOn_over
#print axioms readOn_holds
end Go.Proofs.Ytbhokejnfbppdaa
