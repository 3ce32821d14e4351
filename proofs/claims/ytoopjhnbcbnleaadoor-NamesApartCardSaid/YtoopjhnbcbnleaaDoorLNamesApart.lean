/-
The law NamesApart: for every input it returns true, and its arguments read afterwards as they read before. No condition beside those of the given row. The listed variables are not looked at: the ways that read them are not taken.
-/
import Derived.Test.YtoopjhnbcbnleaaDoorQ11d
import Derived.Test.YtoopjhnbcbnleaaDoorA23
import Derived.Test.YtoopjhnbcbnleaaDoorCards
import Derived.Test.YtoopjhnbcbnleaaDoorTie
import Derived.LaidMore
import Derived.SevenTiedAt
namespace Go.Proofs.YtoopjhnbcbnleaaDoor
open Go.Abs Go.RowKit Go.WideShapes Go.ChangeShapes Go.ChangeAt
set_option linter.unusedVariables false
set_option maxRecDepth 100000

theorem namesApart_own : ownKnob Tryd.prog.godebug = none := by kernel_rfl

theorem namesApart_fn (d : DL (([DiskT] : List Ty).map Pt.dat)) (hok : okL (mkL (([DiskT] : List Ty).map Pt.dat) d)) : FnOk Tryd.prog 5 (mkL (([DiskT] : List Ty).map Pt.dat) d) [] fun o => o = { v := .dat .bool true } := by
  have h := NamesApart_f d.1 hok.1.1.1
  refine (rovinglaw11_NamesApart.ok.ok d () fun p hp => ?_).mono fun o ho => ?_
  · rw [List.mem_singleton.1 hp]
    exact (congrArg Option.isSome h).trans rfl
  · rw [ho]
    exact congrArg (fun r => ({ v := (rovinglaw11_NamesApart.mk (Option.getD r default)).v, wr := (rovinglaw11_NamesApart.mk (Option.getD r default)).wr } : Out)) h

/-- The listed variables, as the program's own text lays them. -/
theorem namesApart_door (os : Os) (args : Array Value) : laidMetH Tryd.prog Rows.namesApartRow.laid ((World.doorLaid Tryd.prog 400 os).forCall (fun _ _ => 0) ⟨#[], args, []⟩).memory :=
  laidMetH_of_parts3 (fuel := 8) (laidMet_of_run' 8 (by kernel_rfl) (by kernel_rfl)) (by kernel_rfl) (by kernel_rfl)

theorem namesApart_lifted (os : Os) (started : os.Started) (H : Type) (enc : TypeId × Value → H) :
    ReturnsInHanded {} Tryd.checked os 5 .any (fun w args => (Rows.namesApartSpec.pre enc Tryd.prog Tryd.f5 [] false w args ∧ laidMetH Tryd.prog Rows.namesApartRow.laid w) ∧ sizedMet enc Tryd.prog Tryd.f5 (OpenSpec.ofChange Rows.namesApartSpec) false w args)
      (Rows.namesApartSpec.post enc Tryd.prog Tryd.f5 false true false false) := by
  refine returnsInHanded_of_change_and (C := Tryd.checked) (X := fun w _ => laidMetH Tryd.prog Rows.namesApartRow.laid w) (fun _ _ _ hh h => h.of_heap hh) namesApart_own started (by kernel_rfl) Tryd.func5
    (ChangeSpec.witness_shaped (enc := enc) (C := Tryd.checked) (os := os) (X := fun w _ => laidMetH Tryd.prog Rows.namesApartRow.laid w) false (World.doorLaid Tryd.prog 400 os) #[.agg #[.slice none 0 0, .int .i64 0, .int .i64 0, .bool false]] 8 rfl (World.shaped_of_RefB (by kernel_rfl) (by kernel_rfl)) (by kernel_rfl) (by kernel_rfl) (by kernel_rfl) (namesApart_door os _)) ?_
  intro W base args ds gs before hval hW _ _ _ _
  refine law_contract (by decide) (us := [DiskT]) (tb := 4) (by kernel_rfl) (by kernel_rfl) rfl Tryd.underlying4 rfl (fun ds h => ?_) namesApart_fn hval hW
  match ds, h with
  | [d0], _ => rfl

theorem namesApart_row : Rows.NamesApartSaid :=
  OpenClaim.holds_of_wide 5 Tryd.f5 rfl rfl rfl rfl rfl rfl rfl ⟨rfl, rfl, rfl, rfl, rfl⟩ rfl rfl rfl rfl rfl (by kernel_rfl) Tryd.func5 (by kernel_rfl)
    (of_decide_eq_true (by kernel_rfl)) (by unfold Func.isWrapper; first | (rw [if_pos (by decide +kernel)]; kernel_rfl) | (rw [if_neg (by decide +kernel)]; exact ⟨rfl, rfl⟩))
    (fun os started H enc _ => namesApart_lifted os started H enc)

theorem namesApart_holds : Rows.NamesApartCardSaid :=
  Claim7.holds_tied_plain_at .later [] [.data, .data, .data] true (true, "2794ca4c8d28f1c021f4d541bb2005fbbfc7dd3b071f13a9a969e8dbebc08d31") false
    namesApart_row (fun _ h => by cases h) (by kernel_rfl) (fun _ h => by cases h) namesApart_row_tie rfl ⟨rfl, rfl⟩ (by kernel_rfl) rfl
    (fun f fn hf hfn => by
      obtain rfl : f = 5 := Option.some.inj ((show Tryd.prog.funcNamed "roving/rovinglaw11.NamesApart" = some 5 by kernel_rfl).symm.trans hf) |>.symm
      obtain rfl : fn = Tryd.f5 := (Option.some.inj (Tryd.func5.symm.trans hfn)).symm
      exact ⟨by kernel_rfl, fun j t ht => by
        have hm : t ∈ Tryd.f5.params.toList := by simpa using Array.mem_of_getElem? ht
        have hall : (Tryd.f5.params.toList.all fun u => !Tryd.prog.wantsStandIn u) = true := by kernel_rfl
        exact (show Tryd.prog.wantsStandIn t = false by simpa using List.all_eq_true.1 hall t hm)⟩)
    (by kernel_rfl)
#print axioms namesApart_holds
end Go.Proofs.YtoopjhnbcbnleaaDoor
