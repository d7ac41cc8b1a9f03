/- For every matrix of booleans that the row can read, the statement ProbeChooseMatchesSpec returns true and leaves its argument as it was; the three tables of the library that it lists are tied to the program's text. Conditions: those of the row itself. -/
import Derived.Test.YtnagdebioaekoaaDoorRow
import Derived.Test.YtnagdebioaekoaaDoorCards
import Derived.Test.YtnagdebioaekoaaDoorTie
import Derived.SevenTiedAt
namespace Go.Proofs.YtnagdebioaekoaaDoor
open Go

theorem choose_holds : Rows.ProbeChooseMatchesSpecCardSaid :=
  Claim7.holds_tied_plain_at .later [] [.data, .data, .data] true (true, "458e609ba6e8fdcc6b332dd52f3163e2d4dbc64d0d0a7fbb10d40a48f88013fc") false
    ChooseRow.over (fun _ h => by cases h) (by kernel_rfl) (fun _ h => by cases h) probeChooseMatchesSpec_row_tie rfl ⟨rfl, rfl⟩ (by kernel_rfl) rfl
    (fun f fn hf hfn => by
      obtain rfl : f = 3 := Option.some.inj ((show Tryd.prog.funcNamed "dynamometer/dynamometerlaw12.ProbeChooseMatchesSpec" = some 3 by kernel_rfl).symm.trans hf) |>.symm
      obtain rfl : fn = Tryd.f3 := (Option.some.inj (Tryd.func3.symm.trans hfn)).symm
      exact ⟨by kernel_rfl, fun j t ht => by
        rw [Tryd.params3] at ht
        have hm : t ∈ [22] := by simpa using Array.mem_of_getElem? ht
        have hall : ([22].all fun u => !Tryd.prog.wantsStandIn u) = true := by kernel_rfl
        exact (show Tryd.prog.wantsStandIn t = false by simpa using List.all_eq_true.1 hall t hm)⟩)
    (by kernel_rfl)
#print axioms choose_holds
end Go.Proofs.YtnagdebioaekoaaDoor
