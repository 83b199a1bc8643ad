/- ConsoleTexts: for every input the call returns true and each argument reads behind it as before; conditions: those of the given card alone (the listed package variables, tied to the program's text). -/
import Derived.Test.YtlmeiickknfhhaaGreatDoorCards
import Derived.Test.YtlmeiickknfhhaaGreatDoorTie
import Derived.SevenTiedAt
import Derived.Test.YtlmeiickknfhhaaGreatDoorRows
import Derived.Deep.DeepHandedRow
import Derived.Deep.DeepWitnessRowRef
import Derived.Lib.LaidIn
import Derived.Lib.SmallJoins
import Derived.ProofKit
import Derived.Test.YtlmeiickknfhhaaGreatDoorPh
import Derived.Test.YtlmeiickknfhhaaGreatDoorPj
import Derived.Test.YtlmeiickknfhhaaGreatDoorFa
import Derived.Test.YtlmeiickknfhhaaGreatDoorFb
import Derived.Test.YtlmeiickknfhhaaGreatDoorFc
import Derived.Test.YtlmeiickknfhhaaGreatDoorFd
import Derived.Test.YtlmeiickknfhhaaGreatDoorFe
import Derived.Test.YtlmeiickknfhhaaGreatDoorFf
import Derived.Test.YtlmeiickknfhhaaGreatDoorFg
import Derived.Test.YtlmeiickknfhhaaGreatDoorFh
set_option linter.all false
set_option linter.unusedVariables false
set_option linter.unusedSimpArgs false
set_option linter.unusedSectionVars false
set_option linter.unnecessarySimpa false
/- ConsoleTexts (putloglaw43): for every input the call returns true and its arguments read as they did: the row's statement, the listed variables read as their data; no other conditions. -/
set_option maxRecDepth 1000000
namespace Go.Proofs.YtlmeiickknfhhaaGreatDoor
open Go.ChangeShapes Go.WideShapes Go.ChangeAt Go.RowKit Go.Joins Go.Lib Go.Proofs
theorem row_holds : Rows.ConsoleTextsSaid :=
  OpenClaim.holds_of_cond 3 Tryz.f3 rfl rfl rfl rfl rfl rfl rfl ⟨rfl, rfl, rfl, rfl, rfl⟩ rfl rfl rfl rfl rfl (by kernel_rfl) Tryz.func3 (facts_of laid_out maps_rowed in_place un_followed re_curses vars_named plain_keys stops_heard may_enter rfl rest_facts)
    (of_decide_eq_true (by kernel_rfl)) (by unfold Func.isWrapper; rw [if_neg (of_decide_eq_false (by kernel_rfl))]; exact ⟨rfl, rfl⟩)
    (fun os started H enc _ F0 => by rw [OpenClaim.pre_eq_preRow]; exact row_lifted os started H enc F0)
theorem goes_of_none {P : Program} (h : (P.funcs.toList.all fun f => !f.goes) = true) (f : FuncId) : P.goes f = false := by
  have hf : ∀ fn, fn ∈ P.funcs.toList → fn.goes = false := fun fn hm => by
    have := List.all_eq_true.1 h fn hm
    simpa using this
  have ha : P.funcs.any Func.goes = false := by
    rw [← Array.any_toList, List.any_eq_false]
    intro fn hm
    rw [hf fn hm]
    exact Bool.false_ne_true
  unfold Program.goes
  rw [ha, Bool.and_false, Bool.or_false, List.any_eq_false]
  intro g _
  cases hg : P.funcs[g]? with
  | none => simp
  | some fn =>
    rw [← Array.getElem?_toList] at hg
    simp [hf fn (List.mem_of_getElem? hg)]
theorem goesBy_of_none {P : Program} (h : (P.funcs.toList.all fun f => !f.goes) = true) {c : OpenClaim} (hs : c.start = .entering) : false = c.goesBy P := by
  unfold OpenClaim.goesBy Program.goesAt Program.goesFrom
  rw [hs]
  cases P.funcNamed c.func with
  | none => simp
  | some f => simp [goes_of_none h]
theorem no_goes : (Tryz.prog.funcs.toList.all fun f => !f.goes) = true := by kernel_rfl
theorem row_goes : false = Rows.consoleTextsRow.goesBy Tryz.prog := goesBy_of_none no_goes rfl
theorem console_texts_holds : Rows.ConsoleTextsCardSaid :=
  Claim7.holds_tied_plain_at .later [] [.data, .data, .data, .data, .sentinel, .sentinel, .data, .pinned] true Rows.consoleTextsCard.stood.harness true
    row_holds (fun _ h => by cases h) (by kernel_rfl) (fun _ h => by cases h) consoleTexts_row_tie rfl ⟨rfl, rfl⟩ (by kernel_rfl) rfl
    (fun f fn hf hfn => by
      obtain rfl : f = 3 := Option.some.inj ((show Tryz.prog.funcNamed Rows.consoleTextsRow.func = some 3 by kernel_rfl).symm.trans hf) |>.symm
      obtain rfl : fn = Tryz.f3 := (Option.some.inj (Tryz.func3.symm.trans hfn)).symm
      exact ⟨by kernel_rfl, fun j t ht => by
        rw [Tryz.params3] at ht
        have h3 : t = 23 ∨ t = 3 ∨ t = 5 := by
          rcases j with _ | _ | _ | j
          · exact .inl (by simpa using ht.symm)
          · exact .inr (.inl (by simpa using ht.symm))
          · exact .inr (.inr (by simpa using ht.symm))
          · simp at ht
        rcases h3 with rfl | rfl | rfl
        · exact (show Tryz.prog.wantsStandIn 23 = false by kernel_rfl)
        · exact (show Tryz.prog.wantsStandIn 3 = false by kernel_rfl)
        · exact (show Tryz.prog.wantsStandIn 5 = false by kernel_rfl)⟩)
    row_goes
end Go.Proofs.YtlmeiickknfhhaaGreatDoor
