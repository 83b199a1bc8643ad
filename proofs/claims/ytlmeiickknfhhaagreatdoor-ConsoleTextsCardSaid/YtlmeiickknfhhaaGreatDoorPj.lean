/- The law's call meets the row's word in every world that meets the row's conditions. -/
import Derived.Test.YtlmeiickknfhhaaGreatDoorRows
import Derived.Deep.DeepHandedRow
import Derived.Deep.DeepWitnessRowRef
import Derived.Lib.LaidIn
import Derived.Lib.SmallJoins
import Derived.ProofKit
import Derived.Test.YtlmeiickknfhhaaGreatDoorPh
import Derived.Test.YtlmeiickknfhhaaGreatDoorPi
set_option linter.all false
set_option linter.unusedVariables false
set_option linter.unusedSimpArgs false
set_option linter.unusedSectionVars false
set_option linter.unnecessarySimpa false
section
/- ConsoleTexts (putloglaw43): for every input the call returns true and its arguments read as they did: the row's statement, the listed variables read as their data; no other conditions. -/
set_option maxRecDepth 1000000
namespace Go.Proofs.YtlmeiickknfhhaaGreatDoor
open Go.ChangeShapes Go.WideShapes Go.ChangeAt Go.RowKit Go.Joins Go.Lib Go.Proofs
noncomputable abbrev zargs : Array Value := #[.agg #[.int .i64 0, .int .i64 0, .int .i64 0], .int .i64 0, .int .u8 0]
noncomputable abbrev spec : OpenSpec := OpenSpec.ofChange Rows.consoleTextsSpec
theorem witness_row (os : Os) {H : Type} (enc : TypeId × Value → H) :
    spec.preRow enc Tryz.prog Tryz.f3 Rows.consoleTextsRow.domain false Rows.consoleTextsRow.laid ((laidWorld os).forCall (fun _ _ => 0) ⟨#[], zargs, []⟩).memory zargs := by
  have hw : (DataW.whole enc Tryz.prog ((laidWorld os).forCall (fun _ _ => 0) ⟨#[], zargs, []⟩).memory Tryz.f3.params.toList spec.vars false zargs.toList 8).map (fun x => (x.1, x.2.1)) =
      some ([.agg [.lit (.int .i64 0), .lit (.int .i64 0), .lit (.int .i64 0)], .lit (.int .i64 0), .lit (.int .u8 0)], []) := by kernel_rfl
  obtain ⟨⟨x1, x2, x3⟩, hx, hx1⟩ := Option.map_eq_some_iff.1 hw
  simp only [Prod.mk.injEq] at hx1
  obtain ⟨rfl, rfl⟩ := hx1
  exact OpenSpec.preRow_of_cond 8 hx (by kernel_rfl) (fun k hk => by cases hk) (by kernel_rfl) (laid_in os _).met
end Go.Proofs.YtlmeiickknfhhaaGreatDoor
end
section
/- ConsoleTexts (putloglaw43): for every input the call returns true and its arguments read as they did: the row's statement, the listed variables read as their data; no other conditions. -/
set_option maxRecDepth 1000000
namespace Go.Proofs.YtlmeiickknfhhaaGreatDoor
open Go.ChangeShapes Go.WideShapes Go.ChangeAt Go.RowKit Go.Joins Go.Lib Go.Proofs
theorem i64_bounds {n : Int} (h : (Lit.int .i64 n).wf = true) : -9223372036854775808 ≤ n ∧ n ≤ 9223372036854775807 := by
  simpa [Lit.wf, IntKind.min, IntKind.max, IntKind.signed, IntKind.bits] using h
theorem structReads {H : Type} {enc : TypeId × Value → H} (W' : World) (b : Nat) (sp : Nat → Bool) (hd : Bool) (x y z : Int) (wx : (Lit.int .i64 x).wf = true) (wy : (Lit.int .i64 y).wf = true) (wz : (Lit.int .i64 z).wf = true) :
    DataW.Trod enc Tryz.prog W' b sp hd 23 (.agg #[.int .i64 x, .int .i64 y, .int .i64 z]) (.agg [.lit (.int .i64 x), .lit (.int .i64 y), .lit (.int .i64 z)]) [] := by
  simpa using shut_agg3 (enc := enc) (w := W') (base := b) (spare := sp) (held := hd) (v0 := .int .i64 x) (v1 := .int .i64 y) (v2 := .int .i64 z) (y0 := (.lit (.int .i64 x), [])) (y1 := (.lit (.int .i64 y), [])) (y2 := (.lit (.int .i64 z), []))
    Tryz.underlying23 (by kernel_rfl) cells23 ⟨1, by simp [DataW.trod, Tryz.underlying3, wx]⟩ ⟨1, by simp [DataW.trod, Tryz.underlying3, wy]⟩ ⟨1, by simp [DataW.trod, Tryz.underlying3, wz]⟩
set_option maxHeartbeats 2000000 in
theorem row_lifted (os : Os) (started : os.Started) (H : Type) (enc : TypeId × Value → H) (F : Stop.Interp) :
    ReturnsInHanded {} Tryz.checked os 3 .any (spec.preRow enc Tryz.prog Tryz.f3 Rows.consoleTextsRow.domain false Rows.consoleTextsRow.laid) ((spec.at F).post enc Tryz.prog Tryz.f3 false true false false) := by
  refine returnsInHanded_of_row (C := Tryz.checked) (s := spec) own started (by kernel_rfl) Tryz.func3
    (witness_row_atRef (enc := enc) (C := Tryz.checked) false (laidWorld os) zargs rfl (by kernel_rfl) (by kernel_rfl) (by kernel_rfl) (witness_row os enc)) ?_
  intro W base args ds gs before hval0 hW _ _ hL0 hL hS _
  have hval : ∀ (j : Nat) t v, Tryz.f3.params[j]? = some t → args[j]? = some v → Value.okWide Tryz.prog W .any base t v := hval0
  have hW' := hW
  obtain ⟨p, q, hA0, hV0, rfl, _, _⟩ := hW
  have hA : DataW.TrodAll enc Tryz.prog W 0 (fun _ => true) true Tryz.f3.params.toList args.toList ds p := hA0
  rw [Tryz.params3] at hA hval
  obtain ⟨v0, v1, v2, d0, d1, d2, p0, p1, p2, rfl, rfl, rfl, h0, h1, h2⟩ := trodAll_three hA
  obtain ⟨rfl, rfl⟩ := trodVars_none hV0
  obtain ⟨a0, a1, a2, y0, y1, y2, m, rfl, rfl, rfl, hy0, hy1, hy2⟩ := open_agg3 Tryz.underlying23 (by kernel_rfl) cells23 (hval 0 23 v0 rfl rfl) h0
  obtain ⟨x0, e0, rfl, w0⟩ := DataW.trod_int Tryz.underlying3 hy0
  obtain ⟨x1, e1, rfl, w1⟩ := DataW.trod_int Tryz.underlying3 hy1
  obtain ⟨x2, e2, rfl, w2⟩ := DataW.trod_int Tryz.underlying3 hy2
  obtain rfl : a0 = .int .i64 x0 := by simpa using e0
  obtain rfl : a1 = .int .i64 x1 := by simpa using e1
  obtain rfl : a2 = .int .i64 x2 := by simpa using e2
  obtain ⟨place, rfl, rfl, rfl, w3⟩ := open_int Tryz.underlying3 (hval 1 3 v1 rfl rfl) h1
  obtain ⟨c, rfl, rfl, rfl, w4⟩ := open_int Tryz.underlying5 (hval 2 5 v2 rfl rfl) h2
  clear hA0 hV0 hval0
  have b0 := i64_bounds w0
  have b1 := i64_bounds w1
  have b2 := i64_bounds w2
  have b3 := i64_bounds w3
  have hE1 : ErrAt W 1 := errAt_of_reads (by kernel_rfl) (by kernel_rfl) (Go.Lib.laidMet.reads hL (.tail _ (.tail _ (.tail _ (.tail _ (.head _))))))
  have hE0 : ErrAt W 0 := errAt_of_reads (by kernel_rfl) (by kernel_rfl) (Go.Lib.laidMet.reads hL (.tail _ (.tail _ (.tail _ (.tail _ (.tail _ (.head _)))))))
  have hP := pow_block (by kernel_rfl) hS (pow_cells (by kernel_rfl) (Go.Lib.laidMet.reads hL (.tail _ (.tail _ (.head _)))))
  have hR : Ready W := ⟨hE0, hE1, maxLen_cell hS⟩
  have h2W : 2 < W.heap.size := by
    rcases Nat.lt_or_ge 2 W.heap.size with h' | h'
    · exact h'
    · rw [Array.getElem?_eq_none h'] at hP; cases hP
  refine (law_walk x0 x1 x2 place c W b3.1 b3.2 b0.1 b0.2 b1.1 b1.2 b2.1 b2.2 hR (fun o => sane_calls (by rw [alloc_heap, if_neg (by omega)]; exact hP))).mono ?_
  rintro e W' ⟨rfl, bel⟩
  have e1 : (spec.at F).fn H ([.agg [.lit (.int .i64 x0), .lit (.int .i64 x1), .lit (.int .i64 x2)], .lit (.int .i64 place), .lit (.int .u8 c)] ++ []) =
    { results := [.lit (.bool true)], args := [.agg [.lit (.int .i64 x0), .lit (.int .i64 x1), .lit (.int .i64 x2)], .lit (.int .i64 place), .lit (.int .u8 c)] } := rfl
  refine ⟨_, rfl, _, _, _, [], [], [], hW', ?_, ?_, ?_, bel.frame _, fun h => by cases h⟩
  · rw [e1]; exact trodAll_mk1 (shut_bool Tryz.underlying4 true)
  · rw [e1]
    exact trodAll_mk3 (structReads _ _ _ _ x0 x1 x2 w0 w1 w2) (shut_int Tryz.underlying3 w3) (shut_int Tryz.underlying5 w4)
  · rw [e1]; rfl
end Go.Proofs.YtlmeiickknfhhaaGreatDoor
end
