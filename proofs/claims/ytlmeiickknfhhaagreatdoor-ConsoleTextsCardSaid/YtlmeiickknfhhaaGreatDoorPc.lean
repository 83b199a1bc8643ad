/- Print is walked at the kinds older and task; conditions: numbers from 0 to 99. -/
import Derived.Test.YtlmeiickknfhhaaGreatDoorPb
set_option linter.all false
set_option linter.unusedVariables false
set_option linter.unusedSimpArgs false
set_option linter.unusedSectionVars false
set_option linter.unnecessarySimpa false
section
namespace Go.Proofs
open Go.Shelf Go.RowKit
set_option maxHeartbeats 4000000 in
theorem print3 (a : Nat) (ha : a ≤ 99) (D : ByteArray) (hDs : D.size ≤ 2) (hitoa : ∀ (w : World), Calls Tryz.prog 15 #[.int .i64 a] w fun e w' => e = .returned (.string D) ∧ w' = w) (b : Nat) (hb : b ≤ 99) (E : ByteArray) (hEs : E.size ≤ 2) (hitob : ∀ (w : World), Calls Tryz.prog 15 #[.int .i64 b] w fun e w_ => e = .returned (.string E) ∧ w_ = w) (w : World) :
    Calls Tryz.prog 6 #[.agg #[.int .i64 3, .int .i64 a, .int .i64 b]] w fun e w' => e = .returned (.tuple #[.string (⟨#[111, 108, 100, 101, 114]⟩ ++ ⟨#[32]⟩ ++ D ++ (⟨#[32]⟩ ++ E)), .int .i64 0]) ∧ Below w.heap.size w w' := by
  have e13 : ∀ args w, (callFunc 13 args).run Tryz.prog w = .ok (.enter 13 args) w := Tryz.call13
  have e14 : ∀ args w, (callFunc 14 args).run Tryz.prog w = .ok (.enter 14 args) w := Tryz.call14
  have e15 : ∀ args w, (callFunc 15 args).run Tryz.prog w = .ok (.enter 15 args) w := Tryz.call15
  have hv : valid 3 a b = true := by simp [valid]; omega
  go_enter Tryz.func6, Tryz.ntmps6
  go_wp2_with (go_at_fn 13; refine (isValid_walk _ _ _ _).mono ?_; rintro e w' ⟨rfl, rfl⟩; rw [hv])
  go_region_with (first
    | (go_at_fn 14; refine (words_walk _).mono ?_; rintro e w' ⟨rfl, rfl⟩)
    | (go_at_fn 15; refine (hitoa _).mono ?_; rintro e w' ⟨rfl, rfl⟩))
  all_goals go_wp2_with (go_at_fn 15; refine (hitob _).mono ?_; rintro e w1 ⟨rfl, rfl⟩)
  all_goals go_ret2
  all_goals exact ⟨rfl, Below.of3 _ _ _⟩
end Go.Proofs
end
section
namespace Go.Proofs
open Go.Shelf Go.RowKit
set_option maxHeartbeats 4000000 in
theorem print4 (a : Nat) (ha : a ≤ 99) (D : ByteArray) (hDs : D.size ≤ 2) (hitoa : ∀ (w : World), Calls Tryz.prog 15 #[.int .i64 a] w fun e w' => e = .returned (.string D) ∧ w' = w) (w : World) :
    Calls Tryz.prog 6 #[.agg #[.int .i64 4, .int .i64 a, .int .i64 0]] w fun e w' => e = .returned (.tuple #[.string (⟨#[116, 97, 115, 107]⟩ ++ ⟨#[32]⟩ ++ D), .int .i64 0]) ∧ Below w.heap.size w w' := by
  have e13 : ∀ args w, (callFunc 13 args).run Tryz.prog w = .ok (.enter 13 args) w := Tryz.call13
  have e14 : ∀ args w, (callFunc 14 args).run Tryz.prog w = .ok (.enter 14 args) w := Tryz.call14
  have e15 : ∀ args w, (callFunc 15 args).run Tryz.prog w = .ok (.enter 15 args) w := Tryz.call15
  have hv : valid 4 a 0 = true := by simp [valid]; omega
  go_enter Tryz.func6, Tryz.ntmps6
  go_wp2_with (go_at_fn 13; refine (isValid_walk _ _ _ _).mono ?_; rintro e w' ⟨rfl, rfl⟩; rw [hv])
  go_region_with (first
    | (go_at_fn 14; refine (words_walk _).mono ?_; rintro e w' ⟨rfl, rfl⟩)
    | (go_at_fn 15; refine (hitoa _).mono ?_; rintro e w' ⟨rfl, rfl⟩))
  all_goals go_wp2
  all_goals go_ret2
  all_goals exact ⟨rfl, Below.of3 _ _ _⟩
end Go.Proofs
end
