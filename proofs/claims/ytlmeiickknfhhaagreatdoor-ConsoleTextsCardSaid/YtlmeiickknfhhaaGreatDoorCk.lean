/- The law's self-test returns true on every tape and leaves what lay before; its condition: the table of powers of ten lies where the program lays it. -/
import Derived.Test.YtlmeiickknfhhaaGreatDoorCj
import Derived.Test.YtlmeiickknfhhaaGreatDoorK34
import Derived.Test.YtlmeiickknfhhaaGreatDoorK35
import Derived.Test.YtlmeiickknfhhaaGreatDoorK36
import Derived.Test.YtlmeiickknfhhaaGreatDoorK21
import Derived.Test.YtlmeiickknfhhaaGreatDoorK133a
import Derived.Test.YtlmeiickknfhhaaGreatDoorK133b
import Derived.Test.YtlmeiickknfhhaaGreatDoorK133c
import Derived.Test.YtlmeiickknfhhaaGreatDoorKMain
set_option linter.all false
set_option linter.unusedVariables false
set_option linter.unusedSimpArgs false
set_option linter.unusedSectionVars false
set_option linter.unnecessarySimpa false
namespace Go.Canon
open Go Go.RowKit Go.Lib Go.Proofs
set_option linter.unusedSectionVars false
set_option linter.unusedVariables false
/-! ### the known results, and the self-test -/
theorem outIs_eq : ∀ {x : Option MOut} {o : MOut}, outIs x o = true → x = some o
  | some ⟨v, l⟩, ⟨v', l'⟩, h => by
    simp only [outIs, Bool.and_eq_true] at h
    rw [veq_eq h.1, objsEq_eq h.2]
  | none, _, h => by cases h
def plainObjs : List CObj → Bool
  | [] => true
  | .cells _ _ _ :: l => plainObjs l
  | .map _ _ :: l => plainObjs l
  | _ :: _ => false
theorem plainObjs_spec : ∀ (l : List CObj), plainObjs l = true → ∀ o ∈ l, (∃ vs el fz, o = .cells vs el fz) ∨ ∃ es c, o = .map es c := by
  intro l
  induction l with
  | nil => intro _ o ho; cases ho
  | cons x l ih =>
    intro h o ho
    cases x with
    | cells vs el fz =>
      rcases List.mem_cons.1 ho with rfl | ho
      · exact .inl ⟨_, _, _, rfl⟩
      · exact ih h o ho
    | map es c =>
      rcases List.mem_cons.1 ho with rfl | ho
      · exact .inr ⟨_, _, rfl⟩
      · exact ih h o ho
    | _ => cases h
theorem known_one {K : List Known} (hK : KnownOk T0 K) {r : Nat} {e : Known} (h : knownIs K r e = true) (ho : plainObjs e.objs = true) : MemoOk T0 e.f e.args e.objs e.out := by
  have h := outIs_eq h
  have hs := lvl_ok T0_ok T0_fit T0_nat hK 76 r
  cases hl : lvl T0 K 76 r with
  | mk call round =>
    rw [hl] at h hs
    intro base w0 ρ w args' hr hv
    exact runMemo_sound hs T0_fit h (plainObjs_spec _ ho) hr hv
theorem known_nil : KnownOk T0 [] := fun e he => by cases he
theorem known_a : KnownOk T0 [k34, k35, k36] := by
  intro e he
  simp only [List.mem_cons, List.not_mem_nil, or_false] at he
  rcases he with rfl | rfl | rfl
  · exact known_one known_nil e34 (by kernel_rfl)
  · exact known_one known_nil e35 (by kernel_rfl)
  · exact known_one known_nil e36 (by kernel_rfl)
theorem known_b : KnownOk T0 [k21, k133a, k133b, k133c] := by
  intro e he
  simp only [List.mem_cons, List.not_mem_nil, or_false] at he
  rcases he with rfl | rfl | rfl | rfl
  · exact known_one known_a e21 (by kernel_rfl)
  · exact known_one known_nil e133a (by kernel_rfl)
  · exact known_one known_nil e133b (by kernel_rfl)
  · exact known_one known_nil e133c (by kernel_rfl)
theorem isT_spec {x : Option VOut} (h : isT x = true) : ∃ s, x = some ⟨.bool true, s⟩ := by
  unfold isT at h
  split at h
  · exact ⟨_, rfl⟩
  · cases h
theorem sane_gives {base : Nat} {w0 w : World} {ρ : Ren} (hr : Rel T0 base w0 ρ S0 w) : CallGives T0.P 4 #[] w (fun v' w' => v' = .bool true ∧ Below base w0 w') := by
  obtain ⟨s', h⟩ := isT_spec eMain
  have hs := (lvl_ok T0_ok T0_fit T0_nat known_b 76 76).call h hr (args' := #[]) VRs.nil
  obtain ⟨fn, h1, h2, h3⟩ := hs
  refine ⟨fn, h1, h2, ?_⟩
  rcases h3 with ⟨h3, h4⟩ | ⟨h3, v', w', h4, ρ', h5, h6, h7⟩
  · refine .inl ⟨h3, CallsIn.mono h4 ?_⟩
    rintro e w' ⟨v', rfl, ρ', h5, h6, h7⟩
    cases h7
    exact ⟨_, rfl, rfl, h6.below⟩
  · cases h7
    exact .inr ⟨h3, _, _, h4, rfl, h6.below⟩
end Go.Canon
