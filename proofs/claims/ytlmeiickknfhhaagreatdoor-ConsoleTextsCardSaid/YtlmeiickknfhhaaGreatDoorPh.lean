/- What the listed variables' data say of the world at the law's start; no conditions beyond these data. -/
import Derived.Lib.LaidU8
import Derived.LaidLaws
import GoSem.Claims
import Derived.Test.YtlmeiickknfhhaaGreatDoorPg
import Derived.Test.YtlmeiickknfhhaaGreatDoorCk
set_option linter.all false
set_option linter.unusedVariables false
set_option linter.unusedSimpArgs false
set_option linter.unusedSectionVars false
set_option linter.unnecessarySimpa false
set_option maxRecDepth 100000
namespace Go.Proofs
open Go.Shelf Go.RowKit Go.Lib
/-! ### the world at the law's start -/
theorem globals_size : Tryz.prog.globals.size = 9 := by kernel_rfl
theorem zero2 : ((begin Tryz.prog (fun _ _ => 0) default).world.heap[2]?).bind Obj.row? = some ((List.replicate 20 (.int .u64 0)).toArray, 277) := by kernel_rfl
theorem zero3 : ((begin Tryz.prog (fun _ _ => 0) default).world.heap[3]?).bind Obj.row? = some (#[.int .i64 0], 3) := by kernel_rfl
theorem lt9 (g : Nat) (h : g < 9) : g < Tryz.prog.globals.size := by rw [globals_size]; exact h
theorem block2 {W : World} (h : W.ShapedOpen Tryz.prog) : ∃ cs : Array Value, W.heap[2]? = some (.cells cs 277) ∧ cs.size = 20 := by
  obtain ⟨cs, h1, h2, _⟩ := h.1 2 _ _ (lt9 2 (by decide)) zero2
  refine ⟨cs, h1, h2.trans ?_⟩
  rw [List.size_toArray, List.length_replicate]
theorem one_cell {cs : Array Value} (h : cs.size = 1) : ∃ v, cs = #[v] := by
  obtain ⟨l⟩ := cs
  match l, h with
  | [v], _ => exact ⟨v, rfl⟩
theorem types3 : Tryz.prog.cellTypes Tryz.prog.depth 3 = some [3] := by kernel_rfl
theorem build3 : Tryz.prog.buildable 3 = true := by kernel_rfl
theorem int_of_cell {w : World} {b : Nat} {v : Value} (h : Cell.ok Tryz.prog w .any b 3 v) : ∃ m, v = .int .i64 m := by
  unfold Cell.ok at h
  rw [Tryz.underlying3] at h
  cases v with
  | int k n => obtain ⟨rfl, _⟩ := h; exact ⟨n, rfl⟩
  | _ => cases h
theorem maxLen_cell {W : World} (h : W.ShapedOpen Tryz.prog) : ∃ m, W.cell? ⟨3, 0, none⟩ = some (.int .i64 m) := by
  obtain ⟨cs, h1, h2, h3⟩ := h.1 3 _ _ (lt9 3 (by decide)) zero3
  obtain ⟨ts, h4, h5, h6⟩ := h3 build3
  obtain rfl : ts = [3] := Option.some.inj (h4.symm.trans types3)
  obtain ⟨v, rfl⟩ := one_cell h2
  obtain ⟨u, h7, h8⟩ := h6 0 v rfl
  obtain rfl : u = 3 := (Option.some.inj h7).symm
  obtain ⟨m, rfl⟩ := int_of_cell h8
  refine ⟨m, ?_⟩
  unfold World.cell?
  rw [h1]
  rfl
theorem errAt_of_reads {W : World} {n : String} {g : Nat} {name : String} {d : DataW Unit} (hg : Tryz.prog.globalNamed n = some g) (ht : (Tryz.prog.globals[g]?).map (·.type) = some 74)
    (h : Lib.VarReads Tryz.prog W n (.iface name d)) : ErrAt W g := by
  obtain ⟨g', t, cs, fuel, p, h1, h2, h3, h4⟩ := h
  obtain rfl := Option.some.inj (hg.symm.trans h1)
  obtain rfl := Option.some.inj (ht.symm.trans h2)
  obtain ⟨_, u, v, h5, _⟩ := iface_of_trod Tryz.underlying74 h4
  refine ⟨.iface u v, ?_, .inr ⟨u, v, rfl⟩⟩
  rw [World.var?_cell hg h3 0, ← Array.getElem?_toList, h5]
  rfl
def pow10s : List Int := [1, 10, 100, 1000, 10000, 100000, 1000000, 10000000, 100000000, 1000000000, 10000000000, 100000000000, 1000000000000, 10000000000000, 100000000000000, 1000000000000000, 10000000000000000, 100000000000000000, 1000000000000000000, 10000000000000000000]
theorem pow_type : (Tryz.prog.globals[2]?).map (·.type) = some 277 := by kernel_rfl
theorem pow_cells {W : World} {n : String} (pow_name : Tryz.prog.globalNamed n = some 2) (h : Lib.VarReads Tryz.prog W n (tabData .u64 pow10s)) : W.var? Tryz.prog n = some (pow10s.map fun z => Value.int .u64 z).toArray := by
  obtain ⟨g, t, cs, fuel, p, h1, h2, h3, h4⟩ := h
  obtain rfl := Option.some.inj (pow_name.symm.trans h1)
  obtain rfl : t = 277 := Option.some.inj (h2.symm.trans pow_type)
  have h5 := cells_of_tab Tryz.underlying277 Tryz.underlying197 (by kernel_rfl) (by kernel_rfl) h4
  rw [h3, ← h5]
theorem pow_block {W : World} {n : String} (pow_name : Tryz.prog.globalNamed n = some 2) (h : W.ShapedOpen Tryz.prog) (hv : W.var? Tryz.prog n = some (pow10s.map fun z => Value.int .u64 z).toArray) :
    W.heap[2]? = some (.cells (pow10s.map fun z => Value.int .u64 z).toArray 277) := by
  obtain ⟨cs, h1, _⟩ := block2 h
  unfold World.var? at hv
  rw [pow_name, Option.bind_some, h1] at hv
  rw [h1, ← Option.some.inj hv]
end Go.Proofs
namespace Go.Canon
open Go Go.RowKit
noncomputable def ρ0 : Ren := fun i => if i = 0 then some { b := 2, d := 0, n := 20, rn := 20, sz := 20 } else none
theorem g0_eq : g0 = .cells (Go.Proofs.pow10s.map (Value.int .u64)) 277 (0, 20) := by kernel_rfl
theorem S0_get : S0.heap.get 0 = some g0 := by kernel_rfl
theorem T0_gobjs : T0.gobjs = [g0] := rfl
theorem T0_size277 : T0.sizeOf 277 = some 20 := by kernel_rfl
theorem ρ0_some {i : Nat} {e : Ent} (h : ρ0 i = some e) : i = 0 ∧ e = { b := 2, d := 0, n := 20, rn := 20, sz := 20 } := by
  unfold ρ0 at h
  split at h
  · exact ⟨‹_›, (Option.some.inj h).symm⟩
  · cases h
theorem full_none : ∀ (d n f : Nat), (mkGet f n : GetF CObj).run (Tr.full d) = none := by
  intro d
  induction d with
  | zero => intro n f; exact mkGet_nil f n
  | succ d ih =>
    intro n f
    cases f with
    | zero => rfl
    | succ f =>
      cases n with
      | zero => exact mkGet_zero f none _ _
      | succ k =>
        rw [Tr.full, mkGet_succ]
        cases Nat.beq (k % 2) 0 <;> exact ih _ _
theorem S0_none {i : Nat} (h : 1 ≤ i) : S0.heap.get i = none := by
  obtain ⟨k, rfl⟩ : ∃ k, i = k + 1 := ⟨i - 1, by omega⟩
  show (mkGet 48 (k + 1) : GetF CObj).run (.node (some g0) (Tr.full 18) (Tr.full 18)) = none
  rw [mkGet_succ]
  cases Nat.beq (k % 2) 0 <;> exact full_none _ _ _
theorem start_rel {w : World} (h : w.heap[2]? = some (.cells (Go.Proofs.pow10s.map fun z => Value.int .u64 z).toArray 277)) : Rel T0 w.heap.size w ρ0 S0 w := by
  have hlt : 2 < w.heap.size := by
    rcases Nat.lt_or_ge 2 w.heap.size with h' | h'
    · exact h'
    · rw [Array.getElem?_eq_none h'] at h; cases h
  refine ⟨?_, ?_, ?_, ?_, Below.refl _ _, Nat.le_refl _, ?_, ?_⟩
  · intro i o e h1 h2
    obtain ⟨rfl, rfl⟩ := ρ0_some h2
    obtain rfl : g0 = o := Option.some.inj (S0_get.symm.trans h1)
    refine ⟨_, h, ?_⟩
    rw [g0_eq]
    refine OR.cells rfl rfl (Nat.le_refl _) (fun i hi => ?_) T0_size277 (Nat.dvd_zero _) (.inl rfl)
    have hi : i < Go.Proofs.pow10s.length := hi
    simp only [Nat.add_zero, List.getD, List.getElem?_map, List.getElem?_eq_getElem hi, Option.map_some, Option.getD_some]
    exact VR.int _ _
  · intro i j o o' e e' _ _ h3 h4 _
    exact (ρ0_some h3).1.trans (ρ0_some h4).1.symm
  · intro i o e h1 h2
    obtain ⟨rfl, rfl⟩ := ρ0_some h2
    obtain rfl : g0 = o := Option.some.inj (S0_get.symm.trans h1)
    exact .inr ⟨_, _, 20, g0_eq, by decide, by decide⟩
  · intro i hi
    have hi : 1 ≤ i := hi
    refine ⟨?_, S0_none hi⟩
    unfold ρ0
    rw [if_neg (by omega)]
  · intro j o hj
    rw [T0_gobjs] at hj
    cases j with
    | zero =>
      obtain rfl : g0 = o := Option.some.inj hj
      exact ⟨S0_get, _, rfl, hlt⟩
    | succ j => cases hj
  · intro g i hg
    obtain ⟨rfl, rfl⟩ := glT_get hg
    exact ⟨_, rfl, rfl, rfl⟩
end Go.Canon
namespace Go.Proofs
open Go.Canon Go.RowKit
theorem sane_calls {w : World} (h : w.heap[2]? = some (.cells (pow10s.map fun z => Value.int .u64 z).toArray 277)) :
    Calls Tryz.prog 4 #[] w fun e w' => e = .returned (.bool true) ∧ Below w.heap.size w w' := by
  obtain ⟨fn, h1, _, h3⟩ := sane_gives (start_rel h)
  rcases h3 with ⟨_, h4⟩ | ⟨h4, _⟩
  · refine Calls.mono (callsIn_wide.1 h4) ?_
    rintro e w' ⟨v', rfl, rfl, h5⟩
    exact ⟨rfl, h5⟩
  · exfalso
    have : Tryz.prog.funcs[4]? = some fn := h1
    rw [Tryz.func4] at this
    obtain rfl := Option.some.inj this
    revert h4
    exact (by kernel_rfl : Tryz.f4.body.isSome = true) ▸ (by decide)
end Go.Proofs
