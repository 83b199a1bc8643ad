/- The evaluator's soundness over the calculus of calls, one part; no conditions. -/
import Derived.Laws.Append
import Derived.Test.YtlmeiickknfhhaaGreatDoorCc
set_option linter.all false
set_option linter.unusedVariables false
set_option linter.unusedSimpArgs false
set_option linter.unusedSectionVars false
set_option linter.unnecessarySimpa false
section
namespace Go.Canon
open Go Go.RowKit
set_option linter.unusedSectionVars false
section
variable {T : Tab} {base : Nat} {w0 w : World} {ρ : Ren} {s : CSt} {ca : CAct} {a : Act} {k : Value → CSt → Option COut} {x : COut}
variable (hr : Rel T base w0 ρ s w) (ha : AR ρ ca a) (hT : T.Ok)
include hr hT
theorem cutArr_sound {i off n len : Nat} {e : Ent} {low high mx low' high' mx' : Option Value} {r0 : OpR} (h : cutArr i off n len low high mx = some r0) (hk : quietK s r0 k = some x)
    (he : ρ i = some e) (hl : OV low low') (hh : OV high high') (hm : OV mx mx') :
    ∃ l r, mx' = none ∧ (∀ b, (Instr.sliceBounds b len len low' high' none).run T.P w = .ok (l, r, len) w) ∧
      Sound1 T base w0 ρ s w k x (.slice (some (if len = l then ⟨e.b, off + e.d, none⟩ else (⟨e.b, off + e.d, none⟩ : Addr).add (l * n))) (r - l) (len - l)) w := by
  unfold cutArr at h
  cases mx with
  | some m => cases h
  | none =>
    cases mx' with
    | some m => exact hm.elim
    | none =>
      simp only at h
      cases h1 : Nat.ble BIG len with
      | true => rw [h1] at h; cases h
      | false =>
        rw [h1] at h
        simp only [cond_false] at h
        cases h2 : boundsC len len low high with
        | none => rw [h2] at h; cases h
        | some lr =>
          obtain ⟨l, r⟩ := lr
          rw [h2] at h
          simp only [Option.some.injEq] at h
          have hlt : len < BIG := Nat.lt_of_not_le fun q => by rw [ble_iff.2 q] at h1; cases h1
          exact ⟨l, r, rfl, fun b => boundsC_run h2 hl hh (Nat.le_refl _), cutAt_sound hr h.symm hk he hlt⟩
include ha
theorem copSlice_sound {t : TypeId} {y : Operand} {lo hi mx : Option Operand} {r : OpR} (h : copSlice T s.heap (ceval T ca) t y lo hi mx = some r) (hk : quietK s r k = some x) :
    ∃ v', (Instr.sliceAt t (a.eval y) (lo.map a.eval) (hi.map a.eval) (mx.map a.eval)).run T.P w = .ok v' w ∧ Sound1 T base w0 ρ s w k x v' w := by
  simp only [copSlice, Option.bind_eq_bind] at h
  cases h1 : ceval T ca y with
  | none => rw [h1] at h; cases h
  | some u =>
    rw [h1] at h
    simp only [Option.bind_some] at h
    cases h2 : optEv (ceval T ca) lo with
    | none => rw [h2] at h; cases h
    | some low =>
      rw [h2] at h
      simp only [Option.bind_some] at h
      cases h3 : optEv (ceval T ca) hi with
      | none => rw [h3] at h; cases h
      | some high =>
        rw [h3] at h
        simp only [Option.bind_some] at h
        cases h4 : optEv (ceval T ca) mx with
        | none => rw [h4] at h; cases h
        | some max =>
          rw [h4] at h
          simp only [Option.bind_some] at h
          have hl := optEv_sound hr ha hT h2
          have hh := optEv_sound hr ha hT h3
          have hm := optEv_sound hr ha hT h4
          generalize lo.map a.eval = low' at hl ⊢
          generalize hi.map a.eval = high' at hh ⊢
          generalize mx.map a.eval = max' at hm ⊢
          have hu := ha.eval hr h1
          generalize hy : a.eval y = u' at hu ⊢
          unfold sliceC at h
          cases h5 : T.under t with
          | none => rw [h5] at h; cases h
          | some d =>
            rw [h5] at h
            have hru := hT.run_under h5 w
            cases d with
            | string =>
              cases hu with
              | string q =>
                simp only at h
                cases max with
                | some m => cases h
                | none =>
                  cases max' with
                  | some m => exact hm.elim
                  | none =>
                    simp only at h
                    cases h6 : boundsC q.size q.size low high with
                    | none => rw [h6] at h; cases h
                    | some lr =>
                      obtain ⟨l, r'⟩ := lr
                      rw [h6] at h
                      cases h
                      refine ⟨.string (q.extract l r'), ?_, .same hr (quiet_val hk) (.string _)⟩
                      simp [Instr.sliceAt, Instr.slice, hru, boundsC_run h6 hl hh (Nat.le_refl _)]
              | _ => cases h
            | slice elem =>
              cases u with
              | slice ad len cap =>
                simp only at h
                cases h6 : T.sizeOf elem with
                | none => rw [h6] at h; cases h
                | some n =>
                  rw [h6] at h
                  have hsz := hT.run_size h6 w
                  simp only at h
                  cases hu with
                  | nils =>
                    simp only at h
                    cases max with
                    | some m => cases h
                    | none =>
                      cases max' with
                      | some m => exact hm.elim
                      | none =>
                        simp only at h
                        cases h7 : Nat.beq cap 0 && Nat.beq len 0 with
                        | false => rw [h7] at h; cases h
                        | true =>
                          rw [h7] at h
                          simp only [Bool.and_eq_true] at h7
                          have e1 := Nat.eq_of_beq_eq_true h7.1
                          have e2 := Nat.eq_of_beq_eq_true h7.2
                          subst e1; subst e2
                          simp only [cond_true] at h
                          cases h8 : boundsC 0 0 low high with
                          | none => rw [h8] at h; cases h
                          | some lr =>
                            obtain ⟨l, r'⟩ := lr
                            rw [h8] at h
                            cases h
                            obtain ⟨_, _, q3, q4⟩ := boundsC_parts h8
                            have e3 : r' = 0 := by omega
                            have e4 : l = 0 := by omega
                            refine ⟨.slice none 0 0, ?_, .same hr (quiet_val hk) (.nils _ _)⟩
                            simp [Instr.sliceAt, Instr.slice, hru, hsz, boundsC_run h8 hl hh (Nat.le_refl _), e3, e4]
                  | xs he hc =>
                    simp only at h
                    cases max with
                    | none =>
                      cases max' with
                      | some m => exact hm.elim
                      | none =>
                        simp only at h
                        cases h7 : Nat.ble BIG cap with
                        | true => have := ble_iff.1 h7; omega
                        | false =>
                          rw [h7] at h
                          simp only at h
                          cases h8 : boundsC len cap low high with
                          | none => rw [h8] at h; cases h
                          | some lr =>
                            obtain ⟨l, r'⟩ := lr
                            rw [h8] at h
                            simp only [Option.some.injEq] at h
                            refine ⟨_, ?_, cutAt_sound hr h.symm hk he hc⟩
                            simp only [Instr.sliceAt, Instr.slice, Sem.run_bind, hru, hsz, boundsC_run h8 hl hh (Nat.le_refl _), Result.andThen_ok, Sem.run_pure]
                            split <;> rfl
                    | some m =>
                      cases max' with
                      | none => exact hm.elim
                      | some m' =>
                        cases high with
                        | none => cases h
                        | some hv =>
                          cases high' with
                          | none => exact hh.elim
                          | some hv' =>
                            simp only at h
                            cases h9 : asNat m with
                            | none => rw [h9] at h; cases h
                            | some mm =>
                              rw [h9] at h
                              simp only at h
                              cases h10 : Nat.ble mm len && (Nat.ble mm cap && (!(Nat.ble BIG mm) && !(Nat.beq len 0))) with
                              | false => rw [h10] at h; cases h
                              | true =>
                                rw [h10] at h
                                simp only [cond_true] at h
                                simp only [Bool.and_eq_true, Bool.not_eq_true'] at h10
                                cases h8 : boundsC len mm low (some hv) with
                                | none => rw [h8] at h; cases h
                                | some lr =>
                                  obtain ⟨l, r'⟩ := lr
                                  rw [h8] at h
                                  simp only [Option.some.injEq] at h
                                  have hlt : mm < BIG := Nat.lt_of_not_le fun q => by rw [ble_iff.2 q] at h10; cases h10.2.2.1
                                  have hmc := ble_iff.1 h10.2.1
                                  · refine ⟨_, ?_, cutAt_sound hr h.symm hk he hlt⟩
                                    simp only [Instr.sliceAt, Instr.slice, Sem.run_bind, hru, hsz, boundsC_run3 h8 hl hh (hm mm h9) hmc, Result.andThen_ok, Sem.run_pure]
                                    split <;> rfl
                  | gs he hb g1 g2 g3 g4 =>
                    simp only at h
                    cases max with
                    | none =>
                      cases max' with
                      | some m => exact hm.elim
                      | none =>
                        simp only at h
                        rw [ble_iff.2 hb] at h
                        simp only at h
                        obtain ⟨l, r', q1, q2⟩ := cutBig_sound hr hT h hk he hb g1 g2 g3 g4 h6 hl hh
                        refine ⟨_, ?_, q2⟩
                        simp only [Instr.sliceAt, Instr.slice, Sem.run_bind, hru, hsz, q1, Result.andThen_ok, Sem.run_pure]
                        split <;> rfl
                    | some m =>
                      cases max' with
                      | none => exact hm.elim
                      | some m' =>
                        cases high with
                        | none => cases h
                        | some hv =>
                          cases high' with
                          | none => exact hh.elim
                          | some hv' =>
                            simp only at h
                            cases h9 : asNat m with
                            | none => rw [h9] at h; cases h
                            | some mm =>
                              rw [h9] at h
                              simp only at h
                              cases h10 : Nat.ble mm len && (Nat.ble mm cap && (!(Nat.ble BIG mm) && !(Nat.beq len 0))) with
                              | false => rw [h10] at h; cases h
                              | true =>
                                rw [h10] at h
                                simp only [cond_true] at h
                                simp only [Bool.and_eq_true, Bool.not_eq_true'] at h10
                                cases h8 : boundsC len mm low (some hv) with
                                | none => rw [h8] at h; cases h
                                | some lr =>
                                  obtain ⟨l, r'⟩ := lr
                                  rw [h8] at h
                                  simp only [Option.some.injEq] at h
                                  have hlt : mm < BIG := Nat.lt_of_not_le fun q => by rw [ble_iff.2 q] at h10; cases h10.2.2.1
                                  have hml := ble_iff.1 h10.1
                                  have hl0 : 0 < len := Nat.pos_of_ne_zero fun q => by rw [q] at h10; cases h10.2.2.2
                                  have hoff := g1.resolve_left (by omega)
                                  subst hoff
                                  refine ⟨_, ?_, cutAt_sound hr h.symm hk he hlt⟩
                                  simp only [Instr.sliceAt, Instr.slice, Sem.run_bind, hru, hsz, boundsC_run3 h8 hl hh (hm mm h9) (Nat.le_trans hml g2), Result.andThen_ok, Sem.run_pure]
                                  split <;> rfl
              | _ => cases h
            | array len elem =>
              cases hu with
              | ptr he =>
                simp only at h
                cases h6 : T.sizeOf elem with
                | none => rw [h6] at h; cases h
                | some n =>
                  rw [h6] at h
                  obtain ⟨l, r', e1, q1, q2⟩ := cutArr_sound hr hT h hk he hl hh hm
                  subst e1
                  refine ⟨_, ?_, q2⟩
                  simp only [Instr.sliceAt, Sem.run_bind, hru, hT.run_size h6 w, q1, Result.andThen_ok, Sem.run_pure, Instr.sureAddr]
              | _ => cases h
            | pointer arr =>
              cases hu with
              | ptr he =>
                simp only at h
                cases h7 : T.under arr with
                | none => rw [h7] at h; cases h
                | some d2 =>
                  rw [h7] at h
                  cases d2 with
                  | array len elem =>
                    simp only at h
                    cases h6 : T.sizeOf elem with
                    | none => rw [h6] at h; cases h
                    | some n =>
                      rw [h6] at h
                      obtain ⟨l, r', e1, q1, q2⟩ := cutArr_sound hr hT h hk he hl hh hm
                      subst e1
                      refine ⟨_, ?_, q2⟩
                      simp only [Instr.sliceAt, Instr.slice, asAddr, Sem.run_bind, hru, hT.run_under h7 w, hT.run_size h6 w, q1, Result.andThen_ok, Sem.run_pure]
                  | _ => cases h
              | _ => cases h
            | _ => cases u <;> cases h
end
end Go.Canon
end
section
namespace Go.Canon
open Go Go.RowKit
set_option linter.unusedSectionVars false
section
variable {T : Tab} {base : Nat} {w0 w : World} {ρ : Ren} {s : CSt} {ca : CAct} {a : Act} {k : Value → CSt → Option COut} {x : COut}
variable (hr : Rel T base w0 ρ s w) (hT : T.Ok)
include hr
/-- the first n elements of a slice or a string, on both sides -/
theorem firstC_sound {size n : Nat} {v v' : Value} {l : List Value} (h : firstC T s.heap size n v = some l) (hv : VR ρ v v') (hn : ∀ b m c, v = .slice b m c → n ≤ m) :
    ∃ arr, (Builtin.firstCells size n v').run T.P w = .ok arr w ∧ VRs ρ l arr.toList := by
  cases hv with
  | nils m c =>
    simp only [firstC] at h
    split at h
    · cases h; exact ⟨#[], rfl, VRs.nil⟩
    · cases h
  | string q =>
    simp only [firstC] at h
    cases h1 : Nat.beq size 1 with
    | false => rw [h1] at h; cases h
    | true =>
    rw [h1] at h; cases h
    refine ⟨(q.extract 0 n).data.map fun b => .int .u8 b.toNat, rfl, ?_⟩
    refine ⟨rfl, fun i hi => ?_⟩
    simp only [Array.length_toList, Array.size_map] at hi
    rw [List.getD_eq_getElem?_getD, Array.getElem?_toList, Array.getElem?_map, Array.getElem?_eq_getElem hi]
    exact .int _ _
  | xs he hc =>
    rename_i i off m c e
    simp only [firstC] at h
    cases h0 : Nat.beq (n * size) 0 with
    | true =>
      rw [h0] at h; cases h
      have e0 := Nat.eq_of_beq_eq_true h0
      exact ⟨#[], by simp [Builtin.firstCells, e0, loadCells, loadCellsFrom], VRs.nil⟩
    | false =>
      rw [h0] at h
      simp only [cond_false, getCells, Option.bind_eq_bind] at h
      cases hg : s.heap.get i with
      | none => rw [hg] at h; cases h
      | some o =>
        rw [hg] at h
        cases o with
        | cells vs el fz =>
          simp only [Option.bind_some] at h
          obtain ⟨arr, fr, hw, a1, a2, a3, hcl, _, _, _⟩ := hr.cells hg he
          obtain ⟨c1, c2, c3⟩ := cellsAt_spec h
          have hl : ∀ j y, ((arr.toList.drop (off + e.d)).take (n * size))[j]? = some y → w.cell? ((⟨e.b, off + e.d, none⟩ : Addr).add j) = some y := by
            intro j y hy
            rw [add_mk, cell?_at hw, ← Array.getElem?_toList]
            rw [List.getElem?_take] at hy
            split at hy
            · rw [List.getElem?_drop] at hy; exact hy
            · cases hy
          have hlen : ((arr.toList.drop (off + e.d)).take (n * size)).length = n * size := by simp; omega
          have hrun := run_loadCells_list (P := T.P) w ⟨e.b, off + e.d, none⟩ _ hl
          rw [hlen] at hrun
          refine ⟨_, hrun, ⟨by rw [c2]; simp only [hlen], fun j hj => ?_⟩⟩
          have hjn : j < n * size := by omega
          have hlt : off + j < vs.length := by omega
          obtain ⟨y, hy, hv⟩ := hcl (off + j) vs[off + j] (List.getElem?_eq_getElem hlt)
          rw [List.getD_eq_getElem?_getD, cellsAt_get h j hjn, List.getElem?_eq_getElem hlt, List.getD_eq_getElem?_getD]
          simp only
          rw [List.getElem?_take, if_pos hjn, List.getElem?_drop, Array.getElem?_toList, show off + e.d + j = off + j + e.d from by omega, hy]
          exact hv
        | _ => cases h
  | gs he hc g1 g2 g3 g4 =>
    rename_i i off m c off' c' e
    have hnm := hn _ _ _ rfl
    simp only [firstC] at h
    cases h0 : Nat.beq (n * size) 0 with
    | true =>
      rw [h0] at h; cases h
      have e0 := Nat.eq_of_beq_eq_true h0
      exact ⟨#[], by simp [Builtin.firstCells, e0, loadCells, loadCellsFrom], VRs.nil⟩
    | false =>
      rw [h0] at h
      have hpos : 0 < n := Nat.pos_of_ne_zero fun q => by rw [q, Nat.zero_mul] at h0; cases h0
      have hoff := g1.resolve_left (by omega)
      subst hoff
      simp only [cond_false, getCells, Option.bind_eq_bind] at h
      cases hg : s.heap.get i with
      | none => rw [hg] at h; cases h
      | some o =>
        rw [hg] at h
        cases o with
        | cells vs el fz =>
          simp only [Option.bind_some] at h
          obtain ⟨arr, fr, hw, a1, a2, a3, hcl, _, _, _⟩ := hr.cells hg he
          obtain ⟨c1, c2, c3⟩ := cellsAt_spec h
          have hl : ∀ j y, ((arr.toList.drop (off + e.d)).take (n * size))[j]? = some y → w.cell? ((⟨e.b, off + e.d, none⟩ : Addr).add j) = some y := by
            intro j y hy
            rw [add_mk, cell?_at hw, ← Array.getElem?_toList]
            rw [List.getElem?_take] at hy
            split at hy
            · rw [List.getElem?_drop] at hy; exact hy
            · cases hy
          have hlen : ((arr.toList.drop (off + e.d)).take (n * size)).length = n * size := by simp; omega
          have hrun := run_loadCells_list (P := T.P) w ⟨e.b, off + e.d, none⟩ _ hl
          rw [hlen] at hrun
          refine ⟨_, hrun, ⟨by rw [c2]; simp only [hlen], fun j hj => ?_⟩⟩
          have hjn : j < n * size := by omega
          have hlt : off + j < vs.length := by omega
          obtain ⟨y, hy, hv⟩ := hcl (off + j) vs[off + j] (List.getElem?_eq_getElem hlt)
          rw [List.getD_eq_getElem?_getD, cellsAt_get h j hjn, List.getElem?_eq_getElem hlt, List.getD_eq_getElem?_getD]
          simp only
          rw [List.getElem?_take, if_pos hjn, List.getElem?_drop, Array.getElem?_toList, show off + e.d + j = off + j + e.d from by omega, hy]
          exact hv
        | _ => cases h
  | _ => cases h
theorem lenC_sound {v v' : Value} {n : Nat} (h : lenC v = some n) (hv : VR ρ v v') : (Builtin.lenOf v').run T.P w = .ok n w ∧ ∀ b m c, v = .slice b m c → n ≤ m := by
  cases hv <;> simp [lenC] at h <;> subst h <;> refine ⟨rfl, ?_⟩ <;> intro b m c e <;> cases e <;> exact Nat.le_refl _
end
theorem growBy_le (newLen : Nat) : ∀ (r c : Nat), Builtin.growBy newLen r c ≤ max c (newLen + (newLen + 768) / 4) := by
  intro r
  induction r with
  | zero => intro c; simp [Builtin.growBy]; omega
  | succ r ih =>
    intro c
    simp only [Builtin.growBy]
    split
    · omega
    · have := ih (c + (c + 768) / 4)
      omega
theorem nextcap_le {need cap : Nat} (h : cap < need) : Builtin.nextslicecap need cap ≤ 2 * need + 1000 := by
  unfold Builtin.nextslicecap
  split
  · omega
  · split
    · omega
    · have := growBy_le need 4 cap
      omega
end Go.Canon
end
section
namespace Go.Canon
open Go Go.RowKit
set_option linter.unusedSectionVars false
section
variable {T : Tab} {base : Nat} {w0 w : World} {ρ : Ren} {s : CSt} {k : Value → CSt → Option COut} {x : COut}
theorem quiet_grow {old : Nat} {o : CObj} {mk : Nat → Value} (h : quietK s (.grow old o mk) k = some x) (hne : old ≠ s.next) :
    ∃ s', k (mk s.next) s' = some x ∧ s'.next = s.next + 1 ∧ s'.heap.get s.next = some o ∧ s'.heap.get old = none ∧ ∀ m, m ≠ s.next → m ≠ old → s'.heap.get m = s.heap.get m := by
  obtain ⟨h0, n⟩ := s
  simp only [quietK, killK, allocK, forceObj_eq] at h
  obtain ⟨t1, h1, h2, h3⟩ := Tr.setK_spec h
  obtain ⟨t2, g1, g2, g3⟩ := Tr.setK_spec h1
  rw [force_eq] at g1
  exact ⟨⟨t2, Nat.succ n⟩, g1, rfl, g2, by rw [g3 _ hne]; exact h2, fun m hm hm2 => by rw [g3 m hm, h3 m hm2]⟩
/-- the old object is not touched any more; the new one lies where it lay, or in a new block: 'b', of which no other object tells -/
theorem Rel.adopt (h : Rel T base w0 ρ s w) {old : Nat} {oo o : CObj} {eo e : Ent} {s' : CSt} {w' : World} {r : Obj} (hn : s'.next = s.next + 1) (ho : s.heap.get old = some oo) (hρ : ρ old = some eo)
    (hg : s'.heap.get s.next = some o) (hk : s'.heap.get old = none) (hs : ∀ m, m ≠ s.next → m ≠ old → s'.heap.get m = s.heap.get m) (hown : base ≤ eo.b)
    (hb : e.b = eo.b ∨ e.b = w.heap.size) (hw : Below base w w') (hsz : w.heap.size ≤ w'.heap.size) (hwb : w'.heap[e.b]? = some r)
    (hoth : ∀ b, b < w.heap.size → b ≠ eo.b → w'.heap[b]? = w.heap[b]?) (hor : OR T (Ren.set ρ s.next e) e o r) :
    Rel T base w0 (Ren.set ρ s.next e) s' w' ∧ Ext ρ s w (Ren.set ρ s.next e) s' w' := by
  have hd := h.dom s.next (Nat.le_refl _)
  have hold : ∀ i o' e', s'.heap.get i = some o' → (Ren.set ρ s.next e) i = some e' → i ≠ s.next → i ≠ old ∧ s.heap.get i = some o' ∧ ρ i = some e' := by
    intro i o' e' h1 h2 hi
    have h3 : i ≠ old := fun q => by rw [q, hk] at h1; cases h1
    rw [hs i hi h3] at h1; rw [Ren.set_other hi] at h2
    exact ⟨h3, h1, h2⟩
  have hlt : ∀ i o' e', s.heap.get i = some o' → ρ i = some e' → e'.b < w.heap.size := by
    intro i o' e' h1 h2
    obtain ⟨r', h3, _⟩ := h.obj i o' e' h1 h2
    exact (Array.getElem?_eq_some_iff.1 h3).1
  have hmono : ∀ i e', ρ i = some e' → (Ren.set ρ s.next e) i = some e' := by
    intro i e' hi
    rw [Ren.set_other]
    · exact hi
    · intro hc; rw [hc, hd.1] at hi; cases hi
  have hneb : ∀ i o' e', s.heap.get i = some o' → ρ i = some e' → i ≠ old → e'.b ≠ eo.b := fun i o' e' h1 h2 h3 h4 => h3 (h.inj i old o' oo e' eo h1 ho h2 hρ h4)
  refine ⟨{ obj := ?_, inj := ?_, own := ?_, dom := ?_, below := ?_, base_le := ?_, glob := ?_, gl := ?_ }, { keep := ?_, mono := ?_, size := ?_, frame := ?_, fresh := ?_ }⟩
  · intro i o' e' h1 h2
    by_cases hi : i = s.next
    · subst hi
      rw [hg] at h1; rw [Ren.set_same] at h2; cases h1; cases h2
      exact ⟨r, hwb, hor⟩
    · obtain ⟨c, a, b⟩ := hold i o' e' h1 h2 hi
      obtain ⟨r', h3, h4⟩ := h.obj i o' e' a b
      exact ⟨r', by rw [hoth _ (hlt i o' e' a b) (hneb i o' e' a b c)]; exact h3, h4.mono hmono⟩
  · intro i j o1 o2 e1 e2 a1 a2 b1 b2 hbb
    by_cases hi : i = s.next <;> by_cases hj : j = s.next
    · rw [hi, hj]
    · subst hi
      rw [Ren.set_same] at b1; cases b1
      obtain ⟨q, c, d⟩ := hold j o2 e2 a2 b2 hj
      have h1 := hlt j o2 e2 c d
      have h2 := hneb j o2 e2 c d q
      rcases hb with hb | hb
      · exact absurd (hbb.symm.trans hb) h2
      · omega
    · subst hj
      rw [Ren.set_same] at b2; cases b2
      obtain ⟨q, c, d⟩ := hold i o1 e1 a1 b1 hi
      have h1 := hlt i o1 e1 c d
      have h2 := hneb i o1 e1 c d q
      rcases hb with hb | hb
      · exact absurd (hbb.trans hb) h2
      · omega
    · obtain ⟨q, c, d⟩ := hold i o1 e1 a1 b1 hi
      obtain ⟨q', c', d'⟩ := hold j o2 e2 a2 b2 hj
      exact h.inj i j o1 o2 e1 e2 c c' d d' hbb
  · intro i o' e' h1 h2
    by_cases hi : i = s.next
    · subst hi
      rw [Ren.set_same] at h2; cases h2
      rcases hb with hb | hb
      · exact .inl (hb ▸ hown)
      · exact .inl (hb ▸ h.base_le)
    · obtain ⟨_, a, b⟩ := hold i o' e' h1 h2 hi
      exact h.own i o' e' a b
  · intro i hi
    rw [hn] at hi
    have h1 : i ≠ s.next := by omega
    have h2 : i ≠ old := fun q => by
      have := (h.dom i (by omega)).2
      rw [q, ho] at this; cases this
    rw [Ren.set_other h1, hs i h1 h2]
    exact h.dom i (by omega)
  · exact h.below.trans hw
  · exact Nat.le_trans h.base_le hsz
  · intro j oj hj
    obtain ⟨h1, e1, h2, h3⟩ := h.glob j oj hj
    have hne : j ≠ s.next := fun hc => by rw [hc, hd.2] at h1; cases h1
    have hne2 : j ≠ old := fun hc => by subst hc; rw [hρ] at h2; cases h2; omega
    exact ⟨by rw [hs j hne hne2]; exact h1, e1, by rw [Ren.set_other hne]; exact h2, h3⟩
  · intro g i hi
    obtain ⟨e1, h1, h2, h3⟩ := h.gl g i hi
    exact ⟨e1, hmono _ _ h1, h2, h3⟩
  · exact fun i hi => Ren.set_other (by omega)
  · omega
  · exact hsz
  · intro b hbl hnb
    exact hoth b hbl (fun q => hnb old oo eo ho hρ q.symm)
  · intro i o' e' h1 h2
    by_cases hi : i = s.next
    · subst hi; rw [Ren.set_same] at h2; cases h2
      rcases hb with hb | hb
      · exact .inl ⟨old, oo, eo, ho, hρ, hb.symm⟩
      · exact .inr (by omega)
    · obtain ⟨_, a, b⟩ := hold i o' e' h1 h2 hi
      exact .inl ⟨i, o', e', a, b, rfl⟩
end
end Go.Canon
end
section
namespace Go.Canon
open Go Go.RowKit
set_option linter.unusedSectionVars false
section
variable {P : Program} {w w' : World}
theorem notInt {d : TypeDesc} (h : isIntD d = false) : ∀ k, d ≠ .int k := by
  intro k e; subst e; cases h
/-- append where the new cells fit -/
theorem run_append_fit {ts : Array TypeId} {ty st xt elem : TypeId} {d : TypeDesc} {size n sLen sCap : Nat} {x' : Value} {b : Addr} {new : Array Value}
    (h0 : ts[0]? = some st) (h1 : ts[1]? = some xt) (hu : (underlying st).run P w = .ok (.slice elem) w) (hx : (underlying xt).run P w = .ok d w) (hd : isIntD d = false)
    (hs : (sizeOf elem).run P w = .ok size w) (hl : (Builtin.lenOf x').run P w = .ok n w) (hf : (Builtin.firstCells size n x').run P w = .ok new w) (hfit : sLen + n ≤ sCap)
    (hst : (storeCells (b.add (sLen * size)) new.toList).run P w = .ok () w') :
    (Builtin.append_ ts ty #[.slice (some b) sLen sCap, x']).run P w = .ok (.slice (some b) (sLen + n) sCap) w' := by
  simp [Builtin.append_, h0, h1, hu, hx, hs, hl, hf, hfit, hst]
  split
  · cases hd
  · simp [Builtin.append_, h0, h1, hu, hx, hs, hl, hf, hfit, hst]
theorem run_append_none {ts : Array TypeId} {ty st xt elem : TypeId} {d : TypeDesc} {size : Nat} {x' : Value} {new : Array Value}
    (h0 : ts[0]? = some st) (h1 : ts[1]? = some xt) (hu : (underlying st).run P w = .ok (.slice elem) w) (hx : (underlying xt).run P w = .ok d w) (hd : isIntD d = false)
    (hs : (sizeOf elem).run P w = .ok size w) (hl : (Builtin.lenOf x').run P w = .ok 0 w) (hf : (Builtin.firstCells size 0 x').run P w = .ok new w) :
    (Builtin.append_ ts ty #[.slice none 0 0, x']).run P w = .ok (.slice none 0 0) w := by
  simp [Builtin.append_, h0, h1, hu, hx, hs, hl, hf]
  split
  · cases hd
  · simp [Builtin.append_, h0, h1, hu, hx, hs, hl, hf]
/-- append where they do not fit -/
theorem run_append_new {ts : Array TypeId} {ty st xt elem : TypeId} {d : TypeDesc} {ti : TypeInfo} {z : Value} {n sLen sCap : Nat} {x' : Value} {b : Option Addr} {old new : Array Value}
    (h0 : ts[0]? = some st) (h1 : ts[1]? = some xt) (hu : (underlying st).run P w = .ok (.slice elem) w) (hx : (underlying xt).run P w = .ok d w) (hd : isIntD d = false)
    (hi : P.info? elem = some ti) (hz : ti.zero = some z) (hl : (Builtin.lenOf x').run P w = .ok n w)
    (hgt : sCap < sLen + n) (h63 : sLen + n ≤ 1048576) (hb : ti.bytes ≤ 65536)
    (ho : (Builtin.firstCells ti.size sLen (.slice b sLen sCap)).run P w.drew = .ok old w.drew) (hf : (Builtin.firstCells ti.size n x').run P w.drew = .ok new w.drew) :
    (Builtin.append_ ts ty #[.slice b sLen sCap, x']).run P w =
      .ok (.slice (some ⟨w.heap.size, 0, none⟩) (sLen + n) (grownCap w (sLen + n) sCap elem)) (w.drew.alloc (.cells (old ++ new ++ Builtin.zeroCells z.cells (grownCap w (sLen + n) sCap elem - (sLen + n))) elem)) := by
  have hn : ¬ (sLen + n ≤ sCap) := by omega
  have h63' : ¬ (9223372036854775807 < ((sLen : Int) + (n : Int))) := by omega
  have h48 : ¬ (281474976710656 < Builtin.nextslicecap (sLen + n) sCap * ti.bytes) := by
    have h2 := Canon.nextcap_le hgt
    have : Builtin.nextslicecap (sLen + n) sCap * ti.bytes ≤ 2098152 * 65536 := Nat.mul_le_mul (by omega) hb
    omega
  simp [Builtin.append_, h0, h1, hu, hx, sizeOf, typeInfo, zeroValue, hi, hz, hl, hn, h63', h48, Question.forced, ho, hf, newRow, grownCap]
  split
  · cases hd
  · simp [Builtin.append_, h0, h1, hu, hx, sizeOf, typeInfo, zeroValue, hi, hz, hl, hn, h63', h48, Question.forced, ho, hf, newRow, grownCap]
theorem grownCap_ge (w : World) (need old : Nat) (e : TypeId) : need ≤ grownCap w need old e := Nat.le_add_right _ _
end
end Go.Canon
end
section
namespace Go.Canon
open Go Go.RowKit
set_option linter.unusedSectionVars false
section
variable {T : Tab} {base : Nat} {w0 w : World} {ρ : Ren} {s : CSt} {k : Value → CSt → Option COut} {x : COut}
theorem Rel.drew (h : Rel T base w0 ρ s w) : Rel T base w0 ρ s w.drew := (h.of_heap (w' := w.drew) rfl rfl rfl rfl).1
theorem Ext.of_drew {ρ' : Ren} {s' : CSt} {w' : World} (h : Ext ρ s w.drew ρ' s' w') : Ext ρ s w ρ' s' w' := ⟨h.keep, h.mono, h.size, h.frame, h.fresh⟩
theorem gs_new {i n c' : Nat} {e : Ent} {off : Nat} (hd : e.d = off) (h1 : n ≤ c') (h2 : e.n ≤ c' * e.sz) (h3 : off + c' * e.sz ≤ e.rn) :
    VR (Ren.set ρ i e) (.slice (some ⟨i, 0, none⟩) n BIG) (.slice (some ⟨e.b, off, none⟩) n c') :=
  .gs (Ren.set_same ρ i e) (Nat.le_refl _) (.inr (by omega)) h1 (by omega) h3
theorem zeroCells_size (z : Array Value) (n : Nat) : (Builtin.zeroCells z n).size = n * z.size := by simp [Builtin.zeroCells]
theorem CellsRel.pre {vs : List Value} {arr rest : Array Value} (h : VRs ρ vs arr.toList) : CellsRel ρ 0 vs (arr ++ rest) := by
  intro j y hy
  obtain ⟨q, h1, h2⟩ := h.getElem? hy
  refine ⟨q, ?_, h2⟩
  rw [Nat.add_zero, ← Array.getElem?_toList, Array.toList_append, List.getElem?_append_left (List.getElem?_eq_some_iff.1 h1).1]
  exact h1
/-- the new row of an append that grows -/
theorem fresh_row (hr : Rel T base w0 ρ s w) {vs : List Value} {arr : Array Value} {z : Value} {el : TypeId} {need c' size : Nat} (hv : VRs ρ vs arr.toList) (hsz : T.sizeOf el = some size)
    (hl : vs.length = need * size) (hz : z.cells.size = size) (hc : need ≤ c')
    (hk : quietK s (.alloc (.cells vs el (0, 0)) fun id => .slice (some ⟨id, 0, none⟩) need BIG) k = some x) :
    Sound1 T base w0 ρ s w k x (.slice (some ⟨w.heap.size, 0, none⟩) need c') (w.drew.alloc (.cells (arr ++ Builtin.zeroCells z.cells (c' - need)) el)) := by
  obtain ⟨s', h1, h2, h3, h4⟩ := quiet_alloc hk
  have hal : arr.size = need * size := by have := hv.1; simp at this; omega
  have hmul : (c' - need) * size = c' * size - need * size := Nat.sub_mul _ _ _
  have hle : need * size ≤ c' * size := Nat.mul_le_mul_right _ hc
  have hrs : (arr ++ Builtin.zeroCells z.cells (c' - need)).size = c' * size := by rw [Array.size_append, zeroCells_size, hz, hal]; omega
  have := hr.drew.newCells (fr := (0, 0)) h2 h3 h4 (CellsRel.pre (rest := Builtin.zeroCells z.cells (c' - need)) hv) (by rw [hrs]; omega) hsz (FR.zero _ _)
  refine ⟨_, s', _, h1, this.2.of_drew, this.1, ?_⟩
  have := gs_new (ρ := ρ) (i := s.next) (n := need) (c' := c') (e := ⟨w.heap.size, 0, vs.length, (arr ++ Builtin.zeroCells z.cells (c' - need)).size, size⟩) (off := 0) rfl hc (by simp only; omega) (by simp only; omega)
  exact this
end
end Go.Canon
end
section
namespace Go.Canon
open Go Go.RowKit
set_option linter.unusedSectionVars false
section
variable {T : Tab} {base : Nat} {w0 w : World} {ρ : Ren} {s : CSt} {k : Value → CSt → Option COut} {x : COut}
theorem FR.none {fz fr : Nat × Nat} {d rn j : Nat} (h : FR fz fr d rn) (hz : fz.1 = fz.2) (hj : j < rn) : ¬ (fr.1 ≤ j ∧ j < fr.2) := by
  rcases h with h | ⟨h, _⟩ | ⟨_, h⟩ <;> omega
theorem FR.move {fz fr : Nat × Nat} {d d' rn : Nat} (h : FR fz fr d rn) (hz : fz.1 = fz.2) : FR fz fr d' rn := by
  rcases h with h | ⟨h, _⟩ | h
  · exact .inl h
  · omega
  · exact .inr (.inr h)
theorem not_locked' {vs : List Value} {el : TypeId} {fz : Nat × Nat} (hz : fz.1 = fz.2) : ¬ Locked (.cells vs el fz) := by
  rintro ⟨vs', el', m, he, h1, h2⟩
  cases he
  simp at hz
  omega
/-- the whole capacity is used on: in place, at the block's end -/
theorem grow_place (hr : Rel T base w0 ρ s w) {b off sLen n c' size : Nat} {vs old new : List Value} {newA : List Value} {el : TypeId} {fz : Nat × Nat} {e : Ent}
    (hg : s.heap.get b = some (.cells vs el fz)) (he : ρ b = some e) (hz : fz.1 = fz.2) (hsz : e.sz = size) (hdv : size ∣ off) (ho : cellsAt vs off (sLen * size) = some old)
    (hn : VRs ρ new newA) (hone : oneCells new = true) (hnl : new.length = n * size) (hfit : sLen + n ≤ c') (hcap : off + e.d + c' * size ≤ e.rn)
    (hk : quietK s (.grow b (.cells (old ++ new) el fz) fun id => .slice (some ⟨id, 0, none⟩) (sLen + n) BIG) k = some x) :
    ∃ w', (storeCells ⟨e.b, off + e.d + sLen * size, none⟩ newA).run T.P w = .ok () w' ∧
      Sound1 T base w0 ρ s w k x (.slice (some ⟨e.b, off + e.d, none⟩) (sLen + n) c') w' := by
  obtain ⟨arr, fr, hw, a1, a2, a3, hcl, hs, hdv2, hfr⟩ := hr.cells hg he
  obtain ⟨c1, c2, c3⟩ := cellsAt_spec ho
  have hyl := hn.1
  have hmul : (sLen + n) * size = sLen * size + n * size := Nat.add_mul _ _ _
  have hle : (sLen + n) * size ≤ c' * size := Nat.mul_le_mul_right _ hfit
  have hbn : b < s.next := Nat.lt_of_not_le fun q => by rw [(hr.dom b q).2] at hg; cases hg
  have hrun := run_storeCells_over (P := T.P) e.b (off + e.d + sLen * size) el fr newA 0 arr w hw (by omega) (hn.oneCells (oneCells_spec _ hone)) (by
    intro j q1 q2
    exact hfr.none hz (by omega))
  rw [Nat.add_zero] at hrun
  obtain ⟨s', h1, h2, h3, h4, h5⟩ := quiet_grow hk (by omega)
  have hown := (hr.own _ _ _ hg he).resolve_right (not_locked' hz)
  have hbs : e.b < w.heap.size := (Array.getElem?_eq_some_iff.1 hw).1
  have hcr : CellsRel ρ (off + e.d) (old ++ new) (overA arr (off + e.d + sLen * size) newA) := by
    intro j y hy
    rw [overA_get (by omega)]
    by_cases hj : j < old.length
    · rw [List.getElem?_append_left hj] at hy
      rw [cellsAt_get ho j (by omega)] at hy
      obtain ⟨q, q1, q2⟩ := hcl _ _ hy
      refine ⟨q, ?_, q2⟩
      rw [if_pos (by omega), show j + (off + e.d) = off + j + e.d from by omega]
      exact q1
    · rw [List.getElem?_append_right (by omega)] at hy
      have hj2 : j - old.length < new.length := (List.getElem?_eq_some_iff.1 hy).1
      rw [if_neg (by omega), if_pos (by omega), show j + (off + e.d) - (off + e.d + sLen * size) = j - old.length from by omega]
      exact hn.getElem? hy
  have hbel : Below base w (World.withObj w e.b (.cells (overA arr (off + e.d + sLen * size) newA) el fr)) := by
    refine ⟨rfl, rfl, rfl, by rw [withObj_size]; exact Nat.le_refl _, fun q hq => ?_⟩
    rw [withObj_other (by omega)]
  have := hr.adopt (e := ⟨e.b, off + e.d, (sLen + n) * size, e.rn, size⟩) (w' := World.withObj w e.b (.cells (overA arr (off + e.d + sLen * size) newA) el fr)) h2 hg he h3 h4 h5 hown (.inl rfl)
    hbel (by rw [withObj_size]; exact Nat.le_refl _) (withObj_same hbs) (fun q _ hq => withObj_other hq)
    (.cells (by simp only [List.length_append]; omega) (by rw [overA_size (by omega)]; exact a2) (by simp only; omega)
      (CellsRel.to (by simp only [List.length_append]; omega) (hcr.mono (set_mono hr _))) (by rw [← hsz]; exact hs)
      (by simp only; exact (Nat.dvd_add_right hdv).2 (hsz ▸ hdv2)) (hfr.move hz))
  refine ⟨_, hrun, _, s', _, h1, this.2, this.1, ?_⟩
  exact gs_new rfl hfit (by simp only; omega) (by simp only; omega)
/-- the capacity is too small: a new row; the old one is not touched any more -/
theorem grow_new (hr : Rel T base w0 ρ s w) {b need c' size : Nat} {vs vs2 : List Value} {arr : Array Value} {z : Value} {el : TypeId} {fz : Nat × Nat} {e : Ent}
    (hg : s.heap.get b = some (.cells vs el fz)) (he : ρ b = some e) (hz : fz.1 = fz.2) (hsz : T.sizeOf el = some size)
    (hv : VRs ρ vs2 arr.toList) (hl : vs2.length = need * size) (hzs : z.cells.size = size) (hc : need ≤ c')
    (hk : quietK s (.grow b (.cells vs2 el fz) fun id => .slice (some ⟨id, 0, none⟩) need BIG) k = some x) :
    Sound1 T base w0 ρ s w k x (.slice (some ⟨w.heap.size, 0, none⟩) need c') (w.drew.alloc (.cells (arr ++ Builtin.zeroCells z.cells (c' - need)) el)) := by
  have hbn : b < s.next := Nat.lt_of_not_le fun q => by rw [(hr.dom b q).2] at hg; cases hg
  obtain ⟨s', h1, h2, h3, h4, h5⟩ := quiet_grow hk (by omega)
  have hown := (hr.own _ _ _ hg he).resolve_right (not_locked' hz)
  have hal : arr.size = need * size := by have := hv.1; simp at this; omega
  have hmul : (c' - need) * size = c' * size - need * size := Nat.sub_mul _ _ _
  have hle : need * size ≤ c' * size := Nat.mul_le_mul_right _ hc
  have hrs : (arr ++ Builtin.zeroCells z.cells (c' - need)).size = c' * size := by rw [Array.size_append, zeroCells_size, hzs, hal]; omega
  have hbel : Below base w.drew (w.drew.alloc (.cells (arr ++ Builtin.zeroCells z.cells (c' - need)) el)) := by
    refine ⟨rfl, rfl, rfl, ?_, fun q hq => ?_⟩
    · show w.heap.size ≤ (w.heap.push _).size
      rw [Array.size_push]; omega
    · show (w.heap.push _)[q]? = w.heap[q]?
      have := hr.base_le
      rw [Array.getElem?_push, if_neg (by omega)]
  have := hr.drew.adopt (e := ⟨w.heap.size, 0, vs2.length, c' * size, size⟩) (w' := w.drew.alloc (.cells (arr ++ Builtin.zeroCells z.cells (c' - need)) el)) (r := .cells (arr ++ Builtin.zeroCells z.cells (c' - need)) el) h2 hg he h3 h4 h5 hown (.inr rfl)
    hbel (by show w.heap.size ≤ (w.heap.push _).size; rw [Array.size_push]; omega) (by show (w.heap.push _)[w.heap.size]? = _; simp)
    (fun q hq _ => by show (w.heap.push _)[q]? = w.heap[q]?; rw [Array.getElem?_push, if_neg (by have : q < w.heap.size := hq; omega)])
    (.cells rfl hrs (by simp only; omega) (CellsRel.to rfl ((CellsRel.pre hv).mono (set_mono hr _))) hsz ⟨0, by simp⟩ (.inl rfl))
  refine ⟨_, s', _, h1, this.2.of_drew, this.1, ?_⟩
  exact gs_new rfl hc (by simp only; omega) (by simp only; omega)
end
end Go.Canon
end
section
namespace Go.Canon
open Go Go.RowKit
set_option linter.unusedSectionVars false
theorem VRs.toArr {ρ : Ren} {l : List Value} {a b : Array Value} {m : List Value} (h : VRs ρ l a.toList) (h' : VRs ρ m b.toList) : VRs ρ (l ++ m) (a ++ b).toList := by
  rw [Array.toList_append]; exact h.append h'
theorem firstC_length {T : Tab} {h : Tr CObj} {size n : Nat} {v : Value} {l : List Value} (hf : firstC T h size n v = some l) {q : Nat} (hl : lenC v = some q) (hq : n ≤ q) : l.length = n * size := by
  cases v <;> first | (cases hl; done) | skip
  · rename_i q
    simp only [firstC] at hf
    cases h1 : Nat.beq size 1 with
    | false => rw [h1] at hf; cases hf
    | true =>
      rw [h1] at hf; cases hf; cases hl
      have := Nat.eq_of_beq_eq_true h1
      subst this
      rw [Array.length_toList, Array.size_map, Nat.mul_one]
      show (ByteArray.extract _ 0 n).size = n
      rw [ByteArray.size_extract]
      omega
  · rename_i b m c
    cases b with
    | none =>
      simp only [firstC] at hf
      split at hf
      · rename_i e; cases hf; simp [e]
      · cases hf
    | some a =>
      obtain ⟨b, off, sp⟩ := a
      cases sp with
      | some _ => cases hf
      | none =>
        simp only [firstC] at hf
        cases h0 : Nat.beq (n * size) 0 with
        | true => rw [h0] at hf; cases hf; exact (Nat.eq_of_beq_eq_true h0).symm
        | false =>
          rw [h0] at hf
          simp only [cond_false, getCells, Option.bind_eq_bind] at hf
          cases hg : h.get b with
          | none => rw [hg] at hf; cases hf
          | some o =>
            rw [hg] at hf
            cases o with
            | cells vs el fz => exact (cellsAt_spec hf).2.1
            | _ => cases hf
theorem Tab.zero_info {T : Tab} {i : TypeId} {t : TypeInfo} {z : Value} (h : T.ty.get i = some t) (hz : T.zero i = some z) : t.zero = some z := by
  unfold Tab.zero at hz
  rw [h] at hz
  simp only [zeroIf] at hz
  cases h2 : t.zero with
  | none => rw [h2] at hz; cases hz
  | some u =>
    rw [h2] at hz
    simp only at hz
    cases h3 : scalar u <;> simp [h3] at hz
    rw [hz]
section
variable {T : Tab} {base : Nat} {w0 w : World} {ρ : Ren} {s : CSt} {k : Value → CSt → Option COut} {x : COut}
theorem appendC_sound (hr : Rel T base w0 ρ s w) (hT : T.Ok) {ts : Array TypeId} {ty st xt : TypeId} {u y u' y' : Value} {r : OpR} (h : appendC T s.heap st xt u y = some r) (hk : quietK s r k = some x)
    (t0 : ts[0]? = some st) (t1 : ts[1]? = some xt) (hu : VR ρ u u') (hy : VR ρ y y') :
    ∃ v' w', (Builtin.append_ ts ty #[u', y']).run T.P w = .ok v' w' ∧ Sound1 T base w0 ρ s w k x v' w' := by
  unfold appendC at h
  split at h
  case h_2 => cases h
  rename_i elem d b0 sLen sCap hst hxt
  split at h
  case h_2 => cases h
  rename_i ti z n hti hze hle
  cases hc : (isIntD d || (!(Nat.ble (sLen + n) 1048576) || (!(Nat.ble ti.bytes 65536) || !(Nat.beq z.cells.size ti.size)))) with
  | true => rw [hc] at h; cases h
  | false =>
  rw [hc] at h
  simp only [Bool.or_eq_false_iff, Bool.not_eq_false'] at hc
  obtain ⟨hd, hb1, hb2, hb3⟩ := hc
  have hb1 := ble_iff.1 hb1
  have hb2 := ble_iff.1 hb2
  have hb3 := Nat.eq_of_beq_eq_true hb3
  simp only [cond_false] at h
  split at h
  case h_2 => cases h
  rename_i new hnew
  have hsz : T.sizeOf elem = some ti.size := by unfold Tab.sizeOf; rw [hti]
  obtain ⟨hlen, hlm⟩ := lenC_sound (T := T) hr hle hy
  obtain ⟨na, hna, hnv⟩ := firstC_sound hr hnew hy hlm
  obtain ⟨na', hna', hnv'⟩ := firstC_sound hr.drew hnew hy hlm
  have ru := hT.run_under hst w
  have rx := hT.run_under hxt w
  have rs := hT.run_size hsz w
  have hnl : new.length = n * ti.size := firstC_length hnew hle (Nat.le_refl _)
  have hi := hT.info hti
  have hz := Tab.zero_info hti hze
  cases hu with
  | nils =>
    simp only [appendTo] at h
    cases h0 : (Nat.beq sLen 0 && Nat.beq sCap 0) with
    | false => rw [h0] at h; cases h
    | true =>
      rw [h0] at h
      simp only [Bool.and_eq_true] at h0
      have e1 := Nat.eq_of_beq_eq_true h0.1
      have e2 := Nat.eq_of_beq_eq_true h0.2
      subst e1; subst e2
      simp only [cond_true] at h
      cases hn : Nat.beq n 0 with
      | true =>
        rw [hn] at h; cases h
        have e := Nat.eq_of_beq_eq_true hn
        subst e
        exact ⟨_, _, run_append_none t0 t1 ru rx hd rs hlen hna, .same hr (quiet_done hk) (.nils 0 0)⟩
      | false =>
        rw [hn] at h; cases h
        have hn0 : 0 < n := Nat.pos_of_ne_zero fun q => by rw [q] at hn; cases hn
        refine ⟨_, _, run_append_new (b := none) (sLen := 0) (sCap := 0) (old := #[]) t0 t1 ru rx hd hi hz hlen (by omega) (by omega) hb2 rfl hna', ?_⟩
        have := fresh_row (arr := #[] ++ na') (z := z) hr (by simpa using hnv') hsz hnl hb3 (c' := grownCap w (0 + n) 0 elem) (by have := grownCap_ge w (0 + n) 0 elem; omega) hk
        rw [Nat.zero_add] at this ⊢
        exact this
  | xs he hcap =>
    rename_i i off e
    simp only [appendTo] at h
    cases hn : Nat.beq n 0 with
    | true =>
      rw [hn] at h
      simp only [cond_true] at h
      have e0 := Nat.eq_of_beq_eq_true hn
      subst e0
      cases hle2 : Nat.ble sLen sCap with
      | false => rw [hle2] at h; cases h
      | true =>
        rw [hle2] at h; cases h
        refine ⟨_, _, run_append_fit t0 t1 ru rx hd rs hlen hna (by have := ble_iff.1 hle2; omega) (w' := w) ?_, .same hr (quiet_done hk) (.xs he hcap)⟩
        have : na.toList = [] := by
          have := hnv.1
          rw [hnl, Nat.zero_mul] at this
          exact List.length_eq_zero_iff.1 this.symm
        rw [this]; rfl
    | false =>
    rw [hn] at h
    simp only [cond_false] at h
    have hn0 : 0 < n := Nat.pos_of_ne_zero fun q => by rw [q] at hn; cases hn
    rw [show Nat.ble BIG sCap = false from by cases hq : Nat.ble BIG sCap; rfl; have := ble_iff.1 hq; omega] at h
    simp only [appendAt] at h
    cases hfit : Nat.ble (sLen + n) sCap with
    | true =>
      rw [hfit] at h
      simp only [getCells] at h
      have hfit := ble_iff.1 hfit
      cases hg : s.heap.get i with
      | none => rw [hg] at h; cases h
      | some o =>
        rw [hg] at h
        cases o with
        | cells vs el fz =>
          simp only at h
          cases hs0 : Nat.beq ti.size 0 with
          | true => rw [hs0] at h; cases h
          | false =>
            rw [hs0] at h
            simp only [cond_false] at h
            have hs1 : 0 < ti.size := Nat.pos_of_ne_zero fun q => by rw [q] at hs0; cases hs0
            cases hcl : clearOf fz (off + sLen * ti.size) (n * ti.size) with
            | false => rw [hcl] at h; cases h
            | true =>
              rw [hcl] at h
              simp only at h
              split at h
              case h_2 => cases h
              rename_i q hput
              cases h
              obtain ⟨w', g1, g2⟩ := putCells_gives (T := T) (v' := .slice (some ⟨e.b, off + e.d, none⟩) (sLen + n) sCap) hr hg he hnv hput (by rw [hnl]; exact hcl) (by rw [hnl]; exact Nat.mul_pos hn0 hs1) (.xs he hcap) hk
              refine ⟨_, w', run_append_fit t0 t1 ru rx hd rs hlen hna hfit ?_, g2⟩
              rw [add_mk, show off + e.d + sLen * ti.size = off + sLen * ti.size + e.d from by omega]
              exact g1
        | _ => cases h
    | false =>
      rw [hfit] at h
      simp only at h
      split at h
      case h_2 => cases h
      rename_i old hold
      cases h
      have hgt : sCap < sLen + n := Nat.lt_of_not_le fun q => by rw [ble_iff.2 q] at hfit; cases hfit
      obtain ⟨oa, hoa, hov⟩ := firstC_sound hr.drew hold (.xs he hcap) (fun _ _ _ q => by cases q; exact Nat.le_refl _)
      refine ⟨_, _, run_append_new t0 t1 ru rx hd hi hz hlen hgt hb1 hb2 hoa hna', ?_⟩
      have := fresh_row (arr := oa ++ na') (z := z) hr (hov.toArr hnv') hsz (need := sLen + n) (by rw [List.length_append, firstC_length hold rfl (Nat.le_refl _), hnl, Nat.add_mul]) hb3 (grownCap_ge w (sLen + n) sCap elem) hk
      exact this
  | gs he hcap g1 g2 g3 g4 =>
    rename_i i off off' c' e
    simp only [appendTo] at h
    cases hn : Nat.beq n 0 with
    | true =>
      rw [hn] at h
      simp only [cond_true] at h
      have e0 := Nat.eq_of_beq_eq_true hn
      subst e0
      cases hle2 : Nat.ble sLen sCap with
      | false => rw [hle2] at h; cases h
      | true =>
        rw [hle2] at h; cases h
        refine ⟨_, _, run_append_fit t0 t1 ru rx hd rs hlen hna (by omega) (w' := w) ?_, .same hr (quiet_done hk) (.gs he hcap g1 g2 g3 g4)⟩
        have : na.toList = [] := by
          have := hnv.1
          rw [hnl, Nat.zero_mul] at this
          exact List.length_eq_zero_iff.1 this.symm
        rw [this]; rfl
    | false =>
    rw [hn] at h
    simp only [cond_false] at h
    have hn0 : 0 < n := Nat.pos_of_ne_zero fun q => by rw [q] at hn; cases hn
    rw [ble_iff.2 hcap] at h
    simp only [appendBig, getCells] at h
    cases hg : s.heap.get i with
    | none => rw [hg] at h; cases h
    | some o =>
      rw [hg] at h
      cases o with
      | cells vs el fz =>
        simp only at h
        cases hs0 : (!(Nat.beq el elem) || Nat.beq ti.size 0) with
        | true => rw [hs0] at h; cases h
        | false =>
          rw [hs0] at h
          simp only [Bool.or_eq_false_iff, Bool.not_eq_false'] at hs0
          have hel := Nat.eq_of_beq_eq_true hs0.1
          subst hel
          have hs1 : 0 < ti.size := Nat.pos_of_ne_zero fun q => by rw [q] at hs0; cases hs0.2
          simp only [cond_false] at h
          obtain ⟨arr, fr, hw, a1, a2, a3, hcr, hes, hdv, hfr⟩ := hr.cells hg he
          have hez : e.sz = ti.size := by rw [hsz] at hes; exact (Option.some.inj hes).symm
          rw [hez] at g3 g4
          cases hin : Nat.ble (off + (sLen + n) * ti.size) vs.length with
          | true =>
            rw [hin] at h
            simp only at h
            have hin := ble_iff.1 hin
            have hfit : sLen + n ≤ c' := by
              have : (sLen + n) * ti.size ≤ c' * ti.size := by omega
              exact Nat.le_of_mul_le_mul_right this hs1
            have hoff : off' = off + e.d := g1.resolve_left (by omega)
            cases hcl : clearOf fz (off + sLen * ti.size) (n * ti.size) with
            | false => rw [hcl] at h; cases h
            | true =>
              rw [hcl] at h
              simp only at h
              split at h
              case h_2 => cases h
              rename_i q hput
              cases h
              obtain ⟨w', q1, q2⟩ := putCells_gives (T := T) (v := .slice (some ⟨i, off, none⟩) (sLen + n) sCap) (v' := .slice (some ⟨e.b, off', none⟩) (sLen + n) c') hr hg he hnv hput (by rw [hnl]; exact hcl) (by rw [hnl]; exact Nat.mul_pos hn0 hs1)
                (.gs he hcap g1 hfit (by rw [hez]; exact g3) (by rw [hez]; exact g4)) hk
              refine ⟨_, w', run_append_fit t0 t1 ru rx hd rs hlen hna hfit ?_, q2⟩
              rw [add_mk, hoff, show off + e.d + sLen * ti.size = off + sLen * ti.size + e.d from by omega]
              exact q1
          | false =>
            rw [hin] at h
            simp only at h
            cases hz2 : (Nat.beq fz.1 fz.2 && (Nat.beq (off % ti.size) 0 && oneCells new)) with
            | false => rw [hz2] at h; cases h
            | true =>
              rw [hz2] at h
              simp only [Bool.and_eq_true] at hz2 h
              obtain ⟨hz3, hm, hone⟩ := hz2
              have hz3 := Nat.eq_of_beq_eq_true hz3
              have hm := Nat.eq_of_beq_eq_true hm
              split at h
              case h_2 => cases h
              rename_i old hold
              cases h
              by_cases hfit : sLen + n ≤ c'
              · have hoff : off' = off + e.d := g1.resolve_left (by omega)
                subst hoff
                obtain ⟨w', q1, q2⟩ := grow_place hr hg he hz3 hez (Nat.dvd_of_mod_eq_zero hm) hold hnv hone hnl hfit g4 hk
                refine ⟨_, w', run_append_fit t0 t1 ru rx hd rs hlen hna hfit ?_, q2⟩
                rw [add_mk]
                exact q1
              · have hgt : c' < sLen + n := by omega
                have hold2 : firstC T s.heap ti.size sLen (.slice (some ⟨i, off, none⟩) sLen sCap) = some old := by
                  simp only [firstC]
                  cases h0 : Nat.beq (sLen * ti.size) 0 with
                  | true =>
                    have h0 := Nat.eq_of_beq_eq_true h0
                    rw [h0] at hold
                    have := (cellsAt_spec hold).2.1
                    rw [List.length_eq_zero_iff.1 this]; rfl
                  | false => simp only [cond_false, getCells, hg, Option.bind_eq_bind, Option.bind_some]; exact hold
                obtain ⟨oa, hoa, hov⟩ := firstC_sound hr.drew hold2 (.gs he hcap g1 g2 (by rw [hez]; exact g3) (by rw [hez]; exact g4)) (fun _ _ _ q => by cases q; exact Nat.le_refl _)
                refine ⟨_, _, run_append_new t0 t1 ru rx hd hi hz hlen hgt hb1 hb2 hoa hna', ?_⟩
                exact grow_new (arr := oa ++ na') (z := z) hr hg he hz3 hsz (hov.toArr hnv') (by rw [List.length_append, firstC_length hold2 rfl (Nat.le_refl _), hnl, Nat.add_mul]) hb3 (grownCap_ge w (sLen + n) c' _) hk
      | _ => cases h
end
end Go.Canon
end
section
namespace Go.Canon
open Go Go.RowKit
set_option linter.unusedSectionVars false
section
variable {T : Tab} {base : Nat} {w0 w : World} {ρ : Ren} {s : CSt} {k : Value → CSt → Option COut} {x : COut}
theorem copy_at (hr : Rel T base w0 ρ s w) (hT : T.Ok) {ts : Array TypeId} {ty dt elem : TypeId} {y y' : Value} {r : OpR} {i off m off' c' : Nat} {e : Ent} (h1 : T.under dt = some (.slice elem))
    (h : ((T.sizeOf elem).bind fun size => (lenC y).bind fun sLen => (firstC T s.heap size (Nat.min sLen m) y).bind fun new =>
      bif Nat.beq (Nat.min sLen m * size) 0 then some (OpR.val (goInt (Nat.min sLen m))) else (getCells s.heap i).bind fun (vs, e, fz) =>
        bif !(clearOf fz off (Nat.min sLen m * size)) then none else (putC off vs new).bind fun r => some (.upd i (.cells r e fz) (goInt (Nat.min sLen m)))) = some r) (hk : quietK s r k = some x)
    (t0 : ts[0]? = some dt) (he : ρ i = some e) (ho : m = 0 ∨ off' = off + e.d) (hy : VR ρ y y') :
    ∃ v' w', (Builtin.copy_ ts ty #[.slice (some ⟨e.b, off', none⟩) m c', y']).run T.P w = .ok v' w' ∧ Sound1 T base w0 ρ s w k x v' w' := by
  cases h2 : T.sizeOf elem with
  | none => rw [h2] at h; cases h
  | some size =>
  rw [h2] at h
  simp only [Option.bind_some] at h
  cases h3 : lenC y with
  | none => rw [h3] at h; cases h
  | some n =>
  rw [h3] at h
  simp only [Option.bind_some] at h
  cases h4 : firstC T s.heap size (Nat.min n m) y with
  | none => rw [h4] at h; cases h
  | some new =>
  rw [h4] at h
  simp only [Option.bind_some] at h
  obtain ⟨l1, l2⟩ := lenC_sound (T := T) hr h3 hy
  obtain ⟨na, f1, f2⟩ := firstC_sound hr h4 hy (fun b q c e => Nat.le_trans (Nat.min_le_left _ _) (l2 b q c e))
  have hnl : new.length = Nat.min n m * size := firstC_length h4 h3 (Nat.min_le_left _ _)
  cases h0 : Nat.beq (Nat.min n m * size) 0 with
  | true =>
    rw [h0] at h; cases h
    have : na.toList = [] := by
      have := f2.1
      rw [hnl, Nat.eq_of_beq_eq_true h0] at this
      exact List.length_eq_zero_iff.1 this.symm
    have hna : na = #[] := by rw [← Array.toList_eq_nil_iff]; exact this
    subst hna
    exact ⟨_, w, by simp [Builtin.copy_, t0, hT.run_under h1, hT.run_size h2, l1, f1, storeCells]; rfl, .same hr (quiet_val hk) (.int _ _)⟩
  | false =>
    rw [h0] at h
    simp only [cond_false] at h
    have hpos : 0 < Nat.min n m * size := Nat.pos_of_ne_zero fun q => by rw [q] at h0; cases h0
    have hm : m ≠ 0 := fun q => by subst q; rw [show Nat.min n 0 = 0 from Nat.min_zero n, Nat.zero_mul] at hpos; omega
    have hoff := ho.resolve_left hm
    subst hoff
    cases hg : s.heap.get i with
    | none => rw [getCells, hg] at h; cases h
    | some o =>
      cases o with
      | cells vs el fz =>
        simp only [getCells, hg, Option.bind_some] at h
        cases hcl : clearOf fz off (Nat.min n m * size) with
        | false => rw [hcl] at h; cases h
        | true =>
          rw [hcl] at h
          simp only [Bool.not_true, cond_false] at h
          cases hp : putC off vs new with
          | none => rw [hp] at h; cases h
          | some q =>
            rw [hp] at h; cases h
            obtain ⟨w', g1, g2⟩ := putCells_gives (T := T) hr hg he f2 hp (by rw [hnl]; exact hcl) (by omega) (.int .i64 (Nat.min n m)) hk
            exact ⟨_, w', by simp [Builtin.copy_, t0, hT.run_under h1, hT.run_size h2, l1, f1, g1]; rfl, g2⟩
      | _ => rw [getCells, hg] at h; cases h
theorem copyC_sound (hr : Rel T base w0 ρ s w) (hT : T.Ok) {ts : Array TypeId} {ty dt : TypeId} {u y u' y' : Value} {r : OpR} (h : copyC T s.heap dt u y = some r) (hk : quietK s r k = some x)
    (t0 : ts[0]? = some dt) (hu : VR ρ u u') (hy : VR ρ y y') :
    ∃ v' w', (Builtin.copy_ ts ty #[u', y']).run T.P w = .ok v' w' ∧ Sound1 T base w0 ρ s w k x v' w' := by
  simp only [copyC, Option.bind_eq_bind] at h
  cases h1 : T.under dt with
  | none => rw [h1] at h; cases h
  | some d =>
  rw [h1] at h
  cases d with
  | slice elem =>
    simp only [Option.bind_some] at h
    cases hu with
    | nils m c =>
      simp only at h
      cases h2 : T.sizeOf elem with
      | none => rw [h2] at h; cases h
      | some size =>
      rw [h2] at h
      simp only [Option.bind_some] at h
      cases h3 : lenC y with
      | none => rw [h3] at h; cases h
      | some n =>
      rw [h3] at h
      simp only [Option.bind_some] at h
      cases h4 : firstC T s.heap size (Nat.min n m) y with
      | none => rw [h4] at h; cases h
      | some new =>
      rw [h4] at h
      simp only [Option.bind_some] at h
      cases h
      obtain ⟨l1, l2⟩ := lenC_sound (T := T) hr h3 hy
      obtain ⟨na, f1, f2⟩ := firstC_sound hr h4 hy (fun b q c e => Nat.le_trans (Nat.min_le_left _ _) (l2 b q c e))
      exact ⟨_, w, by simp [Builtin.copy_, t0, hT.run_under h1, hT.run_size h2, l1, f1]; rfl, .same hr (quiet_val hk) (.int _ _)⟩
    | xs he hc =>
      rename_i i off m c e
      exact copy_at hr hT h1 h hk t0 he (.inr rfl) hy
    | gs he hc g1 g2 g3 g4 =>
      rename_i i off m c off' c' e
      refine copy_at hr hT h1 h hk t0 he ?_ hy
      rcases g1 with g1 | g1
      · left; omega
      · exact .inr g1
    | _ => cases h
  | _ => cases h
end
end Go.Canon
end
section
namespace Go.Canon
open Go Go.RowKit
set_option linter.unusedSectionVars false
section
variable {T : Tab} {base : Nat} {w0 w : World} {ρ : Ren} {s : CSt} {k : Value → CSt → Option COut} {x : COut}
theorem run_getMap {P : Program} {r : Nat} {es : Array MapEntry} {clock : Nat} (hb : w.heap[r]? = some (.map es clock)) : (getObj r).run P w = .ok (.map es clock) w := by simp [getObj, Sem.run, hb]
theorem capB_sound (hr : Rel T base w0 ρ s w) (hT : T.Ok) {ts : Array TypeId} {ty t : TypeId} {u u' : Value} {r : OpR} (h : capB T t u = some r) (hk : quietK s r k = some x)
    (t0 : ts[0]? = some t) (hu : VR ρ u u') :
    ∃ v', (Builtin.cap_ ts ty #[u']).run T.P w = .ok v' w ∧ Sound1 T base w0 ρ s w k x v' w := by
  unfold capB at h
  split at h
  · rename_i h1
    split at h
    · rename_i b n c
      cases hc : Nat.ble BIG c with
      | true => rw [hc] at h; cases h
      | false =>
        rw [hc] at h; cases h
        have hlt : c < BIG := Nat.lt_of_not_le fun q => by rw [ble_iff.2 q] at hc; cases hc
        cases hu with
        | gs he hcap => omega
        | _ => exact ⟨_, by simp [Builtin.cap_, t0, hT.run_under h1]; rfl, .same hr (quiet_val hk) (.int _ _)⟩
    · cases h
  · cases h
theorem lenB_sound (hr : Rel T base w0 ρ s w) (hT : T.Ok) {ts : Array TypeId} {ty t : TypeId} {u u' : Value} {r : OpR} (h : lenB T s.heap t u = some r) (hk : quietK s r k = some x)
    (t0 : ts[0]? = some t) (hu : VR ρ u u') :
    ∃ v', (Builtin.len_ ts ty #[u']).run T.P w = .ok v' w ∧ Sound1 T base w0 ρ s w k x v' w := by
  unfold lenB at h
  split at h
  · rename_i h1
    split at h
    · cases h; cases hu
      exact ⟨_, by simp [Builtin.len_, t0, hT.run_under h1]; rfl, .same hr (quiet_val hk) (.int _ _)⟩
    · cases h
  · rename_i h1
    split at h
    · cases h
      cases hu <;> exact ⟨_, by simp [Builtin.len_, t0, hT.run_under h1]; rfl, .same hr (quiet_val hk) (.int _ _)⟩
    · cases h
  · rename_i h1
    cases h
    refine ⟨_, by simp [Builtin.len_, t0, hT.run_under h1]; rfl, .same hr (quiet_val hk) (.int _ _)⟩
  · rename_i h1
    split at h
    · rename_i h2
      cases h
      exact ⟨_, by simp [Builtin.len_, t0, hT.run_under h1, hT.run_under h2]; rfl, .same hr (quiet_val hk) (.int _ _)⟩
    · cases h
  · rename_i h1
    split at h
    · cases h; cases hu
      exact ⟨_, by simp [Builtin.len_, t0, hT.run_under h1]; rfl, .same hr (quiet_val hk) (.int _ _)⟩
    · split at h
      · rename_i hg
        cases h
        cases hu with
        | map he =>
          obtain ⟨r, q1, q2⟩ := hr.obj _ _ _ hg he
          cases q2 with
          | map hes =>
            have hl := hes.1
            simp at hl
            have hgo := run_getMap (P := T.P) q1
            exact ⟨_, by simp [Builtin.len_, t0, hT.run_under h1, hgo]; rfl, .same hr (quiet_val hk) (by rw [hl]; exact .int _ _)⟩
      · cases h
    · cases h
  · cases h
end
end Go.Canon
end
section
namespace Go.Canon
open Go Go.RowKit
set_option linter.unusedSectionVars false
section
variable {P : Program} {w : World} {ρ : Ren}
theorem minB_run {k : IntKind} : ∀ {l l' : List Value} {m v : Int}, minB k m l = some v → VRs ρ l l' → (l'.foldlM Builtin.min2 (.int k m)).run P w = .ok (.int k v) w := by
  intro l
  induction l with
  | nil => intro l' m v h hl; rw [hl.nil_left]; simp only [minB, Option.some.injEq] at h; subst h; rfl
  | cons y l ih =>
    intro l' m v h hl
    obtain ⟨z, l2, rfl, h1, h2⟩ := hl.cons_left
    cases h1 with
    | int k' n =>
      simp only [minB] at h
      split at h
      · have := ih h h2
        simp [List.foldlM, Builtin.min2, this]
      · cases h
    | _ => simp [minB] at h
theorem maxB_run {k : IntKind} : ∀ {l l' : List Value} {m v : Int}, maxB k m l = some v → VRs ρ l l' → (l'.foldlM Builtin.max2 (.int k m)).run P w = .ok (.int k v) w := by
  intro l
  induction l with
  | nil => intro l' m v h hl; rw [hl.nil_left]; simp only [maxB, Option.some.injEq] at h; subst h; rfl
  | cons y l ih =>
    intro l' m v h hl
    obtain ⟨z, l2, rfl, h1, h2⟩ := hl.cons_left
    cases h1 with
    | int k' n =>
      simp only [maxB] at h
      split at h
      · have := ih h h2
        simp [List.foldlM, Builtin.max2, this]
      · cases h
    | _ => simp [maxB] at h
variable {T : Tab} {base : Nat} {w0 : World} {s : CSt} {k : Value → CSt → Option COut} {x : COut}
theorem run_sliceData {ts : Array TypeId} {ty : TypeId} {a : Addr} {n c : Nat} (h : c ≠ 0) : (Builtin.unsafeSliceData_ ts ty #[.slice (some a) n c]).run P w = .ok (.pointer (some a)) w := by
  obtain ⟨k, rfl⟩ : ∃ k, c = k + 1 := ⟨c - 1, by omega⟩
  rfl
theorem sliceData_sound (hr : Rel T base w0 ρ s w) {ts : Array TypeId} {ty : TypeId} {u u' : Value} {r : OpR} (h : sliceDataC u = some r) (hk : quietK s r k = some x) (hu : VR ρ u u') :
    ∃ v', (Builtin.unsafeSliceData_ ts ty #[u']).run T.P w = .ok v' w ∧ Sound1 T base w0 ρ s w k x v' w := by
  unfold sliceDataC at h
  split at h
  · cases h; cases hu
    exact ⟨_, rfl, .same hr (quiet_val hk) .nilp⟩
  · rename_i a n c
    cases hc : Nat.beq c 0 with
    | true => rw [hc] at h; cases h
    | false =>
      rw [hc] at h; cases h
      cases hu with
      | xs he hcap =>
        have hc0 : c ≠ 0 := fun q => by rw [q] at hc; cases hc
        exact ⟨_, run_sliceData hc0, .same hr (quiet_val hk) (.ptr he)⟩
      | gs he hcap g1 g2 g3 g4 =>
        rename_i c' e
        have hc0 : c' ≠ 0 := by omega
        have := g1.resolve_left hc0
        subst this
        exact ⟨_, run_sliceData hc0, .same hr (quiet_val hk) (.ptr he)⟩
  · cases h
end
end Go.Canon
end
section
namespace Go.Canon
open Go Go.RowKit
set_option linter.unusedSectionVars false
/-! ### equal values -/
theorem ibeq_true {a b : Int} (h : ibeq a b = true) : a = b := by rw [ibeq_eq] at h; simpa using h
theorem ba_rfl (a : ByteArray) : (a == a) = true := by
  cases a with | mk d => show (d == d) = true; exact beq_self_eq_true d
theorem ba_eq {a b : ByteArray} (h : (a == b) = true) : a = b := by
  cases a with | mk d => cases b with | mk e => 
    have : (d == e) = true := h
    rw [beq_iff_eq] at this; rw [this]
theorem nbeq_true {a b : Nat} (h : Nat.beq a b = true) : a = b := Nat.eq_of_beq_eq_true h
mutual
theorem veq_eq : ∀ {a b : Value}, veq a b = true → a = b
  | .bool a, b, h => by cases b <;> simp [veq] at h; rw [h]
  | .int j a, b, h => by
    cases b <;> simp [veq] at h
    rw [kbeq_eq h.1, ibeq_true h.2]
  | .string a, b, h => by cases b <;> simp [veq] at h; rw [ba_eq h]
  | .pointer a, b, h => by cases b <;> simp [veq] at h; rw [h]
  | .slice a l c, b, h => by
    cases b <;> simp [veq] at h
    obtain ⟨⟨h1, h2⟩, h3⟩ := h
    rw [h1, h2, h3]
  | .map a, b, h => by cases b <;> simp [veq] at h; rw [h]
  | .nilFunc, b, h => by cases b <;> simp [veq] at h; rfl
  | .func f x y, b, h => by
    cases b with
    | func g u v =>
      simp [veq] at h
      obtain ⟨⟨h1, h2⟩, h3⟩ := h
      have e2 := veqs_eq h2
      have e3 := veqs_eq h3
      rw [h1, Array.toList_inj.1 e2, Array.toList_inj.1 e3]
    | _ => simp [veq] at h
  | .nilIface, b, h => by cases b <;> simp [veq] at h; rfl
  | .iface t a, b, h => by
    cases b with
    | iface u c =>
      simp [veq] at h
      rw [h.1, veq_eq h.2]
    | _ => simp [veq] at h
  | .agg a, b, h => by
    cases b with
    | agg c => simp [veq] at h; rw [Array.toList_inj.1 (veqs_eq h)]
    | _ => simp [veq] at h
  | .tuple a, b, h => by
    cases b with
    | tuple c => simp [veq] at h; rw [Array.toList_inj.1 (veqs_eq h)]
    | _ => simp [veq] at h
  | .float .., b, h => by cases b <;> simp [veq] at h
  | .complex .., b, h => by cases b <;> simp [veq] at h
  | .chan .., b, h => by cases b <;> simp [veq] at h
theorem veqs_eq : ∀ {l m : List Value}, veqs l m = true → l = m
  | [], m, h => by cases m <;> simp [veqs] at h; rfl
  | x :: l, m, h => by
    cases m with
    | nil => simp [veqs] at h
    | cons y m =>
      simp [veqs] at h
      rw [veq_eq h.1, veqs_eq h.2]
end
theorem flat0_eq {a b : Value} (h : flat0 a b = true) : a = b ∧ ∀ n, Instr.sameBits n a b = true := by
  unfold flat0 at h
  split at h
  · rw [beq_iff_eq] at h; subst h; exact ⟨rfl, fun n => by cases n <;> simp [Instr.sameBits]⟩
  · simp at h
    have h1 := kbeq_eq h.1
    have h2 := ibeq_true h.2
    subst h1; subst h2
    exact ⟨rfl, fun n => by cases n <;> simp [Instr.sameBits]⟩
  · have := ba_eq h; subst this; exact ⟨rfl, fun n => by cases n <;> simp [Instr.sameBits, ba_rfl]⟩
  · cases h
theorem flats_eq : ∀ {l m : List Value}, flats l m = true → l = m ∧ ∀ n, (l.zip m).all (fun (x, y) => Instr.sameBits n x y) = true
  | [], m, h => by cases m <;> simp [flats] at h; exact ⟨rfl, fun n => rfl⟩
  | x :: l, m, h => by
    cases m with
    | nil => simp [flats] at h
    | cons y m =>
      simp [flats] at h
      obtain ⟨e1, e2⟩ := flat0_eq h.1
      obtain ⟨e3, e4⟩ := flats_eq h.2
      exact ⟨by rw [e1, e3], fun n => by simp only [List.zip_cons_cons, List.all_cons, e2 n, e4 n, Bool.and_self]⟩
theorem flatEq_eq {a b : Value} (h : flatEq a b = true) : a = b ∧ ∀ n, Instr.sameBits (n + 1) a b = true := by
  unfold flatEq at h
  split at h
  · rename_i x y
    obtain ⟨e1, e2⟩ := flats_eq h
    have e3 := Array.toList_inj.1 e1
    subst e3
    exact ⟨rfl, fun n => by
      show (x.size == x.size && (x.toList.zip x.toList).all fun (p, q) => Instr.sameBits n p q) = true
      rw [e2 n]; simp⟩
  · exact ⟨(flat0_eq h).1, fun n => (flat0_eq h).2 _⟩

section
variable {T : Tab} {base : Nat} {w0 w : World} {ρ : Ren} {s : CSt} {k : Value → CSt → Option COut} {x : COut}
theorem min_sound (hr : Rel T base w0 ρ s w) {ts : Array TypeId} {ty : TypeId} {j : IntKind} {m v : Int} {rest : List Value} {u' : Value} {args : List Value} (h : minB j m rest = some v)
    (hk : quietK s (.int j v) k = some x) (hu : VR ρ (.int j m) u') (hl : VRs ρ rest args) :
    ∃ v', (Builtin.min_ ts ty ⟨u' :: args⟩).run T.P w = .ok v' w ∧ Sound1 T base w0 ρ s w k x v' w := by
  cases hu
  exact ⟨_, minB_run h hl, .same hr (quiet_int hk) (.int _ _)⟩
theorem max_sound (hr : Rel T base w0 ρ s w) {ts : Array TypeId} {ty : TypeId} {j : IntKind} {m v : Int} {rest : List Value} {u' : Value} {args : List Value} (h : maxB j m rest = some v)
    (hk : quietK s (.int j v) k = some x) (hu : VR ρ (.int j m) u') (hl : VRs ρ rest args) :
    ∃ v', (Builtin.max_ ts ty ⟨u' :: args⟩).run T.P w = .ok v' w ∧ Sound1 T base w0 ρ s w k x v' w := by
  cases hu
  exact ⟨_, maxB_run h hl, .same hr (quiet_int hk) (.int _ _)⟩
theorem zeroCells_list (z : Array Value) (n : Nat) : (Builtin.zeroCells z n).toList = zerosC z.toList n := zerosC_array z n
theorem clear_sound (hr : Rel T base w0 ρ s w) (hT : T.Ok) {ts : Array TypeId} {ty t : TypeId} {u u' : Value} {r : OpR} (h : clearC T s.heap t u = some r) (hk : quietK s r k = some x)
    (t0 : ts[0]? = some t) (hu : VR ρ u u') :
    ∃ v' w', (Builtin.clear_ ts ty #[u']).run T.P w = .ok v' w' ∧ Sound1 T base w0 ρ s w k x v' w' := by
  unfold clearC at h
  split at h
  · rename_i a c
    split at h
    · rename_i d h1
      cases h
      have he : ∃ a' c', u' = .slice a' 0 c' := by
        cases hu with
        | nils => exact ⟨_, _, rfl⟩
        | xs => exact ⟨_, _, rfl⟩
        | gs => exact ⟨_, _, rfl⟩
      obtain ⟨a', c', rfl⟩ := he
      refine ⟨_, w, ?_, .same hr (quiet_val hk) VR.undef⟩
      simp [Builtin.clear_, t0, hT.run_under h1]
      cases d <;> cases a' <;> rfl
    · cases h
  · rename_i b off n c
    split at h
    · rename_i elem h1
      split at h
      · rename_i z vs e fz h2 h3
        split at h
        · cases h
        · rename_i hc
          simp only [Bool.or_eq_false_iff, Bool.not_eq_false'] at hc
          obtain ⟨hc0, hcl⟩ := hc
          split at h
          · rename_i q hp
            cases h
            have hg : s.heap.get b = some (.cells vs e fz) := by
              unfold getCells at h3
              split at h3
              · rename_i q1 q2 q3 q4; cases h3; exact q4
              · cases h3
            have hpos : 0 < (zerosC z.cells.toList (n + 1)).length := Nat.pos_of_ne_zero fun q => by rw [q] at hc0; cases hc0
            obtain ⟨hs, sz, hsz⟩ := Tab.zero_scalar h2
            have hzs : VRs ρ (zerosC z.cells.toList (n + 1)) (zerosC z.cells.toList (n + 1)) := scalars_refl (scalars_zeros (scalar_cells hs) _)
            have fin : ∀ (o' c' : Nat) (eb : Ent), ρ b = some eb → o' = off + eb.d → ∃ v' w', (Builtin.clear_ ts ty #[.slice (some ⟨eb.b, o', none⟩) (n + 1) c']).run T.P w = .ok v' w' ∧ Sound1 T base w0 ρ s w k x v' w' := by
              intro o' c' eb he ho
              subst ho
              obtain ⟨w', g1, g2⟩ := putCells_gives (T := T) hr hg he hzs hp hcl hpos (VR.undef (ρ := ρ)) hk
              refine ⟨_, w', ?_, g2⟩
              simp [Builtin.clear_, t0, hT.run_under h1, hT.run_zero h2, zeroCells_list, g1]
              rfl
            cases hu with
            | xs he hcap => exact fin _ _ _ he rfl
            | gs he hcap g1 g2 g3 g4 =>
              rename_i c' e'
              have hc0 : c' ≠ 0 := by omega
              exact fin _ _ _ he (g1.resolve_left hc0)
          · cases h
      · cases h
    · cases h
  · cases h
end
end Go.Canon
end
