/- The evaluator's soundness over the calculus of calls, one part; no conditions. -/
import Derived.Laws.Tables
import Derived.Test.YtlmeiickknfhhaaGreatDoorCb
set_option linter.all false
set_option linter.unusedVariables false
set_option linter.unusedSimpArgs false
set_option linter.unusedSectionVars false
set_option linter.unnecessarySimpa false
section
namespace Go.Canon
open Go Go.RowKit
set_option linter.unusedSectionVars false
section
variable {T : Tab} {base : Nat} {w0 w : World} {ρ : Ren} {s : CSt} {ca : CAct} {a : Act} {k : Value → CSt → Option COut} {x : COut}

theorem set_mono (h : Rel T base w0 ρ s w) (e : Ent) : ∀ i e', ρ i = some e' → (Ren.set ρ s.next e) i = some e' := by
  intro i e' hi
  rw [Ren.set_other]
  · exact hi
  · intro hc; rw [hc, (h.dom s.next (Nat.le_refl _)).1] at hi; cases hi
/-- new cells: the real row may have more of them -/
theorem Rel.newCells (h : Rel T base w0 ρ s w) {vs : List Value} {arr : Array Value} {el : TypeId} {fz fr : Nat × Nat} {sz : Nat} {s' : CSt} (hn : s'.next = s.next + 1)
    (hg : s'.heap.get s.next = some (.cells vs el fz)) (hs : ∀ m, m ≠ s.next → s'.heap.get m = s.heap.get m) (hc : CellsRel ρ 0 vs arr) (hl : vs.length ≤ arr.size)
    (hsz : T.sizeOf el = some sz) (hf : FR fz fr 0 arr.size) :
    Rel T base w0 (Ren.set ρ s.next ⟨w.heap.size, 0, vs.length, arr.size, sz⟩) s' { w with heap := w.heap.push (.cells arr el fr) } ∧
      Ext ρ s w (Ren.set ρ s.next ⟨w.heap.size, 0, vs.length, arr.size, sz⟩) s' { w with heap := w.heap.push (.cells arr el fr) } := by
  refine h.alloc hn hg hs rfl (.cells rfl rfl (by simpa using hl) ?_ hsz ⟨0, by simp⟩ hf)
  exact CellsRel.to rfl (hc.mono (set_mono h _))
theorem CellsRel.of_VRs {vs : List Value} {arr : Array Value} (h : VRs ρ vs arr.toList) : CellsRel ρ 0 vs arr := by
  intro j x hx
  obtain ⟨y, hy, hv⟩ := h.getElem? hx
  exact ⟨y, by rw [Nat.add_zero, ← Array.getElem?_toList]; exact hy, hv⟩
theorem FR.zero (d rn : Nat) : FR (0, 0) (0, 0) d rn := .inl rfl

/-- a new object, whatever its number -/
def FreshG (T : Tab) (ρ : Ren) (w : World) (ob : CObj) (mk : Nat → Value) (v' : Value) (w' : World) : Prop :=
  ∃ (e : Ent) (rb : Obj), e.b = w.heap.size ∧ w' = { w with heap := w.heap.push rb } ∧ OR T ρ e ob rb ∧ ∀ (ρ' : Ren) (id : Nat), ρ' id = some e → VR ρ' (mk id) v'
theorem newCells_fresh {vs : List Value} {arr : Array Value} {el : TypeId} {mk mk' : Nat → Value} {sz : Nat} (hv : VRs ρ vs arr.toList) (hsz : T.sizeOf el = some sz)
    (hm : ∀ (ρ' : Ren) (id : Nat) (e : Ent), ρ' id = some e → e.d = 0 → VR ρ' (mk id) (mk' e.b)) : FreshG T ρ w (.cells vs el (0, 0)) mk (mk' w.heap.size) { w with heap := w.heap.push (.cells arr el (0, 0)) } :=
  ⟨⟨w.heap.size, 0, vs.length, arr.size, sz⟩, .cells arr el (0, 0), rfl, rfl, .cells rfl rfl (by have := hv.1; simp at this; simp; omega) (CellsRel.to rfl (CellsRel.of_VRs hv)) hsz ⟨0, by simp⟩ (FR.zero _ _), fun ρ' id h => hm ρ' id _ h rfl⟩
theorem FreshG.sound {ob : CObj} {mk : Nat → Value} {v' : Value} {w' : World} (hr : Rel T base w0 ρ s w) (h : FreshG T ρ w ob mk v' w') (hk : quietK s (.alloc ob mk) k = some x) : Sound1 T base w0 ρ s w k x v' w' := by
  obtain ⟨e, rb, h1, rfl, h2, h3⟩ := h
  obtain ⟨s', q1, q2, q3, q4⟩ := quiet_alloc hk
  have := hr.alloc (e := e) q2 q3 q4 h1 (h2.mono (set_mono hr e))
  exact ⟨_, s', _, q1, this.2, this.1, h3 _ _ (Ren.set_same ρ _ _)⟩
theorem ptr_at {ρ' : Ren} {id : Nat} {e : Ent} (h : ρ' id = some e) (hd : e.d = 0) : VR ρ' (ptr id 0) (.pointer (some ⟨e.b, 0, none⟩)) := by
  have := VR.ptr (ρ := ρ') (off := 0) h
  rw [hd] at this
  exact this
theorem xs_at {ρ' : Ren} {i n c : Nat} {e : Ent} (h : ρ' i = some e) (hd : e.d = 0) (hc : c < BIG) : VR ρ' (.slice (some ⟨i, 0, none⟩) n c) (.slice (some ⟨e.b, 0, none⟩) n c) := by
  have := VR.xs (ρ := ρ') (off := 0) (n := n) h hc
  rw [hd] at this
  exact this
variable (hr : Rel T base w0 ρ s w) (ha : AR ρ ca a) (hT : T.Ok)
include hr ha

theorem copMove_sound {y : Operand} {r : OpR} (h : copMove (ceval T ca) y = some r) (hk : quietK s r k = some x) : Sound1 T base w0 ρ s w k x (a.eval y) w := by
  unfold copMove at h
  cases h1 : ceval T ca y with
  | none => rw [h1] at h; cases h
  | some v => rw [h1] at h; cases h; exact .same hr (quiet_done hk) (ha.eval hr h1)
omit ha in
theorem newCells_gives {vs : List Value} {arr : Array Value} {el : TypeId} {mk : Nat → Value} {mk' : Nat → Value} {sz : Nat} (hv : VRs ρ vs arr.toList) (hsz : T.sizeOf el = some sz)
    (hk : quietK s (.alloc (.cells vs el (0, 0)) mk) k = some x) (hm : ∀ e : Ent, e = ⟨w.heap.size, 0, vs.length, arr.size, sz⟩ → VR (Ren.set ρ s.next e) (mk s.next) (mk' w.heap.size)) :
    Sound1 T base w0 ρ s w k x (mk' w.heap.size) { w with heap := w.heap.push (.cells arr el (0, 0)) } := by
  obtain ⟨s', h1, h2, h3, h4⟩ := quiet_alloc hk
  have := hr.newCells (fr := (0, 0)) h2 h3 h4 (CellsRel.of_VRs hv) (by have := hv.1; simp at this; omega) hsz (FR.zero _ _)
  exact ⟨_, s', _, h1, this.2, this.1, hm _ rfl⟩
theorem ptr_new {i : Nat} {e : Ent} (hd : e.d = 0) : VR (Ren.set ρ i e) (ptr i 0) (.pointer (some ⟨e.b, 0, none⟩)) := by
  have := VR.ptr (ρ := Ren.set ρ i e) (off := 0) (Ren.set_same ρ i e)
  rw [hd] at this
  exact this
include hT
theorem copPick_sound {c y z : Operand} {r : OpR} (h : copPick (ceval T ca) c y z = some r) (hk : quietK s r k = some x) :
    ∃ b, a.eval c = .bool b ∧ Sound1 T base w0 ρ s w k x (if b then a.eval y else a.eval z) w := by
  unfold copPick at h
  cases h1 : ceval T ca c with
  | none => rw [h1] at h; cases h
  | some v =>
    rw [h1] at h
    have hv := ha.eval hr h1
    cases v with
    | bool b =>
      generalize hc : a.eval c = u at hv
      cases hv with
      | bool b =>
        refine ⟨b, rfl, ?_⟩
        cases b with
        | true => exact copMove_sound hr ha h hk
        | false => exact copMove_sound hr ha h hk
    | _ => cases h
theorem copAlloc_sound {el : TypeId} {r : OpR} (h : copAlloc T el = some r) :
    ∃ ob mk v' w', r = .alloc ob mk ∧ (Instr.alloc el true (.tuple #[])).run T.P w = .ok v' w' ∧ FreshG T ρ w ob mk v' w' := by
  unfold copAlloc at h
  cases h1 : T.zero el with
  | none => rw [h1] at h; cases h
  | some z =>
    rw [h1] at h; cases h
    obtain ⟨hs, n, hn⟩ := Tab.zero_scalar h1
    refine ⟨_, _, .pointer (some ⟨w.heap.size, 0, none⟩), { w with heap := w.heap.push (.cells z.cells el (0, 0)) }, rfl, ?_, ?_⟩
    · simp [Instr.alloc, hT.run_zero h1, newVar, newRow]
    · exact newCells_fresh (arr := z.cells) (mk' := fun b => .pointer (some ⟨b, 0, none⟩)) (scalar_refl (ρ := ρ) hs).cells hn (fun ρ' id e h hd => ptr_at h hd)
theorem copBox_sound {el : TypeId} {y : Operand} {r : OpR} (h : copBox T (ceval T ca) el y = some r) :
    ∃ ob mk v' w', r = .alloc ob mk ∧ (Instr.box el (a.eval y)).run T.P w = .ok v' w' ∧ FreshG T ρ w ob mk v' w' := by
  unfold copBox at h
  split at h
  · rename_i z n h1 hn
    cases h
    have hv := ha.eval hr h1
    refine ⟨_, _, .pointer (some ⟨w.heap.size, 0, none⟩), { w with heap := w.heap.push (.cells (a.eval y).cells el (0, 0)) }, rfl, ?_, ?_⟩
    · simp [Instr.box, newVar, newRow]
    · exact newCells_fresh (arr := (a.eval y).cells) (mk' := fun b => .pointer (some ⟨b, 0, none⟩)) hv.cells hn (fun ρ' id e h hd => ptr_at h hd)
  · cases h
omit ha in
theorem loadC_sound {t : TypeId} {i off : Nat} {v : Value} {e : Ent} (h : loadC T s.heap t i off = some v) (he : ρ i = some e) :
    ∃ v', (loadVar t ⟨e.b, off + e.d, none⟩).run T.P w = .ok v' w ∧ VR ρ v v' := by
  unfold loadC mkLoad at h
  cases h1 : T.under t with
  | none => rw [h1] at h; cases h
  | some d =>
    rw [h1] at h
    cases h2 : T.sizeOf t with
    | none => rw [h2] at h; cases h
    | some n =>
      rw [h2] at h
      cases hg : s.heap.get i with
      | none => exfalso; cases h3 : isAggD d <;> simp [h3, hg, cellsOf, oneCell, manyCells] at h
      | some o =>
        cases o with
        | cells vs el fz =>
          obtain ⟨arr, fr, hw, a1, a2, a3, hc, _, _, _⟩ := hr.cells hg he
          cases h3 : isAggD d with
          | true =>
            simp only [h3, hg, cellsOf, manyCells] at h
            cases h4 : cellsAt vs off n with
            | none => rw [h4] at h; cases h
            | some l =>
              rw [h4] at h; cases h
              obtain ⟨c1, c2, c3⟩ := cellsAt_spec h4
              have hl : ∀ j y, ((arr.toList.drop (off + e.d)).take n)[j]? = some y → w.cell? ((⟨e.b, off + e.d, none⟩ : Addr).add j) = some y := by
                intro j y hy
                rw [add_mk, cell?_at hw, ← Array.getElem?_toList]
                rw [List.getElem?_take] at hy
                split at hy
                · rw [List.getElem?_drop] at hy; exact hy
                · cases hy
              have hlen : ((arr.toList.drop (off + e.d)).take n).length = n := by simp; omega
              have hrun := run_loadCells_list (P := T.P) w ⟨e.b, off + e.d, none⟩ _ hl
              rw [hlen] at hrun
              refine ⟨.agg ((arr.toList.drop (off + e.d)).take n).toArray, ?_, VR.agg' ⟨by rw [hlen, c2], fun j hj => ?_⟩⟩
              · simp [loadVar, hT.run_isAgg h1, h3, hT.run_size h2, hrun]
              · have hjn : j < n := by omega
                have hlt : off + j < vs.length := by omega
                obtain ⟨y, hy, hv⟩ := hc (off + j) vs[off + j] (List.getElem?_eq_getElem hlt)
                rw [List.getD_eq_getElem?_getD, cellsAt_get h4 j hjn, List.getElem?_eq_getElem hlt, List.getD_eq_getElem?_getD, List.getElem?_take, if_pos hjn, List.getElem?_drop, Array.getElem?_toList,
                  show off + e.d + j = off + j + e.d from by omega, hy]
                exact hv
          | false =>
            simp only [h3, hg, cellsOf, oneCell] at h
            have hn : ∀ (m : Nat) (l : List Value), (mkNth m).run l = l[m]? := by
              intro m
              induction m with
              | zero => intro l; cases l <;> rfl
              | succ m ih => intro l; cases l with
                | nil => rfl
                | cons y l => exact ih l
            rw [hn] at h
            obtain ⟨y, hy, hv⟩ := hc off v h
            refine ⟨y, ?_, hv⟩
            simp [loadVar, hT.run_isAgg h1, h3, cell?_at hw, hy]
        | _ => exfalso; cases h3 : isAggD d <;> simp [h3, hg, cellsOf, oneCell, manyCells] at h
theorem copLoad_sound {t : TypeId} {y : Operand} {r : OpR} (h : copLoad T s.heap (ceval T ca) t y = some r) (hk : quietK s r k = some x) :
    ∃ v', (Instr.loadAt t (a.eval y)).run T.P w = .ok v' w ∧ Sound1 T base w0 ρ s w k x v' w := by
  unfold copLoad at h
  cases h1 : ceval T ca y with
  | none => rw [h1] at h; cases h
  | some p =>
    rw [h1] at h
    have hp := ha.eval hr h1
    generalize hy : a.eval y = u at hp ⊢
    cases hp with
    | ptr he =>
      rename_i i off e
      simp only at h
      cases h2 : loadC T s.heap t i off with
      | none => rw [h2] at h; cases h
      | some v =>
        rw [h2] at h
        obtain ⟨v', h3, h4⟩ := loadC_sound hr hT h2 he
        refine ⟨v', by simp [Instr.loadAt, Instr.sureAddr, h3], .same (v := v) hr ?_ h4⟩
        cases v <;> (simp only [Option.some.injEq] at h; subst h; first | exact quiet_done hk | exact quiet_val hk)
    | _ => cases h
end
end Go.Canon
end
section
namespace Go.Canon
open Go Go.RowKit
set_option linter.unusedSectionVars false
theorem beq_iff {a b : Nat} : Nat.beq a b = true ↔ a = b := Nat.beq_eq ▸ Iff.rfl
theorem clear_spec {fz fr : Nat × Nat} {d rn off n : Nat} (h : clearOf fz off n = true) (hf : FR fz fr d rn) (hb : off + d + n ≤ rn) :
    ∀ j, off + d ≤ j → j < off + d + n → ¬ (fr.1 ≤ j ∧ j < fr.2) := by
  intro j h1 h2 ⟨h3, h4⟩
  rcases hf with e | ⟨e1, e2, e3⟩ | ⟨_, e⟩
  · omega
  · simp only [clearOf, Bool.or_eq_true, Nat.ble_eq] at h
    rcases h with (h | h) | h
    · have := Nat.eq_of_beq_eq_true h; omega
    · omega
    · omega
  · omega
theorem not_locked {vs : List Value} {el : TypeId} {fz : Nat × Nat} {off n : Nat} (h : clearOf fz off n = true) (hn : 0 < n) (hl : off + n ≤ vs.length) : ¬ Locked (.cells vs el fz) := by
  rintro ⟨vs', el', m, he, h1, h2⟩
  cases he
  simp only [clearOf, Bool.or_eq_true, Nat.ble_eq] at h
  rcases h with (h | h) | h
  · have := Nat.eq_of_beq_eq_true h; omega
  · omega
  · omega
section
variable {T : Tab} {base : Nat} {w0 w : World} {ρ : Ren} {s : CSt} {ca : CAct} {a : Act} {k : Value → CSt → Option COut} {x : COut}
variable (hr : Rel T base w0 ρ s w) (ha : AR ρ ca a) (hT : T.Ok)
include hr
/-- cells of the call's own, overwritten on both sides -/
theorem putCells_gives {i off : Nat} {vs xs r : List Value} {ys : List Value} {el : TypeId} {fz : Nat × Nat} {e : Ent} {v v' : Value} (hg : s.heap.get i = some (.cells vs el fz)) (he : ρ i = some e)
    (hx : VRs ρ xs ys) (hp : putC off vs xs = some r) (hc : clearOf fz off xs.length = true) (hn : 0 < xs.length) (hv : VR ρ v v')
    (hk : quietK s (.upd i (.cells r el fz) v) k = some x) :
    ∃ w', (storeCells ⟨e.b, off + e.d, none⟩ ys).run T.P w = .ok () w' ∧ Sound1 T base w0 ρ s w k x v' w' := by
  obtain ⟨arr, fr, hw, a1, a2, a3, hcl, hsz, hdv, hfr⟩ := hr.cells hg he
  obtain ⟨p1, p2, p3⟩ := putC_spec hp
  obtain ⟨s', h1, h2, h3, h4⟩ := quiet_upd hk
  have hyl := hx.1
  have hb : base ≤ e.b := (hr.own _ _ _ hg he).resolve_right (not_locked hc hn p1)
  have hrun := run_storeCells_over (P := T.P) e.b (off + e.d) el fr ys 0 arr w hw (by omega) (hx.oneCells p3) (by
    intro j q1 q2
    exact clear_spec hc hfr (by omega) j (by omega) (by omega))
  rw [Nat.add_zero] at hrun
  have hlen : r.length = vs.length := by rw [p2]; simp; omega
  have := hr.upd (r' := .cells (overA arr (off + e.d) ys) el fr) (e := e) h2 hg he h3 h4 hb
    (.cells (by omega) (by rw [overA_size (by omega)]; exact a2) a3 (CellsRel.to (by omega) (by rw [p2]; exact hcl.over hx p1 (by omega))) hsz hdv hfr)
  exact ⟨_, hrun, _, s', _, h1, this.2, this.1, hv⟩
include ha hT
theorem copStore_sound {t : TypeId} {y z : Operand} {r : OpR} (h : copStore T s.heap (ceval T ca) t y z = some r) (hk : quietK s r k = some x) :
    ∃ w', (Instr.storeAt t (a.eval y) (a.eval z)).run T.P w = .ok () w' ∧ Sound1 T base w0 ρ s w k x undef w' := by
  unfold copStore at h
  cases h1 : ceval T ca y with
  | none => rw [h1] at h; cases h
  | some p =>
    rw [h1] at h
    have hp := ha.eval hr h1
    generalize hy : a.eval y = u at hp ⊢
    cases hp with
    | ptr he =>
      rename_i i off e
      simp only at h
      cases h2 : ceval T ca z with
      | none => rw [h2] at h; cases h
      | some v =>
        rw [h2] at h
        have hv := ha.eval hr h2
        generalize hz : a.eval z = u2 at hv ⊢
        simp only [storeC, getCells, Option.bind_eq_bind] at h
        cases hg : s.heap.get i with
        | none => rw [hg] at h; cases h
        | some o =>
          rw [hg] at h
          cases o with
          | cells vs el fz =>
            simp only [Option.bind_some] at h
            cases h3 : T.sizeOf t with
            | none => rw [h3] at h; cases h
            | some n =>
              rw [h3] at h
              simp only [Option.bind_some] at h
              cases h4 : Nat.beq v.cells.toList.length n with
              | false => rw [h4] at h; cases h
              | true =>
                rw [h4] at h
                simp only [Bool.not_true, cond_false] at h
                have hn : v.cells.toList.length = n := Nat.eq_of_beq_eq_true h4
                have hl : u2.cells.size = n := by have := hv.cells.1; simp at this hn; omega
                cases h0 : Nat.beq n 0 with
                | true =>
                  rw [h0] at h
                  have e0 := Nat.eq_of_beq_eq_true h0
                  simp only [cond_true, Option.some.injEq] at h
                  subst h
                  refine ⟨w, ?_, .same hr (quiet_done hk) VR.undef⟩
                  have hnil : u2.cells.toList = [] := List.length_eq_zero_iff.1 (by rw [Array.length_toList]; omega)
                  simp [Instr.storeAt, Instr.sureAddr, storeVar, hT.run_size h3, hl, hnil, storeCells]
                | false =>
                rw [h0] at h
                simp only [cond_false] at h
                have hn0 : 0 < n := Nat.pos_of_ne_zero fun q => by rw [q] at h0; cases h0
                cases h5 : clearOf fz off n with
                | false => rw [h5] at h; cases h
                | true =>
                  rw [h5] at h
                  simp only [cond_false, Bool.not_true] at h
                  cases h6 : putC off vs v.cells.toList with
                  | none => rw [h6] at h; cases h
                  | some q =>
                    rw [h6] at h; cases h
                    obtain ⟨w', g1, g2⟩ := putCells_gives hr hg he hv.cells h6 (by rw [hn]; exact h5) (by omega) VR.undef hk
                    refine ⟨w', ?_, g2⟩
                    simp [Instr.storeAt, Instr.sureAddr, storeVar, hT.run_size h3, hl, g1]
          | _ => cases h
    | _ => cases h
theorem copNilCheck_sound {y : Operand} {r : OpR} (h : copNilCheck (ceval T ca) y = some r) (hk : quietK s r k = some x) :
    ∃ ad, a.eval y = .pointer (some ad) ∧ Sound1 T base w0 ρ s w k x (.pointer (some ad)) w := by
  unfold copNilCheck at h
  cases h1 : ceval T ca y with
  | none => rw [h1] at h; cases h
  | some p =>
    rw [h1] at h
    have hp := ha.eval hr h1
    generalize hy : a.eval y = u at hp ⊢
    cases hp with
    | ptr he => cases h; exact ⟨_, rfl, .same hr (quiet_done hk) (.ptr he)⟩
    | _ => cases h
theorem under_struct {t : TypeId} {fields : Array Field} (h : T.under t = some (.struct fields)) : ∀ w, (underlying t).run T.P w = .ok (.struct fields) w := hT.run_under h
theorem copFieldAddr_sound {st : TypeId} {y : Operand} {f : Nat} {r : OpR} (h : copFieldAddr T (ceval T ca) st y f = some r) (hk : quietK s r k = some x) :
    ∃ v', (Instr.fieldAt st (a.eval y) f).run T.P w = .ok v' w ∧ Sound1 T base w0 ρ s w k x v' w := by
  unfold copFieldAddr at h
  cases h1 : ceval T ca y with
  | none => rw [h1] at h; cases h
  | some p =>
    rw [h1] at h
    have hp := ha.eval hr h1
    generalize hy : a.eval y = u at hp ⊢
    cases hp with
    | ptr he =>
      rename_i i off e
      simp only at h
      cases h2 : T.under st with
      | none => rw [h2] at h; cases h
      | some d =>
        rw [h2] at h
        cases d with
        | struct fields =>
          simp only at h
          cases h3 : fields.toList[f]? with
          | none => rw [h3] at h; cases h
          | some fd =>
            rw [h3] at h
            simp only at h
            cases h4 : T.sizeOf fd.type with
            | none => rw [h4] at h; cases h
            | some n =>
              rw [h4] at h
              cases n with
              | zero => cases h
              | succ n =>
                cases h
                have h3' : fields[f]? = some fd := by rw [← Array.getElem?_toList]; exact h3
                refine ⟨.pointer (some ⟨e.b, off + e.d + fd.offset, none⟩), ?_, .same hr (quiet_addr hk) ?_⟩
                · simp [Instr.fieldAt, hT.run_under h2, h3', Instr.sureAddr, fieldPlace, hT.run_size h4, add_mk]
                · have := VR.ptr (ρ := ρ) (off := off + fd.offset) he
                  rw [show off + fd.offset + e.d = off + e.d + fd.offset from by omega] at this
                  exact this
        | _ => cases h
    | _ => cases h
end
end Go.Canon
end
section
namespace Go.Canon
open Go Go.RowKit
set_option linter.unusedSectionVars false
theorem peek_run {α : Type} {P : Program} : ∀ {sm : Sem α} {v : α}, Sem.peek P sm = some v → ∀ w, sm.run P w = .ok v w
  | .pure a, v, h, w => by cases h; rfl
  | .program k, v, h, w => peek_run (sm := k P) h w
  | .mark m k, v, h, w => peek_run (sm := k) h w
  | .load .., _, h, _ => by cases h
  | .store .., _, h, _ => by cases h
  | .new .., _, h, _ => by cases h
  | .shape .., _, h, _ => by cases h
  | .freeze .., _, h, _ => by cases h
  | .frozen .., _, h, _ => by cases h
  | .getObj .., _, h, _ => by cases h
  | .setObj .., _, h, _ => by cases h
  | .choose .., _, h, _ => by cases h
  | .sys .., _, h, _ => by cases h
  | .halt _, _, h, _ => by cases h
theorem ble_iff {a b : Nat} : Nat.ble a b = true ↔ a ≤ b := by rw [Nat.ble_eq]
theorem ibeq_eq : ∀ (a b : Int), ibeq a b = (a == b)
  | .ofNat a, .ofNat b => by
    show Nat.beq a b = _
    cases h : Nat.beq a b with
    | true => have := Nat.eq_of_beq_eq_true h; subst this; simp
    | false =>
      have : a ≠ b := fun q => by subst q; rw [Nat.beq_refl] at h; cases h
      symm; rw [beq_eq_false_iff_ne]; intro q; exact this (Int.ofNat.inj q)
  | .negSucc a, .negSucc b => by
    show Nat.beq a b = _
    cases h : Nat.beq a b with
    | true => have := Nat.eq_of_beq_eq_true h; subst this; simp
    | false =>
      have : a ≠ b := fun q => by subst q; rw [Nat.beq_refl] at h; cases h
      symm; rw [beq_eq_false_iff_ne]; intro q; exact this (Int.negSucc.inj q)
  | .ofNat a, .negSucc b => by symm; show (Int.ofNat a == Int.negSucc b) = false; rw [beq_eq_false_iff_ne]; intro q; cases q
  | .negSucc a, .ofNat b => by symm; show (Int.negSucc a == Int.ofNat b) = false; rw [beq_eq_false_iff_ne]; intro q; cases q
theorem ile_eq : ∀ (a b : Int), ile a b = decide (a ≤ b)
  | .ofNat a, .ofNat b => by
    show Nat.ble a b = _
    rw [Bool.eq_iff_iff, Nat.ble_eq, decide_eq_true_iff]; exact ⟨fun h => Int.ofNat_le.2 h, fun h => Int.ofNat_le.1 h⟩
  | .negSucc a, .negSucc b => by
    show Nat.ble b a = _
    rw [Bool.eq_iff_iff, Nat.ble_eq, decide_eq_true_iff]; omega
  | .ofNat a, .negSucc b => by
    show false = _
    symm; rw [decide_eq_false_iff_not]
    intro h; have : (Int.ofNat a : Int) = (a : Int) := rfl; omega
  | .negSucc a, .ofNat b => by
    show true = _
    symm; rw [decide_eq_true_iff]
    have : (Int.ofNat b : Int) = (b : Int) := rfl; omega
theorem ile_lt (a b : Int) : (!ile b a) = decide (a < b) := by rw [ile_eq, Bool.eq_iff_iff]; simp
theorem kbeq_eq {j k : IntKind} (h : kbeq j k = true) : j = k := by cases j <;> cases k <;> first | rfl | cases h
theorem wrap64_nat (m : Nat) (h : m < 9223372036854775808) : IntKind.i64.wrap (Int.ofNat m) = Int.ofNat m := by
  have e1 : (2 ^ IntKind.i64.bits : Int) = 18446744073709551616 := by decide
  have e2 : (2 ^ (IntKind.i64.bits - 1) : Int) = 9223372036854775808 := by decide
  have hh : (Int.ofNat m : Int) = (m : Int) := rfl
  simp only [IntKind.wrap, IntKind.signed, e1, e2, Bool.true_and, hh]
  have h1 : (m : Int) % 18446744073709551616 = m := by omega
  rw [h1, if_neg]
  simp; omega
theorem wrap64_neg (m : Nat) (h : m < 9223372036854775808) : IntKind.i64.wrap (Int.negSucc m) = Int.negSucc m := by
  have e1 : (2 ^ IntKind.i64.bits : Int) = 18446744073709551616 := by decide
  have e2 : (2 ^ (IntKind.i64.bits - 1) : Int) = 9223372036854775808 := by decide
  have hh : (Int.negSucc m : Int) = -(m : Int) - 1 := by rw [Int.negSucc_eq]; omega
  simp only [IntKind.wrap, IntKind.signed, e1, e2, Bool.true_and, hh]
  have h1 : (-(m : Int) - 1) % 18446744073709551616 = 18446744073709551616 - m - 1 := by omega
  rw [h1, if_pos]
  · omega
  · simp; omega
theorem big_false {m : Nat} (h : Nat.ble B63 m = false) : m < 9223372036854775808 := by
  have e : B63 = 9223372036854775808 := rfl
  apply Nat.lt_of_not_le
  intro q
  rw [← e] at q
  rw [ble_iff.2 q] at h
  cases h
theorem pick_eq {c : Bool} {a b d : Int} (h1 : a = d) (h2 : c = false → b = d) : (bif c then a else b) = d := by
  cases c
  · exact h2 rfl
  · exact h1
theorem wrapF_eq (k : IntKind) (n : Int) : wrapF k n = k.wrap n := by
  cases k
  case i64 =>
    cases n with
    | ofNat m => exact pick_eq rfl fun h => (wrap64_nat m (big_false h)).symm
    | negSucc m => exact pick_eq rfl fun h => (wrap64_neg m (big_false h)).symm
  all_goals rfl
section
variable {T : Tab} {base : Nat} {w0 w : World} {ρ : Ren} {s : CSt} {ca : CAct} {a : Act} {k : Value → CSt → Option COut} {x : COut}
variable (hr : Rel T base w0 ρ s w) (ha : AR ρ ca a) (hT : T.Ok)
include hr
theorem binInt_sound {op : BinOp} {t : TypeId} {j : IntKind} {m : Int} {j' : IntKind} {n : Int} {r : OpR} (h : binInt T op t j m j' n = some r) (hk : quietK s r k = some x) :
    ∃ v', (binOp op t (.int j m) (.int j' n)).run T.P w = .ok v' w ∧ Sound1 T base w0 ρ s w k x v' w := by
  have go : ∀ (v : Value), (match Sem.peek T.P (binOp op t (.int j m) (.int j' n)) with | some v => some (OpR.val v) | none => none) = some r →
      ∃ v', (binOp op t (.int j m) (.int j' n)).run T.P w = .ok v' w ∧ (scalar v' = true → Sound1 T base w0 ρ s w k x v' w) := by
    intro _ h
    cases h1 : Sem.peek T.P (binOp op t (.int j m) (.int j' n)) with
    | none => rw [h1] at h; cases h
    | some v => rw [h1] at h; cases h; exact ⟨v, peek_run h1 w, fun hs => .same hr (quiet_val hk) (scalar_refl hs)⟩
  have cmp : ∀ (b : Bool) (c : Option Bool), (bif kbeq j j' then (match c with | some r => some (OpR.bool r) | none => none) else none) = some r → c = some b →
      (j = j' → (binOp op t (.int j m) (.int j' n)).run T.P w = .ok (.bool b) w) →
      ∃ v', (binOp op t (.int j m) (.int j' n)).run T.P w = .ok v' w ∧ Sound1 T base w0 ρ s w k x v' w := by
    intro b c h hc hrun
    cases h1 : kbeq j j' with
    | false => rw [h1] at h; cases h
    | true =>
      rw [h1, hc] at h
      cases h
      exact ⟨.bool b, hrun (kbeq_eq h1), .same hr (quiet_bool hk) (.bool b)⟩
  have ar : ∀ (u : Int), (bif kbeq j j' then some (OpR.int j (wrapF j u)) else none) = some r → (j = j' → (binOp op t (.int j m) (.int j' n)).run T.P w = .ok (.int j (j.wrap u)) w) →
      ∃ v', (binOp op t (.int j m) (.int j' n)).run T.P w = .ok v' w ∧ Sound1 T base w0 ρ s w k x v' w := by
    intro u h hrun
    cases h1 : kbeq j j' with
    | false => rw [h1] at h; cases h
    | true =>
      rw [h1] at h
      cases h
      refine ⟨_, hrun (kbeq_eq h1), .same hr (quiet_int hk) ?_⟩
      rw [wrapF_eq]; exact .int _ _
  have pk : (match Sem.peek T.P (binOp op t (.int j m) (.int j' n)) with | some v => bif scalar v then some (OpR.val v) else none | none => none) = some r →
      ∃ v', (binOp op t (.int j m) (.int j' n)).run T.P w = .ok v' w ∧ Sound1 T base w0 ρ s w k x v' w := by
    intro h
    cases h1 : Sem.peek T.P (binOp op t (.int j m) (.int j' n)) with
    | none => rw [h1] at h; cases h
    | some v =>
      rw [h1] at h
      cases h2 : scalar v with
      | false => simp [h2] at h
      | true => simp [h2] at h; subst h; exact ⟨v, peek_run h1 w, .same hr (quiet_val hk) (scalar_refl h2)⟩
  cases op with
  | add => exact ar (m + n) h fun e => by subst e; simp [binOp, Op.intArith]
  | sub => exact ar (m - n) h fun e => by subst e; simp [binOp, Op.intArith]
  | mul => exact ar (m * n) h fun e => by subst e; simp [binOp, Op.intArith]
  | eql => exact cmp (ibeq m n) (cmpInt .eql m n) h rfl fun e => by subst e; simp [binOp, Op.intCmp, ibeq_eq]
  | neq => exact cmp (!ibeq m n) (cmpInt .neq m n) h rfl fun e => by subst e; simp [binOp, Op.intCmp, ibeq_eq, bne]
  | lss => exact cmp (!ile n m) (cmpInt .lss m n) h rfl fun e => by subst e; rw [ile_lt]; simp [binOp, Op.intCmp]
  | leq => exact cmp (ile m n) (cmpInt .leq m n) h rfl fun e => by subst e; simp [binOp, Op.intCmp, ile_eq]
  | gtr => exact cmp (!ile m n) (cmpInt .gtr m n) h rfl fun e => by subst e; rw [ile_lt]; simp [binOp, Op.intCmp]
  | geq => exact cmp (ile n m) (cmpInt .geq m n) h rfl fun e => by subst e; simp [binOp, Op.intCmp, ile_eq]
  | _ => exact pk h
end
end Go.Canon
end
section
namespace Go.Canon
open Go Go.RowKit
set_option linter.unusedSectionVars false
theorem run_equal {P : Program} {t : TypeId} {x y : Value} {w : World} {b : Bool} (h : ∀ d, (Op.equalIn (d + 1) t x y).run P w = .ok b w) : (Op.equal t x y).run P w = .ok b w := h 9999
theorem run_eqGuard {P : Program} {op : BinOp} {t : TypeId} {xo yo : Operand} {x y : Value} {w : World} (h1 : x ≠ .nilIface ∨ y ≠ .nilIface) (h2 : (∀ c, x ≠ .agg c) ∨ (∀ c, y ≠ .agg c)) :
    (eqGuard op t xo yo x y).run P w = .ok () w := by
  cases x <;> cases y <;> first
    | (exfalso; simp at h1; done)
    | (exfalso; simp at h2; done)
    | (unfold eqGuard; split <;> rfl)
/-- a test by '==' or '!=' -/
theorem run_eqOp {P : Program} {op : BinOp} {t : TypeId} {x y : Value} {w : World} {b e : Bool} (he : isEq op = some e) (hx : ∀ k n, x ≠ .int k n) (hf : ∀ k n, x ≠ .float k n) (hc : ∀ k n m, x ≠ .complex k n m)
    (hs : ∀ q, x ≠ .string q) (h : (Op.equal t x y).run P w = .ok b w) : (binOp op t x y).run P w = .ok (.bool (if b then e else !e)) w := by
  cases op <;> simp only [isEq, Option.some.injEq] at he <;> first | cases he | skip
  · cases x <;> first | exact absurd rfl (hx _ _) | exact absurd rfl (hf _ _) | exact absurd rfl (hc _ _ _) | exact absurd rfl (hs _) | (simp [binOp, h]; done) | (simp [binOp, h]; cases b <;> rfl)
  · cases x <;> first | exact absurd rfl (hx _ _) | exact absurd rfl (hf _ _) | exact absurd rfl (hc _ _ _) | exact absurd rfl (hs _) | (simp [binOp, h]; done) | (simp [binOp, h]; cases b <;> rfl)
section
variable {T : Tab} {base : Nat} {w0 w : World} {ρ : Ren} {s : CSt} {ca : CAct} {a : Act} {k : Value → CSt → Option COut} {x : COut}
variable (hr : Rel T base w0 ρ s w) (ha : AR ρ ca a) (hT : T.Ok)
include hr hT
/-- what an operation on two values owes -/
def BinGives (T : Tab) (base : Nat) (w0 : World) (ρ : Ren) (s : CSt) (w : World) (k : Value → CSt → Option COut) (x : COut) (op : BinOp) (t : TypeId) (xo yo : Operand) (u v : Value) : Prop :=
  ∃ v', (eqGuard op t xo yo u v).run T.P w = .ok () w ∧ (binOp op t u v).run T.P w = .ok v' w ∧ Sound1 T base w0 ρ s w k x v' w
theorem nilEq_sound {op : BinOp} {t : TypeId} {xo yo : Operand} {kd : NilK} {p q : Bool} {u v : Value} {r : OpR} (h : nilEq T op t kd p q = some r) (hk : quietK s r k = some x)
    (h1 : u ≠ .nilIface ∨ v ≠ .nilIface) (h2 : (∀ c, u ≠ .agg c) ∨ (∀ c, v ≠ .agg c)) (hx : ∀ k n, u ≠ .int k n) (hf : ∀ k n, u ≠ .float k n) (hc : ∀ k n m, u ≠ .complex k n m) (hs : ∀ q, u ≠ .string q)
    (heq : ∀ d, T.under t = some d → kd.is d = true → (p = true ∨ q = true) → (Op.equal t u v).run T.P w = .ok (p && q) w) : BinGives T base w0 ρ s w k x op t xo yo u v := by
  unfold nilEq at h
  cases h3 : T.under t with
  | none => rw [h3] at h; cases h
  | some d =>
    rw [h3] at h
    cases h4 : kd.is d with
    | false => simp [h4] at h
    | true =>
      simp only [h4, cond_true] at h
      cases h5 : isEq op with
      | none => rw [h5] at h; cases h
      | some e =>
        rw [h5] at h
        have fin : ∀ b, (p && q) = b → (p = true ∨ q = true) → r = .bool (if b then e else !e) → BinGives T base w0 ρ s w k x op t xo yo u v := by
          intro b hb hpq hrr
          have := heq d h3 h4 hpq
          rw [hb] at this
          refine ⟨_, run_eqGuard h1 h2, run_eqOp h5 hx hf hc hs this, ?_⟩
          rw [hrr] at hk
          exact .same hr (quiet_bool hk) (.bool _)
        cases p <;> cases q <;> simp only [Option.some.injEq] at h <;> first | cases h | skip
        · exact fin false rfl (Or.inr rfl) rfl
        · exact fin false rfl (Or.inl rfl) rfl
        · exact fin true rfl (Or.inl rfl) rfl
theorem binC_sound {op : BinOp} {t : TypeId} {xo yo : Operand} {u v u' v' : Value} {r : OpR} (h : binC T op t xo yo u v = some r) (hk : quietK s r k = some x) (hu : VR ρ u u') (hv : VR ρ v v') :
    BinGives T base w0 ρ s w k x op t xo yo u' v' := by
  have sc : binScalar T op t xo yo u v = some r → BinGives T base w0 ρ s w k x op t xo yo u' v' := by
    intro h
    unfold binScalar at h
    cases h1 : scalar u && scalar v with
    | false => rw [h1] at h; cases h
    | true =>
      rw [h1] at h
      simp only [Bool.and_eq_true] at h1
      rw [scalar_same h1.1 hu, scalar_same h1.2 hv]
      simp only [cond_true] at h
      cases h2 : Sem.peek T.P (eqGuard op t xo yo u v) with
      | none => rw [h2] at h; cases h
      | some g =>
        rw [h2] at h
        simp only at h
        cases h3 : Sem.peek T.P (binOp op t u v) with
        | none => rw [h3] at h; cases h
        | some z =>
          rw [h3] at h
          cases h4 : scalar z with
          | false => simp [h4] at h
          | true => simp [h4] at h; subst h; exact ⟨z, peek_run h2 w, peek_run h3 w, .same hr (quiet_val hk) (scalar_refl h4)⟩
  cases hu with
  | int j m =>
    cases hv with
    | int j' n =>
      obtain ⟨z, h1, h2⟩ := binInt_sound hr h hk
      exact ⟨z, run_eqGuard (Or.inl (by simp)) (Or.inl (by simp)), h1, h2⟩
    | _ => exact sc h
  | nilp =>
    cases hv with
    | nilp => exact nilEq_sound (kd := .ptr) (p := true) (q := true) hr hT h hk (Or.inl (by simp)) (Or.inl (by simp)) (by simp) (by simp) (by simp) (by simp) (fun d h1 h2 _ => by
        cases d <;> simp [NilK.is] at h2
        exact run_equal fun d => by simp [Op.equalIn, hT.run_under h1])
    | ptr hi => exact nilEq_sound (kd := .ptr) (p := true) (q := false) hr hT h hk (Or.inl (by simp)) (Or.inl (by simp)) (by simp) (by simp) (by simp) (by simp) (fun d h1 h2 _ => by
        cases d <;> simp [NilK.is] at h2
        exact run_equal fun d => by simp [Op.equalIn, hT.run_under h1])
    | _ => exact sc h
  | ptr hi =>
    cases hv with
    | nilp => exact nilEq_sound (kd := .ptr) (p := false) (q := true) hr hT h hk (Or.inl (by simp)) (Or.inl (by simp)) (by simp) (by simp) (by simp) (by simp) (fun d h1 h2 _ => by
        cases d <;> simp [NilK.is] at h2
        exact run_equal fun d => by simp [Op.equalIn, hT.run_under h1])
    | ptr hj =>
      rename_i i off e j off' e'
      simp only [binC, ptrEq] at h
      cases h5 : isEq op with
      | none => rw [h5] at h; cases h
      | some q =>
        rw [h5] at h
        simp only at h
        cases h6 : Nat.beq i j with
        | false => rw [h6] at h; cases h
        | true =>
          have := Nat.eq_of_beq_eq_true h6
          subst this
          rw [hi] at hj; cases hj
          rw [h6] at h
          simp only [cond_true] at h
          cases h3 : T.under t with
          | none => rw [h3] at h; cases h
          | some d =>
            rw [h3] at h
            cases d with
            | pointer el =>
              simp only at h
              cases h4 : T.sizeOf el with
              | none => rw [h4] at h; cases h
              | some n =>
                rw [h4] at h
                cases n with
                | zero => cases h
                | succ n =>
                  simp only [Option.some.injEq] at h
                  have hrun : (Op.equal t (.pointer (some ⟨e.b, off + e.d, none⟩)) (.pointer (some ⟨e.b, off' + e.d, none⟩))).run T.P w = .ok (Nat.beq off off') w := by
                    refine run_equal fun d => ?_
                    simp [Op.equalIn, hT.run_under h3, hT.run_size h4, sameAddr]
                    rw [Bool.eq_iff_iff, beq_iff]
                    simp
                  refine ⟨_, run_eqGuard (Or.inl (by simp)) (Or.inl (by simp)), run_eqOp h5 (by simp) (by simp) (by simp) (by simp) hrun, ?_⟩
                  rw [← h] at hk
                  have hb := quiet_bool hk
                  refine .same hr hb ?_
                  cases Nat.beq off off' <;> exact .bool _
            | _ => cases h
    | _ => exact sc h
  | nils n c =>
    cases hv with
    | nils n' c' => exact nilEq_sound (kd := .slice) (p := true) (q := true) hr hT h hk (Or.inl (by simp)) (Or.inl (by simp)) (by simp) (by simp) (by simp) (by simp) (fun d h1 h2 _ => by
        cases d <;> simp [NilK.is] at h2
        exact run_equal fun d => by simp [Op.equalIn, hT.run_under h1])
    | xs hi hc => exact nilEq_sound (kd := .slice) (p := true) (q := false) hr hT h hk (Or.inl (by simp)) (Or.inl (by simp)) (by simp) (by simp) (by simp) (by simp) (fun d h1 h2 _ => by
        cases d <;> simp [NilK.is] at h2
        exact run_equal fun d => by simp [Op.equalIn, hT.run_under h1])
    | gs hi => exact nilEq_sound (kd := .slice) (p := true) (q := false) hr hT h hk (Or.inl (by simp)) (Or.inl (by simp)) (by simp) (by simp) (by simp) (by simp) (fun d h1 h2 _ => by
        cases d <;> simp [NilK.is] at h2
        exact run_equal fun d => by simp [Op.equalIn, hT.run_under h1])
    | _ => exact sc h
  | xs hi hc =>
    cases hv with
    | nils n' c' => exact nilEq_sound (kd := .slice) (p := false) (q := true) hr hT h hk (Or.inl (by simp)) (Or.inl (by simp)) (by simp) (by simp) (by simp) (by simp) (fun d h1 h2 _ => by
        cases d <;> simp [NilK.is] at h2
        exact run_equal fun d => by simp [Op.equalIn, hT.run_under h1])
    | xs => exact nilEq_sound (kd := .slice) (p := false) (q := false) hr hT h hk (Or.inl (by simp)) (Or.inl (by simp)) (by simp) (by simp) (by simp) (by simp) (fun d h1 h2 hpq => by simp at hpq)
    | gs => exact nilEq_sound (kd := .slice) (p := false) (q := false) hr hT h hk (Or.inl (by simp)) (Or.inl (by simp)) (by simp) (by simp) (by simp) (by simp) (fun d h1 h2 hpq => by simp at hpq)
    | _ => exact sc h
  | gs hi =>
    cases hv with
    | nils n' c' => exact nilEq_sound (kd := .slice) (p := false) (q := true) hr hT h hk (Or.inl (by simp)) (Or.inl (by simp)) (by simp) (by simp) (by simp) (by simp) (fun d h1 h2 _ => by
        cases d <;> simp [NilK.is] at h2
        exact run_equal fun d => by simp [Op.equalIn, hT.run_under h1])
    | xs => exact nilEq_sound (kd := .slice) (p := false) (q := false) hr hT h hk (Or.inl (by simp)) (Or.inl (by simp)) (by simp) (by simp) (by simp) (by simp) (fun d h1 h2 hpq => by simp at hpq)
    | gs => exact nilEq_sound (kd := .slice) (p := false) (q := false) hr hT h hk (Or.inl (by simp)) (Or.inl (by simp)) (by simp) (by simp) (by simp) (by simp) (fun d h1 h2 hpq => by simp at hpq)
    | _ => exact sc h
  | nilm =>
    cases hv with
    | nilm => exact nilEq_sound (kd := .map) (p := true) (q := true) hr hT h hk (Or.inl (by simp)) (Or.inl (by simp)) (by simp) (by simp) (by simp) (by simp) (fun d h1 h2 _ => by
        cases d <;> simp [NilK.is] at h2
        exact run_equal fun d => by simp [Op.equalIn, hT.run_under h1])
    | map hi => exact nilEq_sound (kd := .map) (p := true) (q := false) hr hT h hk (Or.inl (by simp)) (Or.inl (by simp)) (by simp) (by simp) (by simp) (by simp) (fun d h1 h2 _ => by
        cases d <;> simp [NilK.is] at h2
        exact run_equal fun d => by simp [Op.equalIn, hT.run_under h1])
    | _ => exact sc h
  | map hi =>
    cases hv with
    | nilm => exact nilEq_sound (kd := .map) (p := false) (q := true) hr hT h hk (Or.inl (by simp)) (Or.inl (by simp)) (by simp) (by simp) (by simp) (by simp) (fun d h1 h2 _ => by
        cases d <;> simp [NilK.is] at h2
        exact run_equal fun d => by simp [Op.equalIn, hT.run_under h1])
    | map hj => exact nilEq_sound (kd := .map) (p := false) (q := false) hr hT h hk (Or.inl (by simp)) (Or.inl (by simp)) (by simp) (by simp) (by simp) (by simp) (fun d h1 h2 hpq => by simp at hpq)
    | _ => exact sc h
  | func f c d c' d' a1 a2 a3 a4 =>
    cases hv with
    | nilf => exact nilEq_sound (kd := .func) (p := false) (q := true) hr hT h hk (Or.inl (by simp)) (Or.inl (by simp)) (by simp) (by simp) (by simp) (by simp) (fun d h1 h2 _ => by
        cases d <;> simp [NilK.is] at h2
        exact run_equal fun d => by simp [Op.equalIn, hT.run_under h1])
    | _ => exact sc h
  | yield hi =>
    cases hv with
    | nilf => exact nilEq_sound (kd := .func) (p := false) (q := true) hr hT h hk (Or.inl (by simp)) (Or.inl (by simp)) (by simp) (by simp) (by simp) (by simp) (fun d h1 h2 _ => by
        cases d <;> simp [NilK.is] at h2
        exact run_equal fun d => by simp [Op.equalIn, hT.run_under h1])
    | _ => exact sc h
  | nilf =>
    cases hv with
    | func => exact nilEq_sound (kd := .func) (p := true) (q := false) hr hT h hk (Or.inl (by simp)) (Or.inl (by simp)) (by simp) (by simp) (by simp) (by simp) (fun d h1 h2 _ => by
        cases d <;> simp [NilK.is] at h2
        exact run_equal fun d => by simp [Op.equalIn, hT.run_under h1])
    | yield => exact nilEq_sound (kd := .func) (p := true) (q := false) hr hT h hk (Or.inl (by simp)) (Or.inl (by simp)) (by simp) (by simp) (by simp) (by simp) (fun d h1 h2 _ => by
        cases d <;> simp [NilK.is] at h2
        exact run_equal fun d => by simp [Op.equalIn, hT.run_under h1])
    | _ => exact sc h
  | iface ti hi =>
    cases hv with
    | nili => exact nilEq_sound (kd := .iface) (p := false) (q := true) hr hT h hk (Or.inl (by simp)) (Or.inl (by simp)) (by simp) (by simp) (by simp) (by simp) (fun d h1 h2 _ => by
        cases d <;> simp [NilK.is] at h2
        exact run_equal fun d => by simp [Op.equalIn, hT.run_under h1])
    | _ => exact sc h
  | nili =>
    cases hv with
    | iface => exact nilEq_sound (kd := .iface) (p := true) (q := false) hr hT h hk (Or.inr (by simp)) (Or.inl (by simp)) (by simp) (by simp) (by simp) (by simp) (fun d h1 h2 _ => by
        cases d <;> simp [NilK.is] at h2
        exact run_equal fun d => by simp [Op.equalIn, hT.run_under h1])
    | _ => exact sc h
  | bool b => cases hv <;> exact sc h
  | string q => cases hv <;> exact sc h
  | agg p p' h1 h2 => cases hv <;> exact sc h
  | tuple p p' h1 h2 => cases hv <;> exact sc h
end
end Go.Canon
end
section
namespace Go.Canon
open Go Go.RowKit
set_option linter.unusedSectionVars false
section
variable {T : Tab} {base : Nat} {w0 w : World} {ρ : Ren} {s : CSt} {ca : CAct} {a : Act} {k : Value → CSt → Option COut} {x : COut}
variable (hr : Rel T base w0 ρ s w) (ha : AR ρ ca a) (hT : T.Ok)
include hr ha hT
theorem copBin_sound {op : BinOp} {t : TypeId} {y z : Operand} {r : OpR} (h : copBin T (ceval T ca) op t y z = some r) (hk : quietK s r k = some x) :
    BinGives T base w0 ρ s w k x op t y z (a.eval y) (a.eval z) := by
  unfold copBin at h
  cases h1 : ceval T ca y with
  | none => rw [h1] at h; cases h
  | some u =>
    rw [h1] at h
    simp only at h
    cases h2 : ceval T ca z with
    | none => rw [h2] at h; cases h
    | some v => rw [h2] at h; exact binC_sound hr hT h hk (ha.eval hr h1) (ha.eval hr h2)
theorem copUn_sound {op : UnOp} {y : Operand} {r : OpR} (h : copUn T (ceval T ca) op y = some r) (hk : quietK s r k = some x) :
    ∃ v', (Op.unary op (a.eval y)).run T.P w = .ok v' w ∧ Sound1 T base w0 ρ s w k x v' w := by
  unfold copUn at h
  cases h1 : ceval T ca y with
  | none => rw [h1] at h; cases h
  | some u =>
    rw [h1] at h
    have hu := ha.eval hr h1
    have gen : (bif scalar u then (match Sem.peek T.P (Op.unary op u) with | some r => bif scalar r then some (OpR.val r) else none | none => none) else none) = some r →
        ∃ v', (Op.unary op (a.eval y)).run T.P w = .ok v' w ∧ Sound1 T base w0 ρ s w k x v' w := by
      intro h
      cases h2 : scalar u with
      | false => rw [h2] at h; cases h
      | true =>
        rw [h2] at h
        rw [scalar_same h2 hu]
        simp only [cond_true] at h
        cases h3 : Sem.peek T.P (Op.unary op u) with
        | none => rw [h3] at h; cases h
        | some v =>
          rw [h3] at h
          cases h4 : scalar v with
          | false => simp [h4] at h
          | true => simp [h4] at h; subst h; exact ⟨v, peek_run h3 w, .same hr (quiet_val hk) (scalar_refl h4)⟩
    have nt : ∀ b, op = .not → u = .bool b → r = .bool (!b) → ∃ v', (Op.unary op (a.eval y)).run T.P w = .ok v' w ∧ Sound1 T base w0 ρ s w k x v' w := by
      intro b ho hub hrr
      subst ho; subst hub; subst hrr
      generalize a.eval y = z at hu
      cases hu
      exact ⟨_, rfl, .same hr (quiet_bool hk) (.bool _)⟩
    cases op <;> cases u <;> first
      | exact gen h
      | (refine nt _ rfl rfl ?_; exact (Option.some.inj h).symm)
theorem run_asInt {j : IntKind} {i : Nat} : (asIntOf (.int j (.ofNat i))).run T.P w = .ok (j, Int.ofNat i) w := rfl
theorem copIndexAddr_sound {t : TypeId} {y z : Operand} {r : OpR} (h : copIndexAddr T (ceval T ca) t y z = some r) (hk : quietK s r k = some x) :
    ∃ v', (Instr.indexAt t (a.eval y) (a.eval z)).run T.P w = .ok v' w ∧ Sound1 T base w0 ρ s w k x v' w := by
  unfold copIndexAddr at h
  cases h1 : ceval T ca y with
  | none => rw [h1] at h; cases h
  | some u =>
    rw [h1] at h
    simp only at h
    cases h2 : ceval T ca z with
    | none => rw [h2] at h; cases h
    | some v =>
      rw [h2] at h
      have hu := ha.eval hr h1
      have hv := ha.eval hr h2
      generalize hy : a.eval y = u' at hu ⊢
      generalize hz : a.eval z = v' at hv ⊢
      cases v with
      | int j n =>
        cases n with
        | ofNat i =>
          cases hv
          simp only at h
          cases hu with
          | ptr he =>
            rename_i b off e
            simp only [idxC] at h
            cases h3 : T.under t with
            | none => rw [h3] at h; cases h
            | some d =>
              rw [h3] at h
              cases d with
              | array len el =>
                simp only at h
                cases h4 : T.sizeOf el with
                | none => rw [h4] at h; cases h
                | some n =>
                  rw [h4] at h
                  simp only at h
                  cases h5 : Nat.blt i len with
                  | false => rw [h5] at h; cases h
                  | true =>
                    rw [h5] at h; cases h
                    have hlt : i < len := by simpa [Nat.blt_eq] using h5
                    refine ⟨.pointer (some ⟨e.b, off + e.d + i * n, none⟩), ?_, .same hr (quiet_addr hk) ?_⟩
                    · have hi : (0 : Int) ≤ (i : Int) ∧ (i : Int) < (len : Int) := by omega
                      simp [Instr.indexAt, asIntOf, hT.run_under h3, Instr.sureAddr, hT.run_size h4, add_mk, hi]
                      intro hh; omega
                    · have := VR.ptr (ρ := ρ) (off := off + i * n) he
                      rw [show off + i * n + e.d = off + e.d + i * n from by omega] at this
                      exact this
              | _ => cases h
          | xs he hc =>
            rename_i b off len c e
            simp only [idxC] at h
            cases h3 : T.under t with
            | none => rw [h3] at h; cases h
            | some d =>
              rw [h3] at h
              cases d with
              | slice el =>
                simp only at h
                cases h4 : T.sizeOf el with
                | none => rw [h4] at h; cases h
                | some n =>
                  rw [h4] at h
                  simp only at h
                  cases h5 : Nat.blt i len with
                  | false => rw [h5] at h; cases h
                  | true =>
                    rw [h5] at h; cases h
                    have hlt : i < len := by simpa [Nat.blt_eq] using h5
                    refine ⟨.pointer (some ⟨e.b, off + e.d + i * n, none⟩), ?_, .same hr (quiet_addr hk) ?_⟩
                    · have hi : (0 : Int) ≤ (i : Int) ∧ (i : Int) < (len : Int) := by omega
                      simp [Instr.indexAt, asIntOf, hT.run_under h3, hT.run_size h4, add_mk, hi]
                      intro hh; omega
                    · have := VR.ptr (ρ := ρ) (off := off + i * n) he
                      rw [show off + i * n + e.d = off + e.d + i * n from by omega] at this
                      exact this
              | _ => cases h
          | gs he hc g1 g2 g3 g4 =>
            rename_i b off len c off' c' e
            simp only [idxC] at h
            cases h3 : T.under t with
            | none => rw [h3] at h; cases h
            | some d =>
              rw [h3] at h
              cases d with
              | slice el =>
                simp only at h
                cases h4 : T.sizeOf el with
                | none => rw [h4] at h; cases h
                | some n =>
                  rw [h4] at h
                  simp only at h
                  cases h5 : Nat.blt i len with
                  | false => rw [h5] at h; cases h
                  | true =>
                    rw [h5] at h; cases h
                    have hlt : i < len := by simpa [Nat.blt_eq] using h5
                    have ho : off' = off + e.d := by rcases g1 with g | g; omega; exact g
                    subst ho
                    refine ⟨.pointer (some ⟨e.b, off + e.d + i * n, none⟩), ?_, .same hr (quiet_addr hk) ?_⟩
                    · have hi : (0 : Int) ≤ (i : Int) ∧ (i : Int) < (len : Int) := by omega
                      simp [Instr.indexAt, asIntOf, hT.run_under h3, hT.run_size h4, add_mk, hi]
                      intro hh; omega
                    · have := VR.ptr (ρ := ρ) (off := off + i * n) he
                      rw [show off + i * n + e.d = off + e.d + i * n from by omega] at this
                      exact this
              | _ => cases h
          | _ => cases h
        | negSucc i => cases h
      | _ => cases h
theorem copExtract_sound {y : Operand} {ix : Nat} {r : OpR} (h : copExtract (ceval T ca) y ix = some r) (hk : quietK s r k = some x) :
    ∃ v', (Instr.extract (a.eval y) ix).run T.P w = .ok v' w ∧ Sound1 T base w0 ρ s w k x v' w := by
  unfold copExtract at h
  cases h1 : ceval T ca y with
  | none => rw [h1] at h; cases h
  | some u =>
    rw [h1] at h
    have hu := ha.eval hr h1
    generalize hy : a.eval y = u' at hu ⊢
    cases u with
    | tuple vs =>
      obtain ⟨vs', rfl, hl⟩ := hu.tuple_left
      simp only at h
      cases h2 : vs.toList[ix]? with
      | none => rw [h2] at h; cases h
      | some v =>
        rw [h2] at h; cases h
        obtain ⟨v', h3, h4⟩ := hl.getElem? h2
        refine ⟨v', ?_, .same hr (quiet_done hk) h4⟩
        have : vs'[ix]? = some v' := by rw [← Array.getElem?_toList]; exact h3
        simp [Instr.extract, this]
    | _ => cases h
theorem copIface_sound {t : TypeId} {y : Operand} {r : OpR} (h : copIface T (ceval T ca) t y = some r) (hk : quietK s r k = some x) :
    ∃ v', (Instr.makeInterface t (a.eval y)).run T.P w = .ok v' w ∧ Sound1 T base w0 ρ s w k x v' w := by
  unfold copIface at h
  cases h1 : ceval T ca y with
  | none => rw [h1] at h; cases h
  | some u =>
    rw [h1] at h
    simp only at h
    have hu := ha.eval hr h1
    cases h2 : T.under t with
    | none => rw [h2] at h; cases h
    | some d =>
      rw [h2] at h
      refine ⟨.iface t (a.eval y), ?_, ?_⟩
      · cases d <;> first | (exfalso; simp at h; done) | simp [Instr.makeInterface, hT.run_under h2]
      · cases d <;> first | (exfalso; simp at h; done) | (simp only [Option.some.injEq] at h; subst h; exact .same hr (quiet_val hk) (.iface t hu))
theorem evs_sound : ∀ {l : List Operand} {vs : List Value}, evs (ceval T ca) l = some vs → VRs ρ vs (l.map a.eval)
  | [], vs, h => by cases h; exact VRs.nil
  | y :: l, vs, h => by
    simp only [evs] at h
    cases h1 : ceval T ca y with
    | none => rw [h1] at h; cases h
    | some u =>
      rw [h1] at h
      simp only at h
      cases h2 : evs (ceval T ca) l with
      | none => rw [h2] at h; cases h
      | some us => rw [h2] at h; cases h; exact .cons (ha.eval hr h1) (evs_sound h2)
theorem partC_sound {t : TypeId} {cs : List Value} {cs' : Array Value} {off : Nat} {v : Value} (h : partC T t cs off = some v) (hc : VRs ρ cs cs'.toList) :
    ∃ v', (part t cs' off).run T.P w = .ok v' w ∧ VR ρ v v' := by
  simp only [partC, Option.bind_eq_bind] at h
  cases h1 : T.under t with
  | none => rw [h1] at h; cases h
  | some d =>
    rw [h1] at h
    simp only [Option.bind_some] at h
    cases h2 : T.sizeOf t with
    | none => rw [h2] at h; cases h
    | some n =>
      rw [h2] at h
      simp only [Option.bind_some] at h
      cases h3 : isAggD d with
      | true =>
        rw [h3] at h
        simp only [cond_true] at h
        cases h4 : cellsAt cs off n with
        | none => rw [h4] at h; cases h
        | some l =>
          rw [h4] at h; cases h
          obtain ⟨c1, c2, c3⟩ := cellsAt_spec h4
          refine ⟨.agg (cs'.extract off (off + n)), by simp [part, hT.run_isAgg h1, h3, hT.run_size h2], ?_⟩
          have : (cs'.extract off (off + n)) = ⟨(cs'.toList.drop off).take n⟩ := by
            apply Array.ext'
            simp [Array.toList_extract, List.extract_eq_take_drop]
          rw [this, c1]
          exact VR.agg' ((hc.drop off).take n)
      | false =>
        rw [h3] at h
        simp only [cond_false] at h
        cases h4 : cellsAt cs off 1 with
        | none => rw [h4] at h; cases h
        | some l =>
          rw [h4] at h
          simp only [Option.bind_some] at h
          have h5 := cellsAt_get h4 0 (by omega)
          rw [h5, Nat.add_zero] at h
          obtain ⟨v', h6, h7⟩ := hc.getElem? h
          have : cs'[off]? = some v' := by rw [← Array.getElem?_toList]; exact h6
          exact ⟨v', by simp [part, hT.run_isAgg h1, h3, this], h7⟩
theorem copField_sound {t : TypeId} {y : Operand} {f : Nat} {r : OpR} (h : copField T (ceval T ca) t y f = some r) (hk : quietK s r k = some x) :
    ∃ v', (Instr.field t (a.eval y) f).run T.P w = .ok v' w ∧ Sound1 T base w0 ρ s w k x v' w := by
  unfold copField at h
  cases h1 : ceval T ca y with
  | none => rw [h1] at h; cases h
  | some u =>
    rw [h1] at h
    have hu := ha.eval hr h1
    generalize hy : a.eval y = u' at hu ⊢
    cases u with
    | agg cs =>
      obtain ⟨cs', rfl, hl⟩ := hu.agg_left
      simp only at h
      cases h2 : T.under t with
      | none => rw [h2] at h; cases h
      | some d =>
        rw [h2] at h
        cases d with
        | struct fields =>
          simp only at h
          cases h3 : fields.toList[f]? with
          | none => rw [h3] at h; cases h
          | some fd =>
            rw [h3] at h
            simp only at h
            cases h4 : partC T fd.type cs.toList fd.offset with
            | none => rw [h4] at h; cases h
            | some v =>
              rw [h4] at h; cases h
              obtain ⟨v', h5, h6⟩ := partC_sound hr ha hT h4 hl
              have h3' : fields[f]? = some fd := by rw [← Array.getElem?_toList]; exact h3
              exact ⟨v', by simp [Instr.field, hT.run_under h2, h3', asAgg, h5], .same hr (quiet_val hk) h6⟩
        | _ => cases h
    | _ => cases h
end
end Go.Canon
end
section
namespace Go.Canon
open Go Go.RowKit
set_option linter.unusedSectionVars false
theorem foldl_over (off : Nat) : ∀ (ys : List Value) (i : Nat) (arr : Array Value), off + i + ys.length ≤ arr.size →
    (ys.zipIdx i).foldl (fun cs p => cs.setIfInBounds (off + p.2) p.1) arr = overA arr (off + i) ys := by
  intro ys
  induction ys with
  | nil => intro i arr _; simp [overA_nil]
  | cons y ys ih =>
    intro i arr h
    simp only [List.zipIdx_cons, List.foldl_cons]
    rw [ih (i + 1) _ (by simp at h ⊢; omega), ← overA_cons (by simp at h; omega)]
    rfl
/-- parts of a literal -/
def PR (ρ : Ren) : List (Nat × Value) → List (Nat × Value) → Prop
  | [], [] => True
  | x :: l, y :: m => y.1 = x.1 ∧ VR ρ x.2 y.2 ∧ PR ρ l m
  | _, _ => False
theorem VRs.over {ρ : Ren} {vs xs ys : List Value} {arr : Array Value} {off : Nat} (h : VRs ρ vs arr.toList) (hx : VRs ρ xs ys) :
    VRs ρ (vs.take off ++ (xs ++ vs.drop (off + xs.length))) (overA arr off ys).toList := by
  show VRs ρ _ (arr.toList.take off ++ (ys ++ arr.toList.drop (off + ys.length)))
  rw [← hx.1]
  exact (h.take off).append (hx.append (h.drop _))
theorem fill_sound {ρ : Ren} {place : Nat → Option (Nat × Nat)} : ∀ {ps qs : List (Nat × Value)} {cs r : List Value} {arr : Array Value}, fillC place cs ps = some r → VRs ρ cs arr.toList → PR ρ ps qs →
    ∃ arr', Instr.fill place arr qs = some arr' ∧ VRs ρ r arr'.toList
  | [], [], cs, r, arr, h, hc, _ => by cases h; exact ⟨arr, rfl, hc⟩
  | (i, v) :: ps, (j, v') :: qs, cs, r, arr, h, hc, ⟨e, hv, hp⟩ => by
    have e' : j = i := e
    subst e'
    simp only [fillC, Option.bind_eq_bind] at h
    cases h1 : place j with
    | none => rw [h1] at h; cases h
    | some q =>
      obtain ⟨off, size⟩ := q
      rw [h1] at h
      simp only [Option.bind_some] at h
      cases h2 : Nat.beq v.cells.toList.length size with
      | false => rw [h2] at h; cases h
      | true =>
        rw [h2] at h
        simp only [Bool.not_true, cond_false] at h
        cases h3 : putAt off cs v.cells.toList with
        | none => rw [h3] at h; cases h
        | some q =>
          rw [h3] at h
          simp only [Option.bind_some] at h
          obtain ⟨p1, p2⟩ := putAt_spec _ _ _ _ h3
          have hcl := hv.cells
          have hl : v'.cells.size = size := by have := hcl.1; have := Nat.eq_of_beq_eq_true h2; simp at *; omega
          have ha : arr.size = cs.length := by have := hc.1; simpa using this.symm
          have hsz : off + v'.cells.size ≤ arr.size := by have := Nat.eq_of_beq_eq_true h2; simp at *; omega
          have hq : VRs ρ q (overA arr off v'.cells.toList).toList := by rw [p2]; exact hc.over hcl
          obtain ⟨arr', g1, g2⟩ := fill_sound (qs := qs) h hq hp
          refine ⟨arr', ?_, g2⟩
          simp only [Instr.fill, h1]
          rw [if_neg (by simp; omega)]
          have := foldl_over off v'.cells.toList 0 arr (by simpa using hsz)
          rw [Nat.add_zero] at this
          rw [← this] at g1
          rw [← g1]
          congr 1
          rw [← Array.foldl_toList, Array.toList_zipIdx]
  | [], _ :: _, _, _, _, _, _, h => h.elim
  | _ :: _, [], _, _, _, _, _, h => h.elim
theorem zerosC_length (z : List Value) (n : Nat) : (zerosC z n).length = n * z.length := by
  induction n with
  | zero => simp [zerosC]
  | succ n ih => simp [zerosC, ih, Nat.succ_mul]; omega
theorem zerosC_get (z : List Value) : ∀ (n i : Nat), i < n * z.length → (zerosC z n)[i]? = z[i % z.length]? := by
  intro n
  induction n with
  | zero => intro i h; omega
  | succ n ih =>
    intro i h
    rw [Nat.succ_mul] at h
    simp only [zerosC]
    by_cases h1 : i < z.length
    · rw [List.getElem?_append_left h1, Nat.mod_eq_of_lt h1]
    · rw [List.getElem?_append_right (by omega), ih _ (by omega)]
      congr 1
      rw [Nat.mod_eq_sub_mod (by omega : z.length ≤ i)]
theorem zerosC_array (z : Array Value) (n : Nat) : ((Array.range (n * z.size)).map (fun i => z[i % z.size]!)).toList = zerosC z.toList n := by
  apply List.ext_getElem?
  intro i
  by_cases h : i < n * z.size
  · have hz : 0 < z.size := Nat.pos_of_ne_zero fun q => by rw [q] at h; omega
    have hm := Nat.mod_lt i hz
    rw [zerosC_get z.toList n i (by simpa using h)]
    simp [h, hm]
  · rw [List.getElem?_eq_none (by simp; omega), List.getElem?_eq_none (by rw [zerosC_length]; simp; omega)]
theorem scalars_zeros {z : List Value} (h : scalars z = true) : ∀ n, scalars (zerosC z n) = true := by
  have app : ∀ (l m : List Value), scalars l = true → scalars m = true → scalars (l ++ m) = true := by
    intro l
    induction l with
    | nil => intro m _ h; exact h
    | cons y l ih => intro m h1 h2; simp [scalars] at h1 ⊢; exact ⟨h1.1, ih m h1.2 h2⟩
  intro n
  induction n with
  | zero => rfl
  | succ n ih => exact app _ _ h ih
theorem scalar_cells {v : Value} (h : scalar v = true) : scalars v.cells.toList = true := by
  cases v <;> first | (simp [scalar] at h; simp [Value.cells, scalars, scalar]; done) | (simp only [scalar] at h; simpa [Value.cells] using h) | (simp [Value.cells, scalars, h])
section
variable {T : Tab} {base : Nat} {w0 w : World} {ρ : Ren} {s : CSt} {ca : CAct} {a : Act} {k : Value → CSt → Option COut} {x : COut}
variable (hr : Rel T base w0 ρ s w) (ha : AR ρ ca a) (hT : T.Ok)
include hr ha
theorem parts_sound : ∀ {l : List (Nat × Operand)} {ps : List (Nat × Value)}, fillParts (ceval T ca) l = some ps → PR ρ ps (l.map fun p => (p.1, a.eval p.2))
  | [], ps, h => by cases h; trivial
  | (i, y) :: l, ps, h => by
    simp only [fillParts] at h
    cases h1 : ceval T ca y with
    | none => rw [h1] at h; cases h
    | some u =>
      rw [h1] at h
      simp only at h
      cases h2 : fillParts (ceval T ca) l with
      | none => rw [h2] at h; cases h
      | some us => rw [h2] at h; cases h; exact ⟨rfl, ha.eval hr h1, parts_sound h2⟩
include hT
omit hr ha in
theorem places_sound : ∀ {l : List Field} {pl : List (Nat × Nat)}, places T l = some pl → l.mapM (fun f => (T.P.info? f.type).map fun i => (f.offset, i.size)) = some pl
  | [], pl, h => by cases h; rfl
  | f :: l, pl, h => by
    simp only [places] at h
    cases h1 : T.sizeOf f.type with
    | none => rw [h1] at h; cases h
    | some n =>
      rw [h1] at h
      simp only at h
      cases h2 : places T l with
      | none => rw [h2] at h; cases h
      | some q =>
        rw [h2] at h; cases h
        unfold Tab.sizeOf at h1
        cases h3 : T.ty.get f.type with
        | none => rw [h3] at h1; cases h1
        | some ti => rw [h3] at h1; cases h1; simp [List.mapM_cons, hT.info h3, places_sound h2]
theorem copBuild_sound {t : TypeId} {parts : Array (Nat × Operand)} {r : OpR} (h : copBuild T (ceval T ca) t parts = some r) (hk : quietK s r k = some x) :
    ∃ v', (Instr.build t (parts.map fun p => (p.1, a.eval p.2))).run T.P w = .ok v' w ∧ Sound1 T base w0 ρ s w k x v' w := by
  simp only [copBuild, Option.bind_eq_bind] at h
  cases h1 : T.zero t with
  | none => rw [h1] at h; cases h
  | some z =>
    rw [h1] at h
    simp only [Option.bind_some] at h
    cases h2 : fillParts (ceval T ca) parts.toList with
    | none => rw [h2] at h; cases h
    | some ps =>
      rw [h2] at h
      simp only [Option.bind_some] at h
      have hp := parts_sound hr ha h2
      obtain ⟨zs, _, _⟩ := Tab.zero_scalar h1
      have hz : VRs ρ z.cells.toList z.cells.toList := (scalar_refl (ρ := ρ) zs).cells
      cases h3 : T.under t with
      | none => rw [h3] at h; cases h
      | some d =>
        rw [h3] at h
        simp only [Option.bind_some] at h
        have hu := hT.under h3
        obtain ⟨ti, hti, htz⟩ : ∃ ti, T.P.info? t = some ti ∧ ti.zero = some z := by
          unfold Tab.zero at h1
          cases h4 : T.ty.get t with
          | none => rw [h4] at h1; cases h1
          | some ti =>
            rw [h4] at h1
            refine ⟨ti, hT.info h4, ?_⟩
            simp only [zeroIf] at h1
            cases h5 : ti.zero with
            | none => rw [h5] at h1; cases h1
            | some z2 =>
              simp only [h5] at h1
              cases h6 : scalar z2 <;> simp [h6] at h1
              rw [h1]
        cases d with
        | struct fields =>
          simp only at h
          cases h4 : places T fields.toList with
          | none => rw [h4] at h; cases h
          | some pl =>
            rw [h4] at h
            simp only [Option.bind_some] at h
            cases h5 : fillC (pl[·]?) z.cells.toList ps with
            | none => rw [h5] at h; cases h
            | some q =>
              rw [h5] at h; cases h
              obtain ⟨arr', g1, g2⟩ := fill_sound h5 hz hp
              refine ⟨.agg arr', run_build w t _ arr' ?_, .same hr (quiet_val hk) ?_⟩
              · unfold Program.built
                simp only [hti, hu, htz, places_sound hT h4]
                rw [← g1]
                congr 1
                · funext i; simp
                · simp
              · exact VR.agg' (m := arr'.toList) g2
        | array len el =>
          simp only at h
          cases h4 : T.sizeOf el with
          | none => rw [h4] at h; cases h
          | some n =>
            rw [h4] at h
            simp only [Option.bind_some] at h
            cases h5 : fillC (fun i => some (i * n, n)) z.cells.toList ps with
            | none => rw [h5] at h; cases h
            | some q =>
              rw [h5] at h; cases h
              obtain ⟨arr', g1, g2⟩ := fill_sound h5 hz hp
              obtain ⟨te, hte, hes⟩ : ∃ te, T.P.info? el = some te ∧ te.size = n := by
                unfold Tab.sizeOf at h4
                cases h6 : T.ty.get el with
                | none => rw [h6] at h4; cases h4
                | some te => rw [h6] at h4; cases h4; exact ⟨te, hT.info h6, rfl⟩
              refine ⟨.agg arr', run_build w t _ arr' ?_, .same hr (quiet_val hk) ?_⟩
              · unfold Program.built
                simp only [hti, hu, htz, hte, hes]
                rw [← g1]
                congr 1
                simp
              · exact VR.agg' (m := arr'.toList) g2
        | _ => cases h
end
end Go.Canon
end
section
namespace Go.Canon
open Go Go.RowKit
set_option linter.unusedSectionVars false
section
variable {T : Tab} {base : Nat} {w0 w : World} {ρ : Ren} {s : CSt} {ca : CAct} {a : Act} {k : Value → CSt → Option COut} {x : COut}
variable (hr : Rel T base w0 ρ s w) (ha : AR ρ ca a) (hT : T.Ok)
include hr
theorem xs_new {i n c : Nat} {e : Ent} (hd : e.d = 0) (hc : c < BIG) : VR (Ren.set ρ i e) (.slice (some ⟨i, 0, none⟩) n c) (.slice (some ⟨e.b, 0, none⟩) n c) := by
  have := VR.xs (ρ := Ren.set ρ i e) (off := 0) (n := n) (Ren.set_same ρ i e) hc
  rw [hd] at this
  exact this
include ha hT
theorem copBuildSlice_sound {t : TypeId} {len : Nat} {parts : Array (Nat × Operand)} {r : OpR} (h : copBuildSlice T (ceval T ca) t len parts = some r) :
    ∃ ob mk v' w', r = .alloc ob mk ∧ (Instr.buildSlice t len (parts.map fun p => (p.1, a.eval p.2))).run T.P w = .ok v' w' ∧ FreshG T ρ w ob mk v' w' := by
  simp only [copBuildSlice, Option.bind_eq_bind] at h
  cases h1 : T.under t with
  | none => rw [h1] at h; cases h
  | some d =>
    rw [h1] at h
    cases d with
    | slice el =>
      simp only [Option.bind_some] at h
      cases h2 : T.sizeOf el with
      | none => rw [h2] at h; cases h
      | some n =>
        rw [h2] at h
        simp only [Option.bind_some] at h
        cases h3 : T.zero el with
        | none => rw [h3] at h; cases h
        | some z =>
          rw [h3] at h
          simp only [Option.bind_some] at h
          cases h4 : fillParts (ceval T ca) parts.toList with
          | none => rw [h4] at h; cases h
          | some ps =>
            rw [h4] at h
            simp only [Option.bind_some] at h
            cases h5 : !(Nat.beq z.cells.size n) || (!(Nat.ble (len * n) 65536) || !(Nat.ble len 65536)) with
            | true => rw [h5] at h; cases h
            | false =>
              rw [h5] at h
              simp only [cond_false] at h
              simp only [Bool.or_eq_false_iff, Bool.not_eq_false'] at h5
              have hn : z.cells.size = n := Nat.eq_of_beq_eq_true h5.1
              have hle : len * n ≤ 65536 := ble_iff.1 h5.2.1
              have hlen : len ≤ 65536 := ble_iff.1 h5.2.2
              have hl : len < BIG := by unfold BIG; omega
              cases h6 : fillC (fun i => some (i * n, n)) (zerosC z.cells.toList len) ps with
              | none => rw [h6] at h; cases h
              | some q =>
                rw [h6] at h; cases h
                have hp := parts_sound hr ha h4
                obtain ⟨zs, _, _⟩ := Tab.zero_scalar h3
                have hzl : ∀ (zr : Array Value), (len * n = 0 ∨ zr = z.cells) → ((Array.range (len * n)).map (fun i => zr[i % zr.size]!)).toList = zerosC z.cells.toList len := by
                  intro zr hzr
                  rcases hzr with h0 | h0
                  · rw [h0]
                    have e0 : zerosC z.cells.toList len = [] := List.length_eq_zero_iff.1 (by rw [zerosC_length]; simp [hn, h0])
                    rw [e0]; simp
                  · rw [h0, ← hn]; exact zerosC_array _ _
                have hz : ∀ (zr : Array Value), (len * n = 0 ∨ zr = z.cells) → VRs ρ (zerosC z.cells.toList len) ((Array.range (len * n)).map (fun i => zr[i % zr.size]!)).toList := by
                  intro zr hzr
                  rw [hzl zr hzr]
                  exact scalars_refl (scalars_zeros (scalar_cells zs) len)
                have key : ∀ (zr : Array Value), (len * n = 0 ∨ zr = z.cells) → ∃ arr', Instr.fill (fun i => some (i * n, n)) ((Array.range (len * n)).map (fun i => zr[i % zr.size]!)) (parts.map fun p => (p.1, a.eval p.2)).toList = some arr' ∧ VRs ρ q arr'.toList := by
                  intro zr hzr
                  have := fill_sound (place := fun i => some (i * n, n)) h6 (hz zr hzr) hp
                  simpa using this
                by_cases h0 : len * n = 0
                · obtain ⟨arr', g1, g2⟩ := key #[] (Or.inl h0)
                  refine ⟨_, _, .slice (some ⟨w.heap.size, 0, none⟩) len len, { w with heap := w.heap.push (.cells arr' el (0, 0)) }, rfl, ?_, ?_⟩
                  · have g1' := g1
                    simp [h0] at g1'
                    simp [Instr.buildSlice, hT.run_under h1, hT.run_size h2, h0, g1', newRow]
                  · exact newCells_fresh (mk' := fun b => .slice (some ⟨b, 0, none⟩) len len) g2 h2 (fun ρ' id e h hd => xs_at h hd hl)
                · obtain ⟨arr', g1, g2⟩ := key z.cells (Or.inr rfl)
                  refine ⟨_, _, .slice (some ⟨w.heap.size, 0, none⟩) len len, { w with heap := w.heap.push (.cells arr' el (0, 0)) }, rfl, ?_, ?_⟩
                  · have : ¬ (16777216 < len * n) := by omega
                    have g1' := g1
                    simp at g1'
                    simp [Instr.buildSlice, hT.run_under h1, hT.run_size h2, h0, this, hT.run_zero h3, g1', newRow]
                  · exact newCells_fresh (mk' := fun b => .slice (some ⟨b, 0, none⟩) len len) g2 h2 (fun ρ' id e h hd => xs_at h hd hl)
    | _ => cases h
end
end Go.Canon
end
section
namespace Go.Canon
open Go Go.RowKit
set_option linter.unusedSectionVars false
theorem wrap_small {n : Nat} (h : n ≤ 65536) : IntKind.i64.wrap (Int.ofNat n) = Int.ofNat n := wrap64_nat n (by omega)
section
variable {T : Tab} {base : Nat} {w0 w : World} {ρ : Ren} {s : CSt} {ca : CAct} {a : Act} {k : Value → CSt → Option COut} {x : COut}
variable (hr : Rel T base w0 ρ s w) (ha : AR ρ ca a) (hT : T.Ok)
include hr ha hT
theorem asNat_sound {y : Operand} {v : Value} {n : Nat} (h : ceval T ca y = some v) (hn : asNat v = some n) : ∃ j, a.eval y = .int j (Int.ofNat n) := by
  have hv := ha.eval hr h
  generalize a.eval y = u at hv
  cases v <;> simp [asNat] at hn
  rename_i j m
  cases m <;> simp at hn
  subst hn
  cases hv
  exact ⟨j, rfl⟩
theorem copMakeSlice_sound {t : TypeId} {y z : Operand} {r : OpR} (h : copMakeSlice T (ceval T ca) t y z = some r) :
    ∃ ob mk v' w', r = .alloc ob mk ∧ (Instr.makeSlice t (a.eval y) (a.eval z)).run T.P w = .ok v' w' ∧ FreshG T ρ w ob mk v' w' := by
  simp only [copMakeSlice, Option.bind_eq_bind] at h
  cases h1 : T.under t with
  | none => rw [h1] at h; cases h
  | some d =>
    rw [h1] at h
    cases d with
    | slice el =>
      simp only [Option.bind_some] at h
      cases h2 : ceval T ca y with
      | none => rw [h2] at h; cases h
      | some u =>
        rw [h2] at h
        simp only [Option.bind_some] at h
        cases h3 : ceval T ca z with
        | none => rw [h3] at h; cases h
        | some v =>
          rw [h3] at h
          simp only [Option.bind_some] at h
          cases h4 : asNat u with
          | none => rw [h4] at h; cases h
          | some l =>
            rw [h4] at h
            simp only [Option.bind_some] at h
            cases h5 : asNat v with
            | none => rw [h5] at h; cases h
            | some c =>
              rw [h5] at h
              simp only [Option.bind_some] at h
              cases h6 : T.ty.get el with
              | none => rw [h6] at h; cases h
              | some ti =>
                rw [h6] at h
                simp only [Option.bind_some] at h
                cases h7 : T.zero el with
                | none => rw [h7] at h; cases h
                | some zv =>
                  rw [h7] at h
                  simp only [Option.bind_some] at h
                  cases h8 : (!(Nat.ble l c) || !(Nat.ble c 65536) || !(Nat.ble ti.bytes 65536) || !(Nat.beq zv.cells.size ti.size)) with
                  | true => rw [h8] at h; cases h
                  | false =>
                    rw [h8] at h; cases h
                    simp only [Bool.or_eq_false_iff, Bool.not_eq_false'] at h8
                    have hlc : l ≤ c := ble_iff.1 h8.1.1.1
                    have hc : c ≤ 65536 := ble_iff.1 h8.1.1.2
                    have hb : ti.bytes ≤ 65536 := ble_iff.1 h8.1.2
                    have hz : zv.cells.size = ti.size := Nat.eq_of_beq_eq_true h8.2
                    obtain ⟨j, hy⟩ := asNat_sound hr ha hT h2 h4
                    obtain ⟨j', hz'⟩ := asNat_sound hr ha hT h3 h5
                    obtain ⟨zs, _, _⟩ := Tab.zero_scalar h7
                    have hsz : T.sizeOf el = some ti.size := by unfold Tab.sizeOf; rw [h6]
                    have hmul : ti.bytes * c ≤ 65536 * 65536 := Nat.mul_le_mul hb hc
                    have hmul2 : ti.bytes * l ≤ 65536 * 65536 := Nat.mul_le_mul hb (by omega)
                    have hcl : c < BIG := by unfold BIG; omega
                    have fin : ∀ (arr : Array Value), arr.toList = zerosC zv.cells.toList c →
                        FreshG T ρ w (.cells (zerosC zv.cells.toList c) el (0, 0)) (fun id => .slice (some ⟨id, 0, none⟩) l c) (.slice (some ⟨w.heap.size, 0, none⟩) l c) { w with heap := w.heap.push (.cells arr el (0, 0)) } := by
                      intro arr harr
                      refine newCells_fresh (arr := arr) (mk' := fun b => .slice (some ⟨b, 0, none⟩) l c) ?_ hsz (fun ρ' id e h hd => xs_at h hd hcl)
                      rw [harr]; exact scalars_refl (scalars_zeros (scalar_cells zs) c)
                    have e1 : ¬ ((281474976710656 : Int) < (ti.bytes : Int) * (c : Int)) := by
                      have : ((ti.bytes * c : Nat) : Int) ≤ ((65536 * 65536 : Nat) : Int) := Int.ofNat_le.2 hmul
                      rw [Int.natCast_mul] at this
                      omega
                    have e2 : ¬ ((281474976710656 : Int) < (ti.bytes : Int) * (l : Int)) := by
                      have : ((ti.bytes * l : Nat) : Int) ≤ ((65536 * 65536 : Nat) : Int) := Int.ofNat_le.2 hmul2
                      rw [Int.natCast_mul] at this
                      omega
                    have w1 : IntKind.i64.wrap (l : Int) = (l : Int) := wrap_small (by omega)
                    have w2 : IntKind.i64.wrap (c : Int) = (c : Int) := wrap_small hc
                    have e3 : ¬ ((c : Int) < (l : Int)) := by omega
                    have e4 : ¬ ((l : Int) < 0) := by omega
                    have e5 : ¬ ((c : Int) < 0) := by omega
                    rw [hy, hz']
                    by_cases h0 : c * ti.size = 0
                    · refine ⟨_, _, _, _, rfl, ?_, fin #[] ?_⟩
                      · simp [Instr.makeSlice, hT.run_under h1, asInt, asIntOf, hT.run_info h6, w1, w2, e1, e3, e4, e5, hT.run_size hsz, h0, newRow, show (Array.range 0) = #[] from rfl]
                      · symm; exact List.length_eq_zero_iff.1 (by rw [zerosC_length]; simp [hz, h0])
                    · refine ⟨_, _, _, _, rfl, ?_, fin ((Array.range (c * ti.size)).map (fun i => zv.cells[i % zv.cells.size]!)) ?_⟩
                      · simp [Instr.makeSlice, hT.run_under h1, asInt, asIntOf, hT.run_info h6, w1, w2, e1, e3, e4, e5, hT.run_size hsz, h0, hT.run_zero h7, newRow]
                      · rw [← hz]; exact zerosC_array _ _
    | _ => cases h
end
end Go.Canon
end
section
namespace Go.Canon
open Go Go.RowKit
set_option linter.unusedSectionVars false
section
variable {T : Tab} {base : Nat} {w0 w : World} {ρ : Ren} {s : CSt} {ca : CAct} {a : Act} {k : Value → CSt → Option COut} {x : COut}
variable (hr : Rel T base w0 ρ s w) (ha : AR ρ ca a) (hT : T.Ok)
include hr ha hT
theorem copIndex_sound {t : TypeId} {y z : Operand} {r : OpR} (h : copIndex T (ceval T ca) t y z = some r) (hk : quietK s r k = some x) :
    ∃ v', (Instr.index t (a.eval y) (a.eval z)).run T.P w = .ok v' w ∧ Sound1 T base w0 ρ s w k x v' w := by
  simp only [copIndex, Option.bind_eq_bind] at h
  cases h1 : ceval T ca y with
  | none => rw [h1] at h; cases h
  | some u =>
    rw [h1] at h
    simp only [Option.bind_some] at h
    cases h2 : ceval T ca z with
    | none => rw [h2] at h; cases h
    | some v =>
      rw [h2] at h
      simp only [Option.bind_some] at h
      cases h3 : asNat v with
      | none => rw [h3] at h; cases h
      | some i =>
        rw [h3] at h
        simp only [Option.bind_some] at h
        obtain ⟨j, hz⟩ := asNat_sound hr ha hT h2 h3
        have hu := ha.eval hr h1
        generalize hy : a.eval y = u' at hu ⊢
        rw [hz]
        cases h4 : T.under t with
        | none => rw [h4] at h; cases h
        | some d =>
          rw [h4] at h
          simp only [Option.bind_some] at h
          cases d with
          | array len el =>
            cases u with
            | agg cs =>
              obtain ⟨cs', rfl, hl⟩ := hu.agg_left
              simp only at h
              cases h5 : T.sizeOf el with
              | none => rw [h5] at h; cases h
              | some n =>
                rw [h5] at h
                simp only [Option.bind_some] at h
                cases h6 : Nat.blt i len with
                | false => rw [h6] at h; cases h
                | true =>
                  rw [h6] at h
                  simp only [cond_true] at h
                  have hlt : i < len := by simpa [Nat.blt_eq] using h6
                  cases h7 : partC T el cs.toList (i * n) with
                  | none => rw [h7] at h; cases h
                  | some q =>
                    rw [h7] at h; cases h
                    obtain ⟨v', g1, g2⟩ := partC_sound hr ha hT h7 hl
                    refine ⟨v', ?_, .same hr (quiet_val hk) g2⟩
                    have hi : (0 : Int) ≤ (i : Int) ∧ (i : Int) < (len : Int) := by omega
                    simp [Instr.index, asIntOf, hT.run_under h4, hT.run_size h5, hi, g1]
                    intro hh; omega
            | _ => cases h
          | string =>
            cases u with
            | string q =>
              cases hu
              simp only at h
              cases h5 : q.data.toList[i]? with
              | none => rw [h5] at h; cases h
              | some b =>
                rw [h5] at h; cases h
                refine ⟨.int .u8 b.toNat, ?_, .same hr (quiet_val hk) (.int _ _)⟩
                have h6 : q[i]? = some b := by
                  rw [Array.getElem?_toList] at h5
                  obtain ⟨h7, h8⟩ := Array.getElem?_eq_some_iff.1 h5
                  have hs : i < q.size := h7
                  show (if h : i < q.size then some (q[i]'h) else none) = some b
                  rw [dif_pos hs]
                  exact congrArg some h8
                simp [Instr.index, asIntOf, hT.run_under h4, h6]
            | _ => cases h
          | _ => cases u <;> cases h
theorem copAssert_sound {y : Operand} {xt asserted : TypeId} {ok : Bool} {r : OpR} (h : copAssert T (ceval T ca) y asserted ok = some r) (hk : quietK s r k = some x) :
    ∃ v', (Instr.typeAssert (a.eval y) xt asserted ok).run T.P w = .ok v' w ∧ Sound1 T base w0 ρ s w k x v' w := by
  simp only [copAssert, Option.bind_eq_bind] at h
  cases h1 : T.under asserted with
  | none => rw [h1] at h; cases h
  | some d =>
    rw [h1] at h
    simp only [Option.bind_some] at h
    cases h2 : ceval T ca y with
    | none => rw [h2] at h; cases h
    | some u =>
      rw [h2] at h
      simp only [Option.bind_some] at h
      have hu := ha.eval hr h2
      generalize hy : a.eval y = u' at hu ⊢
      by_cases hd : ∃ ms, d = .interface ms
      · obtain ⟨ms, rfl⟩ := hd; cases h
      · have hz : ∀ (zr : OpR), ((T.zero asserted).bind fun z => some (OpR.val (.tuple #[z, .bool false]))) = some zr →
            ∃ zv, T.zero asserted = some zv ∧ zr = .val (.tuple #[zv, .bool false]) ∧ VR ρ (.tuple #[zv, .bool false]) (.tuple #[zv, .bool false]) := by
          intro zr hzr
          cases h3 : T.zero asserted with
          | none => rw [h3] at hzr; cases hzr
          | some zv =>
            rw [h3] at hzr; cases hzr
            exact ⟨zv, rfl, rfl, VR.tuple' (l := [zv, .bool false]) (m := [zv, .bool false]) (.cons (scalar_refl (Tab.zero_scalar h3).1) (.cons (.bool _) VRs.nil))⟩
        cases hu with
        | nili =>
          cases ok with
          | false => cases d <;> first | (exact absurd ⟨_, rfl⟩ hd) | (exfalso; simp at h; done)
          | true =>
            have h' : ((T.zero asserted).bind fun z => some (OpR.val (.tuple #[z, .bool false]))) = some r := by cases d <;> first | (exact absurd ⟨_, rfl⟩ hd) | exact h
            obtain ⟨zv, g1, rfl, g3⟩ := hz r h'
            refine ⟨.tuple #[zv, .bool false], ?_, .same hr (quiet_val hk) g3⟩
            cases d <;> first | (exact absurd ⟨_, rfl⟩ hd) | simp [Instr.typeAssert, hT.run_under h1, hT.run_zero g1]
        | iface tt hv =>
          rename_i v v'
          cases h3 : Nat.beq tt asserted with
          | true =>
            have ht := Nat.eq_of_beq_eq_true h3
            subst ht
            have h' : some (OpR.val (bif ok then .tuple #[v, .bool true] else v)) = some r := by cases d <;> first | (exact absurd ⟨_, rfl⟩ hd) | (simpa [h3] using h)
            cases h'
            cases ok with
            | true =>
              refine ⟨.tuple #[v', .bool true], ?_, .same hr (quiet_val hk) (VR.tuple' (l := [v, .bool true]) (m := [v', .bool true]) (.cons hv (.cons (.bool _) VRs.nil)))⟩
              cases d <;> first | (exact absurd ⟨_, rfl⟩ hd) | simp [Instr.typeAssert, hT.run_under h1]
            | false =>
              refine ⟨v', ?_, .same hr (quiet_val hk) hv⟩
              cases d <;> first | (exact absurd ⟨_, rfl⟩ hd) | simp [Instr.typeAssert, hT.run_under h1]
          | false =>
            have ht : tt ≠ asserted := fun q => by rw [q, Nat.beq_refl] at h3; cases h3
            cases ok with
            | false => cases d <;> first | (exact absurd ⟨_, rfl⟩ hd) | (exfalso; simp [h3] at h; done)
            | true =>
              have h' : ((T.zero asserted).bind fun z => some (OpR.val (.tuple #[z, .bool false]))) = some r := by cases d <;> first | (exact absurd ⟨_, rfl⟩ hd) | (simpa [h3] using h)
              obtain ⟨zv, g1, rfl, g3⟩ := hz r h'
              refine ⟨.tuple #[zv, .bool false], ?_, .same hr (quiet_val hk) g3⟩
              cases d <;> first | (exact absurd ⟨_, rfl⟩ hd) | simp [Instr.typeAssert, hT.run_under h1, hT.run_zero g1, ht]
        | _ => cases d <;> cases h
end
end Go.Canon
end
section
namespace Go.Canon
open Go Go.RowKit
set_option linter.unusedSectionVars false
/-- bounds, on both sides the same numbers -/
def OV (ov : Option Value) (ov' : Option Value) : Prop := match ov, ov' with
  | none, none => True
  | some v, some v' => ∀ n, asNat v = some n → ∃ j, v' = .int j (Int.ofNat n)
  | _, _ => False
theorem run_sliceBound {P : Program} {w : World} {j : IntKind} {n y : Nat} {c : BoundsCode} (h : n ≤ y) : (Instr.sliceBound (.int j (Int.ofNat n)) y c).run P w = .ok n w := by
  have h1 : (0 : Int) ≤ (n : Int) ∧ (n : Int) ≤ (y : Int) := by omega
  simp [Instr.sliceBound, asIntOf, h]
theorem boundsC_parts {len lim : Nat} {low high : Option Value} {l r : Nat} (h : boundsC len lim low high = some (l, r)) :
    bndOf len high = some r ∧ bndOf 0 low = some l ∧ l ≤ r ∧ r ≤ lim := by
  unfold boundsC at h
  cases h1 : bndOf len high with
  | none => rw [h1] at h; cases h
  | some hh =>
    rw [h1] at h
    simp only at h
    cases h2 : bndOf 0 low with
    | none => rw [h2] at h; cases h
    | some ll =>
      rw [h2] at h
      simp only at h
      cases h3 : Nat.ble ll hh && Nat.ble hh lim with
      | false => rw [h3] at h; cases h
      | true =>
        rw [h3] at h; cases h
        simp only [Bool.and_eq_true] at h3
        exact ⟨rfl, rfl, ble_iff.1 h3.1, ble_iff.1 h3.2⟩
theorem bnd_run {P : Program} {w : World} {d n y : Nat} {o o' : Option Value} {c : BoundsCode} (h : bndOf d o = some n) (ho : OV o o') (hy : n ≤ y) :
    (o' = none ∧ n = d) ∨ ∃ v, o' = some v ∧ (∀ c', (Instr.sliceBound v y c').run P w = .ok n w) := by
  cases o with
  | none => cases o' with
    | none => simp [bndOf] at h; exact Or.inl ⟨rfl, h.symm⟩
    | some v => exact ho.elim
  | some v => cases o' with
    | none => exact ho.elim
    | some v' =>
      obtain ⟨j, rfl⟩ := ho n h
      exact Or.inr ⟨_, rfl, fun c' => run_sliceBound hy⟩
theorem boundsC_run {len lim : Nat} {low high low' high' : Option Value} {l r : Nat} (h : boundsC len lim low high = some (l, r)) (hl : OV low low') (hh : OV high high') {P : Program} {w : World} {b : Bool} {cap : Nat}
    (hc : lim ≤ cap) : (Instr.sliceBounds b len cap low' high' none).run P w = .ok (l, r, cap) w := by
  obtain ⟨h1, h2, h3, h4⟩ := boundsC_parts h
  rcases bnd_run (P := P) (w := w) (c := .index) h1 hh (show r ≤ cap by omega) with ⟨e1, e2⟩ | ⟨v, e1, e2⟩ <;>
    rcases bnd_run (P := P) (w := w) (c := .index) h2 hl h3 with ⟨e3, e4⟩ | ⟨v', e3, e4⟩ <;> subst e1 <;> subst e3
  · subst e2; subst e4; simp [Instr.sliceBounds]
  · subst e2; simp [Instr.sliceBounds, e4]
  · subst e4; simp [Instr.sliceBounds, e2]
  · simp [Instr.sliceBounds, e2, e4]
theorem boundsC_run3 {len lim : Nat} {low low' high : Option Value} {v' mv : Value} {l r : Nat} (h : boundsC len lim low high = some (l, r)) (hl : OV low low') (hh : OV high (some v')) (hm : ∃ j, mv = .int j (Int.ofNat lim))
    {P : Program} {w : World} {b : Bool} {cap : Nat} (hc : lim ≤ cap) : (Instr.sliceBounds b len cap low' (some v') (some mv)).run P w = .ok (l, r, lim) w := by
  obtain ⟨h1, h2, h3, h4⟩ := boundsC_parts h
  obtain ⟨jm, rfl⟩ := hm
  have hmm : ∀ c, (Instr.sliceBound (.int jm (Int.ofNat lim)) cap c).run P w = .ok lim w := fun c => run_sliceBound hc
  rcases bnd_run (P := P) (w := w) (c := .index) h1 hh h4 with ⟨e1, e2⟩ | ⟨v, e1, e2⟩
  · cases e1
  · cases e1
    rcases bnd_run (P := P) (w := w) (c := .index) h2 hl h3 with ⟨e3, e4⟩ | ⟨v2, e3, e4⟩ <;> subst e3
    · subst e4; simp only [Instr.sliceBounds, Sem.run_bind, hmm, e2, Result.andThen_ok, Sem.run_pure]
    · simp only [Instr.sliceBounds, Sem.run_bind, hmm, e2, e4, Result.andThen_ok, Sem.run_pure]
section
variable {T : Tab} {base : Nat} {w0 w : World} {ρ : Ren} {s : CSt} {ca : CAct} {a : Act} {k : Value → CSt → Option COut} {x : COut}
variable (hr : Rel T base w0 ρ s w) (ha : AR ρ ca a) (hT : T.Ok)
include hr
theorem cutAt_sound {b off n cap l r : Nat} {e : Ent} {r0 : OpR} (h : r0 = cutAt b off n cap l r) (hk : quietK s r0 k = some x) (he : ρ b = some e) (hc : cap < BIG) :
    Sound1 T base w0 ρ s w k x (.slice (some (if cap = l then ⟨e.b, off + e.d, none⟩ else (⟨e.b, off + e.d, none⟩ : Addr).add (l * n))) (r - l) (cap - l)) w := by
  subst h
  refine .same hr (quiet_val hk) ?_
  by_cases hl : cap = l
  · rw [if_pos hl, if_pos hl]; exact .xs he (by omega)
  · rw [if_neg hl, if_neg hl, add_mk]
    have := VR.xs (ρ := ρ) (off := off + l * n) (n := r - l) (c := cap - l) he (by omega)
    rw [show off + l * n + e.d = off + e.d + l * n from by omega] at this
    exact this
include ha hT
theorem optEv_sound {o : Option Operand} {ov : Option Value} (h : optEv (ceval T ca) o = some ov) : OV ov (o.map a.eval) := by
  cases o with
  | none => cases h; trivial
  | some y =>
    simp only [optEv] at h
    cases h1 : ceval T ca y with
    | none => rw [h1] at h; cases h
    | some v => rw [h1] at h; cases h; exact fun n hn => asNat_sound hr ha hT h1 hn
end
end Go.Canon
end
section
namespace Go.Canon
open Go Go.RowKit
set_option linter.unusedSectionVars false
section
variable {T : Tab} {base : Nat} {w0 w : World} {ρ : Ren} {s : CSt} {ca : CAct} {a : Act} {k : Value → CSt → Option COut} {x : COut}
variable (hr : Rel T base w0 ρ s w) (ha : AR ρ ca a) (hT : T.Ok)
include hr hT
theorem cutBig_sound {i off n len c off' c' : Nat} {e : Ent} {elem : TypeId} {low high low' high' : Option Value} {r0 : OpR} (h : cutBig T s.heap elem i off n len c low high = some r0) (hk : quietK s r0 k = some x)
    (he : ρ i = some e) (hb : BIG ≤ c) (g1 : c' = 0 ∨ off' = off + e.d) (g2 : len ≤ c') (g3 : e.n ≤ off + c' * e.sz) (g4 : off' + c' * e.sz ≤ e.rn) (hsz : T.sizeOf elem = some n)
    (hl : OV low low') (hh : OV high high') :
    ∃ l r, (∀ b, (Instr.sliceBounds b len c' low' high' none).run T.P w = .ok (l, r, c') w) ∧
      Sound1 T base w0 ρ s w k x (.slice (some (if c' = l then ⟨e.b, off', none⟩ else (⟨e.b, off', none⟩ : Addr).add (l * n))) (r - l) (c' - l)) w := by
  unfold cutBig getCells at h
  cases hg : s.heap.get i with
  | none => rw [hg] at h; cases h
  | some o =>
    rw [hg] at h
    cases o with
    | cells vs el fz =>
      simp only at h
      obtain ⟨arr, fr, hw, a1, a2, a3, _, hes, _, _⟩ := hr.cells hg he
      cases h1 : Nat.beq n 0 || !(Nat.beq el elem) with
      | true => rw [h1] at h; cases h
      | false =>
        rw [h1] at h
        simp only [cond_false] at h
        simp only [Bool.or_eq_false_iff, Bool.not_eq_false'] at h1
        have hel : el = elem := Nat.eq_of_beq_eq_true h1.2
        subst hel
        rw [hsz] at hes; cases hes
        have hn : 0 < e.sz := Nat.pos_of_ne_zero fun q => by rw [q] at h1; cases h1.1
        cases h2 : boundsC len ((vs.length - off) / e.sz) low high with
        | none => rw [h2] at h; cases h
        | some lr =>
          obtain ⟨l, r⟩ := lr
          rw [h2] at h
          simp only at h
          obtain ⟨p1, p2, p3, p4⟩ := boundsC_parts h2
          have hlim : (vs.length - off) / e.sz ≤ c' := by
            apply Nat.div_le_of_le_mul
            rw [Nat.mul_comm]; omega
          have hrl : r * e.sz ≤ vs.length - off := by
            have := Nat.div_mul_le_self (vs.length - off) e.sz
            exact Nat.le_trans (Nat.mul_le_mul_right _ p4) this
          have hlr : l * e.sz ≤ r * e.sz := Nat.mul_le_mul_right _ p3
          refine ⟨l, r, fun b => boundsC_run h2 hl hh hlim, ?_⟩
          have hlc : l ≤ c' := by omega
          have hmul : l * e.sz + (c' - l) * e.sz = c' * e.sz := by rw [← Nat.add_mul]; congr 1; omega
          cases h3 : Nat.blt (off + l * e.sz) vs.length || Nat.beq l 0 with
          | true =>
            rw [h3] at h
            simp only [cond_true, Option.some.injEq] at h
            subst h
            refine .same hr (quiet_val hk) ?_
            by_cases hcl : c' = l
            · rw [if_pos hcl]
              subst hcl
              have h0 : c' = 0 := by
                simp only [Bool.or_eq_true, Nat.blt_eq] at h3
                rcases h3 with h3 | h3
                · omega
                · exact Nat.eq_of_beq_eq_true h3
              subst h0
              have : r = 0 := by omega
              subst this
              exact .gs he hb (Or.inl (by simp)) (by simp) (by simp; omega) (by simp; omega)
            · rw [if_neg hcl, add_mk]
              have hoff : off' = off + e.d := g1.resolve_left (by omega)
              exact .gs he hb (Or.inr (by omega)) (by omega) (by omega) (by omega)
          | false =>
            rw [h3] at h
            simp only [cond_false, Option.some.injEq] at h
            subst h
            simp only [Bool.or_eq_false_iff] at h3
            have hge : vs.length ≤ off + l * e.sz := by
              apply Nat.le_of_not_lt
              intro q
              rw [(Nat.blt_eq (x := off + l * e.sz) (y := vs.length)).mpr q] at h3
              cases h3.1
            have hl0 : l ≠ 0 := fun q => by rw [q] at h3; cases h3.2
            have hlz : 0 < l * e.sz := Nat.mul_pos (Nat.pos_of_ne_zero hl0) hn
            have hreq : r = l := by
              have hle : r * e.sz ≤ l * e.sz := by omega
              have := Nat.le_of_mul_le_mul_right hle hn
              omega
            refine .same hr (quiet_val hk) ?_
            rw [hreq, Nat.sub_self]
            by_cases hcl : c' = l
            · rw [if_pos hcl, hcl, Nat.sub_self]
              exact .gs he hb (Or.inl rfl) (by simp) (by simp; omega) (by simp; omega)
            · rw [if_neg hcl, add_mk]
              have hoff : off' = off + e.d := g1.resolve_left (by omega)
              exact .gs he hb (Or.inr (by omega)) (by omega) (by omega) (by omega)
    | _ => cases h
end
end Go.Canon
end
