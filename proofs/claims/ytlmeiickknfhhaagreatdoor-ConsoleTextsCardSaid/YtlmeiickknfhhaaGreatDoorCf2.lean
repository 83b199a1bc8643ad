/- The evaluator's soundness over the calculus of calls, one part; no conditions. -/
import Derived.RangeFuncLeaves
import Derived.Test.YtlmeiickknfhhaaGreatDoorCf
set_option linter.all false
set_option linter.unusedVariables false
set_option linter.unusedSimpArgs false
set_option linter.unusedSectionVars false
set_option linter.unnecessarySimpa false
section
namespace Go.Canon
open Go Go.RowKit
set_option linter.unusedSectionVars false
/-! ### operations made ready are the operations -/
theorem compX_get (T : Tab) (x : Operand) (a : CAct) : (compX T x).get a = ceval T a x := by
  obtain ⟨tm, size, ds⟩ := a
  cases x with
  | tmp t => rfl
  | const v =>
    simp only [compX, ceval]
    cases scalar v <;> rfl
  | func f => rfl
  | global g => rfl
theorem evArgs_eq (T : Tab) (a : CAct) : ∀ (l : List Operand), evArgs T a l = evs (ceval T a) l
  | [] => rfl
  | x :: l => by
    simp only [evArgs, evs, compX_get, evArgs_eq T a l]
    cases ceval T a x with
    | none => rfl
    | some v => cases evs (ceval T a) l <;> rfl
theorem mkNth_run : ∀ (m : Nat) (l : List Value), (mkNth m).run l = l[m]? := by
  intro m
  induction m with
  | zero => intro l; cases l <;> rfl
  | succ m ih => intro l; cases l with
    | nil => rfl
    | cons y l => exact ih l
section
variable (T : Tab) (self : Self) (a : CAct) (s : CSt) (k : Value → CSt → Option COut)
theorem outV_eq (r : Option OpR) : outV r s k = match r with | some r => quietK s r k | none => none := by cases r <;> rfl
theorem compF_move (x : Operand) : (compF T (.move x)).run self a s k = copK T (.move x) self a s k := by
  simp only [compF, copK, cop, copMove, compX_get, moveK, outO]
  cases ceval T a x <;> rfl
theorem compF_load (t : TypeId) (x : Operand) : (compF T (.load t x)).run self a s k = copK T (.load t x) self a s k := by
  simp only [compF, copK, cop, copLoad, compX_get, loadK, outO]
  split
  · rename_i b off h
    simp only [h]
    cases loadC T s.heap t b off with
    | none => rfl
    | some v => cases v <;> simp [quietK]
  · rename_i h
    cases h1 : ceval T a x with
    | none => rfl
    | some v =>
      cases v with
      | pointer p =>
        cases p with
        | none => rfl
        | some p =>
          obtain ⟨b, off, sp⟩ := p
          cases sp with
          | none => exact absurd h1 (h b off)
          | some sp => rfl
      | _ => rfl
theorem compF_box (e : TypeId) (x : Operand) : (compF T (.box e x)).run self a s k = copK T (.box e x) self a s k := by
  simp only [compF, copK, cop, copBox, outO]
  cases T.sizeOf e with
  | none => cases ceval T a x <;> rfl
  | some n =>
    simp only [compX_get, boxK]
    cases ceval T a x with
    | none => rfl
    | some v => simp only [quietK]; obtain ⟨h, m⟩ := s; simp only [allocK]; congr 1; funext o; congr 1; funext h'; simp [force_eq]
theorem compF_pick (c x y : Operand) : (compF T (.pick c x y)).run self a s k = copK T (.pick c x y) self a s k := by
  simp only [compF, copK, cop, copPick, copMove, compX_get, pickK, outO]
  cases h : ceval T a c with
  | none => rfl
  | some v =>
    cases v with
    | bool b =>
      cases b
      · simp only [moveK]; cases ceval T a y <;> rfl
      · simp only [moveK]; cases ceval T a x <;> rfl
    | _ => rfl
theorem compF_fieldAddr (st : TypeId) (x : Operand) (f : Nat) : (compF T (.fieldAddr st x f)).run self a s k = copK T (.fieldAddr st x f) self a s k := by
  simp only [compF, copK, cop, copFieldAddr, faOff, outO]
  cases h1 : T.under st with
  | none =>
    cases h : ceval T a x with
    | none => rfl
    | some v =>
      cases v with
      | pointer p => cases p with
        | none => rfl
        | some p => obtain ⟨b, off, sp⟩ := p; cases sp <;> rfl
      | _ => rfl
  | some d =>
    have no : ∀ (F : Option OpR), (F = none) → (match (match ceval T a x with | some (.pointer (some ⟨b, off, none⟩)) => F | _ => none) with | some r => quietK s r k | none => none) = (none : Option COut) := by
      intro F hF; subst hF; split <;> rename_i q
      · split at q <;> cases q
      · rfl
    cases d with
    | struct fields =>
      simp only
      cases h2 : fields.toList[f]? with
      | none => exact (no none rfl).symm
      | some fd =>
        simp only
        cases h3 : T.sizeOf fd.type with
        | none => exact (no none rfl).symm
        | some n =>
          cases n with
          | zero => exact (no none rfl).symm
          | succ n =>
            simp only [compX_get, faK]
            cases h : ceval T a x with
            | none => rfl
            | some v =>
              cases v with
              | pointer p => cases p with
                | none => rfl
                | some p => obtain ⟨b, off, sp⟩ := p; cases sp <;> rfl
              | _ => rfl
    | _ => exact (no none rfl).symm
theorem compF_indexAddr (t : TypeId) (x y : Operand) : (compF T (.indexAddr t x y)).run self a s k = copK T (.indexAddr t x y) self a s k := by
  simp only [compF, copK, cop, copIndexAddr, outO, compX_get]
  cases h : ceval T a x with
  | none => rfl
  | some v =>
    cases h2 : ceval T a y with
    | none => rfl
    | some u =>
      cases u with
      | int kd i =>
        cases i with
        | negSucc n => rfl
        | ofNat i =>
          simp only [idxF, mkIdx, idxC]
          cases h3 : T.under t with
          | none =>
            cases v with
            | pointer p => cases p with
              | none => rfl
              | some p => obtain ⟨b, off, sp⟩ := p; cases sp <;> rfl
            | slice p l c => cases p with
              | none => rfl
              | some p => obtain ⟨b, off, sp⟩ := p; cases sp <;> rfl
            | _ => rfl
          | some d =>
            cases d with
            | array len elem =>
              simp only
              cases h4 : T.sizeOf elem with
              | none =>
                cases v with
                | pointer p => cases p with
                  | none => rfl
                  | some p => obtain ⟨b, off, sp⟩ := p; cases sp <;> rfl
                | slice p l c => cases p with
                  | none => rfl
                  | some p => obtain ⟨b, off, sp⟩ := p; cases sp <;> rfl
                | _ => rfl
              | some n =>
                cases v with
                | pointer p => cases p with
                  | none => rfl
                  | some p =>
                    obtain ⟨b, off, sp⟩ := p
                    cases sp with
                    | some _ => rfl
                    | none => simp only [idxArr, idxAt]; cases Nat.blt i len <;> rfl
                | slice p l c => cases p with
                  | none => rfl
                  | some p => obtain ⟨b, off, sp⟩ := p; cases sp <;> rfl
                | _ => rfl
            | slice elem =>
              simp only
              cases h4 : T.sizeOf elem with
              | none =>
                cases v with
                | pointer p => cases p with
                  | none => rfl
                  | some p => obtain ⟨b, off, sp⟩ := p; cases sp <;> rfl
                | slice p l c => cases p with
                  | none => rfl
                  | some p => obtain ⟨b, off, sp⟩ := p; cases sp <;> rfl
                | _ => rfl
              | some n =>
                cases v with
                | pointer p => cases p with
                  | none => rfl
                  | some p => obtain ⟨b, off, sp⟩ := p; cases sp <;> rfl
                | slice p l c => cases p with
                  | none => rfl
                  | some p =>
                    obtain ⟨b, off, sp⟩ := p
                    cases sp with
                    | some _ => rfl
                    | none => simp only [idxSl, idxAt]; cases Nat.blt i l <;> rfl
                | _ => rfl
            | _ =>
              cases v with
              | pointer p => cases p with
                | none => rfl
                | some p => obtain ⟨b, off, sp⟩ := p; cases sp <;> rfl
              | slice p l c => cases p with
                | none => rfl
                | some p => obtain ⟨b, off, sp⟩ := p; cases sp <;> rfl
              | _ => rfl
      | _ => rfl
theorem mkInt_run (op : BinOp) (t : TypeId) (j : IntKind) (m : Int) (j' : IntKind) (n : Int) : (mkInt T op t).run j m j' n s k = outV (binInt T op t j m j' n) s k := by
  cases op <;> first
    | rfl
    | (simp only [mkInt, arithF, binInt]; cases kbeq j j' <;> rfl)
    | (simp only [mkInt, relF, binInt, cmpInt]; cases kbeq j j' <;> rfl)
theorem compF_binOp (op : BinOp) (t : TypeId) (x y : Operand) (yt : TypeId) : (compF T (.binOp op t x y yt)).run self a s k = copK T (.binOp op t x y yt) self a s k := by
  simp only [compF, copK, cop, copBin, outO, compX_get]
  cases h : ceval T a x with
  | none => cases ceval T a y <;> rfl
  | some u =>
    cases h2 : ceval T a y with
    | none => rfl
    | some v =>
      simp only [binF, binRun]
      cases u with
      | int j m =>
        cases v with
        | int j' n => simp only [asI, mkInt_run, outV_eq, binC]; rfl
        | _ => simp only [asI, outV_eq]; rfl
      | _ => simp only [asI, outV_eq]; rfl
theorem compF_alloc (e : TypeId) : (compF T (.alloc e)).run self a s k = copK T (.alloc e) self a s k := by
  simp only [compF, copK, cop, copAlloc, outO, allocF]
  cases T.zero e with
  | none => rfl
  | some z => simp only [quietK]; obtain ⟨h, m⟩ := s; simp only [allocK]; congr 1; funext o; congr 1; funext h'; simp [force_eq]
theorem compF_extract (x : Operand) (ix : Nat) : (compF T (.extract x ix)).run self a s k = copK T (.extract x ix) self a s k := by
  simp only [compF, copK, cop, copExtract, outO, compX_get]
  cases ceval T a x with
  | none => rfl
  | some v =>
    cases v with
    | tuple vs => simp only [extractF, mkNth_run]; cases vs.toList[ix]? <;> rfl
    | _ => rfl
theorem compF_nilCheck (x : Operand) : (compF T (.nilCheck x)).run self a s k = copK T (.nilCheck x) self a s k := by
  simp only [compF, copK, cop, copNilCheck, outO, compX_get]
  cases ceval T a x with
  | none => rfl
  | some v => cases v with
    | pointer p => cases p <;> rfl
    | _ => rfl
theorem compF_store (t : TypeId) (x y : Operand) : (compF T (.store t x y)).run self a s k = copK T (.store t x y) self a s k := by
  simp only [compF, copK, cop, copStore, outO, compX_get]
  cases ceval T a x with
  | none => rfl
  | some v => cases v with
    | pointer p => cases p with
      | none => rfl
      | some p =>
        obtain ⟨b, off, sp⟩ := p
        cases sp with
        | some _ => rfl
        | none =>
          cases ceval T a y with
          | none => rfl
          | some u => simp only [storeF, outV_eq]; rfl
    | _ => rfl
theorem compF_call (c : Call) : (compF T (.call c)).run self a s k = copK T (.call c) self a s k := by
  obtain ⟨ce, args, ts⟩ := c
  have dflt : nameOf ⟨ce, args, ts⟩ = none → (compF T (.call ⟨ce, args, ts⟩)).run self a s k = copK T (.call ⟨ce, args, ts⟩) self a s k := fun h => by simp only [compF, h]
  cases ce with
  | value f =>
    cases f with
    | func f =>
      simp only [compF, nameOf, copK, cop, callC, outO, evArgs_eq]
      cases evs (ceval T a) args.toList with
      | none => rfl
      | some l =>
        simp only [callF, ceval, enterC, outK, List.nil_append, List.append_nil]
    | _ => exact dflt rfl
  | _ => exact dflt rfl
theorem compF_eq (o : Op) : (compF T o).run self a s k = copK T o self a s k := by
  cases o with
  | move x => exact compF_move T self a s k x
  | assign x => exact compF_move T self a s k x
  | load t x => exact compF_load T self a s k t x
  | box e x => exact compF_box T self a s k e x
  | pick c x y => exact compF_pick T self a s k c x y
  | fieldAddr st x f => exact compF_fieldAddr T self a s k st x f
  | indexAddr t x y => exact compF_indexAddr T self a s k t x y
  | binOp op t x y yt => exact compF_binOp T self a s k op t x y yt
  | alloc e => exact compF_alloc T self a s k e
  | extract x ix => exact compF_extract T self a s k x ix
  | nilCheck x => exact compF_nilCheck T self a s k x
  | store t x y => exact compF_store T self a s k t x y
  | call c => exact compF_call T self a s k c
  | _ => rfl
end
end Go.Canon
end
section
namespace Go.Canon
open Go Go.RowKit
set_option linter.unusedSectionVars false
/-! ### one operation, calls and all -/
theorem outO_plain {o : Op} {self : Self} {s : CSt} {r : OpR} {k : Value → CSt → Option COut} (h : ∀ f args ts, o ≠ .call ⟨.value f, args, ts⟩) : outO o self s r k = quietK s r k := by
  unfold outO
  split
  · exact absurd rfl (h _ _ _)
  · rfl
noncomputable def outP (o : Op) (self : Self) (s : CSt) (r : OpR) : Option VOut := match o with
  | .call ⟨.value _, _, _⟩ => outR self s r
  | _ => quietK s r outV0
theorem outO_bind (o : Op) (self : Self) (s : CSt) (r : OpR) (k : Value → CSt → Option COut) : outO o self s r k = (outP o self s r).bind fun o => k o.v o.s := by
  by_cases hv : ∃ f args ts, o = .call ⟨.value f, args, ts⟩
  · obtain ⟨f, args, ts, rfl⟩ := hv
    exact outK_bind _ _ _ _
  · have hv : ∀ f args ts, o ≠ .call ⟨.value f, args, ts⟩ := fun f args ts e => hv ⟨f, args, ts, e⟩
    rw [outO_plain hv]
    have : outP o self s r = quietK s r outV0 := by
      unfold outP
      split
      · exact absurd rfl (hv _ _ _)
      · rfl
    rw [this]
    exact quietK_bind _ _ _
theorem callsIn_wideAt {P : Program} {f : FuncId} {args : Array Value} {w : World} {R : Ending → World → Prop} (ro : Option Nat) (m : Nat) (h : CallsIn Fence.wide 0 P f args w R) : CallsIn (wideAt ro) m P f args w R :=
  ⟨trivial, fun cs _ => h.2 cs (fun d hd => by cases hd)⟩
theorem roundIn_wideAt {P : Program} {l : Nat} {g : FuncId} {tmps : Array Value} {asg bd : Code} {w : World} {R : Ending → World → Prop} (ro : Option Nat) (m : Nat) (h : RoundIn Fence.wide 0 P l g tmps asg bd w R) :
    RoundIn (wideAt ro) m P l g tmps asg bd w R :=
  ⟨trivial, fun c cs _ => h.2 c cs (fun d hd => by cases hd)⟩
theorem run_callFunc_body {P : Program} {f : FuncId} {fn : Func} {args : Array Value} {w : World} (h1 : P.funcs[f]? = some fn) (h2 : (fn.name == "runtime.NumGoroutine") = false) (h3 : fn.body.isSome = true) :
    (callFunc f args).run P w = .ok (.enter f args) w := by
  have hb : fn.body ≠ none := fun hh => by rw [hh] at h3; cases h3
  have h2' : ¬ fn.name = "runtime.NumGoroutine" := fun e => by rw [e] at h2; simp at h2
  simp [callFunc, h1, h2', hb]
section
variable {T : Tab} {base : Nat} {w0 w : World} {ρ : Ren} {s : CSt} {ca : CAct} {a : Act} {self : Self}
theorem op_sound (hS : SelfOk T self) (hr : Rel T base w0 ρ s w) (ha : AR ρ ca a) (hT : T.Ok) {o : Oper} {r : OpR} {v : Value} {s' : CSt} {ro : Option Nat} {n : Nat} {next : Act → World → Prop} {Q : Exit → Act → World → Prop}
    (h : cop T s.heap (ceval T ca) o.op = some r) (ho : outP o.op self s r = some ⟨v, s'⟩) (hn : ∀ v' w', SoundV T base w0 ρ s w v s' v' w' → next (a.put o.dst v') w') :
    o.wpIn (wideAt ro) n T.P a w next Q := by
  refine ⟨fun _ _ => trivial, ?_⟩
  by_cases hd : ∃ c, o.op = .defer c
  · obtain ⟨c, hd⟩ := hd
    rw [hd] at h ho
    simp only [cop, copDefer] at h
    exfalso
    split at h
    · split at h
      · cases h; cases ho
      · cases h
    · cases h
  have hd : ∀ c, o.op ≠ .defer c := fun c e => hd ⟨c, e⟩
  rw [Oper.semAt_eq _ _ _ hd]
  have plain : (∀ f args ts, o.op ≠ .call ⟨.value f, args, ts⟩) → Plain T.P (execOp a.eval o) w (fun v' w' => Sound1 T base w0 ρ s w (fun v s => some (packV v s)) (packV v s') v' w') →
      o.uponIn (wideAt ro) n T.P a next Q ((execOp a.eval o).run T.P w) := by
    rintro _ ⟨v', w', h1 | ⟨h1, rfl⟩, h2⟩
    · rw [h1, Oper.uponIn_value]; exact hn _ _ h2.toV
    · rw [h1, Oper.uponIn_skip]; exact hn _ _ h2.toV
  by_cases hv : ∃ f args ts, o.op = .call ⟨.value f, args, ts⟩
  · obtain ⟨f, args, ts, hop⟩ := hv
    rw [hop] at h ho
    simp only [cop, callC] at h
    cases h1 : evs (ceval T ca) args.toList with
    | none => rw [h1] at h; cases h
    | some l =>
      rw [h1] at h
      simp only at h
      have hl := evs_sound hr ha hT h1
      rw [← evalMap] at hl
      cases h2 : ceval T ca f with
      | none => rw [h2] at h; cases h
      | some u =>
        rw [h2] at h
        have hu := ha.eval hr h2
        have hex : execOp a.eval o = (do let d ← resolve a.eval ⟨.value f, args, ts⟩ o.type; invoke d.target d.args) := by simp only [execOp, hop]
        rw [hex]
        have hex2 : ∀ (g : Fn) (x y : Array Value), a.eval f = .func g x y → (execOp a.eval o).run T.P w = (invoke (.fn g y) (x ++ args.map a.eval)).run T.P w := by
          intro g x y e
          rw [hex]
          simp only [resolve, e, Deferred.ofValue, Sem.run_bind, Sem.run_pure, Result.andThen_ok]
        rw [← hex]
        generalize a.eval f = u' at hu hex2
        unfold enterC at h
        split at h
        · rename_i g first captured e
          cases e
          cases h
          cases hu with
          | func _ _ _ x' y' q1 q2 q3 q4 =>
            rw [hex2 _ _ _ rfl]
            have hfi : VRs ρ first.toList x'.toList := ⟨q1, q2⟩
            have hca : VRs ρ captured.toList y'.toList := ⟨q3, q4⟩
            have hargs : VRs ρ (first.toList ++ l ++ captured.toList) (x' ++ args.map a.eval ++ y').toList := by
              rw [Array.toList_append, Array.toList_append]
              exact (hfi.append hl).append hca
            obtain ⟨fn, g1, g2, g3⟩ := hS.call ho hr hargs
            rcases g3 with ⟨g3, g4⟩ | ⟨g3, v', w', g4, g5⟩
            · have : (invoke (.fn (.func g) y') (x' ++ args.map a.eval)).run T.P w = .ok (.enter g (x' ++ args.map a.eval ++ y')) w := run_callFunc_body g1 g2 g3
              rw [this, Oper.uponIn_enter]
              refine ⟨(fun hh => by cases hh), callsIn_wideAt _ _ (CallsIn.mono g4 ?_)⟩
              rintro e w' ⟨v', rfl, q⟩
              exact hn _ _ q
            · have : (invoke (.fn (.func g) y') (x' ++ args.map a.eval)).run T.P w = .ok (.value v') w' := g4
              rw [this, Oper.uponIn_value]
              exact hn _ _ g5
        · rename_i lp e
          cases e
          cases h
          cases hu with
          | yield he =>
            rename_i eb
            rw [hex2 _ _ _ rfl]
            obtain ⟨g, tmps, asg, bd, g1, g2⟩ := hS.round ho hr he hl
            have : (invoke (.fn (.yield eb.b) #[]) (#[] ++ args.map a.eval)).run T.P w = .ok (.round eb.b g tmps asg bd) w := by
              have e0 : (#[] ++ args.map a.eval : Array Value) = args.map a.eval := by simp
              rw [e0]; exact g1
            rw [this, Oper.uponIn_round]
            refine ⟨(fun hh => by cases hh), roundIn_wideAt _ _ (RoundIn.mono g2 ?_)⟩
            rintro e w' ⟨v', rfl, q⟩
            exact hn _ _ q
        · cases h
  · have hv : ∀ f args ts, o.op ≠ .call ⟨.value f, args, ts⟩ := fun f args ts e => hv ⟨f, args, ts, e⟩
    refine plain hv ?_
    have hq : quietK s r outV0 = some ⟨v, s'⟩ := by
      unfold outP at ho
      split at ho
      · rename_i e; exact absurd e (hv _ _ _)
      · exact ho
    have hk := quiet_pack hq
    by_cases hc : ∃ c, o.op = .call c
    · obtain ⟨c, hc⟩ := hc
      obtain ⟨ce, args, ts⟩ := c
      cases ce with
      | value f => exact absurd hc (hv _ _ _)
      | invoke rr m =>
        rw [hc] at h
        simp only [cop, callC] at h
        split at h
        · cases h
        · cases h
      | builtin b =>
        rw [hc] at h
        simp only [cop, callC] at h
        cases h1 : evs (ceval T ca) args.toList with
        | none => rw [h1] at h; cases h
        | some l =>
          rw [h1] at h
          simp only at h
          have hl := evs_sound hr ha hT h1
          rw [← evalMap] at hl
          obtain ⟨v', w', g1, g2⟩ := builtinC_sound (ty := o.type) (consts := args.map fun | .const _ => true | _ => false) hr hT h hk hl
          exact ⟨v', w', .inl (by simp only [execOp, hc, resolve, Sem.run_bind, Sem.run_pure, Result.andThen_ok, invoke]; exact g1), g2⟩
    · exact plain_sound hr ha hT h hk (fun c e => hc ⟨c, e⟩)
end
end Go.Canon
end
section
namespace Go.Canon
open Go Go.RowKit
set_option linter.unusedSectionVars false
/-- a mode on both sides -/
def MdR (ρ : Ren) : Md → Option Nat → Prop
  | .plain, none => True
  | .round l, some b => ∃ e, ρ l = some e ∧ e.b = b
  | _, _ => False
theorem MdR.mono {ρ ρ' : Ren} (h : ∀ i e, ρ i = some e → ρ' i = some e) {md : Md} {ro : Option Nat} (hm : MdR ρ md ro) : MdR ρ' md ro := by
  cases md <;> cases ro <;> first
    | trivial
    | exact hm.elim
    | (obtain ⟨e, h1, h2⟩ := hm; exact ⟨e, h _ _ h1, h2⟩)
/-- how it goes on, on both sides -/
def Then (T : Tab) (base : Nat) (w0 : World) (ρ : Ren) (s : CSt) (w : World) (k : CAct → CSt → Option COut) (x : COut) (K : Act → World → Prop) : Prop :=
  ∀ (ρ' : Ren) (ca' : CAct) (s' : CSt) (a' : Act) (w' : World), k ca' s' = some x → Ext ρ s w ρ' s' w' → Rel T base w0 ρ' s' w' → AR ρ' ca' a' → K a' w'
theorem Then.ext {T : Tab} {base : Nat} {w0 w w1 : World} {ρ ρ1 : Ren} {s s1 : CSt} {k : CAct → CSt → Option COut} {x : COut} {K : Act → World → Prop} (h : Then T base w0 ρ s w k x K) (e : Ext ρ s w ρ1 s1 w1) :
    Then T base w0 ρ1 s1 w1 k x K := fun ρ' ca' s' a' w' h1 h2 h3 h4 => h ρ' ca' s' a' w' h1 (e.trans h2) h3 h4
theorem mkPut_run (d : Option Tmp) (a : CAct) (v : Value) (k : CAct → Option COut) : (mkPut d).run a v k = putK a d v k := by
  cases d <;> rfl
theorem yielded_eq {ρ : Ren} {all : Array Oper} {ca : CAct} {a : Act} (ha : AR ρ ca a) (j : Nat) : yieldedC all ca j = yielded all a.tmps j := by
  unfold yieldedC yielded
  cases h1 : all[j]? with
  | none => rfl
  | some o =>
    simp only [Option.bind_some]
    cases h2 : o.dst with
    | none => rfl
    | some d =>
      simp only [Option.bind_some]
      have ht := ha.tm d
      rw [Array.getD_eq_getD_getElem?] at ht
      cases h3 : a.tmps[d]? with
      | none =>
        rw [h3] at ht
        simp only [Option.getD_none] at ht
        cases h4 : ca.tm.get d with
        | none => rfl
        | some v =>
          rw [h4] at ht
          simp only [Option.getD_some] at ht
          generalize hu : undef = u at ht
          cases ht <;> first | rfl | (unfold undef at hu; cases hu)
      | some u =>
        rw [h3] at ht
        simp only [Option.getD_some] at ht
        cases h4 : ca.tm.get d with
        | none =>
          rw [h4] at ht
          simp only [Option.getD_none] at ht
          generalize hu : undef = u' at ht
          cases ht <;> first | rfl | (unfold undef at hu; cases hu)
        | some v =>
          rw [h4] at ht
          simp only [Option.getD_some] at ht
          cases ht <;> rfl
theorem wanted_eq {ρ : Ren} {all : Array Oper} {ca : CAct} {a : Act} (ha : AR ρ ca a) (o : Oper) : wantedC all ca o = Region.wanted o (yielded all a.tmps) := by
  unfold wantedC Region.wanted
  cases o.guard with
  | none => rfl
  | some g =>
    obtain ⟨j, b⟩ := g
    simp only [yielded_eq ha]
    cases yielded all a.tmps j with
    | none => rfl
    | some c => cases b <;> cases c <;> rfl
section
variable {T : Tab} {base : Nat} {w0 : World} {self : Self}
theorem defer_sound {w : World} {ρ : Ren} {s : CSt} {ca : CAct} {a : Act} (hr : Rel T base w0 ρ s w) (ha : AR ρ ca a) (hT : T.Ok) {c : Call} {ty : TypeId} {d : Deferred} (h : copDefer (ceval T ca) c = some (.defer d)) :
    ∃ d', (resolve a.eval c ty).run T.P w = .ok d' w ∧ DR ρ d d' := by
  obtain ⟨ce, args, ts⟩ := c
  unfold copDefer at h
  split at h
  · rename_i l f h1 h2
    split at h
    · rename_i g first captured h3
      cases h
      simp only at h2
      subst h2
      have hl := evs_sound hr ha hT h1
      rw [← evalMap] at hl
      have hu := ha.eval hr h3
      generalize hf : a.eval f = u' at hu
      cases hu with
      | func _ _ _ x' y' q1 q2 q3 q4 =>
        refine ⟨_, by simp only [resolve, hf, Deferred.ofValue, Sem.run_pure]; rfl, .fn ⟨q3, q4⟩ ?_⟩
        have hfi : VRs ρ first.toList x'.toList := ⟨q1, q2⟩
        show VRs ρ (first.toList ++ l) (x' ++ Array.map a.eval args).toList
        rw [Array.toList_append]
        exact hfi.append hl
    · cases h
  · cases h
theorem ops_sound (hS : SelfOk T self) (hT : T.Ok) {all : Array Oper} {md : Md} {ro : Option Nat} {n : Nat} {Q : Exit → Act → World → Prop} {k : CAct → CSt → Option COut} {x : COut} : ∀ (l : List Oper) (i : Nat), (∀ j, all[i + j]? = l[j]?) →
    ∀ {ρ : Ren} {s : CSt} {w : World} {ca : CAct} {a : Act}, (compOps T all l).run self md ca s k = some x → MdR ρ md ro → Rel T base w0 ρ s w → AR ρ ca a →
      Then T base w0 ρ s w k x (fun a' w' => Q .normal a' w') → wpOpsIn (wideAt ro) n T.P all Q (List.range' i l.length) a w := by
  intro l
  induction l with
  | nil =>
    intro i _ ρ s w ca a h _ hr ha hN
    exact hN ρ ca s a w h (Ext.refl _ _ _) hr ha
  | cons o l ih =>
    intro i hi ρ s w ca a h hm hr ha hN
    have ho : all[i]? = some o := by have := hi 0; simpa using this
    have hi' : ∀ j, all[i + 1 + j]? = l[j]? := fun j => by have := hi (j + 1); rw [List.getElem?_cons_succ, show i + (j + 1) = i + 1 + j from by omega] at this; exact this
    show wpOpsIn (wideAt ro) n T.P all Q (i :: List.range' (i + 1) l.length) a w
    simp only [wpOpsIn, ho]
    -- the rest
    have rest : ∀ {ρ1 : Ren} {s1 : CSt} {w1 : World} {ca1 : CAct} {a1 : Act}, Ext ρ s w ρ1 s1 w1 → (compOps T all l).run self md ca1 s1 k = some x → Rel T base w0 ρ1 s1 w1 → AR ρ1 ca1 a1 →
        wpOpsIn (wideAt ro) n T.P all Q (List.range' (i + 1) l.length) a1 w1 := by
      intro ρ1 s1 w1 ca1 a1 he h1 hr1 ha1
      exact ih (i + 1) hi' h1 (hm.mono (he.ren hr)) hr1 ha1 (hN.ext he)
    have one : oneF T o (compOps T all l) self md ca s k = some x → o.wpIn (wideAt ro) n T.P a w (wpOpsIn (wideAt ro) n T.P all Q (List.range' (i + 1) l.length)) Q := by
      intro h
      unfold oneF at h
      rw [compF_eq] at h
      unfold copK at h
      split at h
      · rename_i r hc
        rw [outO_bind] at h
        cases hp : outP o.op self s r with
        | none => rw [hp] at h; cases h
        | some ov =>
          obtain ⟨v, s1⟩ := ov
          rw [hp] at h
          simp only [Option.bind_some, mkPut_run] at h
          rw [putK_bind] at h
          cases hq : putR ca o.dst v with
          | none => rw [hq] at h; cases h
          | some ca1 =>
            rw [hq] at h
            simp only [Option.bind_some] at h
            refine op_sound hS hr ha hT hc hp ?_
            rintro v' w' ⟨ρ', e1, e2, e3⟩
            exact rest e1 h e2 ((ha.mono (e1.ren hr)).putR (s := s) e3 hq).1
      · cases h
    have hN0 : Region.wanted o (yielded all a.tmps) = wantedC all ca o := (wanted_eq ha o).symm
    simp only [compOps] at h
    split at h
    · rename_i g hg
      simp only [guardF] at h
      split at h
      · rename_i hw
        rw [if_pos (by rw [hN0]; exact hw)]
        exact one h
      · rename_i hw
        rw [if_neg (by rw [hN0, hw]; simp)]
        refine ⟨fun _ _ => trivial, ?_⟩
        rw [putK_bind] at h
        cases hq : putR ca o.dst undef with
        | none => rw [hq] at h; cases h
        | some ca1 =>
          rw [hq] at h
          exact rest (Ext.refl _ _ _) h hr (ha.putR (s := s) VR.undef hq).1
    · rename_i hg
      have hw : Region.wanted o (yielded all a.tmps) = true := by unfold Region.wanted; rw [hg]
      rw [if_pos hw]
      split at h
      · rename_i c hop
        unfold deferF at h
        dsimp only at h
        split at h
        · rename_i d hd
          cases md with
          | plain =>
            cases ro with
            | some b => exact hm.elim
            | none =>
              obtain ⟨tm, size, ds⟩ := ca
              simp only [pushDefer] at h
              rw [putK_bind] at h
              cases hq : putR ⟨tm, size, d :: ds⟩ o.dst undef with
              | none => rw [hq] at h; cases h
              | some ca1 =>
                rw [hq] at h
                simp only [Option.bind_some] at h
                obtain ⟨d', q1, q2⟩ := defer_sound (ty := o.type) hr ha hT hd
                have ha2 : AR ρ ⟨tm, size, d :: ds⟩ { a with defers := d' :: a.defers } := ⟨ha.size, ha.tm, q2, ha.ds⟩
                refine ⟨fun _ _ => trivial, ?_⟩
                have : (o.semAt (wideAt none).round a.eval).run T.P w = .ok (.defer d') w := by
                  show (execOp a.eval o).run T.P w = _
                  simp only [execOp, hop, Sem.run_bind, q1, Result.andThen_ok, Sem.run_pure]
                rw [this, Oper.uponIn_defer]
                exact rest (Ext.refl _ _ _) h hr (ha2.putR (s := s) VR.undef hq).1
          | _ => cases h
        · cases h
      · split at h
        · unfold recF at h
          dsimp only at h
          cases md with
          | dead => cases ro <;> exact hm.elim
          | _ => cases h
        · exact one h
end
end Go.Canon
end
