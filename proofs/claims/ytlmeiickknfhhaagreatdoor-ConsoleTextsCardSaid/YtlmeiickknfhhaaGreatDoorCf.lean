/- The evaluator's soundness over the calculus of calls, one part; no conditions. -/
import Derived.CallsIn
import Derived.Test.YtlmeiickknfhhaaGreatDoorCe
import Derived.Test.YtlmeiickknfhhaaGreatDoorCa2
set_option linter.all false
set_option linter.unusedVariables false
set_option linter.unusedSimpArgs false
set_option linter.unusedSectionVars false
set_option linter.unnecessarySimpa false
namespace Go.Canon
open Go Go.RowKit
set_option linter.unusedSectionVars false
/-! ### the continuation stands outside -/
theorem mkSet_bind {α : Type} (d : Nat) : ∀ {β : Type} (n : Nat) (t : Tr α) (a : Option α) (f : Tr α → Option β), (mkSet d n : SetF α β).run t a f = ((mkSet d n : SetF α (Tr α)).run t a some).bind f := by
  induction d with
  | zero => intro β n t a f; rfl
  | succ d ih =>
    intro β n t a f
    cases n with
    | zero => cases t <;> rfl
    | succ n =>
      cases t with
      | nil => simp only [mkSet]; cases Nat.beq (Nat.mod n 2) 0 <;> rfl
      | node v l r =>
        show (cond (Nat.beq (Nat.mod n 2) 0) _ _ : SetF α β).run (Tr.node v l r) a f = ((cond (Nat.beq (Nat.mod n 2) 0) _ _ : SetF α (Tr α)).run (Tr.node v l r) a some).bind f
        cases Nat.beq (Nat.mod n 2) 0
        · show (mkSet d (Nat.div n 2) : SetF α β).run r a (fun r' => f (Tr.node v l r')) = ((mkSet d (Nat.div n 2) : SetF α (Tr α)).run r a (fun r' => some (Tr.node v l r'))).bind f
          rw [ih (β := β), ih (β := Tr α) _ _ _ (fun r' => some (Tr.node v l r'))]
          cases (mkSet d (Nat.div n 2) : SetF α (Tr α)).run r a some <;> rfl
        · show (mkSet d (Nat.div n 2) : SetF α β).run l a (fun l' => f (Tr.node v l' r)) = ((mkSet d (Nat.div n 2) : SetF α (Tr α)).run l a (fun l' => some (Tr.node v l' r))).bind f
          rw [ih (β := β), ih (β := Tr α) _ _ _ (fun l' => some (Tr.node v l' r))]
          cases (mkSet d (Nat.div n 2) : SetF α (Tr α)).run l a some <;> rfl
theorem Tr.setK_bind {α β : Type} (t : Tr α) (n : Nat) (a : Option α) (f : Tr α → Option β) : t.setK n a f = (t.setK n a some).bind f := mkSet_bind 48 n t a f
def outV0 (v : Value) (s : CSt) : Option VOut := some ⟨v, s⟩
theorem quietK_bind {β : Type} (s : CSt) (r : OpR) (k : Value → CSt → Option β) : quietK s r k = (quietK s r outV0).bind fun o => k o.v o.s := by
  obtain ⟨h, n⟩ := s
  cases r with
  | val v => simp [quietK, force_eq, outV0]
  | done v => simp [quietK, outV0]
  | int j m => simp [quietK, forceInt_eq, outV0]
  | bool b => cases b <;> simp [quietK, outV0]
  | addr b o => simp [quietK, forceNat_eq, outV0]
  | alloc o mk =>
    simp only [quietK, allocK, forceObj_eq, force_eq]
    rw [Tr.setK_bind (β := β), Tr.setK_bind (β := VOut)]
    cases h.setK n (some o) some <;> rfl
  | upd i o v =>
    simp only [quietK, updK, forceObj_eq, force_eq]
    rw [Tr.setK_bind (β := β), Tr.setK_bind (β := VOut)]
    cases h.setK i (some o) some <;> rfl
  | grow i o mk =>
    simp only [quietK, killK, allocK, forceObj_eq, force_eq]
    rw [Tr.setK_bind (β := β) (t := h), Tr.setK_bind (β := VOut) (t := h)]
    cases h.setK i none some with
    | none => rfl
    | some t =>
      simp only [Option.bind_some]
      rw [Tr.setK_bind (β := β), Tr.setK_bind (β := VOut)]
      cases t.setK n (some o) some <;> rfl
  | _ => rfl
def packV (v : Value) (s : CSt) : COut := ⟨.normal, ⟨.node (some v) .nil .nil, 0, []⟩, s⟩
theorem packV_inj {v v' : Value} {s s' : CSt} (h : packV v s = packV v' s') : v = v' ∧ s = s' := by
  unfold packV at h
  injection h with h1 h2 h3
  injection h2 with h4
  injection h4 with h5
  exact ⟨Option.some.inj h5, h3⟩
noncomputable def outR (self : Self) (s : CSt) (r : OpR) : Option VOut := match r with
  | .enter f args => self.call f args s
  | .round lp args => self.round lp args s
  | .defer _ => none
  | .recover => none
  | r => quietK s r outV0
theorem outK_bind (self : Self) (s : CSt) (r : OpR) (k : Value → CSt → Option COut) : outK self s r k = (outR self s r).bind fun o => k o.v o.s := by
  cases r with
  | enter f args => simp only [outK, outR]; cases self.call f args s <;> rfl
  | round l args => simp only [outK, outR]; cases self.round l args s <;> rfl
  | defer d => rfl
  | recover => rfl
  | _ => simp only [outK, outR]; exact quietK_bind _ _ _
noncomputable def putR (a : CAct) (dst : Option Tmp) (v : Value) : Option CAct := putK a dst v some
theorem putK_bind {β : Type} (a : CAct) (dst : Option Tmp) (v : Value) (k : CAct → Option β) : putK a dst v k = (putR a dst v).bind k := by
  obtain ⟨tm, size, ds⟩ := a
  cases dst with
  | none => rfl
  | some d =>
    simp only [putR, putK]
    cases Nat.blt d size with
    | false => rfl
    | true =>
      simp only [cond_true]
      rw [Tr.setK_bind (β := β), Tr.setK_bind (β := CAct)]
      cases tm.setK d (some v) some <;> rfl
section
variable {T : Tab} {base : Nat} {w0 w : World} {ρ : Ren} {s : CSt} {ca : CAct} {a : Act}
/-- a value and a state on both sides -/
def SoundV (T : Tab) (base : Nat) (w0 : World) (ρ : Ren) (s : CSt) (w : World) (v : Value) (s' : CSt) (v' : Value) (w' : World) : Prop :=
  ∃ ρ', Ext ρ s w ρ' s' w' ∧ Rel T base w0 ρ' s' w' ∧ VR ρ' v v'
theorem Sound1.toV {v v' : Value} {s' : CSt} {w' : World} (h : Sound1 T base w0 ρ s w (fun v s => some (packV v s)) (packV v s') v' w') : SoundV T base w0 ρ s w v s' v' w' := by
  obtain ⟨ρ', s1, v1, h1, h2, h3, h4⟩ := h
  obtain ⟨rfl, rfl⟩ := packV_inj (Option.some.inj h1)
  exact ⟨ρ', h2, h3, h4⟩
theorem quiet_pack {r : OpR} {v : Value} {s' : CSt} (h : quietK s r outV0 = some ⟨v, s'⟩) : quietK s r (fun v s => some (packV v s)) = some (packV v s') := by
  rw [quietK_bind, h]; rfl
theorem AR.putR {s : CSt} {dst : Option Tmp} {v v' : Value} {ca' : CAct} (ha : AR ρ ca a) (hv : VR ρ v v') (h : putR ca dst v = some ca') : AR ρ ca' (a.put dst v') ∧ ca'.size = ca.size := by
  have h2 : putK ca dst v (fun c => some (⟨.normal, c, s⟩ : COut)) = some ⟨.normal, ca', s⟩ := by rw [putK_bind, h]; rfl
  obtain ⟨c, h3, h4, h5⟩ := ha.put hv h2
  injection h3 with h3
  injection h3 with _ h6 _
  subst h6
  exact ⟨h4, h5⟩
def wideAt (ro : Option Nat) : Fence := { Fence.wide with round := ro }
/-- what a call gives: a Go function's contract, or a function of the model's -/
def CallGives (P : Program) (f : FuncId) (args : Array Value) (w : World) (R : Value → World → Prop) : Prop :=
  ∃ fn, P.funcs[f]? = some fn ∧ (fn.name == "runtime.NumGoroutine") = false ∧
    ((fn.body.isSome = true ∧ CallsIn Fence.wide 0 P f args w (fun e w' => ∃ v', e = .returned v' ∧ R v' w')) ∨
     (fn.body.isSome = false ∧ ∃ v' w', (callFunc f args).run P w = .ok (.value v') w' ∧ R v' w'))
structure SelfOk (T : Tab) (me : Self) : Prop where
  call : ∀ {f : FuncId} {args : List Value} {s : CSt} {v : Value} {s' : CSt} {base : Nat} {w0 : World} {ρ : Ren} {w : World} {args' : Array Value}, me.call f args s = some ⟨v, s'⟩ → Rel T base w0 ρ s w →
    VRs ρ args args'.toList → CallGives T.P f args' w (fun v' w' => SoundV T base w0 ρ s w v s' v' w')
  round : ∀ {l : Nat} {args : List Value} {s : CSt} {v : Value} {s' : CSt} {base : Nat} {w0 : World} {ρ : Ren} {w : World} {args' : Array Value} {e : Ent}, me.round l args s = some ⟨v, s'⟩ → Rel T base w0 ρ s w →
    ρ l = some e → VRs ρ args args'.toList → ∃ g tmps asg bd, (Instr.yield e.b args').run T.P w = .ok (.round e.b g tmps asg bd) w ∧
      RoundIn Fence.wide 0 T.P e.b g tmps asg bd w (fun en w' => ∃ v', en = .returned v' ∧ SoundV T base w0 ρ s w v s' v' w')
/-- an operation that makes no call -/
def Plain (P : Program) (sm : Sem Next) (w : World) (R : Value → World → Prop) : Prop :=
  ∃ v' w', (sm.run P w = .ok (.value v') w' ∨ (sm.run P w = .ok .skip w' ∧ v' = undef)) ∧ R v' w'
theorem Plain.value {P : Program} {sm : Sem Value} {R : Value → World → Prop} (h : ∃ v' w', sm.run P w = .ok v' w' ∧ R v' w') : Plain P (do Pure.pure (Next.value (← sm))) w R := by
  obtain ⟨v', w', h1, h2⟩ := h
  exact ⟨v', w', .inl (by simp [h1]), h2⟩
theorem Plain.fresh {T : Tab} {base : Nat} {w0 w : World} {ρ : Ren} {s : CSt} {k : Value → CSt → Option COut} {x : COut} {r : OpR} {sm : Sem Value} (hr : Rel T base w0 ρ s w) (hk : quietK s r k = some x)
    (h : ∃ ob mk v' w', r = .alloc ob mk ∧ sm.run T.P w = .ok v' w' ∧ FreshG T ρ w ob mk v' w') : Plain T.P (do Pure.pure (Next.value (← sm))) w (fun v' w' => Sound1 T base w0 ρ s w k x v' w') := by
  obtain ⟨ob, mk, v', w', rfl, h1, h2⟩ := h
  exact .value ⟨v', w', h1, h2.sound hr hk⟩
theorem Plain.value1 {P : Program} {sm : Sem Value} {R : Value → World → Prop} (h : ∃ v', sm.run P w = .ok v' w ∧ R v' w) : Plain P (do Pure.pure (Next.value (← sm))) w R :=
  let ⟨v', h1, h2⟩ := h; .value ⟨v', w, h1, h2⟩
theorem Plain.unit {P : Program} {sm : Sem Unit} {R : Value → World → Prop} (h : ∃ w', sm.run P w = .ok () w' ∧ R undef w') : Plain P (do sm; Pure.pure Next.skip) w R := by
  obtain ⟨w', h1, h2⟩ := h
  exact ⟨undef, w', .inr ⟨by simp [h1], rfl⟩, h2⟩
theorem evalMap (f : Operand → Value) (z : Array Operand) : (z.map f).toList = z.toList.map f := by simp
variable (hr : Rel T base w0 ρ s w) (ha : AR ρ ca a) (hT : T.Ok)
include hr ha hT
theorem plain_sound {o : Oper} {r : OpR} {k : Value → CSt → Option COut} {x : COut} (h : cop T s.heap (ceval T ca) o.op = some r) (hk : quietK s r k = some x) (hc : ∀ c, o.op ≠ .call c) :
    Plain T.P (execOp a.eval o) w (fun v' w' => Sound1 T base w0 ρ s w k x v' w') := by
  cases ho : o.op with
  | move y => rw [ho] at h; exact ⟨a.eval y, w, .inl (by simp [execOp, ho]), copMove_sound hr ha h hk⟩
  | assign y => rw [ho] at h; exact ⟨a.eval y, w, .inl (by simp [execOp, ho]), copMove_sound hr ha h hk⟩
  | pick c y z =>
    rw [ho] at h
    obtain ⟨b, h1, h2⟩ := copPick_sound hr ha hT h hk
    exact ⟨_, w, .inl (by simp [execOp, ho, h1, asBool]), h2⟩
  | alloc el => rw [ho] at h; simp only [execOp, ho]; exact .fresh hr hk (copAlloc_sound hr ha hT h)
  | box el y => rw [ho] at h; simp only [execOp, ho]; exact .fresh hr hk (copBox_sound hr ha hT h)
  | build t ps => rw [ho] at h; simp only [execOp, ho]; exact .value1 (copBuild_sound hr ha hT h hk)
  | buildSlice t n ps => rw [ho] at h; simp only [execOp, ho]; exact .fresh hr hk (copBuildSlice_sound hr ha hT h)
  | load t y => rw [ho] at h; simp only [execOp, ho]; exact .value1 (copLoad_sound hr ha hT h hk)
  | store t y z => rw [ho] at h; simp only [execOp, ho]; exact .unit (copStore_sound hr ha hT h hk)
  | nilCheck y =>
    rw [ho] at h
    obtain ⟨ad, h1, h2⟩ := copNilCheck_sound hr ha hT h hk
    exact ⟨_, w, .inl (by simp [execOp, ho, h1]), h2⟩
  | binOp op t y z yt =>
    rw [ho] at h
    obtain ⟨v', h1, h2, h3⟩ := copBin_sound hr ha hT h hk
    simp only [execOp, ho]
    exact .value ⟨v', w, by simp [h1, h2], h3⟩
  | unOp op t y => rw [ho] at h; simp only [execOp, ho]; exact .value1 (copUn_sound hr ha hT h hk)
  | convert src dst y =>
    rw [ho] at h
    simp only [execOp, ho]
    simp only [cop, copConv] at h
    cases h1 : ceval T ca y with
    | none => rw [h1] at h; cases h
    | some u => rw [h1] at h; exact .value (convC_sound hr hT h hk (ha.eval hr h1))
  | makeInterface t y => rw [ho] at h; simp only [execOp, ho]; exact .value1 (copIface_sound hr ha hT h hk)
  | makeFunc fn f c => rw [ho] at h; simp only [execOp, ho]; exact .value1 (copFunc_sound hr ha hT h hk)
  | makeMap t q =>
    rw [ho] at h
    simp only [execOp, ho]
    cases q with
    | none => cases h; exact .fresh hr hk (let ⟨v', w', h1, h2⟩ := makeMap_sound; ⟨_, _, v', w', rfl, h1, h2⟩)
    | some z => cases h
  | makeSlice t y z => rw [ho] at h; simp only [execOp, ho]; exact .fresh hr hk (copMakeSlice_sound hr ha hT h)
  | slice t y lo hi mx => rw [ho] at h; simp only [execOp, ho]; exact .value1 (copSlice_sound hr ha hT h hk)
  | fieldAddr t y f => rw [ho] at h; simp only [execOp, ho]; exact .value1 (copFieldAddr_sound hr ha hT h hk)
  | field t y f => rw [ho] at h; simp only [execOp, ho]; exact .value1 (copField_sound hr ha hT h hk)
  | indexAddr t y z => rw [ho] at h; simp only [execOp, ho]; exact .value1 (copIndexAddr_sound hr ha hT h hk)
  | index t y z => rw [ho] at h; simp only [execOp, ho]; exact .value1 (copIndex_sound hr ha hT h hk)
  | lookup t y z ok => rw [ho] at h; simp only [execOp, ho]; exact .value1 (lookupOp_sound hr ha hT h hk)
  | mapUpdate t m y z => rw [ho] at h; simp only [execOp, ho]; exact .unit (updateOp_sound hr ha hT h hk)
  | insert t m y z => rw [ho] at h; simp only [execOp, ho]; exact .unit (updateOp_sound hr ha hT h hk)
  | mapEntry t m y => rw [ho] at h; simp only [execOp, ho]; exact .value (entryOp_sound hr ha hT h hk)
  | entryStore t m y z => rw [ho] at h; simp only [execOp, ho]; exact .unit (storeOp_sound hr ha hT h hk)
  | range t y => rw [ho] at h; simp only [execOp, ho]; exact .value (copRange_sound hr ha hT h hk)
  | next it b =>
    rw [ho] at h
    simp only [execOp, ho]
    cases b with
    | false => cases h
    | true => exact .value (copNext_sound hr ha hT h hk)
  | typeAssert y xt as ok => rw [ho] at h; simp only [execOp, ho]; exact .value1 (copAssert_sound hr ha hT h hk)
  | extract y ix => rw [ho] at h; simp only [execOp, ho]; exact .value1 (copExtract_sound hr ha hT h hk)
  | call c => exact absurd ho (hc c)
  | defer c =>
    rw [ho] at h
    simp only [cop, copDefer] at h
    split at h
    · split at h
      · cases h; cases hk
      · cases h
    · cases h
  | _ => rw [ho] at h; cases h
/-- an operation that makes a new object -/
theorem fresh_sound {o : Oper} {ob : CObj} {mk : Nat → Value} (h : cop T s.heap (ceval T ca) o.op = some (.alloc ob mk)) (hk : kindOf o.op = .fresh) :
    ∃ v' w', (execOp a.eval o).run T.P w = .ok (.value v') w' ∧ FreshG T ρ w ob mk v' w' := by
  have fin : ∀ {sm : Sem Value}, (∃ ob' mk' v' w', OpR.alloc ob mk = .alloc ob' mk' ∧ sm.run T.P w = .ok v' w' ∧ FreshG T ρ w ob' mk' v' w') →
      ∃ v' w', (do Pure.pure (Next.value (← sm)) : Sem Next).run T.P w = .ok (.value v') w' ∧ FreshG T ρ w ob mk v' w' := by
    rintro sm ⟨ob', mk', v', w', e, h1, h2⟩
    cases e
    exact ⟨v', w', by simp [h1], h2⟩
  cases ho : o.op with
  | alloc el => rw [ho] at h; simp only [execOp, ho]; exact fin (copAlloc_sound hr ha hT h)
  | box el y => rw [ho] at h; simp only [execOp, ho]; exact fin (copBox_sound hr ha hT h)
  | buildSlice t n ps => rw [ho] at h; simp only [execOp, ho]; exact fin (copBuildSlice_sound hr ha hT h)
  | makeSlice t y z => rw [ho] at h; simp only [execOp, ho]; exact fin (copMakeSlice_sound hr ha hT h)
  | makeMap t q =>
    rw [ho] at h
    simp only [execOp, ho]
    cases q with
    | none => cases h; exact fin (let ⟨v', w', h1, h2⟩ := makeMap_sound; ⟨_, _, v', w', rfl, h1, h2⟩)
    | some z => cases h
  | call c =>
    rw [ho] at hk
    obtain ⟨ce, args, ts⟩ := c
    cases ce with
    | builtin b => cases b <;> simp [kindOf] at hk
    | _ => simp [kindOf] at hk
  | _ => rw [ho] at hk; simp [kindOf] at hk
end
end Go.Canon
