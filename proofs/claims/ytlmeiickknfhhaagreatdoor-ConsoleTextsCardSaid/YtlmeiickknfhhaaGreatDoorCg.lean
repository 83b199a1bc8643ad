/- The evaluator's soundness over the calculus of calls, one part; no conditions. -/
import Derived.OrdersIn
import Derived.Test.YtlmeiickknfhhaaGreatDoorCf2
set_option linter.all false
set_option linter.unusedVariables false
set_option linter.unusedSimpArgs false
set_option linter.unusedSectionVars false
set_option linter.unnecessarySimpa false
section
namespace Go.Canon
open Go Go.RowKit
set_option linter.unusedSectionVars false
/-! ### regions that draw their order: words -/
theorem get_big {α : Type} : ∀ (d n : Nat) (t : Tr α), 2 ^ d - 1 ≤ n → (mkGet d n).run t = none := by
  intro d
  induction d with
  | zero => intro n t _; rfl
  | succ d ih =>
    intro n t h
    cases n with
    | zero => have := Nat.one_le_two_pow (n := d); rw [Nat.pow_succ] at h; omega
    | succ k =>
      cases t with
      | nil => exact mkGet_nil _ _
      | node v l r =>
        rw [mkGet_succ]
        have hk : 2 ^ d - 1 ≤ k / 2 := by rw [Nat.pow_succ] at h; omega
        exact ih _ _ hk
/-- a tree of a function's values -/
def Tr.ofFn {α : Type} : Nat → (Nat → Option α) → Tr α
  | 0, _ => .nil
  | d + 1, f => .node (f 0) (Tr.ofFn d fun k => f (2 * k + 1)) (Tr.ofFn d fun k => f (2 * k + 2))
theorem ofFn_get {α : Type} : ∀ (d n : Nat) (f : Nat → Option α), n < 2 ^ d - 1 → (mkGet d n).run (Tr.ofFn d f) = f n := by
  intro d
  induction d with
  | zero => intro n f h; simp at h
  | succ d ih =>
    intro n f h
    cases n with
    | zero => rfl
    | succ k =>
      simp only [Tr.ofFn]
      rw [mkGet_succ]
      have hk : k / 2 < 2 ^ d - 1 := by rw [Nat.pow_succ] at h; omega
      cases q : Nat.beq (k % 2) 0 with
      | true =>
        have := nbeq_true q
        rw [cond_true, ih _ _ hk]
        congr 1; omega
      | false =>
        have : k % 2 ≠ 0 := fun e => by rw [e] at q; cases q
        rw [cond_false, ih _ _ hk]
        congr 1; omega
theorem Tr.get_big {α : Type} {t : Tr α} {n : Nat} (h : 281474976710655 ≤ n) : t.get n = none := Canon.get_big 48 n t (by simpa using h)
theorem Tr.ofFn_get {α : Type} {f : Nat → Option α} {n : Nat} (h : n < 281474976710655) : (Tr.ofFn 48 f).get n = f n := Canon.ofFn_get 48 n f (by simpa using h)
theorem evs_congr {f g : Ev} : ∀ {l : List Operand}, (∀ x ∈ l, f x = g x) → evs f l = evs g l
  | [], _ => rfl
  | x :: l, h => by
    simp only [evs]
    rw [h x (by simp), evs_congr (l := l) fun y hy => h y (by simp [hy])]
theorem fillParts_congr {f g : Ev} : ∀ {l : List (Nat × Operand)}, (∀ x ∈ l.map (·.2), f x = g x) → fillParts f l = fillParts g l
  | [], _ => rfl
  | (i, x) :: l, h => by
    simp only [fillParts]
    rw [h x (by simp), fillParts_congr (l := l) fun y hy => h y (by simp at hy ⊢; exact .inr hy)]
theorem optEv_congr {f g : Ev} {o : Option Operand} (h : ∀ x ∈ o, f x = g x) : optEv f o = optEv g o := by
  cases o with
  | none => rfl
  | some x => simp only [optEv]; rw [h x rfl]
/-- an operation looks at its operands -/
theorem cop_congr {T : Tab} {hp : Tr CObj} {f g : Ev} {o : Op} (h : ∀ x ∈ o.operands.toList, f x = g x) : cop T hp f o = cop T hp g o := by
  cases o with
  | move x => simp only [cop, copMove]; rw [h x (by simp [Op.operands])]
  | assign x => simp only [cop, copMove]; rw [h x (by simp [Op.operands])]
  | pick c x y => simp only [cop, copPick, copMove]; rw [h c (by simp [Op.operands]), h x (by simp [Op.operands]), h y (by simp [Op.operands])]
  | alloc e => rfl
  | box e x => simp only [cop, copBox]; rw [h x (by simp [Op.operands])]
  | build t ps => simp only [cop, copBuild]; rw [fillParts_congr (f := f) (g := g)]; intro x hx; exact h x (by simpa [Op.operands] using hx)
  | buildSlice t n ps => simp only [cop, copBuildSlice]; rw [fillParts_congr (f := f) (g := g)]; intro x hx; exact h x (by simpa [Op.operands] using hx)
  | load t x => simp only [cop, copLoad]; rw [h x (by simp [Op.operands])]
  | store t x y => simp only [cop, copStore]; rw [h x (by simp [Op.operands]), h y (by simp [Op.operands])]
  | nilCheck x => simp only [cop, copNilCheck]; rw [h x (by simp [Op.operands])]
  | binOp op t x y yt => simp only [cop, copBin]; rw [h x (by simp [Op.operands]), h y (by simp [Op.operands])]
  | unOp op t x => simp only [cop, copUn]; rw [h x (by simp [Op.operands])]
  | convert a b x => simp only [cop, copConv]; rw [h x (by simp [Op.operands])]
  | makeInterface t x => simp only [cop, copIface]; rw [h x (by simp [Op.operands])]
  | makeFunc fn a b => simp only [cop, copFunc]; rw [evs_congr (f := f) (g := g) (l := a.toList), evs_congr (f := f) (g := g) (l := b.toList)] <;> intro x hx <;> exact h x (by simp [Op.operands] at hx ⊢; simp [hx])
  | makeMap t r => rfl
  | makeSlice t x y => simp only [cop, copMakeSlice]; rw [h x (by simp [Op.operands]), h y (by simp [Op.operands])]
  | slice t x lo hi mx =>
    simp only [cop, copSlice]
    rw [h x (by simp [Op.operands]), optEv_congr (f := f) (g := g) (o := lo), optEv_congr (f := f) (g := g) (o := hi), optEv_congr (f := f) (g := g) (o := mx)] <;> intro y hy <;> exact h y (by simp [Op.operands] at hy ⊢; simp [hy])
  | fieldAddr t x i => simp only [cop, copFieldAddr]; rw [h x (by simp [Op.operands])]
  | field t x i => simp only [cop, copField]; rw [h x (by simp [Op.operands])]
  | indexAddr t x y => simp only [cop, copIndexAddr]; rw [h x (by simp [Op.operands]), h y (by simp [Op.operands])]
  | index t x y => simp only [cop, copIndex]; rw [h x (by simp [Op.operands]), h y (by simp [Op.operands])]
  | lookup t x y ok => simp only [cop, copLookup]; rw [h x (by simp [Op.operands]), h y (by simp [Op.operands])]
  | mapUpdate t x y z => simp only [cop, copUpdate]; rw [h x (by simp [Op.operands]), h y (by simp [Op.operands]), h z (by simp [Op.operands])]
  | insert t x y z => simp only [cop, copUpdate]; rw [h x (by simp [Op.operands]), h y (by simp [Op.operands]), h z (by simp [Op.operands])]
  | mapEntry t x y => simp only [cop, copMapEntry]; rw [h x (by simp [Op.operands]), h y (by simp [Op.operands])]
  | entryStore t x y z => simp only [cop, copEntryStore]; rw [h x (by simp [Op.operands]), h y (by simp [Op.operands]), h z (by simp [Op.operands])]
  | range t x => simp only [cop, copRange]; rw [h x (by simp [Op.operands])]
  | next x b => simp only [cop, copNext]; rw [h x (by simp [Op.operands])]
  | typeAssert x t u ok => simp only [cop, copAssert]; rw [h x (by simp [Op.operands])]
  | extract x i => simp only [cop, copExtract]; rw [h x (by simp [Op.operands])]
  | call c =>
    obtain ⟨ce, args, ts⟩ := c
    simp only [cop, callC]
    have ha : evs f args.toList = evs g args.toList := evs_congr fun x hx => h x (by simp [Op.operands, Call.operands]; simp at hx; simp [hx])
    rw [ha]
    cases ce with
    | value y =>
      have hy := h y (by simp [Op.operands, Call.operands])
      cases evs g args.toList <;> simp only [hy]
    | _ => rfl
  | defer c =>
    obtain ⟨ce, args, ts⟩ := c
    simp only [cop, copDefer]
    have ha : evs f args.toList = evs g args.toList := evs_congr fun x hx => h x (by simp [Op.operands, Call.operands]; simp at hx; simp [hx])
    rw [ha]
    cases ce with
    | value y =>
      have hy := h y (by simp [Op.operands, Call.operands])
      cases evs g args.toList <;> simp only [hy]
    | _ => cases evs g args.toList <;> rfl
  | _ => rfl
theorem tmpsIn_mem : ∀ {l : List Operand} {t : Nat}, Operand.tmp t ∈ l → t ∈ tmpsIn l
  | [], _, h => by cases h
  | x :: l, t, h => by
    rcases List.mem_cons.1 h with rfl | h
    · simp [tmpsIn]
    · have := tmpsIn_mem h
      cases x <;> simp [tmpsIn, this]
/-- two activations that agree on what an operation reads -/
theorem ceval_congr {T : Tab} {ca cb : CAct} {l : List Operand} (h : ∀ t ∈ tmpsIn l, ca.tm.get t = cb.tm.get t) : ∀ x ∈ l, ceval T ca x = ceval T cb x := by
  intro x hx
  cases x with
  | tmp t => simp only [ceval]; rw [h t (tmpsIn_mem hx)]
  | _ => rfl
theorem reads_ops {ops : Array Oper} {o : Oper} {t : Nat} (h : t ∈ tmpsIn o.op.operands.toList) : t ∈ reads ops o := by
  unfold reads
  split
  · exact h
  · split
    · split
      · exact List.mem_cons_of_mem _ h
      · exact h
    · exact h
theorem wantedC_congr {ops : Array Oper} {o : Oper} {ca cb : CAct} (h : ∀ t ∈ reads ops o, ca.tm.get t = cb.tm.get t) : wantedC ops ca o = wantedC ops cb o := by
  unfold wantedC
  cases hg : o.guard with
  | none => rfl
  | some g =>
    obtain ⟨j, b⟩ := g
    have : yieldedC ops ca j = yieldedC ops cb j := by
      unfold yieldedC
      cases h1 : ops[j]? with
      | none => rfl
      | some q =>
        cases h2 : q.dst with
        | none => simp only [h2]
        | some d =>
          simp only [h2]
          rw [h d (by unfold reads; rw [hg]; simp only [h1, h2]; exact List.mem_cons_self ..)]
    simp only [this]
theorem memB_iff {n : Nat} : ∀ {l : List Nat}, memB n l = true ↔ n ∈ l
  | [] => by simp [memB]
  | x :: l => by
    simp only [memB, Bool.or_eq_true, memB_iff (l := l), List.mem_cons]
    constructor
    · rintro (h | h)
      · exact .inl (Nat.eq_of_beq_eq_true h).symm
      · exact .inr h
    · rintro (rfl | h)
      · exact .inl (Nat.beq_refl _)
      · exact .inr h
theorem nodupB_iff : ∀ {l : List Nat}, nodupB l = true → l.Nodup
  | [], _ => List.nodup_nil
  | x :: l, h => by
    simp only [nodupB, Bool.and_eq_true, Bool.not_eq_true'] at h
    refine List.nodup_cons.2 ⟨fun hx => ?_, nodupB_iff h.2⟩
    rw [memB_iff.2 hx] at h
    cases h.1
/-- what pure operations give does not hang on the heap -/
theorem pure_heap {T : Tab} {h h' : Tr CObj} {f : Ev} {o : Op} (hk : kindOf o = .pure) : cop T h f o = cop T h' f o := by
  cases o with
  | call c =>
    obtain ⟨ce, args, ts⟩ := c
    cases ce with
    | builtin b =>
      simp only [cop, callC]
      cases evs f args.toList with
      | none => rfl
      | some l =>
        cases b <;> first
          | rfl
          | (simp [kindOf] at hk; done)
          | (cases l with
            | nil => rfl
            | cons x l => cases l with
              | nil => cases x <;> rfl
              | cons y l => cases x <;> cases l <;> rfl)
    | _ => simp [kindOf] at hk
  | _ => first | rfl | (simp [kindOf] at hk)
theorem fresh_heap {T : Tab} {h h' : Tr CObj} {f : Ev} {o : Op} (hk : kindOf o = .fresh) : cop T h f o = cop T h' f o := by
  cases o with
  | call c =>
    obtain ⟨ce, args, ts⟩ := c
    cases ce with
    | builtin b => cases b <;> simp [kindOf] at hk
    | _ => simp [kindOf] at hk
  | _ => first | rfl | (simp [kindOf] at hk)
theorem valOf_quiet {s : CSt} {r : OpR} {v : Value} (h : valOf r = some v) : quietK s r outV0 = some ⟨v, s⟩ := by
  cases r with
  | val u => cases h; simp [quietK, force_eq, outV0]
  | done u => cases h; rfl
  | int k n => cases h; simp [quietK, forceInt_eq, outV0]
  | bool b => cases h; cases b <;> rfl
  | addr b o => cases h; simp [quietK, forceNat_eq, outV0]
  | _ => cases h
theorem entsEq_eq : ∀ {l m : List MapEntry}, entsEq l m = true → l = m
  | [], [], _ => rfl
  | [], _ :: _, h => by simp [entsEq] at h
  | ⟨a, b, c⟩ :: l, [], h => by simp [entsEq] at h
  | ⟨a, b, c⟩ :: l, ⟨a', b', c'⟩ :: m, h => by
    simp only [entsEq, Bool.and_eq_true] at h
    rw [veq_eq h.1, veq_eq h.2.1, nbeq_true h.2.2.1, entsEq_eq h.2.2.2]
theorem objSame_eq {a b : CObj} (h : objSame a b = true) : a = b := by
  unfold objSame at h
  split at h
  · simp only [Bool.and_eq_true] at h
    rw [veqs_eq h.1, nbeq_true h.2.1, nbeq_true h.2.2.1, nbeq_true h.2.2.2]
  · simp only [Bool.and_eq_true] at h
    rw [entsEq_eq h.1, nbeq_true h.2]
  · cases h
def maskOf (acc : Array Nat) (l : List Edge) (m : Nat) : Nat := l.foldl (fun s e => if Region.binds .any e then s ||| 2 ^ e.on ||| acc.getD e.on 0 else s) m
theorem maskOf_bit (acc : Array Nat) (k : Nat) : ∀ (l : List Edge) (m : Nat), Nat.testBit (maskOf acc l m) k = true → Nat.testBit m k = true ∨ ∃ e ∈ l, Region.binds .any e = true ∧ (k = e.on ∨ Nat.testBit (acc.getD e.on 0) k = true)
  | [], m, h => .inl h
  | e :: l, m, h => by
    simp only [maskOf, List.foldl_cons] at h
    rcases maskOf_bit acc k l _ h with h1 | ⟨e', h1, h2, h3⟩
    · split at h1
      · rename_i hb
        rw [Nat.testBit_or, Nat.testBit_or, Bool.or_eq_true, Bool.or_eq_true] at h1
        rcases h1 with (h1 | h1) | h1
        · exact .inl h1
        · rw [Nat.testBit_two_pow] at h1
          exact .inr ⟨e, by simp, hb, .inl (by simp at h1; exact h1.symm)⟩
        · exact .inr ⟨e, by simp, hb, .inr h1⟩
      · exact .inl h1
    · exact .inr ⟨e', by simp [h1], h2, h3⟩
def beforeL (l : List Oper) (acc : Array Nat) : Array Nat := l.foldl (fun acc o => acc.push (maskOf acc o.after.toList 0)) acc
theorem before_eq (ops : Array Oper) : Region.before ops = beforeL ops.toList #[] := by
  unfold Region.before beforeL
  rw [← Array.foldl_toList]
  congr 1
  funext acc o
  unfold maskOf
  rw [← Array.foldl_toList]
theorem beforeL_old : ∀ (l : List Oper) (acc : Array Nat) (i : Nat), i < acc.size → (beforeL l acc).getD i 0 = acc.getD i 0
  | [], acc, i, h => rfl
  | o :: l, acc, i, h => by
    show (beforeL l (acc.push _)).getD i 0 = _
    rw [beforeL_old l _ i (by simp; omega)]
    simp only [Array.getD_eq_getD_getElem?]
    rw [Array.getElem?_push, if_neg (by omega)]
theorem beforeL_spec (k : Nat) : ∀ (l : List Oper) (acc : Array Nat) (i : Nat), Nat.testBit ((beforeL l acc).getD i 0) k = true →
    (i < acc.size) ∨ ∃ o, l[i - acc.size]? = some o ∧ acc.size ≤ i ∧ ∃ e ∈ o.after.toList, Region.binds .any e = true ∧ (k = e.on ∨ (e.on < i ∧ Nat.testBit ((beforeL l acc).getD e.on 0) k = true))
  | [], acc, i, h => by
    by_cases hi : i < acc.size
    · exact .inl hi
    · simp only [beforeL, List.foldl_nil, Array.getD_eq_getD_getElem?] at h
      rw [Array.getElem?_eq_none (by omega)] at h
      simp at h
  | o :: l, acc, i, h => by
    have h' : Nat.testBit ((beforeL l (acc.push (maskOf acc o.after.toList 0))).getD i 0) k = true := h
    by_cases hi : i < acc.size
    · exact .inl hi
    · right
      by_cases hi2 : i = acc.size
      · rw [beforeL_old l _ i (by simp; omega)] at h'
        simp only [Array.getD_eq_getD_getElem?] at h'
        rw [Array.getElem?_push, if_pos hi2] at h'
        simp only [Option.getD_some] at h'
        rcases maskOf_bit acc k _ _ h' with h1 | ⟨e, h1, h2, h3⟩
        · simp at h1
        · refine ⟨o, by rw [hi2]; simp, by omega, e, h1, h2, ?_⟩
          rcases h3 with h3 | h3
          · exact .inl h3
          · right
            have he : e.on < acc.size := by
              apply Nat.lt_of_not_le
              intro hle
              simp only [Array.getD_eq_getD_getElem?] at h3
              rw [Array.getElem?_eq_none hle] at h3
              simp at h3
            refine ⟨by omega, ?_⟩
            have : (beforeL (o :: l) acc).getD e.on 0 = acc.getD e.on 0 := beforeL_old (o :: l) acc _ he
            rw [this]; exact h3
      · rcases beforeL_spec k l _ i h' with h1 | ⟨o', h1, h2, e, h3, h4, h5⟩
        · simp at h1; omega
        · simp at h1 h2
          refine ⟨o', ?_, by omega, e, h3, h4, h5⟩
          rw [show i - acc.size = (i - (acc.size + 1)) + 1 from by omega, List.getElem?_cons_succ]
          exact h1
/-- what comes before an operation, link by link -/
theorem before_spec (ops : Array Oper) (i k : Nat) (h : Nat.testBit ((Region.before ops).getD i 0) k = true) : ∃ o, ops[i]? = some o ∧ ∃ e ∈ o.after.toList, Region.binds .any e = true ∧
    (k = e.on ∨ (e.on < i ∧ Nat.testBit ((Region.before ops).getD e.on 0) k = true)) := by
  rw [before_eq] at h ⊢
  rcases beforeL_spec k _ _ i h with h1 | ⟨o, h1, h2, h3⟩
  · simp at h1
  · refine ⟨o, ?_, h3⟩
    simp at h1
    exact h1
end Go.Canon
end
section
namespace Go.Canon
open Go Go.RowKit
set_option linter.unusedSectionVars false
/-! ### regions that draw their order: the plan's run -/
structure RSt where
  m : Nat
  hs : List (Tr CObj)
  logs : List Log
  a : CAct
  s : CSt
/-- what one item of a plan does -/
inductive StepI (T : Tab) (self : Self) (ops : Array Oper) (i : Item) (st : RSt) : RSt → Prop
  | skipE {a' : CAct} : wantedC ops st.a i.o = false → isEff i.kind = true → putR st.a i.o.dst undef = some a' → StepI T self ops i st ⟨st.m + 1, st.s.heap :: st.hs, st.logs, a', st.s⟩
  | skip {a' : CAct} : wantedC ops st.a i.o = false → isEff i.kind = false → putR st.a i.o.dst undef = some a' → StepI T self ops i st ⟨st.m, st.hs, st.logs, a', st.s⟩
  | pure {r : OpR} {v : Value} {a' : CAct} : wantedC ops st.a i.o = true → i.kind = .pure → cop T st.s.heap (ceval T st.a) i.o.op = some r → valOf r = some v → putR st.a i.o.dst v = some a' →
      StepI T self ops i st ⟨st.m, st.hs, st.logs, a', st.s⟩
  | read {r : OpR} {v : Value} {a' : CAct} : wantedC ops st.a i.o = true → i.kind = .read → cop T st.s.heap (ceval T st.a) i.o.op = some r → valOf r = some v → putR st.a i.o.dst v = some a' →
      StepI T self ops i st ⟨st.m, st.hs, .read i.o.op st.a v i.lo i.hi :: st.logs, a', st.s⟩
  | fresh {o : CObj} {mk : Nat → Value} {v : Value} {s' : CSt} {a' : CAct} : wantedC ops st.a i.o = true → i.kind = .fresh → cop T st.s.heap (ceval T st.a) i.o.op = some (.alloc o mk) →
      quietK st.s (.alloc o mk) outV0 = some ⟨v, s'⟩ → putR st.a i.o.dst v = some a' → StepI T self ops i st ⟨st.m, st.hs, .fresh st.s.next o i.lo i.hi :: st.logs, a', s'⟩
  | eff {r : OpR} {v : Value} {s' : CSt} {a' : CAct} : wantedC ops st.a i.o = true → isEff i.kind = true → cop T st.s.heap (ceval T st.a) i.o.op = some r → outP i.o.op self st.s r = some ⟨v, s'⟩ →
      putR st.a i.o.dst v = some a' → StepI T self ops i st ⟨st.m + 1, st.s.heap :: st.hs, st.logs, a', s'⟩
theorem evItems_run {T : Tab} {self : Self} {ops : Array Oper} {k : CAct → CSt → Option COut} {x : COut} : ∀ (l : List Item) (m : Nat) (hs : List (Tr CObj)) (logs : List Log) (a : CAct) (s : CSt), evItems T self ops l m hs logs a s k = some x →
    ∃ σ : Nat → RSt, σ 0 = ⟨m, hs, logs, a, s⟩ ∧ (∀ p i, l[p]? = some i → StepI T self ops i (σ p) (σ (p + 1))) ∧
      checkLogs T (σ l.length).logs (σ l.length).m ((σ l.length).s.heap :: (σ l.length).hs) = true ∧ k (σ l.length).a (σ l.length).s = some x
  | [], m, hs, logs, a, s, h => by
    simp only [evItems] at h
    split at h
    · rename_i hc
      exact ⟨fun _ => ⟨m, hs, logs, a, s⟩, rfl, fun p i hi => by simp at hi, hc, h⟩
    · cases h
  | i :: l, m, hs, logs, a, s, h => by
    have key : ∀ (st' : RSt), StepI T self ops i ⟨m, hs, logs, a, s⟩ st' → evItems T self ops l st'.m st'.hs st'.logs st'.a st'.s k = some x →
        ∃ σ : Nat → RSt, σ 0 = ⟨m, hs, logs, a, s⟩ ∧ (∀ p j, (i :: l)[p]? = some j → StepI T self ops j (σ p) (σ (p + 1))) ∧
          checkLogs T (σ (i :: l).length).logs (σ (i :: l).length).m ((σ (i :: l).length).s.heap :: (σ (i :: l).length).hs) = true ∧ k (σ (i :: l).length).a (σ (i :: l).length).s = some x := by
      intro st' h1 h2
      obtain ⟨σ, q1, q2, q3, q4⟩ := evItems_run l _ _ _ _ _ h2
      refine ⟨fun p => match p with | 0 => ⟨m, hs, logs, a, s⟩ | p + 1 => σ p, rfl, ?_, q3, q4⟩
      intro p j hj
      cases p with
      | zero =>
        simp at hj
        subst hj
        show StepI T self ops i _ (σ 0)
        rw [q1]; exact h1
      | succ p => exact q2 p j (by simpa using hj)
    simp only [evItems] at h
    split at h
    · rename_i hw
      split at h
      · rename_i r hc
        split at h
        · rename_i hk
          split at h
          · rename_i v hv
            rw [quietK_bind, valOf_quiet hv] at h
            simp only [Option.bind_some] at h
            rw [putK_bind] at h
            cases hp : putR a i.o.dst v with
            | none => rw [hp] at h; cases h
            | some a' => rw [hp] at h; exact key _ (.pure hw hk hc hv hp) h
          · cases h
        · rename_i hk
          split at h
          · rename_i v hv
            rw [quietK_bind, valOf_quiet hv] at h
            simp only [Option.bind_some] at h
            rw [putK_bind] at h
            cases hp : putR a i.o.dst v with
            | none => rw [hp] at h; cases h
            | some a' => rw [hp] at h; exact key _ (.read hw hk hc hv hp) h
          · cases h
        · rename_i hk
          split at h
          · rename_i o mk
            rw [quietK_bind] at h
            cases hq : quietK s (.alloc o mk) outV0 with
            | none => rw [hq] at h; cases h
            | some ov =>
              obtain ⟨v, s'⟩ := ov
              rw [hq] at h
              simp only [Option.bind_some] at h
              rw [putK_bind] at h
              cases hp : putR a i.o.dst v with
              | none => rw [hp] at h; cases h
              | some a' => rw [hp] at h; exact key _ (.fresh hw hk hc hq hp) h
          · cases h
        · rename_i hk
          rw [outO_bind] at h
          cases hq : outP i.o.op self s r with
          | none => rw [hq] at h; cases h
          | some ov =>
            obtain ⟨v, s'⟩ := ov
            rw [hq] at h
            simp only [Option.bind_some] at h
            rw [putK_bind] at h
            cases hp : putR a i.o.dst v with
            | none => rw [hp] at h; cases h
            | some a' => rw [hp] at h; exact key _ (.eff hw (by rw [hk]; rfl) hc hq hp) h
      · cases h
    · rename_i hw
      rw [putK_bind] at h
      cases hp : putR a i.o.dst undef with
      | none => rw [hp] at h; cases h
      | some a' =>
        rw [hp] at h
        simp only [Option.bind_some] at h
        cases hk : i.kind with
        | eff => rw [hk] at h; exact key _ (.skipE hw (by rw [hk]; rfl) hp) h
        | pure => rw [hk] at h; exact key _ (.skip hw (by rw [hk]; rfl) hp) h
        | read => rw [hk] at h; exact key _ (.skip hw (by rw [hk]; rfl) hp) h
        | fresh => rw [hk] at h; exact key _ (.skip hw (by rw [hk]; rfl) hp) h
theorem atLevels_mem {ks : List (Nat × Item)} : ∀ (l : List Nat) (n : Nat) (i : Item), i ∈ atLevels ks n l → ∃ m, (m, i) ∈ ks
  | [], n, i, h => by simp [atLevels] at h
  | _ :: l, n, i, h => by
    simp only [atLevels, List.mem_append] at h
    rcases h with h | h
    · rw [List.mem_filterMap] at h
      obtain ⟨p, h1, h2⟩ := h
      cases hb : Nat.beq p.1 n with
      | false => rw [hb] at h2; cases h2
      | true => rw [hb] at h2; cases h2; exact ⟨p.1, h1⟩
    · exact atLevels_mem l _ i h
theorem planOf_spec {ops : Array Oper} {its : List Item} (h : planOf ops = some its) :
    planOk ops (Region.before ops) (effsOf its) its = true ∧ ∀ i ∈ its, ops[i.ix]? = some i.o ∧ i.kind = kindOf i.o.op := by
  unfold planOf at h
  simp only at h
  generalize hg : atLevels _ _ _ = l at h
  cases hb : planOk ops (Region.before ops) (effsOf l) l with
  | false => rw [hb] at h; cases h
  | true =>
    rw [hb] at h; cases h
    refine ⟨hb, fun i hi => ?_⟩
    rw [← hg] at hi
    obtain ⟨m, hm⟩ := atLevels_mem _ _ _ hi
    rw [List.mem_map] at hm
    obtain ⟨q, h1, h2⟩ := hm
    simp only [Prod.mk.injEq] at h2
    obtain ⟨_, rfl⟩ := h2
    have := List.mem_zipIdx h1
    simp at this
    simp only
    refine ⟨?_, trivial⟩
    rw [Array.getElem?_eq_getElem this.1]
    exact congrArg some this.2.symm
/-- all that is known of a plan and of its run -/
structure Play (T : Tab) (me : Self) (ops : Array Oper) (its : List Item) (σ : Nat → RSt) : Prop where
  step : ∀ p i, its[p]? = some i → StepI T me ops i (σ p) (σ (p + 1))
  m0 : (σ 0).m = 0
  hs0 : (σ 0).hs = []
  check : checkLogs T (σ its.length).logs (σ its.length).m ((σ its.length).s.heap :: (σ its.length).hs) = true
  item : ∀ i ∈ its, ops[i.ix]? = some i.o ∧ i.kind = kindOf i.o.op
  all : ∀ k, k < ops.size → ∃ i ∈ its, i.ix = k
  nodup : (its.map (·.ix)).Nodup
  dsts : (dstsOf its).Nodup
  levels : levelsOk its 0 = true
  confl : conflOk ops (Region.before ops) its = true
  win : ∀ i ∈ its, windowOk (Region.before ops) (effsOf its) i = true
  edges : ∀ i ∈ its, edgesOk i.ix i.o = true
theorem Play.of {T : Tab} {self : Self} {ops : Array Oper} {its : List Item} {σ : Nat → RSt} (h : planOf ops = some its) (h1 : ∀ p i, its[p]? = some i → StepI T self ops i (σ p) (σ (p + 1)))
    (h2 : (σ 0).m = 0) (h3 : (σ 0).hs = []) (h4 : checkLogs T (σ its.length).logs (σ its.length).m ((σ its.length).s.heap :: (σ its.length).hs) = true) : Play T self ops its σ := by
  obtain ⟨q1, q2⟩ := planOf_spec h
  unfold planOk at q1
  simp only [Bool.and_eq_true, List.all_eq_true] at q1
  obtain ⟨a1, a2, a3, a4, a5, a6, a7⟩ := q1
  exact ⟨h1, h2, h3, h4, q2, fun k hk => by
    have := memB_iff.1 (a1 k (by simpa using hk))
    rw [List.mem_map] at this
    exact this, nodupB_iff a2, nodupB_iff a3, a4, a5, a6, a7⟩
end Go.Canon
end
section
namespace Go.Canon
open Go Go.RowKit
set_option linter.unusedSectionVars false
/-! ### a plan's run: what stays, what is known -/
theorem putR_get {a a' : CAct} {dst : Option Tmp} {v : Value} (h : putR a dst v = some a') :
    (∀ t, a'.tm.get t = if dst = some t then some v else a.tm.get t) ∧ a'.size = a.size ∧ a'.defers = a.defers ∧ (∀ d, dst = some d → d < a.size) := by
  obtain ⟨tm, size, ds⟩ := a
  cases dst with
  | none => cases h; exact ⟨fun t => by simp, rfl, rfl, fun d hd => by cases hd⟩
  | some d =>
    simp only [putR, putK] at h
    cases hb : Nat.blt d size with
    | false => rw [hb] at h; cases h
    | true =>
      rw [hb] at h
      obtain ⟨t', h1, h2, h3⟩ := Tr.setK_spec h
      cases h1
      refine ⟨fun t => ?_, rfl, rfl, fun d' hd' => by cases hd'; simpa [Nat.blt_eq] using hb⟩
      by_cases ht : d = t
      · subst ht; rw [if_pos rfl]; exact h2
      · rw [if_neg (fun q => ht (Option.some.inj q))]; exact h3 t (fun q => ht q.symm)
theorem dstsOf_mem {d : Nat} : ∀ {l : List Item} {p : Nat} {i : Item}, l[p]? = some i → i.o.dst = some d → d ∈ dstsOf l
  | [], p, i, h, _ => by simp at h
  | j :: l, 0, i, h, hd => by
    simp at h; subst h
    simp only [dstsOf, hd]
    exact List.mem_cons_self ..
  | j :: l, p + 1, i, h, hd => by
    have := dstsOf_mem (l := l) (p := p) (by simpa using h) hd
    simp only [dstsOf]
    split
    · exact List.mem_cons_of_mem _ this
    · exact this
theorem dstsOf_inj {d : Nat} : ∀ {l : List Item} {p q : Nat} {i j : Item}, (dstsOf l).Nodup → l[p]? = some i → l[q]? = some j → i.o.dst = some d → j.o.dst = some d → p = q
  | [], p, q, i, j, _, h, _, _, _ => by simp at h
  | x :: l, 0, 0, i, j, _, _, _, _, _ => rfl
  | x :: l, 0, q + 1, i, j, hn, h1, h2, h3, h4 => by
    simp at h1; subst h1
    simp only [dstsOf, h3] at hn
    exact absurd (dstsOf_mem (l := l) (p := q) (by simpa using h2) h4) (List.nodup_cons.1 hn).1
  | x :: l, p + 1, 0, i, j, hn, h1, h2, h3, h4 => by
    simp at h2; subst h2
    simp only [dstsOf, h4] at hn
    exact absurd (dstsOf_mem (l := l) (p := p) (by simpa using h1) h3) (List.nodup_cons.1 hn).1
  | x :: l, p + 1, q + 1, i, j, hn, h1, h2, h3, h4 => by
    have hn' : (dstsOf l).Nodup := by
      simp only [dstsOf] at hn
      split at hn
      · exact (List.nodup_cons.1 hn).2
      · exact hn
    exact congrArg (· + 1) (dstsOf_inj hn' (by simpa using h1 : l[p]? = some i) (by simpa using h2 : l[q]? = some j) h3 h4)
theorem levelsOk_drop : ∀ (l : List Item) (m : Nat), levelsOk l m = true → ∀ i l', l = i :: l' → i.lo = m ∧ levelsOk l' (if isEff i.kind then m + 1 else m) = true := by
  intro l m h i l' e
  subst e
  simp only [levelsOk, Bool.and_eq_true] at h
  refine ⟨nbeq_true h.1, ?_⟩
  cases hk : isEff i.kind <;> rw [hk] at h <;> simpa using h.2
theorem conflOk_pair {ops : Array Oper} {b : Array Nat} : ∀ {l : List Item} {p q : Nat} {i j : Item}, conflOk ops b l = true → l[p]? = some i → l[q]? = some j → p < q →
    (writes j.o (reads ops i.o) = true ∨ writes i.o (reads ops j.o) = true) → Nat.testBit (b.getD j.ix 0) i.ix = true
  | [], p, q, i, j, _, h, _, _, _ => by simp at h
  | x :: l, 0, 0, i, j, _, _, _, hlt, _ => absurd hlt (Nat.lt_irrefl _)
  | x :: l, p + 1, 0, i, j, _, _, _, hlt, _ => absurd hlt (Nat.not_lt_zero _)
  | x :: l, 0, q + 1, i, j, hc, h1, h2, _, hw => by
    simp at h1; subst h1
    simp only [conflOk, Bool.and_eq_true, List.all_eq_true] at hc
    have hj : j ∈ l := List.mem_of_getElem? (i := q) (by simpa using h2)
    have := hc.2.1 j hj
    rw [Bool.or_eq_true] at this
    rcases this with this | this
    · exfalso
      rw [Bool.not_eq_true', Bool.or_eq_false_iff] at this
      rcases hw with hw | hw
      · rw [this.1] at hw; cases hw
      · rw [this.2] at hw; cases hw
    · exact this
  | x :: l, p + 1, q + 1, i, j, hc, h1, h2, hlt, hw => by
    simp only [conflOk, Bool.and_eq_true] at hc
    exact conflOk_pair hc.2.2 (by simpa using h1) (by simpa using h2) (Nat.lt_of_succ_lt_succ hlt) hw
theorem conflOk_self {ops : Array Oper} {b : Array Nat} : ∀ {l : List Item} {p : Nat} {i : Item}, conflOk ops b l = true → l[p]? = some i → writes i.o (reads ops i.o) = false
  | [], p, i, _, h => by simp at h
  | x :: l, 0, i, hc, h1 => by
    simp at h1; subst h1
    simp only [conflOk, Bool.and_eq_true, Bool.not_eq_true'] at hc
    exact hc.1
  | x :: l, p + 1, i, hc, h1 => by
    simp only [conflOk, Bool.and_eq_true] at hc
    exact conflOk_self hc.2.2 (by simpa using h1)
theorem writes_iff {o : Oper} {rs : List Nat} {t : Nat} (h : o.dst = some t) (ht : t ∈ rs) : writes o rs = true := by
  unfold writes; rw [h]; exact memB_iff.2 ht
theorem checkLogs_at {T : Tab} {logs : List Log} : ∀ {l : List (Tr CObj)} {m i : Nat} {h : Tr CObj}, checkLogs T logs m l = true → l[i]? = some h → ∀ g ∈ logs, logOk T h (m - i) g = true
  | [], m, i, h, _, hi => by simp at hi
  | x :: l, m, 0, h, hc, hi => by
    simp at hi; subst hi
    simp only [checkLogs, Bool.and_eq_true, List.all_eq_true] at hc
    exact hc.1
  | x :: l, m, i + 1, h, hc, hi => by
    simp only [checkLogs, Bool.and_eq_true] at hc
    have := checkLogs_at (m := Nat.pred m) (i := i) hc.2 (by simpa using hi)
    rw [show m - (i + 1) = Nat.pred m - i from by rw [Nat.pred_eq_sub_one]; omega]
    exact this
section
variable {T : Tab} {self : Self} {ops : Array Oper} {its : List Item} {σ : Nat → RSt} (pl : Play T self ops its σ)
include pl
theorem Play.put {p : Nat} {i : Item} (hi : its[p]? = some i) : ∃ v, putR (σ p).a i.o.dst v = some (σ (p + 1)).a := by
  have := pl.step p i hi
  generalize σ (p + 1) = st at this
  cases this with
  | skipE _ _ h => exact ⟨_, h⟩
  | skip _ _ h => exact ⟨_, h⟩
  | pure _ _ _ _ h => exact ⟨_, h⟩
  | read _ _ _ _ h => exact ⟨_, h⟩
  | fresh _ _ _ _ h => exact ⟨_, h⟩
  | eff _ _ _ _ h => exact ⟨_, h⟩
theorem Play.m_succ {p : Nat} {i : Item} (hi : its[p]? = some i) : (σ (p + 1)).m = if isEff i.kind then (σ p).m + 1 else (σ p).m := by
  have := pl.step p i hi
  generalize σ (p + 1) = st at this
  cases this with
  | skipE _ h _ => rw [if_pos h]
  | skip _ h _ => rw [if_neg (by rw [h]; simp)]
  | pure _ h _ _ _ => rw [h]; rfl
  | read _ h _ _ _ => rw [h]; rfl
  | fresh _ h _ _ _ => rw [h]; rfl
  | eff _ h _ _ _ => rw [if_pos h]
theorem Play.lo_eq : ∀ (p : Nat), p ≤ its.length → levelsOk (its.drop p) (σ p).m = true := by
  intro p
  induction p with
  | zero => intro _; rw [List.drop_zero, pl.m0]; exact pl.levels
  | succ p ih =>
    intro hp
    have h1 := ih (by omega)
    have hlt : p < its.length := by omega
    have hi : its[p]? = some its[p] := List.getElem?_eq_getElem hlt
    rw [List.drop_eq_getElem_cons hlt] at h1
    have := (levelsOk_drop _ _ h1 _ _ rfl).2
    rw [pl.m_succ hi]
    exact this
theorem Play.lo {p : Nat} {i : Item} (hi : its[p]? = some i) : i.lo = (σ p).m := by
  have hlt := (List.getElem?_eq_some_iff.1 hi).1
  have h1 := pl.lo_eq p (by omega)
  rw [List.drop_eq_getElem_cons hlt] at h1
  have := (levelsOk_drop _ _ h1 _ _ rfl).1
  rw [(List.getElem?_eq_some_iff.1 hi).2] at this
  exact this
theorem Play.m_mono {p q : Nat} (h : p ≤ q) (hq : q ≤ its.length) : (σ p).m ≤ (σ q).m := by
  induction q with
  | zero => rw [Nat.le_zero.1 h]; exact Nat.le_refl _
  | succ q ih =>
    by_cases hp : p = q + 1
    · rw [hp]; exact Nat.le_refl _
    · have hlt : q < its.length := by omega
      have := pl.m_succ (List.getElem?_eq_getElem hlt)
      have h2 := ih (by omega) (by omega)
      split at this <;> omega
theorem Play.sizes : ∀ (p : Nat), p ≤ its.length → (σ p).a.size = (σ 0).a.size ∧ (σ p).a.defers = (σ 0).a.defers := by
  intro p
  induction p with
  | zero => intro _; exact ⟨rfl, rfl⟩
  | succ p ih =>
    intro hp
    have hlt : p < its.length := by omega
    obtain ⟨v, hv⟩ := pl.put (List.getElem?_eq_getElem hlt)
    obtain ⟨_, q2, q3, _⟩ := putR_get hv
    have := ih (by omega)
    exact ⟨q2.trans this.1, q3.trans this.2⟩
theorem Play.unwritten {t p q : Nat} (h : p ≤ q) (hq : q ≤ its.length) (hn : ∀ r i, p ≤ r → r < q → its[r]? = some i → i.o.dst ≠ some t) : (σ q).a.tm.get t = (σ p).a.tm.get t := by
  induction q with
  | zero => rw [Nat.le_zero.1 h]
  | succ q ih =>
    by_cases hp : p = q + 1
    · rw [hp]
    · have hlt : q < its.length := by omega
      have hi := List.getElem?_eq_getElem hlt
      obtain ⟨v, hv⟩ := pl.put hi
      obtain ⟨q1, _⟩ := putR_get hv
      rw [q1, if_neg (hn q _ (by omega) (by omega) hi)]
      exact ih (by omega) (by omega) (fun r i h1 h2 h3 => hn r i h1 (by omega) h3)
theorem Play.written {t p q : Nat} {i : Item} (hi : its[p]? = some i) (hd : i.o.dst = some t) (h : p < q) (hq : q ≤ its.length) : (σ q).a.tm.get t = (σ (p + 1)).a.tm.get t :=
  pl.unwritten h hq (fun r j h1 h2 h3 h4 => by have := dstsOf_inj pl.dsts hi h3 hd h4; omega)
/-- the last place of a level -/
def Last (its : List Item) (q : Nat) : Prop := q ≤ its.length ∧ (q = its.length ∨ ∃ i, its[q]? = some i ∧ isEff i.kind = true)
theorem Play.hs_len : ∀ (p : Nat), p ≤ its.length → (σ p).hs.length = (σ p).m := by
  intro p
  induction p with
  | zero => intro _; rw [pl.hs0, pl.m0]; rfl
  | succ p ih =>
    intro hp
    have hlt : p < its.length := by omega
    have h1 := ih (by omega)
    have := pl.step p _ (List.getElem?_eq_getElem hlt)
    generalize σ (p + 1) = st at this ⊢
    cases this <;> simp [h1]
theorem Play.hs_suffix {p q : Nat} (h : p ≤ q) (hq : q ≤ its.length) : ∃ pre, (σ q).hs = pre ++ (σ p).hs := by
  induction q with
  | zero => rw [Nat.le_zero.1 h]; exact ⟨[], rfl⟩
  | succ q ih =>
    by_cases hp : p = q + 1
    · rw [hp]; exact ⟨[], rfl⟩
    · have hlt : q < its.length := by omega
      obtain ⟨pre, hpre⟩ := ih (by omega) (by omega)
      have := pl.step q _ (List.getElem?_eq_getElem hlt)
      generalize σ (q + 1) = st at this ⊢
      cases this with
      | skipE => exact ⟨(σ q).s.heap :: pre, by simp [hpre]⟩
      | eff => exact ⟨(σ q).s.heap :: pre, by simp [hpre]⟩
      | _ => exact ⟨pre, hpre⟩
theorem Play.heap_at {q : Nat} (h : Last its q) : ((σ its.length).s.heap :: (σ its.length).hs)[(σ its.length).m - (σ q).m]? = some (σ q).s.heap := by
  obtain ⟨hle, h⟩ := h
  rcases h with rfl | ⟨i, hi, he⟩
  · simp
  · have hlt := (List.getElem?_eq_some_iff.1 hi).1
    have hm := pl.m_succ hi
    rw [if_pos he] at hm
    have hhs : (σ (q + 1)).hs = (σ q).s.heap :: (σ q).hs := by
      have := pl.step q _ hi
      generalize σ (q + 1) = st at this
      cases this with
      | skipE => rfl
      | eff => rfl
      | skip _ h => rw [h] at he; cases he
      | pure _ h => rw [h] at he; cases he
      | read _ h => rw [h] at he; cases he
      | fresh _ h => rw [h] at he; cases he
    obtain ⟨pre, hpre⟩ := pl.hs_suffix (p := q + 1) (q := its.length) hlt (Nat.le_refl _)
    have hl := pl.hs_len its.length (Nat.le_refl _)
    have hl2 := pl.hs_len q hle
    rw [hpre, hhs] at hl ⊢
    simp at hl
    have e : (σ its.length).m - (σ q).m = pre.length + 1 := by omega
    rw [e, List.getElem?_cons_succ, List.getElem?_append_right (Nat.le_refl _)]
    simp
theorem Play.logs_mono {p q : Nat} (h : p ≤ q) (hq : q ≤ its.length) {g : Log} (hg : g ∈ (σ p).logs) : g ∈ (σ q).logs := by
  induction q with
  | zero => rw [Nat.le_zero.1 h] at hg; exact hg
  | succ q ih =>
    by_cases hp : p = q + 1
    · rw [← hp]; exact hg
    · have hlt : q < its.length := by omega
      have h1 := ih (by omega) (by omega)
      have := pl.step q _ (List.getElem?_eq_getElem hlt)
      generalize σ (q + 1) = st at this ⊢
      cases this <;> first | exact h1 | exact List.mem_cons_of_mem _ h1
theorem Play.log_ok {q : Nat} (hq : Last its q) {p : Nat} (hp : p ≤ its.length) {g : Log} (hg : g ∈ (σ p).logs) : logOk T (σ q).s.heap (σ q).m g = true := by
  have h1 := checkLogs_at pl.check (pl.heap_at hq) g (pl.logs_mono hp (Nat.le_refl _) hg)
  have := pl.m_mono hq.1 (Nat.le_refl _)
  rw [show (σ its.length).m - ((σ its.length).m - (σ q).m) = (σ q).m from by omega] at h1
  exact h1
/-- between two places of one level: new objects alone -/
theorem Play.seg {p q : Nat} (h : p ≤ q) (hq : q ≤ its.length) (hm : (σ p).m = (σ q).m) : (σ p).s.next ≤ (σ q).s.next ∧ ∀ i, i < (σ p).s.next → (σ q).s.heap.get i = (σ p).s.heap.get i := by
  induction q with
  | zero => rw [Nat.le_zero.1 h]; exact ⟨Nat.le_refl _, fun _ _ => rfl⟩
  | succ q ih =>
    by_cases hp : p = q + 1
    · rw [hp]; exact ⟨Nat.le_refl _, fun _ _ => rfl⟩
    · have hlt : q < its.length := by omega
      have hi := List.getElem?_eq_getElem hlt
      have m1 := pl.m_mono (p := p) (q := q) (by omega) (by omega)
      have m2 := pl.m_succ hi
      have hne : isEff its[q].kind = false := by
        cases he : isEff its[q].kind with
        | false => rfl
        | true => rw [if_pos he] at m2; omega
      rw [if_neg (by rw [hne]; simp)] at m2
      obtain ⟨e1, e2⟩ := ih (by omega) (by omega) (by omega)
      have := pl.step q _ hi
      generalize σ (q + 1) = st at this ⊢
      cases this with
      | skipE _ h => rw [h] at hne; cases hne
      | eff _ h => rw [h] at hne; cases hne
      | fresh _ _ _ hqq _ =>
        have h2 := quiet_pack hqq
        obtain ⟨s1, g1, g2, g3, g4⟩ := quiet_alloc h2
        obtain ⟨_, rfl⟩ := packV_inj (Option.some.inj g1)
        exact ⟨by simp only; omega, fun i hlt => by
          simp only
          rw [g4 i (by omega)]; exact e2 i hlt⟩
      | _ => exact ⟨e1, e2⟩
end
theorem effsOf_at {its : List Item} : ∀ {m p : Nat} {i : Item}, levelsOk its m = true → its[p]? = some i → isEff i.kind = true → m ≤ i.lo ∧ (effsOf its)[i.lo - m]? = some i.ix := by
  induction its with
  | nil => intro m p i _ h; simp at h
  | cons x l ih =>
    intro m p i hl h he
    obtain ⟨h1, h2⟩ := levelsOk_drop _ _ hl _ _ rfl
    cases p with
    | zero =>
      simp at h; subst h
      rw [h1]
      refine ⟨Nat.le_refl _, ?_⟩
      simp [effsOf, he]
    | succ p =>
      have hp : l[p]? = some i := by simpa using h
      cases hx : isEff x.kind with
      | true =>
        rw [hx] at h2
        obtain ⟨a, b⟩ := ih h2 hp he
        simp only [if_true] at a b
        refine ⟨by omega, ?_⟩
        simp only [effsOf, hx]
        rw [show i.lo - m = (i.lo - (m + 1)) + 1 from by omega, List.getElem?_cons_succ]
        exact b
      | false =>
        rw [hx] at h2
        obtain ⟨a, b⟩ := ih h2 hp he
        simp only [Bool.false_eq_true, if_false] at a b
        refine ⟨a, ?_⟩
        simp only [effsOf, hx]
        exact b
end Go.Canon
end
section
namespace Go.Canon
open Go Go.RowKit
set_option linter.unusedSectionVars false
/-! ### regions that draw their order: in whatever order -/
theorem Rel.newAt {T : Tab} {base : Nat} {w0 w : World} {ρ : Ren} {s : CSt} (h : Rel T base w0 ρ s w) {id : Nat} {o : CObj} {r : Obj} {e : Ent} (hg : s.heap.get id = some o) (hρ : ρ id = none)
    (hid : id < s.next) (he : e.b = w.heap.size) (ho : OR T ρ e o r) : Rel T base w0 (Ren.set ρ id e) s { w with heap := w.heap.push r } := by
  have hlt : ∀ i o' e', s.heap.get i = some o' → ρ i = some e' → e'.b < w.heap.size := by
    intro i o' e' h1 h2
    obtain ⟨r', h3, _⟩ := h.obj i o' e' h1 h2
    exact (Array.getElem?_eq_some_iff.1 h3).1
  have hmono : ∀ i e', ρ i = some e' → (Ren.set ρ id e) i = some e' := by
    intro i e' hi
    rw [Ren.set_other]
    · exact hi
    · intro hc; rw [hc, hρ] at hi; cases hi
  have hold : ∀ i e', (Ren.set ρ id e) i = some e' → i ≠ id → ρ i = some e' := fun i e' h2 hi => by rw [Ren.set_other hi] at h2; exact h2
  have hpush : ∀ k, k < w.heap.size → (w.heap.push r)[k]? = w.heap[k]? := fun k hk => by rw [Array.getElem?_push, if_neg (by omega)]
  refine { obj := ?_, inj := ?_, own := ?_, dom := ?_, below := ?_, base_le := ?_, glob := ?_, gl := ?_ }
  · intro i o' e' h1 h2
    by_cases hi : i = id
    · subst hi
      rw [hg] at h1; rw [Ren.set_same] at h2; cases h1; cases h2
      exact ⟨r, by simp [he], ho.mono hmono⟩
    · have b := hold i e' h2 hi
      obtain ⟨r', h3, h4⟩ := h.obj i o' e' h1 b
      exact ⟨r', by show (w.heap.push r)[e'.b]? = _; rw [hpush _ (hlt i o' e' h1 b)]; exact h3, h4.mono hmono⟩
  · intro i j o1 o2 e1 e2 a1 a2 b1 b2 hb
    by_cases hi : i = id <;> by_cases hj : j = id
    · rw [hi, hj]
    · subst hi
      rw [Ren.set_same] at b1; cases b1
      have := hlt j o2 e2 a2 (hold j e2 b2 hj)
      omega
    · subst hj
      rw [Ren.set_same] at b2; cases b2
      have := hlt i o1 e1 a1 (hold i e1 b1 hi)
      omega
    · exact h.inj i j o1 o2 e1 e2 a1 a2 (hold i e1 b1 hi) (hold j e2 b2 hj) hb
  · intro i o' e' h1 h2
    by_cases hi : i = id
    · subst hi
      rw [Ren.set_same] at h2; cases h2
      exact .inl (he ▸ h.base_le)
    · exact h.own i o' e' h1 (hold i e' h2 hi)
  · intro i hi
    have : i ≠ id := by omega
    rw [Ren.set_other this]
    exact h.dom i hi
  · exact ⟨h.below.os, h.below.tape, h.below.output, by have := h.below.size; simp; omega, fun k hk => by
      have := h.base_le
      show (w.heap.push r)[k]? = _
      rw [hpush k (by omega)]; exact h.below.block k hk⟩
  · have := h.base_le; simp; omega
  · intro j oj hj
    obtain ⟨h1, e1, h2, h3⟩ := h.glob j oj hj
    exact ⟨h1, e1, hmono _ _ h2, h3⟩
  · intro g i hi
    obtain ⟨e1, h1, h2, h3⟩ := h.gl g i hi
    exact ⟨e1, hmono _ _ h1, h2, h3⟩
theorem Ext.newAt {ρ0 ρ : Ren} {s0 s : CSt} {w00 w : World} (h : Ext ρ0 s0 w00 ρ s w) {id : Nat} {r : Obj} {e : Ent} (hid : s0.next ≤ id) (he : e.b = w.heap.size) :
    Ext ρ0 s0 w00 (Ren.set ρ id e) s { w with heap := w.heap.push r } where
  keep i hi := by rw [Ren.set_other (by omega)]; exact h.keep i hi
  mono := h.mono
  size := by have := h.size; simp; omega
  frame b hb hn := by
    have := h.size
    show (w.heap.push r)[b]? = _
    rw [Array.getElem?_push, if_neg (by omega)]
    exact h.frame b hb hn
  fresh i o' e' h1 h2 := by
    by_cases hi : i = id
    · subst hi; rw [Ren.set_same] at h2; cases h2
      have := h.size
      exact .inr (by omega)
    · rw [Ren.set_other hi] at h2; exact h.fresh i o' e' h1 h2
/-- new objects that no real block stands for as yet -/
theorem Rel.grow {T : Tab} {base : Nat} {w0 w : World} {ρ : Ren} {s s' : CSt} (h : Rel T base w0 ρ s w) (hn : s.next ≤ s'.next) (hs : ∀ i, i < s.next → s'.heap.get i = s.heap.get i)
    (hd : ∀ i, s'.next ≤ i → s'.heap.get i = none) : Rel T base w0 ρ s' w := by
  have hlt : ∀ i e, ρ i = some e → i < s.next := fun i e hi => Nat.lt_of_not_le fun hle => by rw [(h.dom i hle).1] at hi; cases hi
  exact { obj := fun i o e h1 h2 => h.obj i o e (by rw [← hs i (hlt i e h2)]; exact h1) h2
          inj := fun i j o o' e e' h1 h2 h3 h4 h5 => h.inj i j o o' e e' (by rw [← hs i (hlt i e h3)]; exact h1) (by rw [← hs j (hlt j e' h4)]; exact h2) h3 h4 h5
          own := fun i o e h1 h2 => h.own i o e (by rw [← hs i (hlt i e h2)]; exact h1) h2
          dom := fun i hi => ⟨(h.dom i (by omega)).1, hd i hi⟩
          below := h.below, base_le := h.base_le
          glob := fun j o hj => by
            obtain ⟨h1, e1, h2, h3⟩ := h.glob j o hj
            exact ⟨by rw [hs j (hlt j e1 h2)]; exact h1, e1, h2, h3⟩
          gl := h.gl }
theorem Ext.grow {ρ0 ρ : Ren} {s0 s s' : CSt} {w00 w : World} (h : Ext ρ0 s0 w00 ρ s w) (hn : s.next ≤ s'.next) (hs : ∀ i e, ρ i = some e → s'.heap.get i = s.heap.get i) : Ext ρ0 s0 w00 ρ s' w where
  keep := h.keep
  mono := Nat.le_trans h.mono hn
  size := h.size
  frame := h.frame
  fresh i o' e' h1 h2 := h.fresh i o' e' (by rw [← hs i e' h2]; exact h1) h2
/-- the temporaries that a set of operations has written -/
def written (its : List Item) (listed : Array Bool) (t : Nat) : Bool := its.any fun i => decide (i.o.dst = some t) && listed.getD i.ix false
noncomputable def flOf (its : List Item) (fin a0 : Tr Value) (listed : Array Bool) (t : Nat) : Option Value := if written its listed t = true then fin.get t else a0.get t
noncomputable def actS (its : List Item) (fin a0 : CAct) (listed : Array Bool) : CAct := ⟨Tr.ofFn 48 (flOf its fin.tm a0.tm listed), a0.size, a0.defers⟩
theorem actS_get {its : List Item} {fin a0 : CAct} {listed : Array Bool} (t : Nat) : (actS its fin a0 listed).tm.get t = flOf its fin.tm a0.tm listed t := by
  by_cases h : t < 281474976710655
  · exact Tr.ofFn_get h
  · have hb : 281474976710655 ≤ t := by omega
    unfold flOf
    rw [Tr.get_big hb, Tr.get_big hb]
    split
    · rfl
    · exact (Tr.get_big hb).symm
theorem written_iff {its : List Item} {listed : Array Bool} {t : Nat} : written its listed t = true ↔ ∃ (p : Nat) (i : Item), its[p]? = some i ∧ i.o.dst = some t ∧ listed.getD i.ix false = true := by
  unfold written
  rw [List.any_eq_true]
  constructor
  · rintro ⟨i, h1, h2⟩
    simp only [Bool.and_eq_true, decide_eq_true_iff] at h2
    obtain ⟨p, hp⟩ := List.getElem?_of_mem h1
    exact ⟨p, i, hp, h2.1, h2.2⟩
  · rintro ⟨p, i, h1, h2, h3⟩
    exact ⟨i, List.mem_of_getElem? h1, by simp [h2, h3]⟩
section
variable {T : Tab} {self : Self} {ops : Array Oper} {its : List Item} {σ : Nat → RSt}
/-- all that comes before an operation that is ready has been done -/
theorem closed {listed : Array Bool} (hd : ∀ i o, listed.getD i false = true → ops[i]? = some o → ∀ e ∈ o.after.toList, Region.binds .any e = true → listed.getD e.on false = true) :
    ∀ i, (∀ o, ops[i]? = some o → ∀ e ∈ o.after.toList, Region.binds .any e = true → listed.getD e.on false = true) → ∀ k, Nat.testBit ((Region.before ops).getD i 0) k = true → listed.getD k false = true := by
  intro i
  induction i using Nat.strongRecOn with
  | _ i ih =>
    intro hi k hk
    obtain ⟨o, h1, e, h2, h3, h4⟩ := before_spec ops i k hk
    have he := hi o h1 e h2 h3
    rcases h4 with rfl | ⟨h4, h5⟩
    · exact he
    · exact ih e.on h4 (fun o' h6 => hd e.on o' he h6) k h5
/-- where a region stands, some operations done -/
structure Inv (T : Tab) (base : Nat) (w0 : World) (ops : Array Oper) (its : List Item) (σ : Nat → RSt) (ρ0 : Ren) (w00 : World) (listed : Array Bool) (q : Nat) (ρ : Ren) (a : Act) (w : World) : Prop where
  size : listed.size = ops.size
  down : ∀ i o, listed.getD i false = true → ops[i]? = some o → ∀ e ∈ o.after.toList, Region.binds .any e = true → listed.getD e.on false = true
  last : Last its q
  effs : ∀ p i, its[p]? = some i → isEff i.kind = true → (listed.getD i.ix false = true ↔ p < q)
  rel : Rel T base w0 ρ (σ q).s w
  ext : Ext ρ0 (σ 0).s w00 ρ (σ q).s w
  act : AR ρ (actS its (σ its.length).a (σ 0).a listed) a
  low : ∀ p r, p ≤ r → r ≤ q → (σ p).s.next ≤ (σ r).s.next
  fresh : ∀ p i, its[p]? = some i → i.kind = .fresh → wantedC ops (σ p).a i.o = true → listed.getD i.ix false = false → p < q → ρ (σ p).s.next = none
variable (pl : Play T self ops its σ)
include pl
theorem Play.ix_inj {p q : Nat} {i j : Item} (h1 : its[p]? = some i) (h2 : its[q]? = some j) (h : i.ix = j.ix) : p = q := by
  have hn := pl.nodup
  have hp : p < its.length := (List.getElem?_eq_some_iff.1 h1).1
  have hq : q < its.length := (List.getElem?_eq_some_iff.1 h2).1
  have e1 : (its.map (·.ix))[p]? = some i.ix := by simp [h1]
  have e2 : (its.map (·.ix))[q]? = some i.ix := by rw [h]; simp [h2]
  have := (List.getElem?_inj (by simpa using hp) hn).1 (e1.trans e2.symm)
  exact this
variable {base : Nat} {w0 w00 w : World} {ρ0 ρ : Ren} {a : Act} {listed : Array Bool} {q : Nat} (iv : Inv T base w0 ops its σ ρ0 w00 listed q ρ a w)
include iv
/-- an operation that is ready sees what it saw in the plan -/
theorem Inv.sees {p : Nat} {i : Item} (hi : its[p]? = some i) (hun : listed.getD i.ix false = false) (hrdy : ∀ e ∈ i.o.after.toList, Region.binds .any e = true → listed.getD e.on false = true)
    {t : Nat} (ht : t ∈ reads ops i.o) : (actS its (σ its.length).a (σ 0).a listed).tm.get t = (σ p).a.tm.get t := by
  have hp : p < its.length := (List.getElem?_eq_some_iff.1 hi).1
  rw [actS_get]
  unfold flOf
  have hbef := closed iv.down i.ix (fun o ho => by
    have := (pl.item i (List.mem_of_getElem? hi)).1
    rw [this] at ho; cases ho; exact hrdy)
  by_cases hw : ∃ (r : Nat) (j : Item), its[r]? = some j ∧ j.o.dst = some t
  · obtain ⟨r, j, hj, hd⟩ := hw
    have hr : r < its.length := (List.getElem?_eq_some_iff.1 hj).1
    have hne : r ≠ p := by
      rintro rfl
      rw [hi] at hj; cases hj
      have := conflOk_self pl.confl hi
      rw [writes_iff hd ht] at this; cases this
    rcases Nat.lt_or_gt_of_ne hne with hlt | hgt
    · have hb := conflOk_pair pl.confl hj hi hlt (.inr (writes_iff hd ht))
      have hl := hbef _ hb
      rw [if_pos (written_iff.2 ⟨r, j, hj, hd, hl⟩), pl.written hj hd hr (Nat.le_refl _), pl.written hj hd hlt (by omega)]
    · have hb := conflOk_pair pl.confl hi hj hgt (.inl (writes_iff hd ht))
      have hnl : ¬ listed.getD j.ix false = true := by
        intro hl
        have := closed iv.down j.ix (fun o ho => iv.down j.ix o hl ho) _ hb
        rw [hun] at this; cases this
      have hnw : ¬ written its listed t = true := by
        intro hwr
        obtain ⟨r', j', h1, h2, h3⟩ := written_iff.1 hwr
        have := dstsOf_inj pl.dsts hj h1 hd h2
        subst this
        rw [hj] at h1; cases h1
        exact hnl h3
      rw [if_neg hnw]
      exact (pl.unwritten (Nat.zero_le p) (by omega) (fun r' j' _ h2 h3 h4 => by
        have := dstsOf_inj pl.dsts hj h3 hd h4
        omega)).symm
  · have hnw : ¬ written its listed t = true := by
      intro hwr
      obtain ⟨r', j', h1, h2, h3⟩ := written_iff.1 hwr
      exact hw ⟨r', j', h1, h2⟩
    rw [if_neg hnw]
    exact (pl.unwritten (Nat.zero_le p) (by omega) (fun r' j' _ h2 h3 h4 => hw ⟨r', j', h3, h4⟩)).symm
theorem Inv.cop_eq {p : Nat} {i : Item} (hi : its[p]? = some i) (hun : listed.getD i.ix false = false) (hrdy : ∀ e ∈ i.o.after.toList, Region.binds .any e = true → listed.getD e.on false = true) (h : Tr CObj) :
    cop T h (ceval T (actS its (σ its.length).a (σ 0).a listed)) i.o.op = cop T h (ceval T (σ p).a) i.o.op :=
  cop_congr (ceval_congr fun t ht => iv.sees pl hi hun hrdy (reads_ops ht))
theorem Inv.wanted_eq {p : Nat} {i : Item} (hi : its[p]? = some i) (hun : listed.getD i.ix false = false) (hrdy : ∀ e ∈ i.o.after.toList, Region.binds .any e = true → listed.getD e.on false = true) :
    Region.wanted i.o (yielded ops a.tmps) = wantedC ops (σ p).a i.o := by
  rw [← Canon.wanted_eq iv.act]
  exact wantedC_congr fun t ht => iv.sees pl hi hun hrdy ht
/-- what has not been done may still be done -/
theorem Inv.hi_ok {p : Nat} {i : Item} (hi : its[p]? = some i) (hun : listed.getD i.ix false = false) (he : isEff i.kind = false) : (σ q).m ≤ i.hi := by
  have hwin := pl.win i (List.mem_of_getElem? hi)
  unfold windowOk at hwin
  simp only [Bool.and_eq_true, List.all_eq_true, Bool.or_eq_true] at hwin
  obtain ⟨hA, hB⟩ := hwin
  apply Nat.le_of_not_lt
  intro hlt
  rcases hB with hB | hB
  · rw [he] at hB; cases hB
  · -- the effect at i.hi has been done, and comes behind i
    have hM : i.hi < (σ its.length).m := Nat.lt_of_lt_of_le hlt (pl.m_mono iv.last.1 (Nat.le_refl _))
    have : ∃ (r : Nat) (j : Item), its[r]? = some j ∧ isEff j.kind = true ∧ j.lo = i.hi ∧ r < q := by
      -- the levels go up one by one
      have key : ∀ n, n ≤ its.length → i.hi < (σ n).m → ∃ (r : Nat) (j : Item), its[r]? = some j ∧ isEff j.kind = true ∧ j.lo = i.hi ∧ r < n := by
        intro n
        induction n with
        | zero => intro _ h; rw [pl.m0] at h; omega
        | succ n ih =>
          intro hn h
          have hlt : n < its.length := by omega
          have hj := List.getElem?_eq_getElem hlt
          by_cases h2 : i.hi < (σ n).m
          · obtain ⟨r, j, h3, h4, h5, h6⟩ := ih (by omega) h2
            exact ⟨r, j, h3, h4, h5, by omega⟩
          · have hm := pl.m_succ hj
            cases he : isEff its[n].kind with
            | false => rw [if_neg (by rw [he]; simp)] at hm; omega
            | true =>
              rw [if_pos he] at hm
              exact ⟨n, _, hj, he, by rw [pl.lo hj]; omega, by omega⟩
      exact key q iv.last.1 hlt
    obtain ⟨r, j, hj, hej, hjl, hrq⟩ := this
    obtain ⟨_, h2⟩ := effsOf_at pl.levels hj hej
    rw [Nat.sub_zero, hjl] at h2
    rw [h2] at hB
    simp only at hB
    have hl := (iv.effs r j hj hej).2 hrq
    have := closed iv.down j.ix (fun o ho => iv.down j.ix o hl ho) _ hB
    rw [hun] at this; cases this
/-- the levels between which an operation may be done -/
theorem Inv.window {p : Nat} {i : Item} (hi : its[p]? = some i) (hun : listed.getD i.ix false = false) (hrdy : ∀ e ∈ i.o.after.toList, Region.binds .any e = true → listed.getD e.on false = true) :
    i.lo ≤ (σ q).m ∧ (isEff i.kind = true → p = q) ∧ (isEff i.kind = false → (σ q).m ≤ i.hi) := by
  have hp : p < its.length := (List.getElem?_eq_some_iff.1 hi).1
  have him := List.mem_of_getElem? hi
  have hwin := pl.win i him
  unfold windowOk at hwin
  simp only [Bool.and_eq_true, List.all_eq_true, Bool.or_eq_true] at hwin
  obtain ⟨hA, hB⟩ := hwin
  have hbef := closed iv.down i.ix (fun o ho => by
    have := (pl.item i him).1
    rw [this] at ho; cases ho; exact hrdy)
  -- an effect of a lower level has been done
  have low : ∀ {r : Nat} {j : Item}, its[r]? = some j → isEff j.kind = true → j.lo < i.lo → r < q := by
    intro r j hj he hlt
    obtain ⟨_, h2⟩ := effsOf_at pl.levels hj he
    rw [Nat.sub_zero] at h2
    have hm : j.ix ∈ (effsOf its).take i.lo := by
      apply List.mem_of_getElem? (i := j.lo)
      rw [List.getElem?_take, if_pos hlt]
      exact h2
    exact (iv.effs r j hj he).1 (hbef _ (hA _ hm))
  have hlo : i.lo ≤ (σ q).m := by
    apply Nat.le_of_not_lt
    intro hlt
    rcases iv.last.2 with hq | ⟨j, hj, he⟩
    · have := pl.m_mono (p := p) (q := q) (by omega) (by omega)
      rw [pl.lo hi] at hlt
      omega
    · have := low hj he (by rw [pl.lo hj]; exact hlt)
      omega
  refine ⟨hlo, fun he => ?_, fun he => ?_⟩
  · have h1 : ¬ p < q := fun h => by rw [(iv.effs p i hi he).2 h] at hun; cases hun
    rcases Nat.lt_or_eq_of_le (Nat.le_of_not_lt h1) with h2 | h2
    · exfalso
      rcases iv.last.2 with hq | ⟨j, hj, hej⟩
      · omega
      · have hm := pl.m_succ hj
        rw [if_pos hej] at hm
        have := pl.m_mono (p := q + 1) (q := p) (by omega) (by omega)
        rw [pl.lo hi] at hlo
        omega
    · exact h2.symm
  · exact iv.hi_ok pl hi hun he
end
end Go.Canon
end
section
namespace Go.Canon
open Go Go.RowKit
set_option linter.unusedSectionVars false
section
variable {T : Tab} {self : Self} {ops : Array Oper} {its : List Item} {σ : Nat → RSt}
theorem listed_set {listed : Array Bool} {i j : Nat} (hi : i < listed.size) : (listed.setIfInBounds i true).getD j false = if j = i then true else listed.getD j false := by
  simp only [Array.getD_eq_getD_getElem?]
  by_cases h : j = i
  · subst h; rw [if_pos rfl, Array.getElem?_setIfInBounds_self_of_lt hi]; rfl
  · rw [if_neg h, Array.getElem?_setIfInBounds_ne (fun q => h q.symm)]
variable (pl : Play T self ops its σ)
include pl
theorem Play.ix_lt {p : Nat} {i : Item} (hi : its[p]? = some i) : i.ix < ops.size := (Array.getElem?_eq_some_iff.1 (pl.item i (List.mem_of_getElem? hi)).1).1
variable {base : Nat} {w0 w00 w : World} {ρ0 ρ : Ren} {a : Act} {listed : Array Bool} {q : Nat} (iv : Inv T base w0 ops its σ ρ0 w00 listed q ρ a w)
include iv
theorem Inv.down' {p : Nat} {i : Item} (hi : its[p]? = some i) (hrdy : ∀ e ∈ i.o.after.toList, Region.binds .any e = true → listed.getD e.on false = true) :
    ∀ j o, (listed.setIfInBounds i.ix true).getD j false = true → ops[j]? = some o → ∀ e ∈ o.after.toList, Region.binds .any e = true → (listed.setIfInBounds i.ix true).getD e.on false = true := by
  have hsz : i.ix < listed.size := by rw [iv.size]; exact pl.ix_lt hi
  intro j o h1 h2 e h3 h4
  rw [listed_set hsz] at h1 ⊢
  split
  · rfl
  · by_cases hj : j = i.ix
    · subst hj
      have := (pl.item i (List.mem_of_getElem? hi)).1
      rw [this] at h2; cases h2
      exact hrdy e h3 h4
    · rw [if_neg hj] at h1
      exact iv.down j o h1 h2 e h3 h4
/-- the activation after an operation -/
theorem Inv.act' {p : Nat} {i : Item} (hi : its[p]? = some i) {ρ' : Ren} (hm : ∀ i e, ρ i = some e → ρ' i = some e) {v v' : Value} (hput : putR (σ p).a i.o.dst v = some (σ (p + 1)).a) (hv : VR ρ' v v') :
    AR ρ' (actS its (σ its.length).a (σ 0).a (listed.setIfInBounds i.ix true)) (a.put i.o.dst v') := by
  have hsz : i.ix < listed.size := by rw [iv.size]; exact pl.ix_lt hi
  have hp : p < its.length := (List.getElem?_eq_some_iff.1 hi).1
  obtain ⟨g1, _, _, g4⟩ := putR_get hput
  have ha := iv.act.mono hm
  have hsame : ∀ t, i.o.dst ≠ some t → flOf its (σ its.length).a.tm (σ 0).a.tm (listed.setIfInBounds i.ix true) t = flOf its (σ its.length).a.tm (σ 0).a.tm listed t := by
    intro t ht
    unfold flOf
    have : written its (listed.setIfInBounds i.ix true) t = written its listed t := by
      rw [Bool.eq_iff_iff, written_iff, written_iff]
      constructor
      · rintro ⟨r, j, h1, h2, h3⟩
        rw [listed_set hsz] at h3
        refine ⟨r, j, h1, h2, ?_⟩
        split at h3
        · rename_i e
          have := pl.ix_inj h1 hi e
          subst this
          rw [hi] at h1; cases h1
          exact absurd h2 ht
        · exact h3
      · rintro ⟨r, j, h1, h2, h3⟩
        refine ⟨r, j, h1, h2, ?_⟩
        rw [listed_set hsz]
        split
        · rfl
        · exact h3
    rw [this]
  refine ⟨?_, fun t => ?_, ?_⟩
  · have := ha.size
    cases hd : i.o.dst with
    | none => exact this
    | some d =>
      show (a.tmps.setIfInBounds d v').size = _
      rw [Array.size_setIfInBounds]; exact this
  · have ht := ha.tm t
    rw [actS_get] at ht ⊢
    cases hd : i.o.dst with
    | none =>
      rw [hsame t (by rw [hd]; simp)]
      exact ht
    | some d =>
      have hdl : d < a.tmps.size := by
        have h1 := g4 d hd
        have h2 := (pl.sizes p (by omega)).1
        have h3 : a.tmps.size = (σ 0).a.size := ha.size
        rw [h3, ← h2]; exact h1
      show VR ρ' _ ((a.tmps.setIfInBounds d v').getD t undef)
      by_cases htd : t = d
      · subst htd
        have hw : written its (listed.setIfInBounds i.ix true) t = true := written_iff.2 ⟨p, i, hi, hd, by rw [listed_set hsz, if_pos rfl]⟩
        unfold flOf
        rw [if_pos hw, pl.written hi hd hp (Nat.le_refl _), g1, if_pos hd, Array.getD_eq_getD_getElem?, Array.getElem?_setIfInBounds_self_of_lt hdl]
        exact hv
      · rw [hsame t (by rw [hd]; intro e; exact htd (Option.some.inj e).symm), Array.getD_eq_getD_getElem?, Array.getElem?_setIfInBounds_ne (fun e => htd e.symm), ← Array.getD_eq_getD_getElem?]
        exact ht
  · have := ha.ds
    cases hd : i.o.dst with
    | none => exact this
    | some d => exact this
/-- an operation that is no effect -/
theorem Inv.stepN {p : Nat} {i : Item} (hi : its[p]? = some i) (hne : isEff i.kind = false) (hrdy : ∀ e ∈ i.o.after.toList, Region.binds .any e = true → listed.getD e.on false = true) {ρ' : Ren} {w' : World} {v v' : Value}
    (hput : putR (σ p).a i.o.dst v = some (σ (p + 1)).a) (hm : ∀ i e, ρ i = some e → ρ' i = some e) (hx : Ext ρ0 (σ 0).s w00 ρ' (σ q).s w') (hr : Rel T base w0 ρ' (σ q).s w') (hv : VR ρ' v v')
    (hf : ∀ p' i', its[p']? = some i' → i'.kind = .fresh → wantedC ops (σ p').a i'.o = true → listed.getD i'.ix false = false → p' ≠ p → p' < q → ρ' (σ p').s.next = none) :
    Inv T base w0 ops its σ ρ0 w00 (listed.setIfInBounds i.ix true) q ρ' (a.put i.o.dst v') w' := by
  have hsz : i.ix < listed.size := by rw [iv.size]; exact pl.ix_lt hi
  refine ⟨by rw [Array.size_setIfInBounds]; exact iv.size, iv.down' pl hi hrdy, iv.last, ?_, hr, hx, iv.act' pl hi hm hput hv, iv.low, ?_⟩
  · intro r j hj he
    rw [listed_set hsz]
    by_cases h : j.ix = i.ix
    · have := pl.ix_inj hj hi h
      subst this
      rw [hj] at hi; cases hi
      rw [he] at hne; cases hne
    · rw [if_neg h]; exact iv.effs r j hj he
  · intro p' i' h1 h2 h3 h4 h5
    rw [listed_set hsz] at h4
    split at h4
    · cases h4
    · rename_i hne'
      exact hf p' i' h1 h2 h3 h4 (fun e => by subst e; rw [hi] at h1; cases h1; exact hne' rfl) h5
omit iv in
/-- the next level's last place -/
theorem Play.nextLast : ∀ (n p : Nat), its.length - p = n → p ≤ its.length → ∃ q', p ≤ q' ∧ Last its q' ∧ (σ q').m = (σ p).m := by
  intro n
  induction n with
  | zero => intro p h1 h2; exact ⟨p, Nat.le_refl _, ⟨h2, .inl (by omega)⟩, rfl⟩
  | succ n ih =>
    intro p h1 h2
    have hlt : p < its.length := by omega
    have hi := List.getElem?_eq_getElem hlt
    cases he : isEff its[p].kind with
    | true => exact ⟨p, Nat.le_refl _, ⟨h2, .inr ⟨_, hi, he⟩⟩, rfl⟩
    | false =>
      obtain ⟨q', h3, h4, h5⟩ := ih (p + 1) (by omega) hlt
      have hm := pl.m_succ hi
      rw [if_neg (by rw [he]; simp)] at hm
      exact ⟨q', by omega, h4, by rw [h5, hm]⟩
omit iv in
theorem Play.segDead {p q : Nat} (h : p ≤ q) (hq : q ≤ its.length) (hm : (σ p).m = (σ q).m) (hd : ∀ n, (σ p).s.next ≤ n → (σ p).s.heap.get n = none) : ∀ n, (σ q).s.next ≤ n → (σ q).s.heap.get n = none := by
  induction q with
  | zero => rw [← Nat.le_zero.1 h]; exact hd
  | succ q ih =>
    by_cases hp : p = q + 1
    · rw [← hp]; exact hd
    · have hlt : q < its.length := by omega
      have hi := List.getElem?_eq_getElem hlt
      have m1 := pl.m_mono (p := p) (q := q) (by omega) (by omega)
      have m2 := pl.m_succ hi
      have hne : isEff its[q].kind = false := by
        cases he : isEff its[q].kind with
        | false => rfl
        | true => rw [if_pos he] at m2; omega
      rw [if_neg (by rw [hne]; simp)] at m2
      have e1 := ih (by omega) (by omega) (by omega)
      have := pl.step q _ hi
      generalize σ (q + 1) = st at this ⊢
      cases this with
      | skipE _ h => rw [h] at hne; cases hne
      | eff _ h => rw [h] at hne; cases hne
      | fresh _ _ _ hqq _ =>
        have h2 := quiet_pack hqq
        obtain ⟨s1, g1, g2, g3, g4⟩ := quiet_alloc h2
        obtain ⟨_, rfl⟩ := packV_inj (Option.some.inj g1)
        intro n hn
        simp only at hn ⊢
        rw [g4 n (by omega)]
        exact e1 n (by omega)
      | _ => exact e1
/-- a new object that has not been made yet lies in the heap of this level all the same -/
theorem Inv.freshAt {p : Nat} {i : Item} (hi : its[p]? = some i) (hk : i.kind = .fresh) (hw : wantedC ops (σ p).a i.o = true) (hun : listed.getD i.ix false = false) (hlo : i.lo ≤ (σ q).m) :
    ∃ o mk v, cop T (σ p).s.heap (ceval T (σ p).a) i.o.op = some (.alloc o mk) ∧ v = mk (σ p).s.next ∧ putR (σ p).a i.o.dst v = some (σ (p + 1)).a ∧ (σ (p + 1)).s.next = (σ p).s.next + 1 ∧
      (σ q).s.heap.get (σ p).s.next = some o ∧ (σ p).s.next < (σ q).s.next := by
  have hp : p < its.length := (List.getElem?_eq_some_iff.1 hi).1
  have hhi := iv.hi_ok pl hi hun (by rw [hk]; rfl)
  have hst := pl.step p i hi
  have hlog := fun g hg => pl.log_ok iv.last (p := p + 1) hp (g := g) hg
  generalize σ (p + 1) = st at hst hlog ⊢
  cases hst with
  | skipE h _ _ => rw [h] at hw; cases hw
  | skip h _ _ => rw [h] at hw; cases hw
  | pure _ h _ _ _ => rw [hk] at h; cases h
  | read _ h _ _ _ => rw [hk] at h; cases h
  | eff _ h _ _ _ => rw [hk] at h; cases h
  | @fresh o mk v s' a' _ _ hc hq hput =>
    have h2 := quiet_pack hq
    obtain ⟨s1, g1, g2, g3, g4⟩ := quiet_alloc h2
    obtain ⟨hv, rfl⟩ := packV_inj (Option.some.inj g1)
    have hl := hlog (.fresh (σ p).s.next o i.lo i.hi) (List.mem_cons_self ..)
    simp only [logOk, Bool.or_eq_true, Bool.not_eq_true', Bool.and_eq_false_iff] at hl
    have hsf : sameFresh (σ q).s.heap (σ p).s.next o = true := by
      rcases hl with (hl | hl) | hl
      · rw [ble_iff.2 hlo] at hl; cases hl
      · rw [ble_iff.2 hhi] at hl; cases hl
      · exact hl
    unfold sameFresh at hsf
    split at hsf
    · rename_i x hx
      have := objSame_eq hsf
      subst this
      refine ⟨_, mk, v, hc, hv.symm, hput, g2, hx, ?_⟩
      apply Nat.lt_of_not_le
      intro hle
      rw [(iv.rel.dom _ hle).2] at hx
      cases hx
    · cases hsf
/-- an effect -/
theorem Inv.stepE {i : Item} (hi : its[q]? = some i) (he : isEff i.kind = true) (hrdy : ∀ e ∈ i.o.after.toList, Region.binds .any e = true → listed.getD e.on false = true) {ρ' : Ren} {w' : World} {v v' : Value}
    (hput : putR (σ q).a i.o.dst v = some (σ (q + 1)).a) (hx : Ext ρ (σ q).s w ρ' (σ (q + 1)).s w') (hr : Rel T base w0 ρ' (σ (q + 1)).s w') (hv : VR ρ' v v') :
    ∃ q', Inv T base w0 ops its σ ρ0 w00 (listed.setIfInBounds i.ix true) q' ρ' (a.put i.o.dst v') w' := by
  have hq : q < its.length := (List.getElem?_eq_some_iff.1 hi).1
  have hsz : i.ix < listed.size := by rw [iv.size]; exact pl.ix_lt hi
  obtain ⟨q', h1, h2, h3⟩ := pl.nextLast (its.length - (q + 1)) (q + 1) rfl hq
  have hseg := pl.seg h1 h2.1 h3.symm
  have hdead := pl.segDead h1 h2.1 h3.symm (fun n hn => (hr.dom n hn).2)
  have hlt : ∀ i e, ρ' i = some e → i < (σ (q + 1)).s.next := fun i e h => Nat.lt_of_not_le fun hle => by rw [(hr.dom i hle).1] at h; cases h
  have hmq := pl.m_succ hi
  rw [if_pos he] at hmq
  refine ⟨q', by rw [Array.size_setIfInBounds]; exact iv.size, iv.down' pl hi hrdy, h2, ?_, hr.grow hseg.1 hseg.2 hdead, (iv.ext.trans hx).grow hseg.1 (fun i e h => hseg.2 i (hlt i e h)),
    iv.act' pl hi (hx.ren iv.rel) hput hv, ?_, ?_⟩
  · intro r j hj hej
    rw [listed_set hsz]
    have hrl : r < its.length := (List.getElem?_eq_some_iff.1 hj).1
    by_cases h : j.ix = i.ix
    · have := pl.ix_inj hj hi h
      subst this
      rw [if_pos h]
      exact ⟨fun _ => by omega, fun _ => rfl⟩
    · rw [if_neg h, iv.effs r j hj hej]
      constructor
      · intro; omega
      · intro hrq
        have hne : r ≠ q := fun e => by subst e; rw [hi] at hj; cases hj; exact h rfl
        apply Nat.lt_of_not_le
        intro hle
        have hm1 := pl.m_succ hj
        rw [if_pos hej] at hm1
        have hm2 := pl.m_mono (p := q + 1) (q := r) (by omega) (by omega)
        have hm3 := pl.m_mono (p := r + 1) (q := q') (by omega) h2.1
        omega
  · have hup : ∀ r, q + 1 ≤ r → r ≤ q' → (σ (q + 1)).s.next ≤ (σ r).s.next := by
      intro r h4 h5
      have hm2 := pl.m_mono (p := q + 1) (q := r) h4 (by have := h2.1; omega)
      have hm3 := pl.m_mono (p := r) (q := q') h5 h2.1
      exact (pl.seg h4 (by have := h2.1; omega) (by omega)).1
    intro p r h4 h5
    by_cases h6 : r ≤ q
    · exact iv.low p r h4 h6
    · by_cases h7 : p ≤ q
      · exact Nat.le_trans (iv.low p q h7 (Nat.le_refl _)) (Nat.le_trans hx.mono (hup r (by omega) h5))
      · have hm2 := pl.m_mono (p := q + 1) (q := p) (by omega) (by have := h2.1; omega)
        have hm3 := pl.m_mono (p := r) (q := q') h5 h2.1
        have hm4 := pl.m_mono (p := p) (q := r) h4 (by have := h2.1; omega)
        exact (pl.seg h4 (by have := h2.1; omega) (by omega)).1
  · intro p' i' g1 g2 g3 g4 g5
    rw [listed_set hsz] at g4
    split at g4
    · cases g4
    · by_cases h6 : p' < q
      · obtain ⟨_, _, _, _, _, _, _, _, hid⟩ := iv.freshAt pl g1 g2 g3 g4 (by rw [pl.lo g1]; exact pl.m_mono (by omega) (by omega))
        rw [hx.keep _ hid]
        exact iv.fresh p' i' g1 g2 g3 g4 h6
      · by_cases h7 : p' = q
        · subst h7
          rw [hi] at g1; cases g1
          rw [g2] at he; cases he
        · have hm2 := pl.m_mono (p := q + 1) (q := p') (by omega) (by have := h2.1; omega)
          have hm3 := pl.m_mono (p := p') (q := q') (by omega) h2.1
          have := (pl.seg (p := q + 1) (q := p') (by omega) (by have := h2.1; omega) (by omega)).1
          exact (hr.dom _ this).1
end
/-- so many operations are left -/
def leftOf (listed : Array Bool) : Nat := listed.toList.count false
theorem leftOf_set {listed : Array Bool} {i : Nat} (h : listed.getD i true = false) : leftOf (listed.setIfInBounds i true) + 1 = leftOf listed ∧ i < listed.size := by
  have hi : i < listed.size := by
    apply Nat.lt_of_not_le
    intro hle
    rw [Array.getD_eq_getD_getElem?, Array.getElem?_eq_none hle] at h
    cases h
  refine ⟨?_, hi⟩
  unfold leftOf
  rw [Array.toList_setIfInBounds, List.count_set (by simpa using hi)]
  have hv : listed.toList[i]'(by simpa using hi) = false := by
    rw [Array.getD_eq_getD_getElem?, Array.getElem?_eq_getElem hi] at h
    simpa using h
  rw [hv]
  have hpos : 0 < listed.toList.count false := List.count_pos_iff.2 (by rw [← hv]; exact List.getElem_mem _)
  have e : ∀ c : Nat, 0 < c → c - (if (false == false) = true then 1 else 0) + (if (true == false) = true then 1 else 0) + 1 = c := by intro c hc; simp; omega
  exact e _ hpos
theorem region_any {T : Tab} {self : Self} {ops : Array Oper} {its : List Item} {σ : Nat → RSt} (hS : SelfOk T self) (hT : T.Ok) (pl : Play T self ops its σ) {base : Nat} {w0 w00 : World} {ρ0 : Ren} {ro : Option Nat} {n : Nat}
    {Q : Exit → Act → World → Prop}
    (hQ : ∀ (ρ' : Ren) (a' : Act) (w' : World), Ext ρ0 (σ 0).s w00 ρ' (σ its.length).s w' → Rel T base w0 ρ' (σ its.length).s w' → AR ρ' (σ its.length).a a' → Q .normal a' w') :
    ∀ (fuel : Nat) (listed : Array Bool) (q : Nat) (ρ : Ren) (a : Act) (w : World), Inv T base w0 ops its σ ρ0 w00 listed q ρ a w → leftOf listed ≤ fuel →
      wpAnyIn (wideAt ro) n T.P .any ops Q fuel listed a w := by
  -- the end
  have stop : ∀ (listed : Array Bool) (q : Nat) (ρ : Ren) (a : Act) (w : World), Inv T base w0 ops its σ ρ0 w00 listed q ρ a w → Region.ready .any ops listed = [] → Q .normal a w := by
    intro listed q ρ a w iv hr
    have hall : ∀ j, j < ops.size → listed.getD j false = true := by
      intro j
      induction j using Nat.strongRecOn with
      | _ j ih =>
        intro hj
        cases hl : listed.getD j false with
        | true => rfl
        | false =>
          exfalso
          have hmem : j ∈ Region.ready .any ops listed := by
            rw [mem_ready]
            have hj2 : j < listed.size := by rw [iv.size]; exact hj
            refine ⟨by rw [Array.getD_eq_getD_getElem?, Array.getElem?_eq_getElem hj2] at hl ⊢; exact hl, ops[j], Array.getElem?_eq_getElem hj, fun e he hb => ?_⟩
            obtain ⟨i, hi, hix⟩ := pl.all j hj
            have h1 := (pl.item i hi).1
            rw [hix, Array.getElem?_eq_getElem hj] at h1
            have h2 := pl.edges i hi
            unfold edgesOk at h2
            rw [List.all_eq_true] at h2
            have h3 := h2 e (by rw [← Option.some.inj h1]; simpa using he)
            rw [hb, hix] at h3
            have h4 : e.on < j := by simpa [Nat.blt_eq] using h3
            exact ih e.on h4 (by omega)
          rw [hr] at hmem
          cases hmem
    have hql : q = its.length := by
      rcases iv.last.2 with h | ⟨i, hi, he⟩
      · exact h
      · exfalso
        have := (iv.effs q i hi he).1 (hall _ (pl.ix_lt hi))
        omega
    subst hql
    refine hQ ρ a w iv.ext iv.rel ?_
    have ha := iv.act
    have hs := pl.sizes its.length (Nat.le_refl _)
    refine ⟨by rw [hs.1]; exact ha.size, fun t => ?_, by rw [hs.2]; exact ha.ds⟩
    have ht := ha.tm t
    rw [actS_get] at ht
    unfold flOf at ht
    split at ht
    · exact ht
    · rename_i hw
      rw [pl.unwritten (Nat.zero_le _) (Nat.le_refl _) (fun r i _ h2 h3 h4 => hw (written_iff.2 ⟨r, i, h3, h4, hall _ (pl.ix_lt h3)⟩))]
      exact ht
  intro fuel
  induction fuel with
  | zero =>
    intro listed q ρ a w iv hl
    have hr : Region.ready .any ops listed = [] := by
      rw [List.eq_nil_iff_forall_not_mem]
      intro j hj
      have := leftOf_set (mem_ready.1 hj).1
      omega
    exact ⟨hr, stop listed q ρ a w iv hr⟩
  | succ fuel ih =>
    intro listed q ρ a w iv hl
    refine ⟨stop listed q ρ a w iv, fun j hj => ?_⟩
    obtain ⟨hjun, o, ho, hjr⟩ := mem_ready.1 hj
    obtain ⟨hleft, hjsz⟩ := leftOf_set hjun
    have hleft' : leftOf (listed.setIfInBounds j true) ≤ fuel := by omega
    have hj2 : j < ops.size := (Array.getElem?_eq_some_iff.1 ho).1
    obtain ⟨i, him, hix⟩ := pl.all j hj2
    obtain ⟨p, hi⟩ := List.getElem?_of_mem him
    have hio := (pl.item i him).1
    have hkind := (pl.item i him).2
    rw [hix, ho] at hio
    have hio := Option.some.inj hio
    subst hio
    subst hix
    have hun : listed.getD i.ix false = false := by
      rw [Array.getD_eq_getD_getElem?, Array.getElem?_eq_getElem hjsz] at hjun ⊢
      exact hjun
    have hrdy : ∀ e ∈ i.o.after.toList, Region.binds .any e = true → listed.getD e.on false = true := fun e he hb => hjr e (by simpa using he) hb
    obtain ⟨hlo, hE, hN⟩ := iv.window pl hi hun hrdy
    have hp : p < its.length := (List.getElem?_eq_some_iff.1 hi).1
    have hcop := fun h => iv.cop_eq pl hi hun hrdy h
    have hwd := iv.wanted_eq pl hi hun hrdy
    unfold wpOpIn
    rw [ho]
    simp only
    -- an operation that is no effect and leaves the state as it is
    have still : ∀ {v : Value}, isEff i.kind = false → putR (σ p).a i.o.dst v = some (σ (p + 1)).a → ∀ {ρ' : Ren} {v' : Value} {w' : World}, Ext ρ (σ q).s w ρ' (σ q).s w' → Rel T base w0 ρ' (σ q).s w' → VR ρ' v v' →
        wpAnyIn (wideAt ro) n T.P .any ops Q fuel (listed.setIfInBounds i.ix true) (a.put i.o.dst v') w' := by
      intro v he hput ρ' v' w' h1 h2 h3
      refine ih _ q ρ' _ w' (iv.stepN pl hi he hrdy hput (h1.ren iv.rel) (iv.ext.trans h1) h2 h3 ?_) hleft'
      intro p' i' g1 g2 g3 g4 g5 g6
      obtain ⟨_, _, _, _, _, _, _, _, hid⟩ := iv.freshAt pl g1 g2 g3 g4 (by rw [pl.lo g1]; exact pl.m_mono (by omega) iv.last.1)
      rw [h1.keep _ hid]
      exact iv.fresh p' i' g1 g2 g3 g4 g6
    have hst := pl.step p i hi
    have hlogs := fun g hg => pl.log_ok iv.last (p := p + 1) hp (g := g) hg
    by_cases hw : wantedC ops (σ p).a i.o = true
    · rw [if_pos (by rw [hwd]; exact hw)]
      by_cases hfr : i.kind = .fresh
      · -- a new object
        obtain ⟨ob, mk, v, q1, q2, q3, q4, q5, q6⟩ := iv.freshAt pl hi hfr hw hun hlo
        rw [fresh_heap (h' := (σ q).s.heap) (by rw [← hkind]; exact hfr), ← hcop] at q1
        obtain ⟨v', w', r1, e, rb, r2, rfl, r3, r4⟩ := fresh_sound iv.rel iv.act hT q1 (by rw [← hkind]; exact hfr)
        have hpq : p < q := by
          apply Nat.lt_of_not_le
          intro hle
          have := iv.low q q (Nat.le_refl _) (Nat.le_refl _)
          by_cases h : p = q
          · subst h; omega
          · rcases iv.last.2 with h2 | ⟨i2, h2, h3⟩
            · omega
            · have hm := pl.m_succ h2
              rw [if_pos h3] at hm
              have := pl.m_mono (p := q + 1) (q := p) (by omega) (by omega)
              rw [pl.lo hi] at hlo
              omega
        have hnone := iv.fresh p i hi hfr hw hun hpq
        refine ⟨fun _ _ => trivial, ?_⟩
        rw [Oper.semAt_eq _ _ _ (fun c hc => by rw [hkind, hc] at hfr; simp [kindOf] at hfr), r1, Oper.uponIn_value]
        have hmono : ∀ i e', ρ i = some e' → (Ren.set ρ (σ p).s.next e) i = some e' := by
          intro i e' hi
          rw [Ren.set_other]
          · exact hi
          · intro hc; rw [hc, hnone] at hi; cases hi
        refine ih _ q (Ren.set ρ (σ p).s.next e) _ _ (iv.stepN pl hi (by rw [hfr]; rfl) hrdy q3 hmono (iv.ext.newAt (iv.low 0 p (Nat.zero_le _) (by omega)) r2) (iv.rel.newAt q5 hnone q6 r2 r3)
          (by rw [q2]; exact r4 _ _ (Ren.set_same ρ _ _)) ?_) hleft'
        intro p' i' g1 g2 g3 g4 g5 g6
        obtain ⟨_, _, _, _, _, _, hnx, _, _⟩ := iv.freshAt pl g1 g2 g3 g4 (by rw [pl.lo g1]; exact pl.m_mono (by omega) iv.last.1)
        rw [Ren.set_other]
        · exact iv.fresh p' i' g1 g2 g3 g4 g6
        · intro heq
          rcases Nat.lt_or_gt_of_ne g5 with h | h
          · have := iv.low (p' + 1) p (by omega) (by omega)
            omega
          · have := iv.low (p + 1) p' (by omega) (by omega)
            omega
      · have step : ∃ r v, (cop T (σ q).s.heap (ceval T (actS its (σ its.length).a (σ 0).a listed)) i.o.op = some r) ∧ putR (σ p).a i.o.dst v = some (σ (p + 1)).a ∧
            ((isEff i.kind = false ∧ valOf r = some v) ∨ (isEff i.kind = true ∧ outP i.o.op self (σ q).s r = some ⟨v, (σ (p + 1)).s⟩)) := by
          generalize σ (p + 1) = st at hst hlogs ⊢
          cases hst with
          | skipE h _ _ => rw [h] at hw; cases hw
          | skip h _ _ => rw [h] at hw; cases hw
          | fresh _ h _ _ _ => exact absurd h hfr
          | @pure r v a' _ hk hc hv hput =>
            refine ⟨r, v, ?_, hput, .inl ⟨by rw [hk]; rfl, hv⟩⟩
            rw [hcop, ← pure_heap (h := (σ p).s.heap) (by rw [← hkind]; exact hk)]
            exact hc
          | @read r v a' _ hk hc hv hput =>
            have hl := hlogs (.read i.o.op (σ p).a v i.lo i.hi) (List.mem_cons_self ..)
            simp only [logOk, Bool.or_eq_true, Bool.not_eq_true', Bool.and_eq_false_iff] at hl
            have hsr : sameRead T (σ q).s.heap i.o.op (σ p).a v = true := by
              rcases hl with (hl | hl) | hl
              · rw [ble_iff.2 hlo] at hl; cases hl
              · rw [ble_iff.2 (hN (by rw [hk]; rfl))] at hl; cases hl
              · exact hl
            unfold sameRead at hsr
            split at hsr
            · rename_i r' hr'
              split at hsr
              · rename_i u hu
                have := veq_eq hsr
                subst this
                exact ⟨r', u, by rw [hcop]; exact hr', hput, .inl ⟨by rw [hk]; rfl, hu⟩⟩
              · cases hsr
            · cases hsr
          | @eff r v s' a' _ hk hc ho' hput =>
            have := hE hk
            subst this
            exact ⟨r, v, by rw [hcop]; exact hc, hput, .inr ⟨hk, ho'⟩⟩
        obtain ⟨r, v, s1, s2, s3⟩ := step
        rcases s3 with ⟨s3, s4⟩ | ⟨s3, s4⟩
        · have hout : outP i.o.op self (σ q).s r = some ⟨v, (σ q).s⟩ := by
            have hq := valOf_quiet (s := (σ q).s) s4
            unfold outP
            split
            · rename_i f args ts hop
              rw [hkind, hop] at s3
              simp [kindOf, isEff] at s3
            · exact hq
          refine op_sound hS iv.rel iv.act hT s1 hout ?_
          rintro v' w' ⟨ρ', t1, t2, t3⟩
          exact still s3 s2 t1 t2 t3
        · have := hE s3
          subst this
          refine op_sound hS iv.rel iv.act hT s1 s4 ?_
          rintro v' w' ⟨ρ', t1, t2, t3⟩
          obtain ⟨q', iv'⟩ := iv.stepE pl hi s3 hrdy s2 t1 t2 t3
          exact ih _ q' ρ' _ w' iv' hleft'
    · have hw : wantedC ops (σ p).a i.o = false := by simpa using hw
      rw [if_neg (by rw [hwd, hw]; simp)]
      refine ⟨fun _ _ => trivial, ?_⟩
      have step : putR (σ p).a i.o.dst undef = some (σ (p + 1)).a ∧ (isEff i.kind = true → (σ (p + 1)).s = (σ p).s) := by
        generalize σ (p + 1) = st at hst ⊢
        cases hst with
        | skipE _ _ h => exact ⟨h, fun _ => rfl⟩
        | skip _ _ h => exact ⟨h, fun _ => rfl⟩
        | pure h => rw [h] at hw; cases hw
        | read h => rw [h] at hw; cases hw
        | fresh h => rw [h] at hw; cases hw
        | eff h => rw [h] at hw; cases hw
      cases he : isEff i.kind with
      | false => exact still he step.1 (Ext.refl _ _ _) iv.rel VR.undef
      | true =>
        have := hE he
        subst this
        have hs := step.2 he
        obtain ⟨q', iv'⟩ := iv.stepE pl hi he hrdy step.1 (by rw [hs]; exact Ext.refl _ _ _) (by rw [hs]; exact iv.rel) VR.undef
        exact ih _ q' ρ _ w iv' hleft'
end Go.Canon
end
section
namespace Go.Canon
open Go Go.RowKit
set_option linter.unusedSectionVars false
section
variable {T : Tab} {base : Nat} {w0 : World} {self : Self}
/-- a region that draws its order -/
theorem drawn_sound (hS : SelfOk T self) (hT : T.Ok) {ops : Array Oper} {its : List Item} (hp : planOf ops = some its) {ro : Option Nat} {n : Nat} {Q : Exit → Act → World → Prop} {k : CAct → CSt → Option COut} {x : COut}
    {ρ : Ren} {s : CSt} {w : World} {ca : CAct} {a : Act} (h : evItems T self ops its 0 [] [] ca s k = some x) (hr : Rel T base w0 ρ s w) (ha : AR ρ ca a) (hN : Then T base w0 ρ s w k x (fun a' w' => Q .normal a' w')) :
    wpAnyIn (wideAt ro) n T.P .any ops Q ops.size (Array.replicate ops.size false) a w := by
  obtain ⟨σ, h0, h1, h2, h3⟩ := evItems_run its 0 [] [] ca s h
  have pl : Play T self ops its σ := Play.of hp h1 (by rw [h0]) (by rw [h0]) h2
  have hs0 : (σ 0).s = s := by rw [h0]
  have ha0 : (σ 0).a = ca := by rw [h0]
  obtain ⟨q, _, hq2, hq3⟩ := pl.nextLast (its.length - 0) 0 rfl (Nat.zero_le _)
  have hseg := pl.seg (Nat.zero_le q) hq2.1 hq3.symm
  rw [hs0] at hseg
  have hdead := pl.segDead (Nat.zero_le q) hq2.1 hq3.symm (fun m hm => by rw [hs0] at hm ⊢; exact (hr.dom m hm).2)
  have hlt : ∀ i e, ρ i = some e → i < s.next := fun i e h => Nat.lt_of_not_le fun hle => by rw [(hr.dom i hle).1] at h; cases h
  have hno : ∀ p i, its[p]? = some i → isEff i.kind = true → ¬ p < q := by
    intro p i hi he hlt
    have hm := pl.m_succ hi
    rw [if_pos he] at hm
    have m1 := pl.m_mono (p := 0) (q := p) (Nat.zero_le _) (by have := hq2.1; omega)
    have m2 := pl.m_mono (p := p + 1) (q := q) (by omega) hq2.1
    omega
  have hrep : ∀ j, (Array.replicate ops.size false).getD j false = false := by
    intro j
    rw [Array.getD_eq_getD_getElem?, Array.getElem?_replicate]
    split <;> rfl
  have hmid : ∀ p r, p ≤ r → r ≤ q → (σ p).s.next ≤ (σ r).s.next := by
    intro p r h4 h5
    have hq := hq2.1
    have m1 := pl.m_mono (p := 0) (q := p) (Nat.zero_le _) (by omega)
    have m2 := pl.m_mono (p := p) (q := r) h4 (by omega)
    have m3 := pl.m_mono (p := r) (q := q) h5 hq
    exact (pl.seg h4 (by omega) (by omega)).1
  have iv : Inv T base w0 ops its σ ρ w (Array.replicate ops.size false) q ρ a w := by
    refine ⟨by simp, (fun i o hh => by rw [hrep] at hh; cases hh), hq2, ?_, hr.grow hseg.1 hseg.2 hdead, ?_, ?_, hmid, ?_⟩
    · intro p i hi he
      rw [hrep]
      exact ⟨(fun hh => by cases hh), fun hh => absurd hh (hno p i hi he)⟩
    · rw [hs0]; exact (Ext.refl ρ s w).grow hseg.1 (fun i e h => hseg.2 i (hlt i e h))
    · refine ⟨by show a.tmps.size = (σ 0).a.size; rw [ha0]; exact ha.size, fun t => ?_, by show DRs ρ (σ 0).a.defers a.defers; rw [ha0]; exact ha.ds⟩
      rw [actS_get]
      have : ¬ written its (Array.replicate ops.size false) t = true := by
        intro hw
        obtain ⟨_, j, _, _, h6⟩ := written_iff.1 hw
        rw [hrep] at h6; cases h6
      unfold flOf
      rw [if_neg this, ha0]
      exact ha.tm t
    · intro p i hi _ _ _ hlt
      have := hmid 0 p (Nat.zero_le _) (by omega)
      rw [hs0] at this
      exact (hr.dom _ this).1
  refine region_any hS hT pl (ρ0 := ρ) (w00 := w) ?_ _ _ q ρ a w iv ?_
  · intro ρ' a' w' e1 e2 e3
    rw [hs0] at e1
    exact hN ρ' _ _ a' w' h3 e1 e2 e3
  · unfold leftOf
    rw [Array.toList_replicate, List.count_replicate]
    simp
theorem allocK_spec {s : CSt} {o : CObj} {k : Nat → CSt → Option COut} {x : COut} (h : allocK s o k = some x) :
    ∃ s', k s.next s' = some x ∧ s'.next = s.next + 1 ∧ s'.heap.get s.next = some o ∧ ∀ m, m ≠ s.next → s'.heap.get m = s.heap.get m := by
  obtain ⟨h0, n⟩ := s
  simp only [allocK, forceObj_eq] at h
  obtain ⟨t', h1, h2, h3⟩ := Tr.setK_spec h
  exact ⟨⟨t', Nat.succ n⟩, h1, rfl, h2, h3⟩
theorem updK_spec {β : Type} {s : CSt} {i : Nat} {o : CObj} {k : CSt → Option β} {x : β} (h : updK s i o k = some x) :
    ∃ s', k s' = some x ∧ s'.next = s.next ∧ s'.heap.get i = some o ∧ ∀ m, m ≠ i → s'.heap.get m = s.heap.get m := by
  obtain ⟨h0, n⟩ := s
  simp only [updK, forceObj_eq] at h
  obtain ⟨t', h1, h2, h3⟩ := Tr.setK_spec h
  exact ⟨⟨t', n⟩, h1, rfl, h2, h3⟩
def toExit : CExit → Exit
  | .normal => .normal
  | .exit id => .exit id
  | .ret => .ret
/-- what a loop over a function is on both sides -/
theorem Rel.loop {T : Tab} {base : Nat} {w0 w : World} {ρ : Ren} {s : CSt} (h : Rel T base w0 ρ s w) {i : Nat} {e : Ent} {st : LoopState} {pend : Option Code} {fn : FuncId} {tm : Tr Value} {size : Nat} {ps : Array Tmp} {asg bd : Code} {dl : Nat}
    (hg : s.heap.get i = some (.loop st pend fn tm size ps asg bd dl)) (he : ρ i = some e) : ∃ (g : FuncId) (tmps : Array Value) (df : Nat) (e' : Ent),
      w.heap[e.b]? = some (.loop { state := st, pending := pend, fn := g, tmps := tmps, params := ps, assign := asg, body := bd, defers := df }) ∧ tmps.size = size ∧ (∀ t, VR ρ ((tm.get t).getD undef) (tmps.getD t undef)) ∧
      ρ dl = some e' ∧ df = e'.b ∧ base ≤ e.b := by
  obtain ⟨r, h1, h2⟩ := h.obj _ _ _ hg he
  have hb : base ≤ e.b := (h.own _ _ _ hg he).resolve_right (by rintro ⟨vs, el, n, q, _⟩; cases q)
  cases h2 with
  | loop a b c d => exact ⟨_, _, _, _, h1, a, b, c, d, hb⟩
theorem run_getLoop {P : Program} {w : World} {r : Nat} {lp : Loop} (hb : w.heap[r]? = some (.loop lp)) : (Instr.getLoop r).run P w = .ok lp w := by simp [Instr.getLoop, getObj, Sem.run, hb]
theorem run_setLoop {P : Program} {w : World} {r : Nat} {lp : Loop} {o' : Obj} (hb : w.heap[r]? = some (.loop lp)) : (setObj r o').run P w = .ok () (World.withObj w r o') := by
  simp [setObj, Sem.run, hb, World.withObj]
theorem evalDefers (a : Act) (ds : List Deferred) : ({ a with defers := ds } : Act).eval = a.eval := by
  funext x; cases x <;> rfl
theorem cevalDefers (T : Tab) (tm : Tr Value) (size : Nat) (ds ds' : List Deferred) (x : Operand) : ceval T ⟨tm, size, ds⟩ x = ceval T ⟨tm, size, ds'⟩ x := by
  cases x <;> rfl
theorem rfGo_sound (hS : SelfOk T self) (hT : T.Ok) {f : Operand} {ps : Array Tmp} {asg bd : Code} {ro : Option Nat} {n : Nat} {Q : Exit → Act → World → Prop} {k : CAct → CSt → Option COut} {x : COut}
    {ρ : Ren} {s : CSt} {w : World} {ca : CAct} {a : Act} {dl : Nat} {e' : Ent} (h : rfGo T self f ps asg bd ca dl s k = some x) (hr : Rel T base w0 ρ s w) (ha : AR ρ ca a) (hd : ρ dl = some e')
    (hN : Then T base w0 ρ s w k x (fun a' w' => Q .normal a' w'))
    (hX : x.e ≠ .normal → ∀ (ρ' : Ren) (a' : Act) (w' : World), Ext ρ s w ρ' x.s w' → Rel T base w0 ρ' x.s w' → AR ρ' x.a a' → Q (toExit x.e) a' w') (fn : FuncId) :
    ∃ (l : Nat) (d : Deferred) (w1 : World) (g : FuncId) (args : Array Value),
      (newObj (.loop { state := .ready, pending := none, fn, tmps := a.tmps, params := ps, assign := asg, body := bd, defers := e'.b })).run T.P w = .ok l w1 ∧
      (resolve a.eval (rangeCall f l) 0).run T.P w1 = .ok d w1 ∧ (invoke d.target d.args).run T.P w1 = .ok (.enter g args) w1 ∧
      CallsIn Fence.wide 0 T.P g args w1 (rangePost (wideAt ro) n T.P l Q a) := by
  obtain ⟨tm, size, ds⟩ := ca
  simp only [rfGo] at h
  obtain ⟨s2, h, n2, g2, o2⟩ := allocK_spec h
  have hOR : ∀ e : Ent, OR T (Ren.set ρ s.next e) e (.loop .ready none 0 tm size ps asg bd dl) (.loop { state := .ready, pending := none, fn := fn, tmps := a.tmps, params := ps, assign := asg, body := bd, defers := e'.b }) := fun e =>
    .loop ha.size (fun t => (ha.tm t).mono (set_mono hr e)) (set_mono hr e _ _ hd) rfl
  obtain ⟨hr2, hx2⟩ := hr.alloc (e := ⟨w.heap.size, 0, 0, 0, 0⟩) n2 g2 o2 rfl (hOR _)
  refine ⟨w.heap.size, ?_⟩
  generalize hw1 : ({ w with heap := w.heap.push (.loop { state := .ready, pending := none, fn := fn, tmps := a.tmps, params := ps, assign := asg, body := bd, defers := e'.b }) } : World) = w1 at hr2 hx2
  have ha2 := ha.mono (set_mono hr ⟨w.heap.size, 0, 0, 0, 0⟩)
  split at h
  · rename_i g first captured hf
    split at h
    · rename_i hb
      cases hc : self.call g (first.toList ++ .func (.yield s.next) #[] #[] :: captured.toList) s2 with
      | none => rw [hc] at h; cases h
      | some ov =>
        obtain ⟨v, s3⟩ := ov
        rw [hc] at h
        simp only at h
        have hu := ha2.eval hr2 hf
        generalize hfe : a.eval f = u' at hu
        cases hu with
        | func _ _ _ x' y' q1 q2 q3 q4 =>
          have hfi : VRs (Ren.set ρ s.next ⟨w.heap.size, 0, 0, 0, 0⟩) first.toList x'.toList := ⟨q1, q2⟩
          have hca : VRs (Ren.set ρ s.next ⟨w.heap.size, 0, 0, 0, 0⟩) captured.toList y'.toList := ⟨q3, q4⟩
          have hy : VR (Ren.set ρ s.next ⟨w.heap.size, 0, 0, 0, 0⟩) (.func (.yield s.next) #[] #[]) (.func (.yield w.heap.size) #[] #[]) := VR.yield (Ren.set_same ρ _ _)
          have hargs : VRs (Ren.set ρ s.next ⟨w.heap.size, 0, 0, 0, 0⟩) (first.toList ++ Value.func (.yield s.next) #[] #[] :: captured.toList) (x' ++ #[Value.func (.yield w.heap.size) #[] #[]] ++ y').toList := by
            have := hfi.append (VRs.cons hy hca)
            simpa using this
          obtain ⟨fnn, c1, c2, c3⟩ := hS.call hc hr2 hargs
          have hbody : fnn.body.isSome = true := by
            unfold hasBody at hb
            split at hb
            · rename_i fm hfm
              have := hT.fn _ _ hfm
              rw [c1] at this; cases this
              exact hb
            · cases hb
          rcases c3 with ⟨_, c3⟩ | ⟨c3, _⟩
          · have hinv : (invoke (.fn (.func g) y') (x' ++ #[Value.func (.yield w.heap.size) #[] #[]])).run T.P w1 = .ok (.enter g (x' ++ #[Value.func (.yield w.heap.size) #[] #[]] ++ y')) w1 := run_callFunc_body c1 c2 hbody
            refine ⟨{ target := .fn (.func g) y', args := x' ++ #[Value.func (.yield w.heap.size) #[] #[]] }, w1, g, x' ++ #[Value.func (.yield w.heap.size) #[] #[]] ++ y', ?_, ?_, hinv, CallsIn.mono c3 ?_⟩
            · rw [← hw1]; rfl
            · have hm : Array.map a.eval #[Operand.const (Value.func (.yield w.heap.size) #[] #[])] = #[Value.func (.yield w.heap.size) #[] #[]] := by simp [Act.eval]
              simp only [resolve, rangeCall, hfe, Deferred.ofValue, Sem.run_pure, hm]
            · rintro en w3 ⟨v', rfl, ρ3, e1, e2, e3⟩
              have hl3 : ρ3 s.next = some ⟨w.heap.size, 0, 0, 0, 0⟩ := by rw [e1.keep _ (by omega)]; exact Ren.set_same ρ _ _
              unfold rfEnd at h
              split at h
              · rename_i st pend fn' tm' size' ps' asg' bd' dl' hg3
                obtain ⟨g3, tmps3, df3, e3', l1, l2, l3, l4, l5, l6⟩ := e2.loop hg3 hl3
                have hgo := run_getLoop (P := T.P) l1
                have hso := fun o' => run_setLoop (P := T.P) (o' := o') l1
                have hst : st ≠ .busy := by rintro rfl; cases h
                have h : updK s3 s.next (.loop .exhausted pend fn' tm' size' ps' asg' bd' dl') (fun s => match pend with
                    | none => k ⟨tm, size, ds⟩ s
                    | some (.exit id) => some ⟨.exit id, ⟨tm, size, ds⟩, s⟩
                    | some .ret => some ⟨.ret, ⟨tm, size, ds⟩, s⟩
                    | some _ => none) = some x := by
                  cases st with
                  | busy => exact absurd rfl hst
                  | _ => exact h
                obtain ⟨s4, h, n4, g4, o4⟩ := updK_spec h
                obtain ⟨hr4, hx4⟩ := e2.upd (r' := .loop { state := .exhausted, pending := pend, fn := g3, tmps := tmps3, params := ps', assign := asg', body := bd', defers := df3 }) (e := ⟨w.heap.size, 0, 0, 0, 0⟩) n4 hg3 hl3 g4 o4 l6 (.loop l2 l3 l4 l5)
                have hend : (Instr.endLoop w.heap.size).run T.P w3 = .ok pend (World.withObj w3 w.heap.size (.loop { state := .exhausted, pending := pend, fn := g3, tmps := tmps3, params := ps', assign := asg', body := bd', defers := df3 })) := by
                  have hb : (st == LoopState.busy) = false := by cases st <;> first | rfl | exact absurd rfl hst
                  simp only [Instr.endLoop, Sem.run_bind, hgo, Result.andThen_ok, hb, Bool.false_eq_true, if_false, hso, Sem.run_pure]
                have hext := hx2.trans (e1.trans hx4)
                have ha4 := ha.mono (hext.ren hr)
                refine ⟨pend, _, hend, ?_⟩
                cases pend with
                | none => exact hN _ _ _ _ _ h hext hr4 ha4
                | some c =>
                  cases c with
                  | exit id =>
                    cases h
                    exact wpIn_exit (hX (by simp) _ _ _ hext hr4 ha4)
                  | ret =>
                    cases h
                    exact wpIn_ret (hX (by simp) _ _ _ hext hr4 ha4)
                  | _ => cases h
              · cases h
          · rw [hbody] at c3; cases c3
    · cases h
  · cases h
end
end Go.Canon
end
