/- The evaluator's soundness over the calculus of calls, one part; no conditions. -/
import Derived.RecoverIn
import Derived.Test.YtlmeiickknfhhaaGreatDoorCg
set_option linter.all false
set_option linter.unusedVariables false
set_option linter.unusedSimpArgs false
set_option linter.unusedSectionVars false
set_option linter.unnecessarySimpa false
section
namespace Go.Canon
open Go Go.RowKit
set_option linter.unusedSectionVars false
/-- what is asked of the program besides -/
structure Tab.Fit (T : Tab) : Prop where
  mixed : T.P.follows .mixedOrders = true
  num : ∀ i f, T.fn.get i = some f → (f.name == "runtime.NumGoroutine") = false
  gobjs : ∀ o ∈ T.gobjs, ∃ vs el fz, o = .cells vs el fz ∧ scalars vs = true
  gls : ∀ g i, T.gl.get g = some i → i < T.gobjs.length
theorem least {p : Nat → Prop} (h : ∃ n, p n) : ∃ n, p n ∧ ∀ m, p m → n ≤ m := by
  obtain ⟨n, hn⟩ := h
  induction n using Nat.strongRecOn with
  | _ n ih =>
    by_cases hs : ∃ m, m < n ∧ p m
    · obtain ⟨m, h1, h2⟩ := hs; exact ih m h1 h2
    · exact ⟨n, hn, fun m hm => Nat.le_of_not_lt fun hlt => hs ⟨m, hlt, hm⟩⟩
section
variable {T : Tab} {base : Nat} {w0 : World} {self : Self}
/-- how it ends, on both sides -/
def Ends (T : Tab) (base : Nat) (w0 : World) (ρ : Ren) (s : CSt) (w : World) (x : COut) (Q : Exit → Act → World → Prop) : Prop :=
  x.e ≠ .normal → ∀ (ρ' : Ren) (a' : Act) (w' : World), Ext ρ s w ρ' x.s w' → Rel T base w0 ρ' x.s w' → AR ρ' x.a a' → Q (toExit x.e) a' w'
theorem Ends.ext {w w1 : World} {ρ ρ1 : Ren} {s s1 : CSt} {x : COut} {Q : Exit → Act → World → Prop} (h : Ends T base w0 ρ s w x Q) (e : Ext ρ s w ρ1 s1 w1) : Ends T base w0 ρ1 s1 w1 x Q :=
  fun h1 ρ' a' w' h2 h3 h4 => h h1 ρ' a' w' (e.trans h2) h3 h4
theorem range'_range (n : Nat) : List.range' 0 n = List.range n := by rw [List.range_eq_range']
theorem loop_sound {c : Code} {md : Md} {ro : Option Nat} {n : Nat} {Q : Exit → Act → World → Prop} {x : COut}
    (ih : ∀ {Q' : Exit → Act → World → Prop} {k : CAct → CSt → Option COut} {y : COut} {ρ : Ren} {s : CSt} {w : World} {ca : CAct} {a : Act}, (compCode T c).run self md ca s k = some y → MdR ρ md ro → Rel T base w0 ρ s w → AR ρ ca a →
      Then T base w0 ρ s w k y (fun a' w' => Q' .normal a' w') → Ends T base w0 ρ s w y Q' → c.wpIn (wideAt ro) n T.P Q' a w)
    {fuel : Nat} {ρ : Ren} {s : CSt} {w : World} {ca : CAct} {a : Act} (h : loopF (compCode T c) self md fuel ca s = some x) (hm : MdR ρ md ro) (hr : Rel T base w0 ρ s w) (ha : AR ρ ca a)
    (hX : Ends T base w0 ρ s w x Q) (hN : x.e = .normal → False) : (Code.loop c).wpIn (wideAt ro) n T.P Q a w := by
  let p : Act → World → Nat → Prop := fun a' w' m => ∃ ρ' ca' s', loopF (compCode T c) self md m ca' s' = some x ∧ Ext ρ s w ρ' s' w' ∧ Rel T base w0 ρ' s' w' ∧ AR ρ' ca' a'
  have μ : ∀ a' w', ∃ m : Nat, (∃ k, p a' w' k) → p a' w' m ∧ ∀ k, p a' w' k → m ≤ k := fun a' w' => by
    by_cases hh : ∃ k, p a' w' k
    · obtain ⟨m, h1, h2⟩ := least hh
      exact ⟨m, fun _ => ⟨h1, h2⟩⟩
    · exact ⟨0, fun h => absurd h hh⟩
  refine wpIn_loop (fun a' w' => ∃ k, p a' w' k) (fun a' w' => Classical.choose (μ a' w')) ⟨fuel, ρ, ca, s, h, Ext.refl _ _ _, hr, ha⟩ ?_
  intro a' w' hI
  obtain ⟨hp, hmin⟩ := Classical.choose_spec (μ a' w') hI
  generalize hmv : Classical.choose (μ a' w') = m at hp hmin ⊢
  obtain ⟨ρ', ca', s', h1, h2, h3, h4⟩ := hp
  cases m with
  | zero => cases h1
  | succ m =>
    have h1 : loopK (loopF (compCode T c) self md m) ((compCode T c).run self md ca' s' doneK) = some x := h1
    cases hy : (compCode T c).run self md ca' s' doneK with
    | none => rw [hy] at h1; cases h1
    | some y =>
      rw [hy] at h1
      refine ih hy (hm.mono (h2.ren hr)) h3 h4 ?_ ?_
      · intro ρ2 ca2 s2 a2 w2 g1 g2 g3 g4
        cases g1
        simp only [loopK] at h1
        have hp2 : p a2 w2 m := ⟨ρ2, ca2, s2, h1, h2.trans g2, g3, g4⟩
        refine ⟨⟨m, hp2⟩, ?_⟩
        have := (Classical.choose_spec (μ a2 w2) ⟨m, hp2⟩).2 m hp2
        omega
      · intro hne ρ2 a2 w2 g2 g3 g4
        obtain ⟨e, ya, ys⟩ := y
        have hx : x = ⟨e, ya, ys⟩ := by
          cases e with
          | normal => exact absurd rfl hne
          | exit i => simp only [loopK] at h1; exact (Option.some.inj h1).symm
          | ret => simp only [loopK] at h1; exact (Option.some.inj h1).symm
        subst hx
        have := hX hne ρ2 a2 w2 (h2.trans g2) g3 g4
        cases e with
        | normal => exact absurd rfl hne
        | exit i => exact this
        | ret => exact this
theorem loopF_ends {c : OpsF} {md : Md} {x : COut} : ∀ {fuel : Nat} {ca : CAct} {s : CSt}, loopF c self md fuel ca s = some x → x.e = .normal → False := by
  intro fuel
  induction fuel with
  | zero => intro ca s h; cases h
  | succ m ih =>
    intro ca s h he
    have h1 : loopK (loopF c self md m) (c.run self md ca s doneK) = some x := h
    cases hy : c.run self md ca s doneK with
    | none => rw [hy] at h1; cases h1
    | some y =>
      rw [hy] at h1
      obtain ⟨e, ya, ys⟩ := y
      cases e with
      | normal => exact ih h1 he
      | exit i => simp only [loopK] at h1; cases h1; cases he
      | ret => simp only [loopK] at h1; cases h1; cases he
theorem code_sound (hS : SelfOk T self) (hT : T.Ok) (hF : T.Fit) : ∀ (c : Code) {md : Md} {ro : Option Nat} {n : Nat} {Q : Exit → Act → World → Prop} {k : CAct → CSt → Option COut} {x : COut} {ρ : Ren} {s : CSt} {w : World} {ca : CAct} {a : Act},
    (compCode T c).run self md ca s k = some x → MdR ρ md ro → Rel T base w0 ρ s w → AR ρ ca a → Then T base w0 ρ s w k x (fun a' w' => Q .normal a' w') → Ends T base w0 ρ s w x Q →
    c.wpIn (wideAt ro) n T.P Q a w := by
  intro c
  induction c with
  | skip => intro md ro n Q k x ρ s w ca a h hm hr ha hN hX; exact wpIn_skip (hN ρ ca s a w h (Ext.refl _ _ _) hr ha)
  | label l => intro md ro n Q k x ρ s w ca a h hm hr ha hN hX; exact wpIn_label (hN ρ ca s a w h (Ext.refl _ _ _) hr ha)
  | exit id =>
    intro md ro n Q k x ρ s w ca a h hm hr ha hN hX
    cases h
    exact wpIn_exit (hX (by simp) ρ a w (Ext.refl _ _ _) hr ha)
  | ret =>
    intro md ro n Q k x ρ s w ca a h hm hr ha hN hX
    cases h
    exact wpIn_ret (hX (by simp) ρ a w (Ext.refl _ _ _) hr ha)
  | seq c d ihc ihd =>
    intro md ro n Q k x ρ s w ca a h hm hr ha hN hX
    refine wpIn_seq (ihc h hm hr ha ?_ ?_)
    · intro ρ' ca' s' a' w' h1 h2 h3 h4
      exact ihd h1 (hm.mono (h2.ren hr)) h3 h4 (hN.ext h2) (hX.ext h2)
    · intro hne ρ' a' w' h2 h3 h4
      have := hX hne ρ' a' w' h2 h3 h4
      obtain ⟨e, xa, xs⟩ := x
      cases e with
      | normal => exact absurd rfl hne
      | exit i => exact this
      | ret => exact this
  | cond v c d ihc ihd =>
    intro md ro n Q k x ρ s w ca a h hm hr ha hN hX
    replace h : condF (compCode T c) (compCode T d) self md ca s k ((compX T v).get ca) = some x := h
    rw [compX_get] at h
    cases hv : ceval T ca v with
    | none => rw [hv] at h; cases h
    | some u =>
      rw [hv] at h
      have hu := ha.eval hr hv
      cases u with
      | bool b =>
        generalize he : a.eval v = u' at hu
        cases hu with
        | bool b =>
          cases b with
          | true => exact wpIn_cond_true he (ihc h hm hr ha hN hX)
          | false => exact wpIn_cond_false he (ihd h hm hr ha hN hX)
      | _ => cases h
  | block id c ihc =>
    intro md ro n Q k x ρ s w ca a h hm hr ha hN hX
    replace h : blockK id k ((compCode T c).run self md ca s doneK) = some x := by
      cases md with
      | dead => cases h
      | _ => exact h
    cases hy : (compCode T c).run self md ca s doneK with
    | none => rw [hy] at h; cases h
    | some y =>
      rw [hy] at h
      refine wpIn_block (ihc hy hm hr ha ?_ ?_)
      · intro ρ' ca' s' a' w' h1 h2 h3 h4
        cases h1
        exact hN ρ' ca' s' a' w' h h2 h3 h4
      · intro hne ρ' a' w' h2 h3 h4
        obtain ⟨e, ya, ys⟩ := y
        cases e with
        | normal => exact absurd rfl hne
        | exit i =>
          simp only [blockK] at h
          cases hb : Nat.beq i id with
          | true =>
            rw [hb] at h
            have := nbeq_true hb
            subst this
            show Exit.inBlock i Q (.exit i) a' w'
            simp only [Exit.inBlock, if_true]
            exact hN ρ' ya ys a' w' h h2 h3 h4
          | false =>
            rw [hb] at h
            cases h
            have hne' : i ≠ id := fun e => by rw [e, Nat.beq_refl] at hb; cases hb
            show Exit.inBlock id Q (.exit i) a' w'
            simp only [Exit.inBlock, if_neg hne']
            exact hX hne ρ' a' w' h2 h3 h4
        | ret =>
          simp only [blockK] at h
          cases h
          exact hX hne ρ' a' w' h2 h3 h4
  | loop c ihc =>
    intro md ro n Q k x ρ s w ca a h hm hr ha hN hX
    replace h : loopF (compCode T c) self md LOOP ca s = some x := by
      cases md with
      | dead => cases h
      | _ => exact h
    exact loop_sound ihc h hm hr ha hX (loopF_ends h)
  | region id ops draw =>
    intro md ro n Q k x ρ s w ca a h hm hr ha hN hX
    cases draw with
    | false =>
      refine wpIn_region ?_
      have := ops_sound (n := n) (Q := Q) hS hT (all := ops) ops.toList 0 (fun j => by rw [Nat.zero_add, Array.getElem?_toList]) h hm hr ha hN
      rw [Array.length_toList, range'_range] at this
      exact this
    | true =>
      have h : (itemsF T (planOf ops) ops).run self md ca s k = some x := h
      unfold itemsF at h
      split at h
      · rename_i its hp
        have h : evItems T self ops its 0 [] [] ca s k = some x := by
          obtain ⟨tm, size, ds⟩ := ca
          cases md with
          | dead => cases h
          | _ =>
            dsimp only at h
            split at h
            · exact h
            · cases h
        refine wpIn_region_any hF.mixed ?_
        obtain ⟨hr', hx'⟩ := hr.of_heap (w' := { w with drawn := w.drawn + 1 }) rfl rfl rfl rfl
        exact drawn_sound hS hT hp h hr' ha (hN.ext hx')
      · cases h
  | rangeFunc f ps asg bd _ _ =>
    intro md ro n Q k x ρ s w ca a h hm hr ha hN hX
    replace h : evRangeFunc T self f ps asg bd md ca s k = some x := h
    refine wpIn_rangeFunc fun fn _ => ?_
    cases md with
    | dead => cases h
    | plain =>
      cases ro with
      | some b => exact hm.elim
      | none =>
        obtain ⟨tm, size, ds⟩ := ca
        simp only [evRangeFunc] at h
        obtain ⟨s1, h, n1, g1, o1⟩ := allocK_spec h
        obtain ⟨hr1, hx1⟩ := hr.alloc (r := .deferred (some [])) (e := ⟨w.heap.size, 0, 0, 0, 0⟩) n1 g1 o1 rfl .deferred
        have hd : (Ren.set ρ s.next ⟨w.heap.size, 0, 0, 0, 0⟩) s.next = some ⟨w.heap.size, 0, 0, 0, 0⟩ := Ren.set_same ρ _ _
        have ha1 := ha.mono (set_mono hr ⟨w.heap.size, 0, 0, 0, 0⟩)
        have ha2 : AR (Ren.set ρ s.next ⟨w.heap.size, 0, 0, 0, 0⟩) ⟨tm, size, { target := .collected s.next, args := #[] } :: ds⟩ { a with defers := { target := .collected w.heap.size, args := #[] } :: a.defers } :=
          ⟨ha1.size, ha1.tm, .coll hd, ha1.ds⟩
        obtain ⟨l, d, w2, g, args, q1, q2, q3, q4⟩ := rfGo_sound (ro := none) (n := n) (Q := Q) hS hT h hr1 ha2 hd (hN.ext hx1) (hX.ext hx1) fn
        refine ⟨l, [{ target := .collected w.heap.size, args := #[] }], w2, d, w2, g, args, w2, ?_, ?_, fun _ _ => trivial, q3, (fun hh => by cases hh), callsIn_wideAt _ _ q4⟩
        · have hnew : (newObj (.deferred (some []))).run T.P w = .ok w.heap.size { w with heap := w.heap.push (.deferred (some [])) } := rfl
          show (Instr.enterLoop fn a.tmps ps asg bd none).run T.P w = _
          simp only [Instr.enterLoop, Sem.run_bind, hnew, Result.andThen_ok, Sem.run_pure]
          rw [q1]
          rfl
        · rw [evalDefers] at q2; exact q2
    | round lp =>
      cases ro with
      | none => exact hm.elim
      | some b =>
        obtain ⟨e, he, rfl⟩ := hm
        simp only [evRangeFunc] at h
        split at h
        · rename_i st pend fn' tm' size' ps' asg' bd' dl hg
          obtain ⟨g3, tmps3, df3, e3', l1, l2, l3, l4, l5, l6⟩ := hr.loop hg he
          have hgo := run_getLoop (P := T.P) l1
          obtain ⟨l, d, w2, g, args, q1, q2, q3, q4⟩ := rfGo_sound (ro := some e.b) (n := n) (Q := Q) hS hT h hr ha l4 hN hX fn
          refine ⟨l, [], w2, d, w2, g, args, w2, ?_, q2, fun _ _ => trivial, q3, (fun hh => by cases hh), callsIn_wideAt _ _ q4⟩
          show (Instr.enterLoop fn a.tmps ps asg bd (some e.b)).run T.P w = _
          simp only [Instr.enterLoop, Sem.run_bind, hgo, Result.andThen_ok, Sem.run_pure, l5]
          rw [q1]
          rfl
        · cases h
  | scope c _ => intro md ro n Q k x ρ s w ca a h; cases h
  | goto l => intro md ro n Q k x ρ s w ca a h; cases h
  | refuse y => intro md ro n Q k x ρ s w ca a h; cases h
end
end Go.Canon
end
section
namespace Go.Canon
open Go Go.RowKit
set_option linter.unusedSectionVars false
section
variable {T : Tab} {base : Nat} {w0 : World} {self : Self}
/-! ### results -/
theorem mapM_list {α β : Type} {P : Program} {w : World} {f : α → Sem β} : ∀ {l : List α} {r : List β}, (∀ (i : Nat) (x : α) (y : β), l[i]? = some x → r[i]? = some y → (f x).run P w = .ok y w) → r.length = l.length →
    (l.mapM f).run P w = .ok r w
  | [], r, _, hl => by rw [List.length_eq_zero_iff.1 hl]; simp
  | x :: l, r, h, hl => by
    cases r with
    | nil => simp at hl
    | cons y r =>
      have h0 := h 0 x y rfl rfl
      have h1 := mapM_list (l := l) (r := r) (fun i a b ha hb => h (i + 1) a b (by simpa using ha) (by simpa using hb)) (by simpa using hl)
      simp only [List.mapM_cons, Sem.run_bind, h0, Result.andThen_ok, h1, Sem.run_pure]
def resOf (tmps : Array Value) : ResultVar → Sem Value
  | .tmp t => Pure.pure (tmps.getD t undef)
  | .cell p t => do loadVar t (← asAddr (tmps.getD p undef))
theorem results_eq (fn : Func) (tmps : Array Value) : results fn tmps = (do
    let vs ← fn.results.mapM (resOf tmps)
    Pure.pure (if h : vs.size = 1 then vs[0] else .tuple vs)) := by
  unfold results
  congr 1
theorem retVals_sound {ρ : Ren} {s : CSt} {w : World} {ca : CAct} {a : Act} (hT : T.Ok) (hr : Rel T base w0 ρ s w) (ha : AR ρ ca a) : ∀ {rs : List ResultVar} {vs : List Value}, retVals T s ca rs = some vs →
    ∃ us : List Value, VRs ρ vs us ∧ us.length = rs.length ∧ ∀ (i : Nat) (x : ResultVar) (y : Value), rs[i]? = some x → us[i]? = some y →
      (resOf a.tmps x).run T.P w = .ok y w
  | [], vs, h => by cases h; exact ⟨[], VRs.nil, rfl, fun i x y hx => by simp at hx⟩
  | r :: rs, vs, h => by
    simp only [retVals] at h
    split at h
    · rename_i v hv
      split at h
      · rename_i vs' hvs
        cases h
        obtain ⟨us, h1, h2, h3⟩ := retVals_sound hT hr ha hvs
        have : ∃ u, VR ρ v u ∧ (resOf a.tmps r).run T.P w = .ok u w := by
          cases r with
          | tmp t =>
            have ht := ha.tm t
            refine ⟨a.tmps.getD t undef, ?_, by simp [resOf]⟩
            simp only at hv
            cases hg : ca.tm.get t with
            | none => rw [hg] at hv ht; cases hv; exact ht
            | some q => rw [hg] at hv ht; cases hv; exact ht
          | cell p t =>
            have hp := ha.tm p
            simp only at hv
            split at hv
            · rename_i b off hg
              rw [hg] at hp
              simp only [Option.getD_some] at hp
              generalize hq : a.tmps.getD p undef = q at hp
              cases hp with
              | ptr he =>
                obtain ⟨v', g1, g2⟩ := loadC_sound hr hT hv he
                exact ⟨v', g2, by simp [resOf, hq, asAddr, g1]⟩
            · cases hv
        obtain ⟨u, h4, h5⟩ := this
        refine ⟨u :: us, .cons h4 h1, by simp [h2], fun i x y hx hy => ?_⟩
        cases i with
        | zero => simp at hx hy; subst hx; subst hy; exact h5
        | succ i => exact h3 i x y (by simpa using hx) (by simpa using hy)
      · cases h
    · cases h
theorem results_sound {ρ : Ren} {s : CSt} {w : World} {ca : CAct} {a : Act} (hT : T.Ok) (hr : Rel T base w0 ρ s w) (ha : AR ρ ca a) {fn : Func} {vs : List Value} (h : retVals T s ca fn.results.toList = some vs) :
    ∃ v', (results fn a.tmps).run T.P w = .ok v' w ∧ VR ρ (oneOf vs) v' := by
  obtain ⟨us, h1, h2, h3⟩ := retVals_sound hT hr ha h
  have hm := mapM_list (P := T.P) (w := w) h3 h2
  have hA : (fn.results.mapM (resOf a.tmps)).run T.P w = .ok us.toArray w := by
    rw [← Array.toArray_toList (xs := fn.results), List.mapM_toArray]
    simp only [Sem.run_map]
    rw [hm]
    rfl
  rw [results_eq]
  simp only [Sem.run_bind]
  rw [hA]
  simp only [Result.andThen_ok, Sem.run_pure]
  refine ⟨_, rfl, ?_⟩
  cases vs with
  | nil => rw [h1.nil_left]; exact VR.tuple' VRs.nil
  | cons v vs =>
    obtain ⟨u, us', rfl, g1, g2⟩ := h1.cons_left
    cases vs with
    | nil =>
      rw [g2.nil_left]
      exact g1
    | cons v2 vs =>
      obtain ⟨u2, us2, rfl, g3, g4⟩ := g2.cons_left
      have hne : ¬ (u :: u2 :: us2).toArray.size = 1 := by simp
      rw [dif_neg hne]
      exact VR.tuple' h1
end
end Go.Canon
end
section
namespace Go.Canon
open Go Go.RowKit
set_option linter.unusedSectionVars false
section
variable {T : Tab} {base : Nat} {w0 : World} {self : Self}
/-! ### entering, leaving -/
theorem entry_AR {ρ : Ren} {args : List Value} {args' : Array Value} {n : Nat} {tm : Tr Value} {ds : List Deferred} (hv : VRs ρ args args'.toList) (hle : args.length ≤ n) (h1 : ∀ j, j < args.length → tm.get j = args[j]?)
    (h2 : ∀ m, args.length ≤ m → tm.get m = none) : AR ρ ⟨tm, n, []⟩ { tmps := args' ++ Array.replicate (n - args'.size) undef, defers := [] } := by
  have hl : args.length = args'.size := by have := hv.1; simpa using this
  refine ⟨by simp; omega, fun t => ?_, trivial⟩
  show VR ρ ((tm.get t).getD undef) ((args' ++ Array.replicate (n - args'.size) undef).getD t undef)
  rw [Array.getD_eq_getD_getElem?, Array.getElem?_append]
  by_cases ht : t < args.length
  · rw [h1 t ht, if_pos (by omega)]
    have := hv.2 t ht
    rw [List.getD_eq_getElem?_getD, List.getD_eq_getElem?_getD, Array.getElem?_toList (xs := args')] at this
    exact this
  · rw [h2 t (by omega), if_neg (by omega)]
    rw [Array.getElem?_replicate]
    split <;> exact VR.undef
/-- an operation that calls no Go function -/
theorem op_plain {ρ : Ren} {s : CSt} {w : World} {ca : CAct} {a : Act} (hr : Rel T base w0 ρ s w) (ha : AR ρ ca a) (hT : T.Ok) {o : Oper} {r : OpR} {v : Value} {s' : CSt} (h : cop T s.heap (ceval T ca) o.op = some r)
    (hq : quietK s r outV0 = some ⟨v, s'⟩) (hv : ∀ f args ts, o.op ≠ .call ⟨.value f, args, ts⟩) : Plain T.P (execOp a.eval o) w (fun v' w' => SoundV T base w0 ρ s w v s' v' w') := by
  have hk := quiet_pack hq
  have toV : Plain T.P (execOp a.eval o) w (fun v' w' => Sound1 T base w0 ρ s w (fun v s => some (packV v s)) (packV v s') v' w') → Plain T.P (execOp a.eval o) w (fun v' w' => SoundV T base w0 ρ s w v s' v' w') := by
    rintro ⟨v', w', h1, h2⟩
    exact ⟨v', w', h1, h2.toV⟩
  by_cases hc : ∃ c, o.op = .call c
  · obtain ⟨c, hc⟩ := hc
    obtain ⟨ce, args, ts⟩ := c
    cases ce with
    | value f => exact absurd hc (hv _ _ _)
    | invoke rr m =>
      rw [hc] at h
      simp only [cop, callC] at h
      split at h <;> cases h
    | builtin b =>
      rw [hc] at h
      simp only [cop, callC] at h
      cases h1 : evs (ceval T ca) args.toList with
      | none => rw [h1] at h; cases h
      | some l =>
        rw [h1] at h
        simp only at h
        have hl := evs_sound hr ha hT h1
        rw [← evalMap] at hl
        obtain ⟨v', w', g1, g2⟩ := builtinC_sound (ty := o.type) (consts := args.map fun | .const _ => true | _ => false) hr hT h hk hl
        exact toV ⟨v', w', .inl (by simp only [execOp, hc, resolve, Sem.run_bind, Sem.run_pure, Result.andThen_ok, invoke]; exact g1), g2⟩
  · exact toV (plain_sound hr ha hT h hk (fun c e => hc ⟨c, e⟩))
theorem dead_ops (hT : T.Ok) {all : Array Oper} {n : Nat} {c0 : Frame} {cs : List Frame} (hc0 : c0.mode = .returning) {Q : Exit → Act → List Frame → World → Prop} {k : CAct → CSt → Option COut} {x : COut} : ∀ (l : List Oper) (i : Nat), (∀ j, all[i + j]? = l[j]?) →
    ∀ {ρ : Ren} {s : CSt} {w : World} {ca : CAct} {a : Act}, (compOps T all l).run noSelf .dead ca s k = some x → Rel T base w0 ρ s w → AR ρ ca a →
      Then T base w0 ρ s w k x (fun a' w' => Q .normal a' (c0 :: cs) w') → wpOpsSIn (wideAt none) n T.P all Q (List.range' i l.length) a (c0 :: cs) w := by
  intro l
  induction l with
  | nil =>
    intro i _ ρ s w ca a h hr ha hN
    exact hN ρ ca s a w h (Ext.refl _ _ _) hr ha
  | cons o l ih =>
    intro i hi ρ s w ca a h hr ha hN
    have ho : all[i]? = some o := by have := hi 0; simpa using this
    have hi' : ∀ j, all[i + 1 + j]? = l[j]? := fun j => by have := hi (j + 1); rw [List.getElem?_cons_succ, show i + (j + 1) = i + 1 + j from by omega] at this; exact this
    show wpOpsSIn (wideAt none) n T.P all Q (i :: List.range' (i + 1) l.length) a (c0 :: cs) w
    simp only [wpOpsSIn, ho]
    refine ⟨fun _ _ => trivial, ?_⟩
    have rest : ∀ {ρ1 : Ren} {s1 : CSt} {w1 : World} {ca1 : CAct} {a1 : Act}, Ext ρ s w ρ1 s1 w1 → (compOps T all l).run noSelf .dead ca1 s1 k = some x → Rel T base w0 ρ1 s1 w1 → AR ρ1 ca1 a1 →
        wpOpsSIn (wideAt none) n T.P all Q (List.range' (i + 1) l.length) a1 (c0 :: cs) w1 := by
      intro ρ1 s1 w1 ca1 a1 he h1 hr1 ha1
      exact ih (i + 1) hi' h1 hr1 ha1 (hN.ext he)
    have one : oneF T o (compOps T all l) noSelf .dead ca s k = some x → (match (execOp a.eval o).run T.P w with
        | .ok .recover w' => (match recoverD (c0 :: cs) with
          | some (v, cs') => wpOpsSIn (wideAt none) n T.P all Q (List.range' (i + 1) l.length) (a.put o.dst v) cs' w'
          | none => wpOpsSIn (wideAt none) n T.P all Q (List.range' (i + 1) l.length) (a.put o.dst .nilIface) (c0 :: cs) w')
        | .ok (.value v) w' => wpOpsSIn (wideAt none) n T.P all Q (List.range' (i + 1) l.length) (a.put o.dst v) (c0 :: cs) w'
        | .ok .skip w' => wpOpsSIn (wideAt none) n T.P all Q (List.range' (i + 1) l.length) (a.put o.dst undef) (c0 :: cs) w'
        | .halt (.panic v) w' => Q (.panic [{ v, recovered := false }]) a (c0 :: cs) w'
        | _ => False) := by
      intro h
      unfold oneF at h
      rw [compF_eq] at h
      unfold copK at h
      split at h
      · rename_i r hc
        rw [outO_bind] at h
        cases hp : outP o.op noSelf s r with
        | none => rw [hp] at h; cases h
        | some ov =>
          obtain ⟨v, s1⟩ := ov
          rw [hp] at h
          simp only [Option.bind_some, mkPut_run] at h
          rw [putK_bind] at h
          cases hq : putR ca o.dst v with
          | none => rw [hq] at h; cases h
          | some ca1 =>
            rw [hq] at h
            simp only [Option.bind_some] at h
            have hv : ∀ f args ts, o.op ≠ .call ⟨.value f, args, ts⟩ := by
              intro f args ts hop
              rw [hop] at hc hp
              simp only [cop, callC] at hc
              split at hc
              · unfold enterC at hc
                split at hc
                · cases hc; cases hp
                · cases hc; cases hp
                · cases hc
              · cases hc
            have hqq : quietK s r outV0 = some ⟨v, s1⟩ := by
              unfold outP at hp
              split at hp
              · rename_i e; exact absurd e (hv _ _ _)
              · exact hp
            obtain ⟨v', w', h1, ρ', e1, e2, e3⟩ := op_plain hr ha hT hc hqq hv
            have hgo := rest e1 h e2 ((ha.mono (e1.ren hr)).putR (s := s) e3 hq).1
            rcases h1 with h1 | ⟨h1, rfl⟩
            · rw [h1]; exact hgo
            · rw [h1]; exact hgo
      · cases h
    have hN0 : Region.wanted o (yielded all a.tmps) = wantedC all ca o := (wanted_eq ha o).symm
    simp only [compOps] at h
    split at h
    · rename_i g hg
      simp only [guardF] at h
      split at h
      · rename_i hw
        rw [if_pos (by rw [hN0]; exact hw)]
        exact one h
      · rename_i hw
        rw [if_neg (by rw [hN0, hw]; simp)]
        rw [putK_bind] at h
        cases hq : putR ca o.dst undef with
        | none => rw [hq] at h; cases h
        | some ca1 =>
          rw [hq] at h
          exact rest (Ext.refl _ _ _) h hr (ha.putR (s := s) VR.undef hq).1
    · rename_i hg
      have hw : Region.wanted o (yielded all a.tmps) = true := by unfold Region.wanted; rw [hg]
      rw [if_pos hw]
      split at h
      · rename_i c hop
        unfold deferF at h
        dsimp only at h
        split at h <;> cases h
      · split at h
        · rename_i hrec
          unfold recF at h
          dsimp only at h
          rw [putK_bind] at h
          cases hq : putR ca o.dst .nilIface with
          | none => rw [hq] at h; cases h
          | some ca1 =>
            rw [hq] at h
            simp only [Option.bind_some] at h
            have hex : (execOp a.eval o).run T.P w = .ok .recover w := by
              unfold isRecover at hrec
              split at hrec
              · rename_i args ts hop
                simp only [execOp, hop, resolve, Sem.run_bind, Sem.run_pure, Result.andThen_ok, invoke]
                rfl
              · cases hrec
            rw [hex]
            have hrd : recoverD (c0 :: cs) = none := by simp [recoverD, hc0]
            simp only [hrd]
            exact rest (Ext.refl _ _ _) h hr (ha.putR (s := s) .nili hq).1
        · exact one h
theorem dead_code (hT : T.Ok) {n : Nat} {c0 : Frame} {cs : List Frame} (hc0 : c0.mode = .returning) : ∀ (c : Code) {Q : Exit → Act → List Frame → World → Prop} {k : CAct → CSt → Option COut} {x : COut} {ρ : Ren} {s : CSt} {w : World} {ca : CAct} {a : Act},
    (compCode T c).run noSelf .dead ca s k = some x → Rel T base w0 ρ s w → AR ρ ca a → Then T base w0 ρ s w k x (fun a' w' => Q .normal a' (c0 :: cs) w') →
    (x.e ≠ .normal → ∀ (ρ' : Ren) (a' : Act) (w' : World), Ext ρ s w ρ' x.s w' → Rel T base w0 ρ' x.s w' → AR ρ' x.a a' → Q (toExit x.e) a' (c0 :: cs) w') →
    c.wpSIn (wideAt none) n T.P Q a (c0 :: cs) w := by
  intro c
  induction c with
  | skip => intro Q k x ρ s w ca a h hr ha hN hX; exact wpSIn_of_wpIn rfl (wpIn_skip (hN ρ ca s a w h (Ext.refl _ _ _) hr ha))
  | label l => intro Q k x ρ s w ca a h hr ha hN hX; exact wpSIn_of_wpIn rfl (wpIn_label (hN ρ ca s a w h (Ext.refl _ _ _) hr ha))
  | exit id =>
    intro Q k x ρ s w ca a h hr ha hN hX
    cases h
    exact wpSIn_of_wpIn rfl (wpIn_exit (hX (by simp) ρ a w (Ext.refl _ _ _) hr ha))
  | ret =>
    intro Q k x ρ s w ca a h hr ha hN hX
    cases h
    exact wpSIn_of_wpIn rfl (wpIn_ret (hX (by simp) ρ a w (Ext.refl _ _ _) hr ha))
  | seq c d ihc ihd =>
    intro Q k x ρ s w ca a h hr ha hN hX
    refine wpSIn_seq (ihc h hr ha ?_ ?_)
    · intro ρ' ca' s' a' w' h1 h2 h3 h4
      exact ihd h1 h3 h4 (fun ρ2 ca2 s2 a2 w2 g1 g2 g3 g4 => hN ρ2 ca2 s2 a2 w2 g1 (h2.trans g2) g3 g4) (fun hne ρ2 a2 w2 g2 g3 g4 => hX hne ρ2 a2 w2 (h2.trans g2) g3 g4)
    · intro hne ρ' a' w' h2 h3 h4
      have := hX hne ρ' a' w' h2 h3 h4
      obtain ⟨e, xa, xs⟩ := x
      cases e with
      | normal => exact absurd rfl hne
      | exit i => exact this
      | ret => exact this
  | cond v c d ihc ihd =>
    intro Q k x ρ s w ca a h hr ha hN hX
    replace h : condF (compCode T c) (compCode T d) noSelf .dead ca s k ((compX T v).get ca) = some x := h
    rw [compX_get] at h
    cases hv : ceval T ca v with
    | none => rw [hv] at h; cases h
    | some u =>
      rw [hv] at h
      have hu := ha.eval hr hv
      cases u with
      | bool b =>
        generalize he : a.eval v = u' at hu
        cases hu with
        | bool b =>
          cases b with
          | true => exact wpSIn_cond he (ihc h hr ha hN hX)
          | false => exact wpSIn_cond he (ihd h hr ha hN hX)
      | _ => cases h
  | region id ops draw =>
    intro Q k x ρ s w ca a h hr ha hN hX
    cases draw with
    | false =>
      refine wpSIn_region ?_
      have := dead_ops (n := n) (Q := Q) (cs := cs) hT (all := ops) hc0 ops.toList 0 (fun j => by rw [Nat.zero_add, Array.getElem?_toList]) h hr ha hN
      rw [Array.length_toList, range'_range] at this
      exact this
    | true =>
      exfalso
      replace h : (itemsF T (planOf ops) ops).run noSelf .dead ca s k = some x := h
      unfold itemsF at h
      split at h <;> cases h
  | block id c _ => intro Q k x ρ s w ca a h; cases h
  | loop c _ => intro Q k x ρ s w ca a h; cases h
  | rangeFunc f ps asg bd _ _ => intro Q k x ρ s w ca a h; cases h
  | scope c _ => intro Q k x ρ s w ca a h; cases h
  | goto l => intro Q k x ρ s w ca a h; cases h
  | refuse y => intro Q k x ρ s w ca a h; cases h
theorem deadCall_sound (hT : T.Ok) (hF : T.Fit) {ρ : Ren} {s s' : CSt} {w : World} {g : FuncId} {args : List Value} {args' : Array Value} (h : deadCall T g args s = some s') (hr : Rel T base w0 ρ s w) (hv : VRs ρ args args'.toList) :
    (∃ fn, T.P.funcs[g]? = some fn ∧ (fn.name == "runtime.NumGoroutine") = false ∧ fn.body.isSome = true) ∧
    CallsDIn (wideAt none) 0 T.P g args' .returning w (fun e u' w' => ∃ v', e = .returned v' ∧ u' = .returning ∧ ∃ ρ', Ext ρ s w ρ' s' w' ∧ Rel T base w0 ρ' s' w') := by
  unfold deadCall at h
  split at h
  · rename_i fn hfn
    have hP := hT.fn _ _ hfn
    split at h
    · rename_i c hc
      cases hb : Nat.ble args.length fn.ntmps with
      | false => rw [hb] at h; cases h
      | true =>
        rw [hb] at h
        simp only [cond_true] at h
        obtain ⟨tm, h, t1, t2⟩ := Tr.putL_spec _ _ _ _ _ h
        have hle := ble_iff.1 hb
        have ha := entry_AR (n := fn.ntmps) (tm := tm) (ds := []) hv hle (fun j hj => by have := t1 j hj; rwa [Nat.zero_add] at this) (fun m hm => by rw [t2 m (.inr (by omega))]; exact Tr.full_get _ _)
        refine ⟨⟨fn, hP, hF.num _ _ hfn, by rw [hc]; rfl⟩, ?_⟩
        refine callsDIn_of_wpSIn hP hc trivial fun c0 cs hc0 => ?_
        cases hy : (compCode T c).run noSelf .dead ⟨tm, fn.ntmps, []⟩ s doneK with
        | none => rw [hy] at h; cases h
        | some y =>
          rw [hy] at h
          obtain ⟨e, ⟨ytm, ysz, yds⟩, ys⟩ := y
          cases yds with
          | cons d ds => cases h
          | nil =>
            simp only [deadEnd] at h
            have fin : ∀ (ρ' : Ren) (a' : Act) (w' : World), e ≠ .exit 0 ∨ True → (∀ i, e ≠ .exit i) → Ext ρ s w ρ' ys w' → Rel T base w0 ρ' ys w' → AR ρ' ⟨ytm, ysz, []⟩ a' →
                a'.defers = [] ∧ ∃ u', (c0 :: cs) = { c0 with mode := u' } :: cs ∧ ∃ v, (results fn a'.tmps).run T.P w' = .ok v w' ∧
                  ((fun e u' w' => ∃ v', e = Ending.returned v' ∧ u' = FrameMode.returning ∧ ∃ ρ', Ext ρ s w ρ' s' w' ∧ Rel T base w0 ρ' s' w') : Ending → FrameMode → World → Prop) (.returned v) u' w' := by
              intro ρ' a' w' _ hne h2 h3 h4
              have hs : retVals T ys ⟨ytm, ysz, []⟩ fn.results.toList ≠ none ∧ ys = s' := by
                cases e with
                | exit i => exact absurd rfl (hne i)
                | normal =>
                  simp only at h
                  split at h
                  · rename_i q hq; cases h; exact ⟨by rw [hq]; simp, rfl⟩
                  · cases h
                | ret =>
                  simp only at h
                  split at h
                  · rename_i q hq; cases h; exact ⟨by rw [hq]; simp, rfl⟩
                  · cases h
              obtain ⟨hs1, rfl⟩ := hs
              cases hq : retVals T ys ⟨ytm, ysz, []⟩ fn.results.toList with
              | none => exact absurd hq hs1
              | some vs =>
                obtain ⟨v', g1, g2⟩ := results_sound hT h3 h4 hq
                refine ⟨?_, .returning, by rw [← hc0], v', g1, v', rfl, rfl, ρ', h2, h3⟩
                have := h4.ds
                cases hd : a'.defers with
                | nil => rfl
                | cons d ds => rw [hd] at this; exact this.elim
            refine dead_code (Q := bodyPostS T.P fn c0 cs _) hT hc0 c hy hr ha ?_ ?_
            · intro ρ' ca' s1 a' w' h1 h2 h3 h4
              cases h1
              exact fin ρ' a' w' (.inr trivial) (fun i hh => by cases hh) h2 h3 h4
            · intro hne ρ' a' w' h2 h3 h4
              cases e with
              | normal => exact absurd rfl hne
              | exit i => cases h
              | ret => exact fin ρ' a' w' (.inr trivial) (fun i hh => by cases hh) h2 h3 h4
    · cases h
  · cases h
end
end Go.Canon
end
section
namespace Go.Canon
open Go Go.RowKit
set_option linter.unusedSectionVars false
/-- the functions that are not walked -/
def NatOk (T : Tab) : Prop := ∀ {f : FuncId} {fn : Func} {args : List Value} {s : CSt} {r : OpR} {v : Value} {s' : CSt} {base : Nat} {w0 : World} {ρ : Ren} {w : World} {args' : Array Value}, T.fn.get f = some fn →
  nativeOf T s f fn args = some r → quietK s r outV0 = some ⟨v, s'⟩ → Rel T base w0 ρ s w → VRs ρ args args'.toList → CallGives T.P f args' w (fun v' w' => SoundV T base w0 ρ s w v s' v' w')
section
variable {T : Tab} {base : Nat} {w0 : World} {self : Self}
theorem run_takeDeferred {P : Program} {w : World} {r : Nat} (hb : w.heap[r]? = some (.deferred (some []))) : (Instr.takeDeferred r).run P w = .ok [] (World.withObj w r (.deferred none)) := by
  have hgo : (getObj r).run P w = .ok (.deferred (some [])) w := by simp [getObj, Sem.run, hb]
  have hso : (setObj r (.deferred none)).run P w = .ok () (World.withObj w r (.deferred none)) := by simp [setObj, Sem.run, hb, World.withObj]
  simp only [Instr.takeDeferred, Sem.run_bind, hgo, Result.andThen_ok, hso, Sem.run_pure]
theorem leave_sound (hT : T.Ok) (hF : T.Fit) {fn : Func} {tm : Tr Value} {size n : Nat} {tmps : Array Value} {v : Value} {s' : CSt} : ∀ (ds : List Deferred) {ρ : Ren} {s : CSt} {w : World} {defers : List Deferred}, leaveF T fn tm size ds s = some ⟨v, s'⟩ →
    Rel T base w0 ρ s w → AR ρ ⟨tm, size, ds⟩ { tmps := tmps, defers := defers } →
      LeavesInM (wideAt none) n T.P fn tmps (fun e w' => ∃ v', e = .returned v' ∧ SoundV T base w0 ρ s w v s' v' w') defers .returning w := by
  intro ds
  induction ds with
  | nil =>
    intro ρ s w defers h hr ha
    have hds := ha.ds
    cases defers with
    | cons d l => exact hds.elim
    | nil =>
      simp only [leaveF] at h
      split at h
      · rename_i vs hvs
        rw [forceList_eq] at h
        cases h
        obtain ⟨v', g1, g2⟩ := results_sound hT hr ha hvs
        exact ⟨v', g1, v', rfl, ρ, Ext.refl _ _ _, hr, g2⟩
      · cases h
  | cons d ds ih =>
    intro ρ s w defers h hr ha
    have hds := ha.ds
    cases defers with
    | nil => exact hds.elim
    | cons d' defers =>
      obtain ⟨hd, hds⟩ := hds
      -- on, behind this one
      have rest : ∀ {ρ1 : Ren} {s1 : CSt} {w1 : World}, Ext ρ s w ρ1 s1 w1 → Rel T base w0 ρ1 s1 w1 → leaveF T fn tm size ds s1 = some ⟨v, s'⟩ →
          LeavesInM (wideAt none) n T.P fn tmps (fun e w' => ∃ v', e = .returned v' ∧ SoundV T base w0 ρ s w v s' v' w') defers .returning w1 := by
        intro ρ1 s1 w1 he hr1 h1
        have ha1 : AR ρ1 ⟨tm, size, ds⟩ { tmps := tmps, defers := defers } := ⟨ha.size, fun t => (ha.tm t).mono (he.ren hr), hds.mono (he.ren hr)⟩
        have := ih h1 hr1 ha1
        have mono : ∀ (l : List Deferred) (u : FrameMode) (w2 : World), LeavesInM (wideAt none) n T.P fn tmps (fun e w' => ∃ v', e = .returned v' ∧ SoundV T base w0 ρ1 s1 w1 v s' v' w') l u w2 →
            LeavesInM (wideAt none) n T.P fn tmps (fun e w' => ∃ v', e = .returned v' ∧ SoundV T base w0 ρ s w v s' v' w') l u w2 := by
          have hR : ∀ e w', (∃ v', e = Ending.returned v' ∧ SoundV T base w0 ρ1 s1 w1 v s' v' w') → (∃ v', e = Ending.returned v' ∧ SoundV T base w0 ρ s w v s' v' w') := by
            rintro e w' ⟨v', rfl, ρ2, g1, g2, g3⟩
            exact ⟨v', rfl, ρ2, he.trans g1, g2, g3⟩
          intro l
          induction l with
          | nil =>
            intro u w2 hh
            cases u with
            | run => exact hh
            | returning => obtain ⟨v', g1, g2⟩ := hh; exact ⟨v', g1, hR _ _ g2⟩
            | panicking ch => exact hR _ _ hh
          | cons x l ihl =>
            intro u w2 hh
            obtain ⟨g1, g2⟩ := hh
            refine ⟨g1, ?_⟩
            rcases g2 with ⟨r, w3, g2, g3, g4⟩ | ⟨g2, fv, cap, f, args, g3, g4, g5, g6⟩
            · exact .inl ⟨r, w3, g2, g3, ihl _ _ g4⟩
            · refine .inr ⟨g2, fv, cap, f, args, g3, g4, g5, CallsDIn.mono g6 ?_⟩
              intro e u' w3 hh
              cases e with
              | returned y => exact ihl _ _ hh
              | panicked ch => exact ihl _ _ hh
              | outgrown => exact hR _ _ hh
        exact mono _ _ _ this
      simp only [leaveF] at h
      cases hd with
      | fn hc hargs =>
        rename_i g c c' aa aa'
        simp only at h
        cases hdc : deadCall T g (aa.toList ++ c.toList) s with
        | none => rw [hdc] at h; cases h
        | some s1 =>
          rw [hdc] at h
          simp only at h
          have hv : VRs ρ (aa.toList ++ c.toList) (aa' ++ c').toList := by rw [Array.toList_append]; exact hargs.append hc
          obtain ⟨⟨fnn, p1, p2, p3⟩, p4⟩ := deadCall_sound hT hF hdc hr hv
          have hinv : (invoke (.fn (.func g) c') aa').run T.P w = .ok (.enter g (aa' ++ c')) w := run_callFunc_body p1 p2 p3
          refine ⟨by simp, .inr ⟨(fun hh => by cases hh), .func g, c', g, aa' ++ c', rfl, hinv, fun _ _ => trivial, ?_⟩⟩
          refine ⟨trivial, fun c1 cs hu hroom => ?_⟩
          obtain ⟨e, u', w', fr, q1, q2, q3, q4, q5⟩ := p4.2 c1 cs hu (fun d hd => by cases hd)
          obtain ⟨v', rfl, rfl, ρ', e1, e2⟩ := q1
          exact ⟨.returned v', .returning, w', fr, rest e1 e2 h, q2, q3, q4, q5⟩
      | coll he =>
        rename_i i e
        simp only at h
        unfold collectK at h
        split at h
        · rename_i hg
          obtain ⟨s1, h, n1, g1, o1⟩ := updK_spec h
          obtain ⟨r, q1, q2⟩ := hr.obj _ _ _ hg he
          have hb : base ≤ e.b := (hr.own _ _ _ hg he).resolve_right (by rintro ⟨vs, el, n, q, _⟩; cases q)
          cases q2 with
          | deferred =>
            obtain ⟨hr1, hx1⟩ := hr.upd (r' := .deferred none) n1 hg he g1 o1 hb .taken
            exact ⟨by simp, .inl ⟨e.b, _, rfl, run_takeDeferred q1, rest hx1 hr1 h⟩⟩
        · cases h
theorem callBody_sound (hS : SelfOk T self) (hT : T.Ok) (hF : T.Fit) {f : FuncId} {fn : Func} (hfn : T.fn.get f = some fn) {args : List Value} {s : CSt} {v : Value} {s' : CSt} {ρ : Ren} {w : World} {args' : Array Value}
    (h : callBody T self fn args s = some ⟨v, s'⟩) (hr : Rel T base w0 ρ s w) (hv : VRs ρ args args'.toList) : CallGives T.P f args' w (fun v' w' => SoundV T base w0 ρ s w v s' v' w') := by
  have hP := hT.fn _ _ hfn
  unfold callBody at h
  split at h
  · cases h
  · rename_i c hc
    refine ⟨fn, hP, hF.num _ _ hfn, .inl ⟨by rw [hc]; rfl, ?_⟩⟩
    cases hb : Nat.ble args.length fn.ntmps with
    | false => rw [hb] at h; cases h
    | true =>
      rw [hb] at h
      simp only [cond_true] at h
      obtain ⟨tm, h, t1, t2⟩ := Tr.putL_spec _ _ _ _ _ h
      have hle := ble_iff.1 hb
      have ha := entry_AR (n := fn.ntmps) (tm := tm) (ds := []) hv hle (fun j hj => by have := t1 j hj; rwa [Nat.zero_add] at this) (fun m hm => by rw [t2 m (.inr (by omega))]; exact Tr.full_get _ _)
      cases hy : (compCode T c).run self .plain ⟨tm, fn.ntmps, []⟩ s doneK with
      | none => rw [hy] at h; cases h
      | some y =>
        rw [hy] at h
        obtain ⟨e, ⟨ytm, ysz, yds⟩, ys⟩ := y
        have fin : ∀ (ρ' : Ren) (a' : Act) (w' : World), (∀ i, e ≠ .exit i) → Ext ρ s w ρ' ys w' → Rel T base w0 ρ' ys w' → AR ρ' ⟨ytm, ysz, yds⟩ a' →
            LeavesInM (wideAt none) 0 T.P fn a'.tmps (fun e w' => ∃ v', e = .returned v' ∧ SoundV T base w0 ρ s w v s' v' w') a'.defers .returning w' := by
          intro ρ' a' w' hne h2 h3 h4
          have hl : leaveF T fn ytm ysz yds ys = some ⟨v, s'⟩ := by
            simp only [bodyEnd] at h
            cases e with
            | exit i => exact absurd rfl (hne i)
            | normal => exact h
            | ret => exact h
          have := leave_sound (n := 0) hT hF yds hl h3 h4
          have hR : ∀ e w2, (∃ v', e = Ending.returned v' ∧ SoundV T base w0 ρ' ys w' v s' v' w2) → (∃ v', e = Ending.returned v' ∧ SoundV T base w0 ρ s w v s' v' w2) := by
            rintro e w2 ⟨v', rfl, ρ2, g1, g2, g3⟩
            exact ⟨v', rfl, ρ2, h2.trans g1, g2, g3⟩
          have mono : ∀ (l : List Deferred) (u : FrameMode) (w2 : World), LeavesInM (wideAt none) 0 T.P fn a'.tmps (fun e w2 => ∃ v', e = .returned v' ∧ SoundV T base w0 ρ' ys w' v s' v' w2) l u w2 →
              LeavesInM (wideAt none) 0 T.P fn a'.tmps (fun e w2 => ∃ v', e = .returned v' ∧ SoundV T base w0 ρ s w v s' v' w2) l u w2 := by
            intro l
            induction l with
            | nil =>
              intro u w2 hh
              cases u with
              | run => exact hh
              | returning => obtain ⟨v', g1, g2⟩ := hh; exact ⟨v', g1, hR _ _ g2⟩
              | panicking ch => exact hR _ _ hh
            | cons x l ihl =>
              intro u w2 hh
              obtain ⟨g1, g2⟩ := hh
              refine ⟨g1, ?_⟩
              rcases g2 with ⟨r, w3, g2, g3, g4⟩ | ⟨g2, fv, cap, f, args, g3, g4, g5, g6⟩
              · exact .inl ⟨r, w3, g2, g3, ihl _ _ g4⟩
              · refine .inr ⟨g2, fv, cap, f, args, g3, g4, g5, CallsDIn.mono g6 ?_⟩
                intro e u' w3 hh
                cases e with
                | returned y => exact ihl _ _ hh
                | panicked ch => exact ihl _ _ hh
                | outgrown => exact hR _ _ hh
          exact mono _ _ _ this
        refine callsIn_of_wp_marks (F := wideAt none) hP hc trivial ?_
        refine code_sound hS hT hF c hy (md := .plain) (ro := none) trivial hr ha ?_ ?_
        · intro ρ' ca' s1 a' w' h1 h2 h3 h4
          cases h1
          exact fin ρ' a' w' (fun i hh => by cases hh) h2 h3 h4
        · intro hne ρ' a' w' h2 h3 h4
          cases e with
          | normal => exact absurd rfl hne
          | exit i => cases h
          | ret => exact fin ρ' a' w' (fun i hh => by cases hh) h2 h3 h4
theorem plainCall_sound (hS : SelfOk T self) (hT : T.Ok) (hF : T.Fit) (hN : NatOk T) {f : FuncId} {args : List Value} {s : CSt} {v : Value} {s' : CSt} {ρ : Ren} {w : World} {args' : Array Value}
    (h : plainCall T self f args s = some ⟨v, s'⟩) (hr : Rel T base w0 ρ s w) (hv : VRs ρ args args'.toList) : CallGives T.P f args' w (fun v' w' => SoundV T base w0 ρ s w v s' v' w') := by
  unfold plainCall at h
  split at h
  · rename_i fn hfn
    split at h
    · rename_i r hn
      exact hN hfn hn h hr hv
    · exact callBody_sound hS hT hF hfn h hr hv
  · cases h
/-! ### rounds -/
theorem zip_sound {ρ : Ren} : ∀ (ps : List Tmp) (args args' : List Value) {size : Nat} {tm : Tr Value} {tmps : Array Value} {k : Tr Value → Option VOut} {x : VOut}, zipSet size (ps.zip args) tm k = some x → VRs ρ args args' → tmps.size = size →
    (∀ t, VR ρ ((tm.get t).getD undef) (tmps.getD t undef)) → ∃ tm1, k tm1 = some x ∧ ((ps.zip args').foldl (fun tmps (t, a) => tmps.setIfInBounds t a) tmps).size = size ∧
      ∀ t, VR ρ ((tm1.get t).getD undef) (((ps.zip args').foldl (fun tmps (t, a) => tmps.setIfInBounds t a) tmps).getD t undef)
  | [], args, args', size, tm, tmps, k, x, h, _, hs, ht => ⟨tm, h, hs, ht⟩
  | p :: ps, [], args', size, tm, tmps, k, x, h, hv, hs, ht => by rw [hv.nil_left]; exact ⟨tm, h, hs, ht⟩
  | p :: ps, v :: args, args', size, tm, tmps, k, x, h, hv, hs, ht => by
    obtain ⟨v', l', rfl, h1, h2⟩ := hv.cons_left
    simp only [List.zip_cons_cons, zipSet] at h
    cases hb : Nat.blt p size with
    | false => rw [hb] at h; cases h
    | true =>
      rw [hb] at h
      simp only [cond_true] at h
      obtain ⟨t', g1, g2, g3⟩ := Tr.setK_spec h
      have hp : p < tmps.size := by rw [hs]; simpa [Nat.blt_eq] using hb
      refine zip_sound ps args l' (tmps := tmps.setIfInBounds p v') g1 h2 (by rw [Array.size_setIfInBounds]; exact hs) fun t => ?_
      by_cases htp : t = p
      · subst htp
        rw [g2, Array.getD_eq_getD_getElem?, Array.getElem?_setIfInBounds_self_of_lt hp]
        exact h1
      · rw [g3 t htp, Array.getD_eq_getD_getElem?, Array.getElem?_setIfInBounds_ne (fun q => htp q.symm), ← Array.getD_eq_getD_getElem?]
        exact ht t
theorem round_sound (hS : SelfOk T self) (hT : T.Ok) (hF : T.Fit) {l : Nat} {args : List Value} {s : CSt} {v : Value} {s' : CSt} {ρ : Ren} {w : World} {args' : Array Value} {e : Ent}
    (h : evRound T self l args s = some ⟨v, s'⟩) (hr : Rel T base w0 ρ s w) (he : ρ l = some e) (hv : VRs ρ args args'.toList) :
    ∃ g tmps asg bd, (Instr.yield e.b args').run T.P w = .ok (.round e.b g tmps asg bd) w ∧
      RoundIn Fence.wide 0 T.P e.b g tmps asg bd w (fun en w' => ∃ v', en = .returned v' ∧ SoundV T base w0 ρ s w v s' v' w') := by
  unfold evRound at h
  split at h
  · rename_i st pend fn tm size ps asg bd dl hg
    cases hb : Nat.beq ps.size args.length with
    | false => rw [hb] at h; cases h
    | true =>
      rw [hb] at h
      simp only [cond_true] at h
      have hsz := nbeq_true hb
      have hal : args.length = args'.size := by have := hv.1; simpa using this
      obtain ⟨g, tmps, df, e', l1, l2, l3, l4, l5, l6⟩ := hr.loop hg he
      have hgo := run_getLoop (P := T.P) l1
      obtain ⟨tm1, h, z1, z2⟩ := zip_sound ps.toList args args'.toList h hv l2 l3
      have ezip : (ps.zip args').foldl (fun tmps (t, a) => tmps.setIfInBounds t a) tmps = (ps.toList.zip args'.toList).foldl (fun tmps (t, a) => tmps.setIfInBounds t a) tmps := by
        rw [← Array.foldl_toList, Array.toList_zip]
      generalize (ps.toList.zip args'.toList).foldl (fun tmps (t, a) => tmps.setIfInBounds t a) tmps = tmps1 at z1 z2 ezip
      refine ⟨g, tmps1, asg, bd, ?_, ?_⟩
      · have hne : ¬ args'.size ≠ ps.size := by omega
        simp only [Instr.yield, Sem.run_bind, hgo, Result.andThen_ok, if_neg hne, Sem.run_pure]
        rw [ezip]
      · cases hy : (compCode T asg).run self (.round l) ⟨tm1, size, []⟩ s doneK with
        | none => rw [hy] at h; cases h
        | some y =>
          rw [hy] at h
          obtain ⟨ye, ya, ys⟩ := y
          cases ye with
          | exit i => cases h
          | ret => cases h
          | normal =>
            simp only [roundGo] at h
            split at h
            · rename_i pend2 fn2 tm2 size2 ps2 asg2 bd2 dl2 hg2
              refine roundIn_of_wpIn (F := Fence.wide) trivial ?_
              refine code_sound (n := 0) hS hT hF asg hy (md := .round l) (ro := some e.b) ⟨e, he, rfl⟩ hr (a := { tmps := tmps1, defers := [] }) ⟨z1, z2, trivial⟩ ?_ ?_
              · intro ρ1 ca1 s1 a1 w1 h1 e1 r1 a1r
                cases h1
                have he1 : ρ1 l = some e := e1.ren hr _ _ he
                obtain ⟨g2, tmps2, df2, e2', m1, m2, m3, m4, m5, m6⟩ := r1.loop hg2 he1
                have hgo2 := run_getLoop (P := T.P) m1
                have hso2 := fun o' => run_setLoop (P := T.P) (o' := o') m1
                obtain ⟨s2, h, n2, gg2, o2⟩ := updK_spec h
                obtain ⟨r2, x2⟩ := r1.upd (r' := .loop { state := .busy, pending := pend2, fn := g2, tmps := tmps2, params := ps2, assign := asg2, body := bd2, defers := df2 }) n2 hg2 he1 gg2 o2 m6 (.loop m2 m3 m4 m5)
                refine ⟨World.withObj w1 e.b (.loop { state := .busy, pending := pend2, fn := g2, tmps := tmps2, params := ps2, assign := asg2, body := bd2, defers := df2 }), ?_, ?_⟩
                · simp only [Instr.beginRound, Sem.run_bind, hgo2, Result.andThen_ok, hso2, Sem.run_pure]
                · cases hz : (compCode T bd).run self (.round l) ya s2 doneK with
                  | none => rw [hz] at h; cases h
                  | some z =>
                    rw [hz] at h
                    obtain ⟨ze, za, zs⟩ := z
                    simp only [roundEnd] at h
                    split at h
                    · rename_i st3 pend3 fn3 tm3 size3 ps3 asg3 bd3 dl3 hg3
                      obtain ⟨s3, h, n3, gg3, o3⟩ := updK_spec h
                      cases h
                      have fin : ∀ (ρ3 : Ren) (w3 : World), Ext ρ1 s2 (World.withObj w1 e.b (.loop { state := .busy, pending := pend2, fn := g2, tmps := tmps2, params := ps2, assign := asg2, body := bd2, defers := df2 })) ρ3 zs w3 → Rel T base w0 ρ3 zs w3 →
                          ∃ v' w4, (Instr.endRound e.b (jumpOf ze)).run T.P w3 = .ok v' w4 ∧ ∃ u, Ending.returned v' = .returned u ∧ SoundV T base w0 ρ s w (.bool (isNormal ze)) s' u w4 := by
                        intro ρ3 w3 x3 r3
                        have he3 : ρ3 l = some e := x3.ren r2 _ _ he1
                        obtain ⟨g4, tmps4, df4, e4', k1, k2, k3, k4, k5, k6⟩ := r3.loop hg3 he3
                        have hgo3 := run_getLoop (P := T.P) k1
                        have hso3 := fun o' => run_setLoop (P := T.P) (o' := o') k1
                        obtain ⟨r4, x4⟩ := r3.upd (r' := .loop { state := (match isNormal ze with | true => .ready | false => .done), pending := jumpOf ze, fn := g4, tmps := tmps4, params := ps3, assign := asg3, body := bd3, defers := df4 }) n3 hg3 he3 gg3 o3 k6 (.loop k2 k3 k4 k5)
                        have hj : (jumpOf ze).isNone = isNormal ze := by cases ze <;> rfl
                        refine ⟨.bool (isNormal ze), _, ?_, _, rfl, ρ3, e1.trans (x2.trans (x3.trans x4)), r4, .bool _⟩
                        simp only [Instr.endRound, Sem.run_bind, hgo3, Result.andThen_ok, hso3, Sem.run_pure, hj]
                        cases ze <;> rfl
                      refine code_sound (n := 0) hS hT hF bd hz (md := .round l) (ro := some e.b) ⟨e, he1, rfl⟩ r2 (a1r.mono (x2.ren r1)) ?_ ?_
                      · intro ρ3 ca3 s4 a3 w3 g1 g2 g3 g4
                        cases g1
                        obtain ⟨v', w4, q1, u, q2, q3⟩ := fin ρ3 w3 g2 g3
                        exact ⟨v', w4, q1, u, q2, q3⟩
                      · intro hne ρ3 a3 w3 g2 g3 g4
                        obtain ⟨v', w4, q1, u, q2, q3⟩ := fin ρ3 w3 g2 g3
                        cases ze with
                        | normal => exact absurd rfl hne
                        | exit i => exact ⟨v', w4, q1, u, q2, q3⟩
                        | ret => exact ⟨v', w4, q1, u, q2, q3⟩
                    · cases h
              · intro hne
                exact absurd rfl hne
            · cases h
  · cases h
end
end Go.Canon
end
