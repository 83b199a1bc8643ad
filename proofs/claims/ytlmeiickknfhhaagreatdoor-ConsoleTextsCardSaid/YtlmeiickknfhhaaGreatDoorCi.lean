/- The evaluator's soundness over the calculus of calls, one part; no conditions. -/
import Derived.Test.YtlmeiickknfhhaaGreatDoorCh
set_option linter.all false
set_option linter.unusedVariables false
set_option linter.unusedSimpArgs false
set_option linter.unusedSectionVars false
set_option linter.unnecessarySimpa false
section
namespace Go.Canon
open Go Go.RowKit
set_option linter.unusedSectionVars false
/-! ### numbering anew -/
inductive RV (φ : Nat → Option Nat) : Value → Value → Prop
  | bool (b : Bool) : RV φ (.bool b) (.bool b)
  | int (k : IntKind) (n : Int) : RV φ (.int k n) (.int k n)
  | string (s : ByteArray) : RV φ (.string s) (.string s)
  | nilp : RV φ (.pointer none) (.pointer none)
  | nils (n c : Nat) : RV φ (.slice none n c) (.slice none n c)
  | nilm : RV φ (.map none) (.map none)
  | nilf : RV φ .nilFunc .nilFunc
  | nili : RV φ .nilIface .nilIface
  | ptr {b j o : Nat} : φ b = some j → RV φ (.pointer (some ⟨b, o, none⟩)) (.pointer (some ⟨j, o, none⟩))
  | slice {b j o n c : Nat} : φ b = some j → RV φ (.slice (some ⟨b, o, none⟩) n c) (.slice (some ⟨j, o, none⟩) n c)
  | map {b j : Nat} : φ b = some j → RV φ (.map (some b)) (.map (some j))
  | agg (x x' : Array Value) : x.size = x'.size → (∀ i, i < x.size → RV φ (x.toList.getD i undef) (x'.toList.getD i undef)) → RV φ (.agg x) (.agg x')
  | tuple (x x' : Array Value) : x.size = x'.size → (∀ i, i < x.size → RV φ (x.toList.getD i undef) (x'.toList.getD i undef)) → RV φ (.tuple x) (.tuple x')
  | func (f : FuncId) (x y x' y' : Array Value) : x.size = x'.size → (∀ i, i < x.size → RV φ (x.toList.getD i undef) (x'.toList.getD i undef)) →
      y.size = y'.size → (∀ i, i < y.size → RV φ (y.toList.getD i undef) (y'.toList.getD i undef)) → RV φ (.func (.func f) x y) (.func (.func f) x' y')
def RVs (φ : Nat → Option Nat) (l m : List Value) : Prop := l.length = m.length ∧ ∀ i, i < l.length → RV φ (l.getD i undef) (m.getD i undef)
section
variable {φ : Nat → Option Nat} {ρ ρs : Ren}
theorem RVs.nil : RVs φ [] [] := ⟨rfl, fun i h => absurd h (Nat.not_lt_zero i)⟩
theorem RVs.cons {x y : Value} {l m : List Value} (h : RV φ x y) (ht : RVs φ l m) : RVs φ (x :: l) (y :: m) :=
  ⟨by simp [ht.1], fun i hi => by
    cases i with
    | zero => exact h
    | succ i => exact ht.2 i (by simpa using hi)⟩
theorem RV.to (h : ∀ i j e, φ i = some j → ρ i = some e → ρs j = some e) {v v' : Value} (hv : RV φ v v') : ∀ {r : Value}, VR ρ v r → VR ρs v' r := by
  induction hv with
  | bool b => intro r hr; cases hr; exact .bool b
  | int k n => intro r hr; cases hr; exact .int k n
  | string s => intro r hr; cases hr; exact .string s
  | nilp => intro r hr; cases hr; exact .nilp
  | nils n c => intro r hr; cases hr; exact .nils n c
  | nilm => intro r hr; cases hr; exact .nilm
  | nilf => intro r hr; cases hr; exact .nilf
  | nili => intro r hr; cases hr; exact .nili
  | ptr hj => intro r hr; cases hr with | ptr he => exact .ptr (h _ _ _ hj he)
  | slice hj => intro r hr; cases hr with
    | xs he hc => exact .xs (h _ _ _ hj he) hc
    | gs he a b c d e => exact .gs (h _ _ _ hj he) a b c d e
  | map hj => intro r hr; cases hr with | map he => exact .map (h _ _ _ hj he)
  | agg x x' h1 _ ih => intro r hr; cases hr with | agg _ y g1 g2 => exact .agg x' y (by omega) (fun i hi => ih i (by omega) (g2 i (by omega)))
  | tuple x x' h1 _ ih => intro r hr; cases hr with | tuple _ y g1 g2 => exact .tuple x' y (by omega) (fun i hi => ih i (by omega) (g2 i (by omega)))
  | func f x y x' y' h1 _ h3 _ ih1 ih2 =>
    intro r hr
    cases hr with
    | func _ _ _ u v g1 g2 g3 g4 => exact .func f x' y' u v (by omega) (fun i hi => ih1 i (by omega) (g2 i (by omega))) (by omega) (fun i hi => ih2 i (by omega) (g4 i (by omega)))
theorem RV.back (h : ∀ i j e, φ i = some j → ρs j = some e → ρ i = some e) {v v' : Value} (hv : RV φ v v') : ∀ {r : Value}, VR ρs v' r → VR ρ v r := by
  induction hv with
  | bool b => intro r hr; cases hr; exact .bool b
  | int k n => intro r hr; cases hr; exact .int k n
  | string s => intro r hr; cases hr; exact .string s
  | nilp => intro r hr; cases hr; exact .nilp
  | nils n c => intro r hr; cases hr; exact .nils n c
  | nilm => intro r hr; cases hr; exact .nilm
  | nilf => intro r hr; cases hr; exact .nilf
  | nili => intro r hr; cases hr; exact .nili
  | ptr hj => intro r hr; cases hr with | ptr he => exact .ptr (h _ _ _ hj he)
  | slice hj => intro r hr; cases hr with
    | xs he hc => exact .xs (h _ _ _ hj he) hc
    | gs he a b c d e => exact .gs (h _ _ _ hj he) a b c d e
  | map hj => intro r hr; cases hr with | map he => exact .map (h _ _ _ hj he)
  | agg x x' h1 _ ih => intro r hr; cases hr with | agg _ y g1 g2 => exact .agg x y (by omega) (fun i hi => ih i (by omega) (g2 i (by omega)))
  | tuple x x' h1 _ ih => intro r hr; cases hr with | tuple _ y g1 g2 => exact .tuple x y (by omega) (fun i hi => ih i (by omega) (g2 i (by omega)))
  | func f x y x' y' h1 _ h3 _ ih1 ih2 =>
    intro r hr
    cases hr with
    | func _ _ _ u v g1 g2 g3 g4 => exact .func f x y u v (by omega) (fun i hi => ih1 i (by omega) (g2 i (by omega))) (by omega) (fun i hi => ih2 i (by omega) (g4 i (by omega)))
theorem RVs.to (h : ∀ i j e, φ i = some j → ρ i = some e → ρs j = some e) {l l' m : List Value} (hv : RVs φ l l') (hr : VRs ρ l m) : VRs ρs l' m :=
  ⟨hv.1.symm.trans hr.1, fun i hi => (hv.2 i (by rw [hv.1]; exact hi)).to h (hr.2 i (by rw [hv.1]; exact hi))⟩
/-- references of a value are known: it reads in a smaller world too -/
theorem VR.dom {ρ0 ρ1 ρ' : Ren} (h : ∀ i e0 e, ρ0 i = some e0 → ρ1 i = some e → ρ' i = some e) {v r : Value} (hv : VR ρ1 v r) : ∀ {r0 : Value}, VR ρ0 v r0 → VR ρ' v r := by
  induction hv with
  | bool b => intro _ _; exact .bool b
  | int k n => intro _ _; exact .int k n
  | string s => intro _ _; exact .string s
  | nilp => intro _ _; exact .nilp
  | ptr he => intro _ h0; cases h0 with | ptr he0 => exact .ptr (h _ _ _ he0 he)
  | nils n c => intro _ _; exact .nils n c
  | xs he hc => intro _ h0; cases h0 with
    | xs he0 => exact .xs (h _ _ _ he0 he) hc
    | gs he0 => exact .xs (h _ _ _ he0 he) hc
  | gs he a b c d e => intro _ h0; cases h0 with
    | xs he0 => exact .gs (h _ _ _ he0 he) a b c d e
    | gs he0 => exact .gs (h _ _ _ he0 he) a b c d e
  | nilm => intro _ _; exact .nilm
  | map he => intro _ h0; cases h0 with | map he0 => exact .map (h _ _ _ he0 he)
  | nilf => intro _ _; exact .nilf
  | nili => intro _ _; exact .nili
  | func f x y x' y' h1 _ h3 _ ih1 ih2 => intro _ h0; cases h0 with | func _ _ _ u v g1 g2 g3 g4 => exact .func f x y x' y' h1 (fun i hi => ih1 i hi (g2 i hi)) h3 (fun i hi => ih2 i hi (g4 i hi))
  | yield he => intro _ h0; cases h0 with | yield he0 => exact .yield (h _ _ _ he0 he)
  | iface t _ ih => intro _ h0; cases h0 with | iface _ g => exact .iface t (ih g)
  | agg x x' h1 _ ih => intro _ h0; cases h0 with | agg _ y g1 g2 => exact .agg x x' h1 (fun i hi => ih i hi (g2 i hi))
  | tuple x x' h1 _ ih => intro _ h0; cases h0 with | tuple _ y g1 g2 => exact .tuple x x' h1 (fun i hi => ih i hi (g2 i hi))
variable {β : Type}
theorem ren0_spec {v : Value} {k : Value → Option β} {x : β} (h : ren0 φ v k = some x) : ∃ v', k v' = some x ∧ RV φ v v' := by
  unfold ren0 at h
  split at h
  · split at h
    · rename_i hj; rw [forceNat_eq] at h; exact ⟨_, h, .ptr hj⟩
    · cases h
  · split at h
    · rename_i hj; rw [forceNat_eq] at h; exact ⟨_, h, .slice hj⟩
    · cases h
  · split at h
    · rename_i hj; rw [forceNat_eq] at h; exact ⟨_, h, .map hj⟩
    · cases h
  · exact ⟨_, h, .nilp⟩
  · exact ⟨_, h, .nils _ _⟩
  · exact ⟨_, h, .nilm⟩
  · exact ⟨_, h, .int _ _⟩
  · exact ⟨_, h, .bool _⟩
  · exact ⟨_, h, .string _⟩
  · exact ⟨_, h, .nilf⟩
  · exact ⟨_, h, .nili⟩
  · cases h
theorem renL_spec : ∀ {l : List Value} {k : List Value → Option β} {x : β}, renL φ l k = some x → ∃ l', k l' = some x ∧ RVs φ l l'
  | [], k, x, h => ⟨[], h, RVs.nil⟩
  | v :: l, k, x, h => by
    simp only [renL] at h
    obtain ⟨v', h, h1⟩ := ren0_spec h
    obtain ⟨l', h, h2⟩ := renL_spec h
    exact ⟨v' :: l', h, .cons h1 h2⟩
theorem ren1_spec {v : Value} {k : Value → Option β} {x : β} (h : ren1 φ v k = some x) : ∃ v', k v' = some x ∧ RV φ v v' := by
  unfold ren1 at h
  split at h
  · rename_i cs
    obtain ⟨l', h, h1⟩ := renL_spec h
    exact ⟨_, h, .agg cs ⟨l'⟩ h1.1 h1.2⟩
  · rename_i f u v
    obtain ⟨l', h, h1⟩ := renL_spec h
    obtain ⟨m', h, h2⟩ := renL_spec h
    exact ⟨_, h, .func f u v ⟨l'⟩ ⟨m'⟩ h1.1 h1.2 h2.1 h2.2⟩
  · exact ren0_spec h
theorem ren1s_spec : ∀ {l : List Value} {k : List Value → Option β} {x : β}, ren1s φ l k = some x → ∃ l', k l' = some x ∧ RVs φ l l'
  | [], k, x, h => ⟨[], h, RVs.nil⟩
  | v :: l, k, x, h => by
    simp only [ren1s] at h
    obtain ⟨v', h, h1⟩ := ren1_spec h
    obtain ⟨l', h, h2⟩ := ren1s_spec h
    exact ⟨v' :: l', h, .cons h1 h2⟩
theorem renV_spec {v : Value} {k : Value → Option β} {x : β} (h : renV φ v k = some x) : ∃ v', k v' = some x ∧ RV φ v v' := by
  unfold renV at h
  split at h
  · rename_i cs
    obtain ⟨l', h, h1⟩ := ren1s_spec h
    exact ⟨_, h, .tuple cs ⟨l'⟩ h1.1 h1.2⟩
  · exact ren1_spec h
theorem renVs_spec : ∀ {l : List Value} {k : List Value → Option β} {x : β}, renVs φ l k = some x → ∃ l', k l' = some x ∧ RVs φ l l'
  | [], k, x, h => ⟨[], h, RVs.nil⟩
  | v :: l, k, x, h => by
    simp only [renVs] at h
    obtain ⟨v', h, h1⟩ := renV_spec h
    obtain ⟨l', h, h2⟩ := renVs_spec h
    exact ⟨v' :: l', h, .cons h1 h2⟩
def REs (φ : Nat → Option Nat) (l m : List MapEntry) : Prop := l.length = m.length ∧ ∀ (i : Nat) (x y : MapEntry), l[i]? = some x → m[i]? = some y → y.key = x.key ∧ RV φ x.val y.val ∧ y.born = x.born
theorem renEs_spec : ∀ {l : List MapEntry} {k : List MapEntry → Option β} {x : β}, renEs φ l k = some x → ∃ l', k l' = some x ∧ REs φ l l'
  | [], k, x, h => ⟨[], h, rfl, fun i x y hx => by simp at hx⟩
  | ⟨a, v, b⟩ :: l, k, x, h => by
    simp only [renEs] at h
    split at h
    · obtain ⟨v', h, h1⟩ := renV_spec h
      obtain ⟨l', h, h2⟩ := renEs_spec h
      refine ⟨⟨a, v', b⟩ :: l', h, by simp [h2.1], fun i p q hp hq => ?_⟩
      cases i with
      | zero => simp at hp hq; subst hp; subst hq; exact ⟨rfl, h1, rfl⟩
      | succ i => exact h2.2 i p q (by simpa using hp) (by simpa using hq)
    · cases h
inductive RO (φ : Nat → Option Nat) : CObj → CObj → Prop
  | cells {vs vs' : List Value} {el : TypeId} {fz : Nat × Nat} : RVs φ vs vs' → RO φ (.cells vs el fz) (.cells vs' el fz)
  | map {es es' : List MapEntry} {c : Nat} : REs φ es es' → RO φ (.map es c) (.map es' c)
theorem renObj_spec {o : CObj} {k : CObj → Option β} {x : β} (h : renObj φ o k = some x) : ∃ o', k o' = some x ∧ RO φ o o' := by
  unfold renObj at h
  split at h
  · obtain ⟨l', h, h1⟩ := renVs_spec h
    exact ⟨_, h, .cells h1⟩
  · obtain ⟨l', h, h1⟩ := renEs_spec h
    exact ⟨_, h, .map h1⟩
  · cases h
theorem renObjs_spec {hp : Tr CObj} : ∀ {l : List Nat} {out : List CObj} {k : List CObj → Option β} {x : β}, renObjs hp φ l out k = some x →
    ∃ os : List CObj, k (os.reverse ++ out) = some x ∧ os.length = l.length ∧ ∀ (i : Nat) (id : Nat) (o' : CObj), l[i]? = some id → os[i]? = some o' → ∃ o, hp.get id = some o ∧ RO φ o o'
  | [], out, k, x, h => ⟨[], h, rfl, fun i id o' hi => by simp at hi⟩
  | id :: l, out, k, x, h => by
    simp only [renObjs] at h
    split at h
    · rename_i o ho
      obtain ⟨o', h, h1⟩ := renObj_spec h
      obtain ⟨os, h, h2, h3⟩ := renObjs_spec h
      refine ⟨o' :: os, by simpa using h, by simp [h2], fun i a b ha hb => ?_⟩
      cases i with
      | zero => simp at ha hb; subst ha; subst hb; exact ⟨o, ho, h1⟩
      | succ i => exact h3 i a b (by simpa using ha) (by simpa using hb)
    · cases h
theorem RO.to {T : Tab} (h : ∀ i j e, φ i = some j → ρ i = some e → ρs j = some e) {o o' : CObj} (ho : RO φ o o') {e : Ent} {r : Obj} (hr : OR T ρ e o r) : OR T ρs e o' r := by
  cases ho with
  | cells hv =>
    cases hr with
    | cells a b c d f g i => exact .cells (by rw [← hv.1]; exact a) b c (fun j hj => (hv.2 j (by omega)).to h (d j hj)) f g i
  | map hv =>
    cases hr with
    | map he =>
      refine .map ⟨by rw [← hv.1]; exact he.1, fun i x y hx hy => ?_⟩
      have hl : i < _ := (List.getElem?_eq_some_iff.1 hx).1
      rw [← hv.1] at hl
      obtain ⟨q1, q2, q3⟩ := hv.2 i _ x (List.getElem?_eq_getElem hl) hx
      obtain ⟨p1, p2, p3, p4⟩ := he.2 i _ y (List.getElem?_eq_getElem hl) hy
      exact ⟨by rw [q1]; exact p1, by rw [q1]; exact p2, q2.to h p3, by rw [q3]; exact p4⟩
theorem RO.back {T : Tab} (h : ∀ i j e, φ i = some j → ρs j = some e → ρ i = some e) {o o' : CObj} (ho : RO φ o o') {e : Ent} {r : Obj} (hr : OR T ρs e o' r) : OR T ρ e o r := by
  cases ho with
  | cells hv =>
    cases hr with
    | cells a b c d f g i => exact .cells (by rw [hv.1]; exact a) b c (fun j hj => (hv.2 j (by rw [hv.1]; omega)).back h (d j hj)) f g i
  | map hv =>
    cases hr with
    | map he =>
      refine .map ⟨by rw [hv.1]; exact he.1, fun i x y hx hy => ?_⟩
      have hl : i < _ := (List.getElem?_eq_some_iff.1 hx).1
      rw [hv.1] at hl
      obtain ⟨q1, q2, q3⟩ := hv.2 i x _ hx (List.getElem?_eq_getElem hl)
      obtain ⟨p1, p2, p3, p4⟩ := he.2 i _ y (List.getElem?_eq_getElem hl) hy
      exact ⟨by rw [← q1]; exact p1, by rw [← q1]; exact p2, q2.back h p3, by rw [← q3]; exact p4⟩
theorem RO.locked {o o' : CObj} (ho : RO φ o o') : Locked o ↔ Locked o' := by
  cases ho with
  | cells hv =>
    constructor
    · rintro ⟨vs, el, n, q, h1, h2⟩; cases q; exact ⟨_, _, _, rfl, by rw [← hv.1]; exact h1, h2⟩
    · rintro ⟨vs, el, n, q, h1, h2⟩; cases q; exact ⟨_, _, _, rfl, by rw [hv.1]; exact h1, h2⟩
  | map hv =>
    constructor
    · rintro ⟨vs, el, n, q, h1, h2⟩; cases q
    · rintro ⟨vs, el, n, q, h1, h2⟩; cases q
/-- an object whose references are known -/
theorem OR.dom {T : Tab} {ρ0 ρ1 ρ' : Ren} (h : ∀ i e0 e, ρ0 i = some e0 → ρ1 i = some e → ρ' i = some e) {o : CObj} (hk : (∃ vs el fz, o = .cells vs el fz) ∨ ∃ es c, o = .map es c) {e e0 : Ent} {r r0 : Obj}
    (h1 : OR T ρ1 e o r) (h0 : OR T ρ0 e0 o r0) : OR T ρ' e o r := by
  rcases hk with ⟨vs, el, fz, rfl⟩ | ⟨es, c, rfl⟩
  · cases h1 with
    | cells a b c d f g i =>
      cases h0 with
      | cells a0 b0 c0 d0 f0 g0 i0 => exact .cells a b c (fun j hj => (d j hj).dom h (d0 j (by omega))) f g i
  · cases h1 with
    | map he =>
      cases h0 with
      | map he0 =>
        refine .map ⟨he.1, fun i x y hx hy => ?_⟩
        obtain ⟨p1, p2, p3, p4⟩ := he.2 i x y hx hy
        have hl : i < _ := (List.getElem?_eq_some_iff.1 hx).1
        rw [he0.1] at hl
        obtain ⟨_, _, p3', _⟩ := he0.2 i x _ hx (List.getElem?_eq_getElem hl)
        exact ⟨p1, p2, p3.dom h p3', p4⟩
/-- what is reached, in order -/
theorem reach_spec {hp : Tr CObj} {low : Nat} {β : Type} {k : Tr Nat → Nat → List Nat → Option β} {x : β} : ∀ (fuel : Nat) (q : List Nat) (inv : Tr Nat) (n : Nat) (tbl : List Nat), reach hp low fuel q inv n tbl k = some x →
    n = low + tbl.length → (∀ i m, inv.get i = some m ↔ ∃ j, tbl.reverse[j]? = some i ∧ m = low + j) → (∀ i ∈ tbl, low ≤ i ∧ ∃ o, hp.get i = some o) →
    ∃ inv' n' tbl', k inv' n' tbl' = some x ∧ n' = low + tbl'.length ∧ (∀ i m, inv'.get i = some m ↔ ∃ j, tbl'.reverse[j]? = some i ∧ m = low + j) ∧ (∀ i ∈ tbl', low ≤ i ∧ ∃ o, hp.get i = some o) := by
  intro fuel
  induction fuel with
  | zero => intro q inv n tbl h; cases h
  | succ fuel ih =>
    intro q inv n tbl h h1 h2 h3
    cases q with
    | nil => exact ⟨inv, n, tbl, h, h1, h2, h3⟩
    | cons id q =>
      simp only [reach] at h
      cases hb : Nat.blt id low with
      | true => rw [hb] at h; exact ih q inv n tbl h h1 h2 h3
      | false =>
        rw [hb] at h
        simp only [cond_false] at h
        have hlow : low ≤ id := Nat.le_of_not_lt fun hlt => by rw [← Nat.blt_eq] at hlt; rw [hlt] at hb; cases hb
        split at h
        · exact ih q inv n tbl h h1 h2 h3
        · rename_i hn
          split at h
          · rename_i o ho
            obtain ⟨inv', h, g1, g2⟩ := Tr.setK_spec h
            refine ih _ inv' _ _ h (by simp; omega) ?_ ?_
            · intro i m
              by_cases hi : i = id
              · subst hi
                rw [g1]
                constructor
                · intro hm
                  cases hm
                  exact ⟨tbl.length, by simp, h1⟩
                · rintro ⟨j, hj, hm⟩
                  have hjl : j ≤ tbl.length := by
                    have := (List.getElem?_eq_some_iff.1 hj).1
                    simp at this; omega
                  by_cases hjt : j = tbl.length
                  · rw [h1, hm, hjt]
                  · exfalso
                    rw [List.reverse_cons, List.getElem?_append_left (by simp; omega)] at hj
                    have := (h2 i (low + j)).2 ⟨j, hj, rfl⟩
                    rw [hn] at this; cases this
              · rw [g2 i hi, h2]
                constructor
                · rintro ⟨j, hj, hm⟩
                  refine ⟨j, ?_, hm⟩
                  have := (List.getElem?_eq_some_iff.1 hj).1
                  rw [List.reverse_cons, List.getElem?_append_left this]
                  exact hj
                · rintro ⟨j, hj, hm⟩
                  refine ⟨j, ?_, hm⟩
                  by_cases hjt : j < tbl.reverse.length
                  · rw [List.reverse_cons, List.getElem?_append_left hjt] at hj; exact hj
                  · exfalso
                    have := (List.getElem?_eq_some_iff.1 hj).1
                    simp at this hjt
                    have : j = tbl.length := by omega
                    subst this
                    simp at hj
                    exact hi hj.symm
            · intro i hi
              rcases List.mem_cons.1 hi with rfl | hi
              · exact ⟨hlow, o, ho⟩
              · exact h3 i hi
          · cases h
end
end Go.Canon
end
section
namespace Go.Canon
open Go Go.RowKit
set_option linter.unusedSectionVars false
/-- a heap of a list's objects -/
noncomputable def hOf (l : List CObj) : Tr CObj := Tr.ofFn 48 (fun i => l[i]?)
theorem hOf_get {l : List CObj} (h : l.length ≤ 1048576) (i : Nat) : (hOf l).get i = l[i]? := by
  by_cases hi : i < 281474976710655
  · exact Tr.ofFn_get hi
  · rw [Tr.get_big (by omega), List.getElem?_eq_none (by omega)]
/-- what a call on a heap of its own gives -/
def MemoOk (T : Tab) (f : FuncId) (args : List Value) (objs : List CObj) (out : MOut) : Prop :=
  ∀ {base : Nat} {w0 : World} {ρ : Ren} {w : World} {args' : Array Value}, Rel T base w0 ρ ⟨hOf (T.gobjs ++ objs), (T.gobjs ++ objs).length⟩ w → VRs ρ args args'.toList →
    CallGives T.P f args' w (fun v' w' => ∃ ρ', Ext ρ ⟨hOf (T.gobjs ++ objs), (T.gobjs ++ objs).length⟩ w ρ' ⟨hOf (T.gobjs ++ objs ++ out.objs), (T.gobjs ++ objs).length + out.objs.length⟩ w' ∧
      Rel T base w0 ρ' ⟨hOf (T.gobjs ++ objs ++ out.objs), (T.gobjs ++ objs).length + out.objs.length⟩ w' ∧ VR ρ' out.v v')
/-- the same heap under another name -/
theorem Rel.same {T : Tab} {base : Nat} {w0 w : World} {ρ : Ren} {s s' : CSt} (h : Rel T base w0 ρ s w) (hn : s'.next = s.next) (hs : ∀ i, s'.heap.get i = s.heap.get i) : Rel T base w0 ρ s' w where
  obj i o e h1 h2 := h.obj i o e (by rw [← hs]; exact h1) h2
  inj i j o o' e e' h1 h2 h3 h4 h5 := h.inj i j o o' e e' (by rw [← hs]; exact h1) (by rw [← hs]; exact h2) h3 h4 h5
  own i o e h1 h2 := h.own i o e (by rw [← hs]; exact h1) h2
  dom i hi := ⟨(h.dom i (by omega)).1, by rw [hs]; exact (h.dom i (by omega)).2⟩
  below := h.below
  base_le := h.base_le
  glob j o hj := by obtain ⟨h1, h2⟩ := h.glob j o hj; exact ⟨by rw [hs]; exact h1, h2⟩
  gl := h.gl
/-- the numbers anew: the first ones stay, the others by a table -/
def subRen (ρ : Ren) (low : Nat) (tbl : List Nat) : Ren := fun m => if m < low then ρ m else (tbl.reverse[m - low]?).bind ρ
section
variable {T : Tab} {base : Nat} {w0 w : World} {ρ : Ren} {s : CSt} {low : Nat} {tbl : List Nat} {inv : Tr Nat} {A os : List CObj}
theorem sub_to (hinv : ∀ i m, inv.get i = some m ↔ ∃ j, tbl.reverse[j]? = some i ∧ m = low + j) : ∀ i j e, invAt low inv i = some j → ρ i = some e → subRen ρ low tbl j = some e := by
  intro i m e h1 h2
  unfold invAt at h1
  cases hb : Nat.blt i low with
  | true =>
    rw [hb] at h1; cases h1
    have : i < low := by simpa [Nat.blt_eq] using hb
    unfold subRen; rw [if_pos this]; exact h2
  | false =>
    rw [hb] at h1
    obtain ⟨j, h3, h4⟩ := (hinv i m).1 h1
    unfold subRen
    rw [if_neg (by omega), h4, Nat.add_sub_cancel_left, h3]
    exact h2
theorem sub_back (hinv : ∀ i m, inv.get i = some m ↔ ∃ j, tbl.reverse[j]? = some i ∧ m = low + j) : ∀ i j e, invAt low inv i = some j → subRen ρ low tbl j = some e → ρ i = some e := by
  intro i m e h1 h2
  unfold invAt at h1
  cases hb : Nat.blt i low with
  | true =>
    rw [hb] at h1; cases h1
    have : i < low := by simpa [Nat.blt_eq] using hb
    unfold subRen at h2; rw [if_pos this] at h2; exact h2
  | false =>
    rw [hb] at h1
    obtain ⟨j, h3, h4⟩ := (hinv i m).1 h1
    unfold subRen at h2
    rw [if_neg (by omega), h4, Nat.add_sub_cancel_left, h3] at h2
    exact h2
/-- one object of the heap of one's own, and whence it comes -/
theorem sub_obj (hlen : (A ++ os).length ≤ 1048576) (hA : A.length = low) (hAg : ∀ m, m < low → s.heap.get m = A[m]?) (hos : os.length = tbl.length)
    (hobj : ∀ (j i : Nat) (o' : CObj), tbl.reverse[j]? = some i → os[j]? = some o' → ∃ o, s.heap.get i = some o ∧ RO (invAt low inv) o o') {m : Nat} {o' : CObj} {e : Ent} (h1 : (hOf (A ++ os)).get m = some o') (h2 : subRen ρ low tbl m = some e) :
    (m < low ∧ s.heap.get m = some o' ∧ ρ m = some e) ∨ (∃ j i o, m = low + j ∧ tbl.reverse[j]? = some i ∧ s.heap.get i = some o ∧ ρ i = some e ∧ RO (invAt low inv) o o') := by
  rw [hOf_get hlen] at h1
  unfold subRen at h2
  by_cases hm : m < low
  · rw [if_pos hm] at h2
    rw [List.getElem?_append_left (by omega)] at h1
    exact .inl ⟨hm, by rw [hAg m hm]; exact h1, h2⟩
  · rw [if_neg hm] at h2
    rw [List.getElem?_append_right (by omega), hA] at h1
    cases hi : tbl.reverse[m - low]? with
    | none => rw [hi] at h2; cases h2
    | some i =>
      rw [hi] at h2
      obtain ⟨o, g1, g2⟩ := hobj _ _ _ hi h1
      exact .inr ⟨m - low, i, o, by omega, hi, g1, h2, g2⟩
theorem Rel.sub (hr : Rel T base w0 ρ s w) (hinv : ∀ i m, inv.get i = some m ↔ ∃ j, tbl.reverse[j]? = some i ∧ m = low + j) (htbl : ∀ i ∈ tbl, low ≤ i ∧ ∃ o, s.heap.get i = some o) (hlen : (A ++ os).length ≤ 1048576) (hA : A.length = low)
    (hAg : ∀ m, m < low → s.heap.get m = A[m]?) (hos : os.length = tbl.length) (hobj : ∀ (j i : Nat) (o' : CObj), tbl.reverse[j]? = some i → os[j]? = some o' → ∃ o, s.heap.get i = some o ∧ RO (invAt low inv) o o')
    (hH : ∀ (m : Nat) (o : CObj) (e : Ent) (r : Obj), m < low → A[m]? = some o → ρ m = some e → OR T ρ e o r → OR T (subRen ρ low tbl) e o r) (hg : ∀ (j : Nat) (o : CObj), T.gobjs[j]? = some o → A[j]? = some o) (hgl : ∀ g i, T.gl.get g = some i → i < low) :
    Rel T base w0 (subRen ρ low tbl) ⟨hOf (A ++ os), low + os.length⟩ w := by
  have so := fun {m o' e} h1 h2 => sub_obj (ρ := ρ) (s := s) (m := m) (o' := o') (e := e) hlen hA hAg hos hobj h1 h2
  have hlow : ∀ {j i : Nat}, tbl.reverse[j]? = some i → low ≤ i := fun {j i} h => (htbl i (by have := List.mem_of_getElem? h; simpa using this)).1
  refine { obj := ?_, inj := ?_, own := ?_, dom := ?_, below := hr.below, base_le := hr.base_le, glob := ?_, gl := ?_ }
  · intro m o' e h1 h2
    rcases so h1 h2 with ⟨q1, q2, q3⟩ | ⟨j, i, o, q1, q2, q3, q4, q5⟩
    · obtain ⟨r, g1, g2⟩ := hr.obj _ _ _ q2 q3
      exact ⟨r, g1, hH m o' e r q1 (by rw [← hAg m q1]; exact q2) q3 g2⟩
    · obtain ⟨r, g1, g2⟩ := hr.obj _ _ _ q3 q4
      exact ⟨r, g1, q5.to (sub_to hinv) g2⟩
  · intro m m' o o' e e' h1 h2 h3 h4 hb
    rcases so h1 h3 with ⟨q1, q2, q3⟩ | ⟨j, i, oo, q1, q2, q3, q4, q5⟩
    · rcases so h2 h4 with ⟨p1, p2, p3⟩ | ⟨j', i', oo', p1, p2, p3, p4, p5⟩
      · exact hr.inj _ _ _ _ _ _ q2 p2 q3 p3 hb
      · have := hr.inj _ _ _ _ _ _ q2 p3 q3 p4 hb
        have := hlow p2
        omega
    · rcases so h2 h4 with ⟨p1, p2, p3⟩ | ⟨j', i', oo', p1, p2, p3, p4, p5⟩
      · have := hr.inj _ _ _ _ _ _ q3 p2 q4 p3 hb
        have := hlow q2
        omega
      · have := hr.inj _ _ _ _ _ _ q3 p3 q4 p4 hb
        subst this
        have a := (hinv i (low + j)).2 ⟨j, q2, rfl⟩
        have b := (hinv i (low + j')).2 ⟨j', p2, rfl⟩
        rw [a] at b
        have := Option.some.inj b
        omega
  · intro m o' e h1 h2
    rcases so h1 h2 with ⟨q1, q2, q3⟩ | ⟨j, i, o, q1, q2, q3, q4, q5⟩
    · exact hr.own _ _ _ q2 q3
    · exact (hr.own _ _ _ q3 q4).imp id q5.locked.1
  · intro m hm
    simp only at hm
    refine ⟨?_, by rw [hOf_get hlen]; exact List.getElem?_eq_none (by simp; omega)⟩
    unfold subRen
    rw [if_neg (by omega), List.getElem?_eq_none (by simp; omega)]
    rfl
  · intro j o hj
    have h1 := hg j o hj
    obtain ⟨_, e, h3, h4⟩ := hr.glob j o hj
    have hl : j < low := by rw [← hA]; exact (List.getElem?_eq_some_iff.1 h1).1
    refine ⟨by rw [hOf_get hlen, List.getElem?_append_left (by omega)]; exact h1, e, ?_, h4⟩
    unfold subRen; rw [if_pos hl]; exact h3
  · intro g i hi
    obtain ⟨e, h1, h2⟩ := hr.gl g i hi
    refine ⟨e, ?_, h2⟩
    unfold subRen; rw [if_pos (hgl g i hi)]; exact h1
end
theorem sameObjs_spec {h : Tr CObj} : ∀ {l : List CObj} {j : Nat}, sameObjs h j l = true → ∀ i o, l[i]? = some o → h.get (j + i) = some o
  | [], j, _, i, o, hi => by simp at hi
  | x :: l, j, hs, i, o, hi => by
    simp only [sameObjs, Bool.and_eq_true] at hs
    cases i with
    | zero =>
      simp at hi; subst hi
      have := hs.1
      split at this
      · rename_i o' ho
        rw [objSame_eq this]
        exact ho
      · cases this
    | succ i =>
      have := sameObjs_spec hs.2 i o (by simpa using hi)
      rw [show j + (i + 1) = Nat.succ j + i from by omega]
      exact this
/-- a heap of one's own, evaluated -/
theorem runMemo_sound {T : Tab} {call : FuncId → List Value → CSt → Option VOut} {round : Nat → List Value → CSt → Option VOut} (hS : SelfOk T ⟨call, round⟩) (hF : T.Fit) {f : FuncId} {args : List Value} {objs : List CObj} {n : Nat} {out : MOut}
    (h : runMemo T call f args objs n = some out) (hk : ∀ o ∈ objs, (∃ vs el fz, o = .cells vs el fz) ∨ ∃ es c, o = .map es c) : MemoOk T f args objs out := by
  intro base w0 ρ w args' hr hv
  unfold runMemo at h
  split at h
  · rename_i hn
    have hn := nbeq_true hn
    subst hn
    split at h
    · rename_i hp hheap
      split at h
      · rename_i v s hc
        split at h
        · rename_i hsame
          obtain ⟨t', t0, t1, t2⟩ := Tr.putL_spec _ _ _ _ _ hheap
          cases t0
          obtain ⟨inv, n', tbl, h, _, r1, r2⟩ := reach_spec _ _ _ _ _ h (by simp) (fun i m => by
            constructor
            · intro hh; rw [show (fullFor s.next : Tr Nat).get i = none from Tr.full_get _ _] at hh; cases hh
            · rintro ⟨j, hj, _⟩; simp at hj) (fun i hi => by simp at hi)
          obtain ⟨v2, h, rv⟩ := renV_spec h
          obtain ⟨os, h, o1, o2⟩ := renObjs_spec h
          rw [List.append_nil] at h
          unfold keepOut at h
          split at h
          · rename_i hle
            cases h
            have hle := ble_iff.1 hle
            have hle' : (T.gobjs ++ objs ++ os.reverse).length ≤ 1048576 := by rw [List.length_append]; exact hle
            have hle0 : (T.gobjs ++ objs).length ≤ 1048576 := by rw [List.length_append] at hle'; omega
            have hget : ∀ i, hp.get i = (T.gobjs ++ objs)[i]? := by
              intro i
              by_cases hi : i < (T.gobjs ++ objs).length
              · have := t1 i hi; rw [Nat.zero_add] at this; exact this
              · rw [t2 i (.inr (by omega)), List.getElem?_eq_none (by omega)]; exact Tr.full_get _ _
            have hr' : Rel T base w0 ρ ⟨hp, (T.gobjs ++ objs).length⟩ w := hr.same rfl (fun i => by rw [hget, hOf_get hle0])
            obtain ⟨fn, c1, c2, c3⟩ := hS.call hc hr' hv
            -- what the call leaves, numbered anew
            have key : ∀ (v' : Value) (w' : World), SoundV T base w0 ρ ⟨hp, (T.gobjs ++ objs).length⟩ w v s v' w' →
                ∃ ρ', Ext ρ ⟨hOf (T.gobjs ++ objs), (T.gobjs ++ objs).length⟩ w ρ' ⟨hOf (T.gobjs ++ objs ++ os.reverse), (T.gobjs ++ objs).length + os.reverse.length⟩ w' ∧
                  Rel T base w0 ρ' ⟨hOf (T.gobjs ++ objs ++ os.reverse), (T.gobjs ++ objs).length + os.reverse.length⟩ w' ∧ VR ρ' v2 v' := by
              rintro v' w' ⟨ρ1, e1, e2, e3⟩
              have hAg : ∀ m, m < (T.gobjs ++ objs).length → s.heap.get m = (T.gobjs ++ objs)[m]? := by
                intro m hm
                by_cases hg : m < T.gobjs.length
                · rw [List.getElem?_append_left hg]
                  exact (e2.glob m _ (List.getElem?_eq_getElem hg)).1.trans (List.getElem?_eq_getElem hg).symm
                · rw [List.getElem?_append_right (by omega)]
                  have hl : m - T.gobjs.length < objs.length := by simp at hm; omega
                  have := sameObjs_spec hsame _ _ (List.getElem?_eq_getElem hl)
                  rw [show T.gobjs.length + (m - T.gobjs.length) = m from by omega] at this
                  rw [this, List.getElem?_eq_getElem hl]
              have hrl : os.reverse.length = tbl.length := by simp [o1]
              have hobj : ∀ (j i : Nat) (o' : CObj), tbl.reverse[j]? = some i → os.reverse[j]? = some o' → ∃ o, s.heap.get i = some o ∧ RO (invAt (T.gobjs ++ objs).length inv) o o' := by
                intro j i o' h1 h2
                have hj : j < tbl.length := by have := (List.getElem?_eq_some_iff.1 h1).1; simpa using this
                rw [List.getElem?_reverse hj] at h1
                rw [List.getElem?_reverse (by omega), o1] at h2
                exact o2 _ _ _ h1 h2
              have hkind : ∀ (m : Nat) (o : CObj), (T.gobjs ++ objs)[m]? = some o → (∃ vs el fz, o = .cells vs el fz) ∨ ∃ es c, o = .map es c := by
                intro m o hm
                rcases List.mem_append.1 (List.mem_of_getElem? hm) with hm | hm
                · obtain ⟨vs, el, fz, q, _⟩ := hF.gobjs o hm; exact .inl ⟨vs, el, fz, q⟩
                · exact hk o hm
              have hsub := e2.sub (low := (T.gobjs ++ objs).length) (tbl := tbl) (inv := inv) (A := T.gobjs ++ objs) (os := os.reverse) r1 r2 hle' rfl hAg hrl hobj (by
                  intro m o e r hm ho he hor
                  have he0 : ρ m = some e := by rw [← e1.keep m hm]; exact he
                  obtain ⟨r0, _, g2⟩ := hr'.obj m o e (by rw [hget]; exact ho) he0
                  refine OR.dom (ρ0 := ρ) (ρ1 := ρ1) ?_ (hkind m o ho) hor g2
                  intro i e0 e' h1 h2
                  have hi : i < (T.gobjs ++ objs).length := Nat.lt_of_not_le fun hle => by rw [(hr'.dom i hle).1] at h1; cases h1
                  unfold subRen; rw [if_pos hi]; exact h2)
                (fun j o hj => by rw [List.getElem?_append_left (List.getElem?_eq_some_iff.1 hj).1]; exact hj)
                (fun g i hi => by have := hF.gls g i hi; rw [List.length_append]; omega)
              refine ⟨_, ?_, hsub, rv.to (sub_to r1) e3⟩
              have so := fun {m o' e} h1 h2 => sub_obj (ρ := ρ1) (s := s) (inv := inv) (m := m) (o' := o') (e := e) hle' rfl hAg hrl hobj h1 h2
              refine ⟨?_, by simp, e1.size, ?_, ?_⟩
              · intro i hi
                unfold subRen; rw [if_pos hi]; exact e1.keep i hi
              · intro b hb hn
                exact e1.frame b hb (fun i o e h1 h2 => hn i o e (by rw [hOf_get hle0, ← hget]; exact h1) h2)
              · intro m o' e h1 h2
                rcases so h1 h2 with ⟨q1, q2, q3⟩ | ⟨j, i, o, q1, q2, q3, q4, q5⟩
                · left
                  refine ⟨m, o', e, ?_, by rw [← e1.keep m q1]; exact q3, rfl⟩
                  rw [hOf_get hle0, ← hAg m q1]; exact q2
                · rcases e1.fresh i o e q3 q4 with ⟨i', o', e', g1, g2, g3⟩ | hge
                  · exact .inl ⟨i', o', e', by rw [hOf_get hle0, ← hget]; exact g1, g2, g3⟩
                  · exact .inr hge
            refine ⟨fn, c1, c2, ?_⟩
            rcases c3 with ⟨c3, c4⟩ | ⟨c3, v', w', c4, c5⟩
            · refine .inl ⟨c3, CallsIn.mono c4 ?_⟩
              rintro e w' ⟨v', rfl, q⟩
              exact ⟨v', rfl, key v' w' q⟩
            · exact .inr ⟨c3, v', w', c4, key v' w' c5⟩
          · cases h
        · cases h
      · cases h
    · cases h
  · cases h
end Go.Canon
end
section
namespace Go.Canon
open Go Go.RowKit
set_option linter.unusedSectionVars false
theorem nthRev_spec : ∀ {tbl : List Nat} {n g j : Nat}, n = g + tbl.length → g ≤ j → j < n → nthRev tbl n j = tbl.reverse[j - g]?
  | [], n, g, j, h1, h2, h3 => by simp at h1; omega
  | x :: l, n, g, j, h1, h2, h3 => by
    simp only [List.length_cons] at h1
    simp only [nthRev]
    cases hb : Nat.beq (Nat.succ j) n with
    | true =>
      have := nbeq_true hb
      rw [List.reverse_cons, List.getElem?_append_right (by simp; omega)]
      have e : j - g - l.reverse.length = 0 := by simp; omega
      rw [e]; rfl
    | false =>
      have hne : Nat.succ j ≠ n := fun e => by rw [e, Nat.beq_refl] at hb; cases hb
      simp only [cond_false]
      rw [nthRev_spec (g := g) (by omega) h2 (by omega), List.reverse_cons, List.getElem?_append_left (by simp; omega)]
theorem layObjs_spec {φ : Nat → Option Nat} : ∀ {l : List CObj} {s : CSt} {k : CSt → Option VOut} {x : VOut}, layObjs φ l s k = some x →
    ∃ (s1 : CSt) (os : List CObj), k s1 = some x ∧ os.length = l.length ∧ (∀ (j : Nat) (o o' : CObj), l[j]? = some o → os[j]? = some o' → RO φ o o') ∧ s1.next = s.next + l.length ∧
      (∀ i, i < s.next → s1.heap.get i = s.heap.get i) ∧ (∀ j, j < l.length → s1.heap.get (s.next + j) = os[j]?) ∧ ∀ i, s.next + l.length ≤ i → s1.heap.get i = s.heap.get i
  | [], s, k, x, h => ⟨s, [], h, rfl, fun j o o' hj => by simp at hj, rfl, fun _ _ => rfl, fun j hj => absurd hj (Nat.not_lt_zero j), fun _ _ => rfl⟩
  | o :: l, s, k, x, h => by
    simp only [layObjs] at h
    obtain ⟨o', h, h1⟩ := renObj_spec h
    have : ∃ s', layObjs φ l s' k = some x ∧ s'.next = s.next + 1 ∧ s'.heap.get s.next = some o' ∧ ∀ m, m ≠ s.next → s'.heap.get m = s.heap.get m := by
      obtain ⟨h0, n⟩ := s
      simp only [allocK, forceObj_eq] at h
      obtain ⟨t', q1, q2, q3⟩ := Tr.setK_spec h
      exact ⟨⟨t', Nat.succ n⟩, q1, rfl, q2, q3⟩
    obtain ⟨s', h, n1, g1, g2⟩ := this
    obtain ⟨s1, os, q1, q2, q3, q4, q5, q6, q7⟩ := layObjs_spec h
    refine ⟨s1, o' :: os, q1, by simp [q2], ?_, by simp; omega, ?_, ?_, ?_⟩
    · intro j a b ha hb
      cases j with
      | zero => simp at ha hb; subst ha; subst hb; exact h1
      | succ j => exact q3 j a b (by simpa using ha) (by simpa using hb)
    · intro i hi
      rw [q5 i (by omega), g2 i (by omega)]
    · intro j hj
      cases j with
      | zero => rw [Nat.add_zero, q5 _ (by omega), g1]; rfl
      | succ j =>
        have := q6 j (by simpa using hj)
        rw [n1] at this
        rw [show s.next + (j + 1) = s.next + 1 + j from by omega, this]; rfl
    · intro i hi
      simp at hi
      rw [q7 i (by omega), g2 i (by omega)]
theorem OR.plain {T : Tab} {ρ ρ' : Ren} {vs : List Value} {el : TypeId} {fz : Nat × Nat} {e : Ent} {r : Obj} (hs : scalars vs = true) (h : OR T ρ e (.cells vs el fz) r) : OR T ρ' e (.cells vs el fz) r := by
  cases h with
  | cells a b c d f g i =>
    refine .cells a b c (fun j hj => ?_) f g i
    have hsj : scalar (vs.getD j undef) = true := by
      have hl : j < vs.length := by omega
      rw [List.getD_eq_getElem?_getD, List.getElem?_eq_getElem hl]
      have : ∀ (l : List Value), scalars l = true → ∀ x ∈ l, scalar x = true := by
        intro l
        induction l with
        | nil => intro _ x hx; cases hx
        | cons y l ih =>
          intro h x hx
          simp only [Canon.scalars, Bool.and_eq_true] at h
          rcases List.mem_cons.1 hx with rfl | hx
          · exact h.1
          · exact ih h.2 x hx
      exact this vs hs _ (List.getElem_mem hl)
    rw [scalar_same hsj (d j hj)]
    exact scalar_refl hsj
/-- a proved table -/
def KnownOk (T : Tab) (K : List Known) : Prop := ∀ e ∈ K, MemoOk T e.f e.args e.objs e.out
theorem objsEq_eq : ∀ {l m : List CObj}, objsEq l m = true → l = m
  | [], [], _ => rfl
  | [], _ :: _, h => by simp [objsEq] at h
  | _ :: _, [], h => by simp [objsEq] at h
  | a :: l, b :: m, h => by
    simp only [objsEq, Bool.and_eq_true] at h
    rw [objSame_eq h.1, objsEq_eq h.2]
theorem findKnown_sound {T : Tab} {f : FuncId} {args : List Value} {objs : List CObj} {n : Nat} {out : MOut} : ∀ {K : List Known}, KnownOk T K → findKnown f args objs n K = some out → MemoOk T f args objs out
  | [], _, h => by cases h
  | e :: K, hK, h => by
    simp only [findKnown] at h
    cases hb : (Nat.beq e.f f && (Nat.beq e.n n && (veqs e.args args && objsEq e.objs objs))) with
    | true =>
      rw [hb] at h; cases h
      simp only [Bool.and_eq_true] at hb
      have : MemoOk T e.f e.args e.objs e.out := hK e (by simp)
      rw [nbeq_true hb.1, veqs_eq hb.2.2.1, objsEq_eq hb.2.2.2] at this
      exact this
    | false =>
      rw [hb] at h
      exact findKnown_sound (fun e' he' => hK e' (by simp [he'])) h
theorem memoCall_sound {T : Tab} {K : List Known} {call : FuncId → List Value → CSt → Option VOut} {round : Nat → List Value → CSt → Option VOut} (hS : SelfOk T ⟨call, round⟩) (hF : T.Fit) (hK : KnownOk T K) {f : FuncId} {args : List Value} {s : CSt} {v : Value} {s' : CSt}
    {base : Nat} {w0 : World} {ρ : Ren} {w : World} {args' : Array Value} (h : memoCall T K call f args s = some ⟨v, s'⟩) (hr : Rel T base w0 ρ s w) (hv : VRs ρ args args'.toList) :
    CallGives T.P f args' w (fun v' w' => SoundV T base w0 ρ s w v s' v' w') := by
  unfold memoCall at h
  obtain ⟨inv, n, tbl, h, hn, r1, r2⟩ := reach_spec _ _ _ _ _ h (by simp) (fun i m => by
    constructor
    · intro hh; rw [show (fullFor s.next : Tr Nat).get i = none from Tr.full_get _ _] at hh; cases hh
    · rintro ⟨j, hj, _⟩; simp at hj) (fun i hi => by simp at hi)
  obtain ⟨args2, h, ra⟩ := renVs_spec h
  obtain ⟨os, h, o1, o2⟩ := renObjs_spec h
  rw [List.append_nil] at h
  cases hm : memoOut T K call f args2 os.reverse n with
  | none => rw [hm] at h; cases h
  | some out =>
    rw [hm] at h
    have hobj : ∀ (j i : Nat) (o' : CObj), tbl.reverse[j]? = some i → os.reverse[j]? = some o' → ∃ o, s.heap.get i = some o ∧ RO (invAt T.gobjs.length inv) o o' := by
      intro j i o' h1 h2
      have hj : j < tbl.length := by have := (List.getElem?_eq_some_iff.1 h1).1; simpa using this
      rw [List.getElem?_reverse hj] at h1
      rw [List.getElem?_reverse (by omega), o1] at h2
      exact o2 _ _ _ h1 h2
    have hOk : MemoOk T f args2 os.reverse out := by
      unfold memoOut at hm
      split at hm
      · rename_i q hq; cases hm; exact findKnown_sound hK hq
      · refine runMemo_sound hS hF hm fun o ho => ?_
        obtain ⟨j, hj⟩ := List.getElem?_of_mem ho
        have hjl : j < tbl.reverse.length := by have := (List.getElem?_eq_some_iff.1 hj).1; simp at this ⊢; omega
        obtain ⟨o0, _, q⟩ := hobj j _ o (List.getElem?_eq_getElem hjl) hj
        cases q with
        | cells => exact .inl ⟨_, _, _, rfl⟩
        | map => exact .inr ⟨_, _, rfl⟩
    obtain ⟨ov, oobjs⟩ := out
    simp only [memoBack] at h
    split at h
    · rename_i hle
      have hle := ble_iff.1 hle
      have hnl : (T.gobjs ++ os.reverse).length = n := by simp; omega
      have hle2 : (T.gobjs ++ os.reverse ++ oobjs).length ≤ 1048576 := by rw [List.length_append, hnl]; exact hle
      have hle1 : (T.gobjs ++ os.reverse).length ≤ 1048576 := by rw [List.length_append] at hle2; omega
      obtain ⟨s1, os2, h, l1, l2, l3, l4, l5, l6⟩ := layObjs_spec h
      obtain ⟨v2, h, rv⟩ := renV_spec h
      cases h
      have hAg : ∀ m, m < T.gobjs.length → s.heap.get m = T.gobjs[m]? := fun m hm => by
        rw [(hr.glob m _ (List.getElem?_eq_getElem hm)).1, List.getElem?_eq_getElem hm]
      have hrl : os.reverse.length = tbl.length := by simp [o1]
      have hsub := hr.sub (low := T.gobjs.length) (tbl := tbl) (inv := inv) (A := T.gobjs) (os := os.reverse) r1 r2 hle1 rfl hAg hrl hobj (by
          intro m o e r hm ho he hor
          obtain ⟨vs, el, fz, rfl, hs⟩ := hF.gobjs o (List.mem_of_getElem? ho)
          exact OR.plain hs hor) (fun j o hj => hj) hF.gls
      have hsub : Rel T base w0 (subRen ρ T.gobjs.length tbl) ⟨hOf (T.gobjs ++ os.reverse), (T.gobjs ++ os.reverse).length⟩ w := by rw [List.length_append]; exact hsub
      obtain ⟨fn, c1, c2, c3⟩ := hOk hsub (ra.to (sub_to r1) hv)
      -- what the call gives, laid behind the caller's own
      have key : ∀ (v' : Value) (w' : World), (∃ ρ', Ext (subRen ρ T.gobjs.length tbl) ⟨hOf (T.gobjs ++ os.reverse), (T.gobjs ++ os.reverse).length⟩ w ρ' ⟨hOf (T.gobjs ++ os.reverse ++ oobjs), (T.gobjs ++ os.reverse).length + oobjs.length⟩ w' ∧
          Rel T base w0 ρ' ⟨hOf (T.gobjs ++ os.reverse ++ oobjs), (T.gobjs ++ os.reverse).length + oobjs.length⟩ w' ∧ VR ρ' ov v') → SoundV T base w0 ρ s w v s' v' w' := by
        rintro v' w' ⟨ρ1, e1, e2, e3⟩
        rw [hnl] at e1 e2
        have hdomρ : ∀ i e, ρ i = some e → i < s.next := fun i e hi => Nat.lt_of_not_le fun hle => by rw [(hr.dom i hle).1] at hi; cases hi
        have hg2 : ∀ i, (hOf (T.gobjs ++ os.reverse ++ oobjs)).get i = (T.gobjs ++ os.reverse ++ oobjs)[i]? := hOf_get hle2
        have hg1 : ∀ i, (hOf (T.gobjs ++ os.reverse)).get i = (T.gobjs ++ os.reverse)[i]? := hOf_get hle1
        obtain ⟨ρ2, hρ2⟩ : ∃ ρ2 : Ren, ρ2 = fun i => if i < s.next then ρ i else ρ1 (n + (i - s.next)) := ⟨_, rfl⟩
        have h2lo : ∀ i, i < s.next → ρ2 i = ρ i := fun i hi => by rw [hρ2]; exact if_pos hi
        have h2hi : ∀ j, ρ2 (s.next + j) = ρ1 (n + j) := fun j => by rw [hρ2]; dsimp only; rw [if_neg (by omega), Nat.add_sub_cancel_left]
        have hmono : ∀ i e, ρ i = some e → ρ2 i = some e := fun i e hi => by rw [h2lo i (hdomρ i e hi)]; exact hi
        -- the table backwards
        have hback : ∀ j i e, backAt T.gobjs.length tbl n s.next j = some i → ρ1 j = some e → ρ2 i = some e := by
          intro j i e h1 h2
          unfold backAt at h1
          cases hb : Nat.blt j n with
          | true =>
            rw [hb] at h1
            have hj : j < n := by simpa [Nat.blt_eq] using hb
            rw [e1.keep j (by simpa using hj)] at h2
            cases hb2 : Nat.blt j T.gobjs.length with
            | true =>
              rw [hb2] at h1; cases h1
              have hj2 : j < T.gobjs.length := by simpa [Nat.blt_eq] using hb2
              unfold subRen at h2; rw [if_pos hj2] at h2
              exact hmono _ _ h2
            | false =>
              rw [hb2] at h1
              have hj2 : T.gobjs.length ≤ j := Nat.le_of_not_lt fun hlt => by rw [← Nat.blt_eq] at hlt; rw [hlt] at hb2; cases hb2
              simp only [cond_true, cond_false] at h1
              rw [nthRev_spec hn hj2 hj] at h1
              unfold subRen at h2
              rw [if_neg (by omega), h1] at h2
              exact hmono _ _ h2
          | false =>
            rw [hb] at h1
            have hj : n ≤ j := Nat.le_of_not_lt fun hlt => by rw [← Nat.blt_eq] at hlt; rw [hlt] at hb; cases hb
            cases h1
            show ρ2 (s.next + (j - n)) = some e
            rw [h2hi, show n + (j - n) = j from by omega]; exact h2
        -- an object of the new state
        have split : ∀ {i : Nat} {o : CObj} {e : Ent}, s'.heap.get i = some o → ρ2 i = some e → (i < s.next ∧ s.heap.get i = some o ∧ ρ i = some e) ∨
            (∃ j o0, i = s.next + j ∧ oobjs[j]? = some o0 ∧ ρ1 (n + j) = some e ∧ (hOf (T.gobjs ++ os.reverse ++ oobjs)).get (n + j) = some o0 ∧ RO (backAt T.gobjs.length tbl n s.next) o0 o) := by
          intro i o e h1 h2
          by_cases hi : i < s.next
          · exact .inl ⟨hi, by rw [← l4 i hi]; exact h1, by rw [← h2lo i hi]; exact h2⟩
          · obtain ⟨j, rfl⟩ : ∃ j, i = s.next + j := ⟨i - s.next, by omega⟩
            rw [h2hi] at h2
            have hj : j < oobjs.length := by
              apply Nat.lt_of_not_le
              intro hle
              rw [(e2.dom (n + j) (by simp; omega)).1] at h2
              cases h2
            rw [l5 j hj] at h1
            refine .inr ⟨j, _, rfl, List.getElem?_eq_getElem hj, h2, ?_, l2 j _ o (List.getElem?_eq_getElem hj) h1⟩
            rw [hg2, List.getElem?_append_right (by omega), hnl, Nat.add_sub_cancel_left]
            exact List.getElem?_eq_getElem hj
        -- the image of the heap of one's own
        have img : ∀ {m : Nat} {o : CObj} {e : Ent}, (hOf (T.gobjs ++ os.reverse)).get m = some o → subRen ρ T.gobjs.length tbl m = some e → ∃ i o', s.heap.get i = some o' ∧ ρ i = some e := by
          intro m o e h1 h2
          rcases sub_obj (ρ := ρ) (s := s) hle1 rfl hAg hrl hobj h1 h2 with ⟨q1, q2, q3⟩ | ⟨j, i, o', q1, q2, q3, q4, q5⟩
          · exact ⟨m, o, q2, q3⟩
          · exact ⟨i, o', q3, q4⟩
        have hlt : ∀ {i : Nat} {o : CObj} {e : Ent}, s.heap.get i = some o → ρ i = some e → e.b < w.heap.size := fun {i o e} h1 h2 => by
          obtain ⟨r, h3, _⟩ := hr.obj _ _ _ h1 h2
          exact (Array.getElem?_eq_some_iff.1 h3).1
        -- a new object lies nowhere where an old one lay
        have apart : ∀ {i j : Nat} {o o0 : CObj} {e e' : Ent}, s.heap.get i = some o → ρ i = some e → (hOf (T.gobjs ++ os.reverse ++ oobjs)).get (n + j) = some o0 → ρ1 (n + j) = some e' → e.b ≠ e'.b := by
          intro i j o o0 e e' h1 h2 h3 h4 hb
          rcases e1.fresh (n + j) o0 e' h3 h4 with ⟨m, om, em, g1, g2, g3⟩ | hge
          · have hml : m < n := by
              rw [hg1] at g1
              have := (List.getElem?_eq_some_iff.1 g1).1
              omega
            have g2' : ρ1 m = some em := by rw [e1.keep m (by simpa using hml)]; exact g2
            have hgm : ∃ om', (hOf (T.gobjs ++ os.reverse ++ oobjs)).get m = some om' := by
              rw [hg1] at g1
              exact ⟨om, by rw [hg2, List.getElem?_append_left (by omega)]; exact g1⟩
            obtain ⟨om', hgm⟩ := hgm
            have := e2.inj _ _ _ _ _ _ hgm h3 g2' h4 g3
            omega
          · have := hlt h1 h2
            omega
        refine ⟨ρ2, ?_, ?_, rv.to hback e3⟩
        · refine ⟨fun i hi => h2lo i hi, by omega, e1.size, ?_, ?_⟩
          · intro b hb hnb
            refine e1.frame b hb fun m o e h1 h2 => ?_
            obtain ⟨i, o', g1, g2⟩ := img h1 h2
            exact hnb i o' e g1 g2
          · intro i o e h1 h2
            rcases split h1 h2 with ⟨q1, q2, q3⟩ | ⟨j, o0, q1, q2, q3, q4, q5⟩
            · exact .inl ⟨i, o, e, q2, q3, rfl⟩
            · rcases e1.fresh (n + j) o0 e q4 q3 with ⟨m, om, em, g1, g2, g3⟩ | hge
              · obtain ⟨i', o', p1, p2⟩ := img g1 g2
                exact .inl ⟨i', o', em, p1, p2, g3⟩
              · exact .inr hge
        · refine { obj := ?_, inj := ?_, own := ?_, dom := ?_, below := e2.below, base_le := e2.base_le, glob := ?_, gl := ?_ }
          · intro i o e h1 h2
            rcases split h1 h2 with ⟨q1, q2, q3⟩ | ⟨j, o0, q1, q2, q3, q4, q5⟩
            · -- is it one that the call could reach?
              by_cases hreach : i < T.gobjs.length ∨ ∃ j : Nat, tbl.reverse[j]? = some i
              · have : ∃ m o', (hOf (T.gobjs ++ os.reverse)).get m = some o' ∧ m < n ∧ subRen ρ T.gobjs.length tbl m = some e ∧ ((m = i ∧ i < T.gobjs.length ∧ o' = o) ∨ RO (invAt T.gobjs.length inv) o o') := by
                  rcases hreach with hi | ⟨j, hj⟩
                  · refine ⟨i, o, ?_, by omega, by unfold subRen; rw [if_pos hi]; exact q3, .inl ⟨rfl, hi, rfl⟩⟩
                    rw [hg1, List.getElem?_append_left hi, ← hAg i hi]; exact q2
                  · have hjl : j < os.reverse.length := by rw [hrl]; have := (List.getElem?_eq_some_iff.1 hj).1; simpa using this
                    obtain ⟨o2', g1, g2⟩ := hobj j i _ hj (List.getElem?_eq_getElem hjl)
                    rw [q2] at g1; cases g1
                    refine ⟨T.gobjs.length + j, _, ?_, by rw [hn, ← hrl]; omega, ?_, .inr g2⟩
                    · rw [hg1, List.getElem?_append_right (by omega), Nat.add_sub_cancel_left]; exact List.getElem?_eq_getElem hjl
                    · unfold subRen; rw [if_neg (by omega), Nat.add_sub_cancel_left, hj]; exact q3
                obtain ⟨m, o', g1, g2, g3, g4⟩ := this
                have g1' : (hOf (T.gobjs ++ os.reverse ++ oobjs)).get m = some o' := by
                  rw [hg1] at g1
                  rw [hg2, List.getElem?_append_left (by omega)]; exact g1
                have g3' : ρ1 m = some e := by rw [e1.keep m (by simpa using g2)]; exact g3
                obtain ⟨r, p1, p2⟩ := e2.obj m o' e g1' g3'
                refine ⟨r, p1, ?_⟩
                rcases g4 with ⟨rfl, hi, rfl⟩ | g4
                · obtain ⟨vs, el, fz, rfl, hs⟩ := hF.gobjs o' (List.mem_of_getElem? (i := m) (by rw [← hAg m hi]; exact q2))
                  exact OR.plain hs p2
                · refine g4.back ?_ p2
                  intro a b e' h3 h4
                  -- b is below n: what it stands for is old
                  have hbn : b < n := by
                    unfold invAt at h3
                    cases hb : Nat.blt a T.gobjs.length with
                    | true =>
                      rw [hb] at h3; cases h3
                      have : a < T.gobjs.length := by simpa [Nat.blt_eq] using hb
                      omega
                    | false =>
                      rw [hb] at h3
                      obtain ⟨j, h5, h6⟩ := (r1 a b).1 h3
                      have := (List.getElem?_eq_some_iff.1 h5).1
                      simp at this
                      omega
                  rw [e1.keep b (by simpa using hbn)] at h4
                  exact hmono _ _ (sub_back r1 a b e' h3 h4)
              · -- the call has not touched it
                obtain ⟨r, p1, p2⟩ := hr.obj i o e q2 q3
                refine ⟨r, ?_, p2.mono hmono⟩
                rw [e1.frame e.b (hlt q2 q3), p1]
                intro m om em h3 h4 hb
                rcases sub_obj (ρ := ρ) (s := s) hle1 rfl hAg hrl hobj h3 h4 with ⟨t1, t2, t3⟩ | ⟨j, i', o', t1, t2, t3, t4, t5⟩
                · have := hr.inj _ _ _ _ _ _ t2 q2 t3 q3 hb
                  subst this
                  exact hreach (.inl t1)
                · have := hr.inj _ _ _ _ _ _ t3 q2 t4 q3 hb
                  subst this
                  exact hreach (.inr ⟨j, t2⟩)
            · obtain ⟨r, p1, p2⟩ := e2.obj _ _ _ q4 q3
              exact ⟨r, p1, q5.to hback p2⟩
          · intro i i' o o' e e' h1 h2 h3 h4 hb
            rcases split h1 h3 with ⟨q1, q2, q3⟩ | ⟨j, o0, q1, q2, q3, q4, q5⟩
            · rcases split h2 h4 with ⟨p1, p2, p3⟩ | ⟨j', o0', p1, p2, p3, p4, p5⟩
              · exact hr.inj _ _ _ _ _ _ q2 p2 q3 p3 hb
              · exact absurd hb (apart q2 q3 p4 p3)
            · rcases split h2 h4 with ⟨p1, p2, p3⟩ | ⟨j', o0', p1, p2, p3, p4, p5⟩
              · exact absurd hb.symm (apart p2 p3 q4 q3)
              · have := e2.inj _ _ _ _ _ _ q4 p4 q3 p3 hb
                omega
          · intro i o e h1 h2
            rcases split h1 h2 with ⟨q1, q2, q3⟩ | ⟨j, o0, q1, q2, q3, q4, q5⟩
            · exact hr.own _ _ _ q2 q3
            · exact (e2.own _ _ _ q4 q3).imp id q5.locked.1
          · intro i hi
            have hi' : s.next + oobjs.length ≤ i := by omega
            refine ⟨?_, by rw [l6 i hi']; exact (hr.dom i (by omega)).2⟩
            obtain ⟨j, rfl⟩ : ∃ j, i = s.next + j := ⟨i - s.next, by omega⟩
            rw [h2hi]
            exact (e2.dom (n + j) (by simp; omega)).1
          · intro j o hj
            obtain ⟨g1, e, g2, g3⟩ := hr.glob j o hj
            exact ⟨by rw [l4 j (hdomρ j e g2)]; exact g1, e, hmono _ _ g2, g3⟩
          · intro g i hi
            obtain ⟨e, g1, g2⟩ := hr.gl g i hi
            exact ⟨e, hmono _ _ g1, g2⟩
      refine ⟨fn, c1, c2, ?_⟩
      rcases c3 with ⟨c3, c4⟩ | ⟨c3, v', w', c4, c5⟩
      · refine .inl ⟨c3, CallsIn.mono c4 ?_⟩
        rintro e w' ⟨v', rfl, q⟩
        exact ⟨v', rfl, key v' w' q⟩
      · exact .inr ⟨c3, v', w', c4, key v' w' c5⟩
    · cases h
end Go.Canon
end
section
namespace Go.Canon
open Go Go.RowKit
set_option linter.unusedSectionVars false
/-! ### the levels -/
theorem noSelf_ok {T : Tab} : SelfOk T noSelf := ⟨fun h => (by cases h), fun h => (by cases h)⟩
theorem outer_ok {T : Tab} {K : List Known} (hF : T.Fit) (hK : KnownOk T K) {fam : Nat → Self} (hfam : ∀ r, SelfOk T (fam r)) (n : Nat) : SelfOk T (outer T K fam n) where
  call := by
    intro f args s v s' base w0 ρ w args' h hr hv
    have h : (match T.rank.get f with
      | some (r + 1) => bif Nat.ble (r + 1) n then memoAt T K (fam (r + 1)) f args s else none
      | _ => (match fam n with | ⟨call, _⟩ => call f args s)) = some ⟨v, s'⟩ := h
    split at h
    · rename_i r _
      cases hb : Nat.ble (r + 1) n with
      | false => rw [hb] at h; cases h
      | true =>
        rw [hb] at h
        simp only [cond_true] at h
        have hs := hfam (r + 1)
        cases hm : fam (r + 1) with
        | mk call round =>
          rw [hm] at h hs
          exact memoCall_sound hs hF hK h hr hv
    · have hs := hfam n
      cases hm : fam n with
      | mk call round =>
        rw [hm] at h hs
        exact hs.call h hr hv
  round := by
    intro l args s v s' base w0 ρ w args' e h hr he hv
    have h : (match fam n with | ⟨_, round⟩ => round l args s) = some ⟨v, s'⟩ := h
    have hs := hfam n
    cases hm : fam n with
    | mk call round =>
      rw [hm] at h hs
      exact hs.round h hr he hv
theorem lvl_ok {T : Tab} {K : List Known} (hT : T.Ok) (hF : T.Fit) (hN : NatOk T) (hK : KnownOk T K) : ∀ n r, SelfOk T (lvl T K n r) := by
  intro n
  induction n with
  | zero => intro r; exact noSelf_ok
  | succ n ih =>
    intro r
    have e : lvl T K (n + 1) r = cond (Nat.beq r (Nat.succ n)) (stepAt T K (lvl T K n) n) (lvl T K n r) := rfl
    rw [e]
    cases Nat.beq r (Nat.succ n) with
    | false => exact ih r
    | true =>
      have ho := outer_ok hF hK ih n
      exact ⟨fun h hr hv => plainCall_sound ho hT hF hN h hr hv, fun h hr he hv => round_sound ho hT hF h hr he hv⟩
end Go.Canon
end
