/- The evaluator's soundness over the calculus of calls, one part; no conditions. -/
import Derived.Below
import Derived.Laws.Sem
import Derived.Laws.Cells
import Derived.Test.YtlmeiickknfhhaaGreatDoorCa2
set_option linter.all false
set_option linter.unusedVariables false
set_option linter.unusedSimpArgs false
set_option linter.unusedSectionVars false
set_option linter.unnecessarySimpa false
section
namespace Go.Canon
open Go
/-! ### tries: what the closures read and write -/
section tries
variable {α β : Type}
theorem mkGet_nil (d n : Nat) : (mkGet d n : GetF α).run .nil = none := by
  cases d with
  | zero => rfl
  | succ d =>
    cases n with
    | zero => rfl
    | succ k =>
      show (cond (Nat.beq (Nat.mod k 2) 0) _ _ : GetF α).run .nil = none
      cases Nat.beq (Nat.mod k 2) 0 <;> rfl
theorem mkGet_zero (d : Nat) (v : Option α) (l r : Tr α) : (mkGet (d + 1) 0 : GetF α).run (.node v l r) = v := rfl
theorem mkGet_succ (d k : Nat) (v : Option α) (l r : Tr α) : (mkGet (d + 1) (k + 1) : GetF α).run (.node v l r) =
    (mkGet d (k / 2) : GetF α).run (cond (Nat.beq (k % 2) 0) l r) := by
  show (cond (Nat.beq (Nat.mod k 2) 0) _ _ : GetF α).run (.node v l r) = _
  have e : Nat.mod k 2 = k % 2 := rfl
  rw [e]
  cases Nat.beq (k % 2) 0 <;> rfl
theorem mkSet_spec (d : Nat) : ∀ (n : Nat) (t : Tr α) (a : Option α) (f : Tr α → Option β) (x : β), (mkSet d n : SetF α β).run t a f = some x →
    ∃ t', f t' = some x ∧ (mkGet d n : GetF α).run t' = a ∧ ∀ m, m ≠ n → (mkGet d m : GetF α).run t' = (mkGet d m : GetF α).run t := by
  induction d with
  | zero => intro n t a f x h; exact absurd h (by simp [mkSet])
  | succ d ih =>
    intro n t a f x h
    cases n with
    | zero =>
      cases t with
      | nil =>
        refine ⟨.node a .nil .nil, h, rfl, fun m hm => ?_⟩
        cases m with
        | zero => exact absurd rfl hm
        | succ m => rw [mkGet_succ, mkGet_nil]; cases Nat.beq (m % 2) 0 <;> exact mkGet_nil _ _
      | node v l r =>
        refine ⟨.node a l r, h, rfl, fun m hm => ?_⟩
        cases m with
        | zero => exact absurd rfl hm
        | succ m => rw [mkGet_succ, mkGet_succ]
    | succ k =>
      have e : Nat.mod k 2 = k % 2 := rfl
      cases t with
      | nil =>
        exfalso
        revert h
        show (cond (Nat.beq (Nat.mod k 2) 0) _ _ : SetF α β).run .nil a f = some x → False
        cases Nat.beq (Nat.mod k 2) 0 <;> (intro h; cases h)
      | node v l r =>
        cases hb : Nat.beq (Nat.mod k 2) 0 with
        | true =>
          have h' : (mkSet d (Nat.div k 2) : SetF α β).run l a (fun l' => f (.node v l' r)) = some x := by
            have : (mkSet (d + 1) (k + 1) : SetF α β).run (.node v l r) a f = (cond (Nat.beq (Nat.mod k 2) 0) (⟨fun t a f => Tr.rec (motive := fun _ => Option β) none (fun v l r _ _ => (mkSet d (Nat.div k 2)).run l a fun l' => f (.node v l' r)) t⟩ : SetF α β)
              ⟨fun t a f => Tr.rec (motive := fun _ => Option β) none (fun v l r _ _ => (mkSet d (Nat.div k 2)).run r a fun r' => f (.node v l r')) t⟩).run (.node v l r) a f := rfl
            rw [this, hb] at h
            exact h
          obtain ⟨l', h1, h2, h3⟩ := ih _ _ _ _ _ h'
          refine ⟨.node v l' r, h1, ?_, fun m hm => ?_⟩
          · rw [mkGet_succ, ← e, hb]; exact h2
          · cases m with
            | zero => rfl
            | succ m =>
              rw [mkGet_succ, mkGet_succ]
              cases hm2 : Nat.beq (m % 2) 0 with
              | false => rfl
              | true =>
                refine h3 _ fun hh => hm ?_
                have a1 := Nat.eq_of_beq_eq_true hm2
                have a2 : k % 2 = 0 := Nat.eq_of_beq_eq_true hb
                have a3 : m / 2 = k / 2 := hh
                omega
        | false =>
          have h' : (mkSet d (Nat.div k 2) : SetF α β).run r a (fun r' => f (.node v l r')) = some x := by
            have : (mkSet (d + 1) (k + 1) : SetF α β).run (.node v l r) a f = (cond (Nat.beq (Nat.mod k 2) 0) (⟨fun t a f => Tr.rec (motive := fun _ => Option β) none (fun v l r _ _ => (mkSet d (Nat.div k 2)).run l a fun l' => f (.node v l' r)) t⟩ : SetF α β)
              ⟨fun t a f => Tr.rec (motive := fun _ => Option β) none (fun v l r _ _ => (mkSet d (Nat.div k 2)).run r a fun r' => f (.node v l r')) t⟩).run (.node v l r) a f := rfl
            rw [this, hb] at h
            exact h
          obtain ⟨r', h1, h2, h3⟩ := ih _ _ _ _ _ h'
          refine ⟨.node v l r', h1, ?_, fun m hm => ?_⟩
          · rw [mkGet_succ, ← e, hb]; exact h2
          · cases m with
            | zero => rfl
            | succ m =>
              rw [mkGet_succ, mkGet_succ]
              cases hm2 : Nat.beq (m % 2) 0 with
              | true => rfl
              | false =>
                refine h3 _ fun hh => hm ?_
                have a1 : m % 2 ≠ 0 := fun q => by rw [q] at hm2; cases hm2
                have a2 : k % 2 ≠ 0 := fun q => by rw [e, q] at hb; cases hb
                have a3 : m / 2 = k / 2 := hh
                omega
theorem Tr.setK_spec {t : Tr α} {n : Nat} {a : Option α} {f : Tr α → Option β} {x : β} (h : t.setK n a f = some x) :
    ∃ t', f t' = some x ∧ t'.get n = a ∧ ∀ m, m ≠ n → t'.get m = t.get m := mkSet_spec 48 n t a f x h
theorem Tr.get_nil (n : Nat) : (Tr.nil : Tr α).get n = none := mkGet_nil 48 n
theorem full_get (d : Nat) : ∀ (e n : Nat), (mkGet e n : GetF α).run (Tr.full d) = none := by
  induction d with
  | zero => intro e n; exact mkGet_nil e n
  | succ d ih =>
    intro e n
    cases e with
    | zero => rfl
    | succ e =>
      cases n with
      | zero => rfl
      | succ n => show (mkGet (e + 1) (n + 1) : GetF α).run (.node none (Tr.full d) (Tr.full d)) = none
                  rw [mkGet_succ]; cases Nat.beq (n % 2) 0 <;> exact ih _ _
theorem Tr.full_get (d n : Nat) : (Tr.full d : Tr α).get n = none := Canon.full_get d 48 n
theorem Tr.putL_spec : ∀ (l : List α) (i : Nat) (t : Tr α) (k : Tr α → Option β) (x : β), Tr.putL l i t k = some x →
    ∃ t', k t' = some x ∧ (∀ j, j < l.length → t'.get (i + j) = l[j]?) ∧ ∀ m, (m < i ∨ i + l.length ≤ m) → t'.get m = t.get m := by
  intro l
  induction l with
  | nil => intro i t k x h; exact ⟨t, h, fun j hj => absurd hj (Nat.not_lt_zero _), fun _ _ => rfl⟩
  | cons y l ih =>
    intro i t k x h
    obtain ⟨t1, h1, h2, h3⟩ := Tr.setK_spec h
    obtain ⟨t2, g1, g2, g3⟩ := ih _ _ _ _ h1
    refine ⟨t2, g1, fun j hj => ?_, fun m hm => ?_⟩
    · cases j with
      | zero => rw [Nat.add_zero, g3 i (Or.inl (Nat.lt_succ_self i)), h2]; rfl
      | succ j =>
        have := g2 j (by simpa using hj)
        rw [show i + (j + 1) = i.succ + j from by omega, this]; rfl
    · rw [g3 m (by rcases hm with h | h; exact Or.inl (by omega); exact Or.inr (by simp at h; omega))]
      exact h3 m (by rcases hm with h | h; omega; simp at h; omega)
theorem splitOdd_spec : ∀ (l : List α) (j : Nat), (splitOdd l).1[j]? = l[2 * j]? ∧ (splitOdd l).2[j]? = l[2 * j + 1]? := by
  intro l
  induction l with
  | nil => intro j; simp [splitOdd]
  | cons x l ih =>
    intro j
    constructor
    · cases j with
      | zero => rfl
      | succ j =>
        show (x :: (splitOdd l).2)[j + 1]? = _
        rw [List.getElem?_cons_succ, (ih j).2, show 2 * (j + 1) = (2 * j + 1) + 1 from by omega, List.getElem?_cons_succ]
    · show (splitOdd l).1[j]? = _
      rw [(ih j).1, List.getElem?_cons_succ]
theorem mk_get : ∀ (d : Nat) (l : List α) (e n : Nat) (x : α), (mkGet e n : GetF α).run (Tr.mk d l) = some x → l[n]? = some x := by
  intro d
  induction d with
  | zero => intro l e n x h; rw [show Tr.mk 0 l = .nil from rfl, mkGet_nil] at h; cases h
  | succ d ih =>
    intro l e n x h
    cases l with
    | nil => rw [show Tr.mk (d + 1) ([] : List α) = .nil from rfl, mkGet_nil] at h; cases h
    | cons y l =>
      cases e with
      | zero => cases h
      | succ e =>
        cases n with
        | zero => exact h
        | succ n =>
          rw [show Tr.mk (d + 1) (y :: l) = .node (some y) (Tr.mk d (splitOdd l).1) (Tr.mk d (splitOdd l).2) from rfl, mkGet_succ] at h
          rw [List.getElem?_cons_succ]
          cases hb : Nat.beq (n % 2) 0 with
          | true =>
            rw [hb] at h
            have := ih _ _ _ _ h
            rw [(splitOdd_spec l _).1] at this
            have e2 := Nat.eq_of_beq_eq_true hb
            rwa [show 2 * (n / 2) = n from by omega] at this
          | false =>
            rw [hb] at h
            have := ih _ _ _ _ h
            rw [(splitOdd_spec l _).2] at this
            have e2 : n % 2 ≠ 0 := fun q => by rw [q] at hb; cases hb
            rwa [show 2 * (n / 2) + 1 = n from by omega] at this
theorem Tr.mk_get {d : Nat} {l : List α} {n : Nat} {x : α} (h : (Tr.mk d l).get n = some x) : l[n]? = some x := Canon.mk_get d l 48 n x h
end tries

/-! ### forcing changes nothing -/
section forcing
variable {β : Type}
theorem forceNat_eq (n : Nat) (k : Nat → Option β) : forceNat n k = k n := by cases n <;> rfl
theorem forceInt_eq (n : Int) (k : Int → Option β) : forceInt n k = k n := by cases n <;> simp [forceInt, forceNat_eq]
theorem forceAddr_eq (a : Option Addr) (k : Option Addr → Option β) : forceAddr a k = k a := by
  rcases a with _ | ⟨b, o, _ | s⟩ <;> simp [forceAddr, forceNat_eq]
theorem force0_eq (v : Value) (k : Value → Option β) : force0 v k = k v := by
  cases v <;> simp [force0, forceInt_eq, forceAddr_eq, forceNat_eq]
  · rename_i b; cases b <;> rfl
  · rename_i r; cases r <;> simp
theorem forceList_eq : ∀ (l : List Value) (k : List Value → Option β), forceList l k = k l := by
  intro l
  induction l with
  | nil => intro k; rfl
  | cons x l ih => intro k; simp [forceList, force0_eq, ih]
theorem forceBytes_eq : ∀ (l : List UInt8) (k : List UInt8 → Option β), forceBytes l k = k l := by
  intro l
  induction l with
  | nil => intro k; rfl
  | cons x l ih => intro k; simp [forceBytes, ih]
theorem force_eq (v : Value) (k : Value → Option β) : force v k = k v := by
  cases v <;> simp [force, force0_eq, forceList_eq, forceBytes_eq]
theorem forceEntries_eq : ∀ (l : List MapEntry) (k : List MapEntry → Option β), forceEntries l k = k l := by
  intro l
  induction l with
  | nil => intro k; rfl
  | cons x l ih => intro k; cases x; simp [forceEntries, force0_eq, ih]
theorem forceObj_eq (o : CObj) (k : CObj → Option β) : forceObj o k = k o := by
  cases o <;> simp [forceObj, forceList_eq, forceNat_eq, forceEntries_eq]
end forcing
end Go.Canon
end
section
namespace Go.Canon
open Go Go.RowKit
/-- where a canonical block lies: the real block, where the cells begin in it, how many they are, how many it has, an element's cells -/
structure Ent where
  b : Nat
  d : Nat
  n : Nat
  rn : Nat
  sz : Nat
abbrev Ren := Nat → Option Ent

inductive VR (ρ : Ren) : Value → Value → Prop
  | bool (b : Bool) : VR ρ (.bool b) (.bool b)
  | int (k : IntKind) (n : Int) : VR ρ (.int k n) (.int k n)
  | string (s : ByteArray) : VR ρ (.string s) (.string s)
  | nilp : VR ρ (.pointer none) (.pointer none)
  | ptr {i off : Nat} {e : Ent} : ρ i = some e → VR ρ (.pointer (some ⟨i, off, none⟩)) (.pointer (some ⟨e.b, off + e.d, none⟩))
  | nils (n c : Nat) : VR ρ (.slice none n c) (.slice none n c)
  | xs {i off n c : Nat} {e : Ent} : ρ i = some e → c < BIG → VR ρ (.slice (some ⟨i, off, none⟩) n c) (.slice (some ⟨e.b, off + e.d, none⟩) n c)
  | gs {i off n c off' c' : Nat} {e : Ent} : ρ i = some e → BIG ≤ c → (c' = 0 ∨ off' = off + e.d) → n ≤ c' → e.n ≤ off + c' * e.sz → off' + c' * e.sz ≤ e.rn →
      VR ρ (.slice (some ⟨i, off, none⟩) n c) (.slice (some ⟨e.b, off', none⟩) n c')
  | nilm : VR ρ (.map none) (.map none)
  | map {i : Nat} {e : Ent} : ρ i = some e → VR ρ (.map (some i)) (.map (some e.b))
  | nilf : VR ρ .nilFunc .nilFunc
  | nili : VR ρ .nilIface .nilIface
  | func (f : FuncId) (x y x' y' : Array Value) : x.size = x'.size → (∀ i, i < x.size → VR ρ (x.toList.getD i undef) (x'.toList.getD i undef)) →
      y.size = y'.size → (∀ i, i < y.size → VR ρ (y.toList.getD i undef) (y'.toList.getD i undef)) → VR ρ (.func (.func f) x y) (.func (.func f) x' y')
  | yield {i : Nat} {e : Ent} : ρ i = some e → VR ρ (.func (.yield i) #[] #[]) (.func (.yield e.b) #[] #[])
  | iface (t : TypeId) {v v' : Value} : VR ρ v v' → VR ρ (.iface t v) (.iface t v')
  | agg (x x' : Array Value) : x.size = x'.size → (∀ i, i < x.size → VR ρ (x.toList.getD i undef) (x'.toList.getD i undef)) → VR ρ (.agg x) (.agg x')
  | tuple (x x' : Array Value) : x.size = x'.size → (∀ i, i < x.size → VR ρ (x.toList.getD i undef) (x'.toList.getD i undef)) → VR ρ (.tuple x) (.tuple x')

/-- lists of values -/
def VRs (ρ : Ren) (l m : List Value) : Prop := l.length = m.length ∧ ∀ i, i < l.length → VR ρ (l.getD i undef) (m.getD i undef)

theorem VR.mono {ρ ρ' : Ren} (h : ∀ i e, ρ i = some e → ρ' i = some e) {v r : Value} (hv : VR ρ v r) : VR ρ' v r := by
  induction hv with
  | bool b => exact .bool b
  | int k n => exact .int k n
  | string s => exact .string s
  | nilp => exact .nilp
  | ptr hi => exact .ptr (h _ _ hi)
  | nils n c => exact .nils n c
  | xs hi hc => exact .xs (h _ _ hi) hc
  | gs hi h1 h2 h3 h4 h5 => exact .gs (h _ _ hi) h1 h2 h3 h4 h5
  | nilm => exact .nilm
  | map hi => exact .map (h _ _ hi)
  | nilf => exact .nilf
  | nili => exact .nili
  | func f x y x' y' h1 _ h3 _ ih1 ih2 => exact .func f x y x' y' h1 ih1 h3 ih2
  | yield hi => exact .yield (h _ _ hi)
  | iface t _ ih => exact .iface t ih
  | agg x x' h1 _ ih => exact .agg x x' h1 ih
  | tuple x x' h1 _ ih => exact .tuple x x' h1 ih

section lists
variable {ρ ρ' : Ren}
theorem VRs.nil : VRs ρ [] [] := ⟨rfl, fun i h => absurd h (Nat.not_lt_zero i)⟩
theorem VRs.cons {x y : Value} {l m : List Value} (h : VR ρ x y) (ht : VRs ρ l m) : VRs ρ (x :: l) (y :: m) :=
  ⟨by simp [ht.1], fun i hi => by
    cases i with
    | zero => exact h
    | succ i => exact ht.2 i (by simpa using hi)⟩
theorem VRs.head {x y : Value} {l m : List Value} (h : VRs ρ (x :: l) (y :: m)) : VR ρ x y := h.2 0 (by simp)
theorem VRs.tail {x y : Value} {l m : List Value} (h : VRs ρ (x :: l) (y :: m)) : VRs ρ l m :=
  ⟨by simpa using h.1, fun i hi => h.2 (i + 1) (by simpa using hi)⟩
theorem VRs.nil_left {m : List Value} (h : VRs ρ [] m) : m = [] := List.length_eq_zero_iff.1 h.1.symm
theorem VRs.cons_left {x : Value} {l m : List Value} (h : VRs ρ (x :: l) m) : ∃ y m', m = y :: m' ∧ VR ρ x y ∧ VRs ρ l m' := by
  cases m with
  | nil => exact absurd h.1 (by simp)
  | cons y m => exact ⟨y, m, rfl, h.head, h.tail⟩
theorem VRs.mono (h : ∀ i e, ρ i = some e → ρ' i = some e) {l m : List Value} (hl : VRs ρ l m) : VRs ρ' l m := ⟨hl.1, fun i hi => (hl.2 i hi).mono h⟩
theorem VRs.append {l m l' m' : List Value} (h : VRs ρ l m) (h' : VRs ρ l' m') : VRs ρ (l ++ l') (m ++ m') := by
  induction l generalizing m with
  | nil => rw [h.nil_left]; exact h'
  | cons x l ih =>
    obtain ⟨y, m1, rfl, h1, h2⟩ := h.cons_left
    exact .cons h1 (ih h2)
theorem VRs.getElem? {l m : List Value} (h : VRs ρ l m) {i : Nat} {x : Value} (hx : l[i]? = some x) : ∃ y, m[i]? = some y ∧ VR ρ x y := by
  have hi : i < l.length := (List.getElem?_eq_some_iff.1 hx).1
  have hm : i < m.length := h.1 ▸ hi
  refine ⟨m[i], List.getElem?_eq_getElem hm, ?_⟩
  have := h.2 i hi
  rw [List.getD_eq_getElem?_getD, hx, List.getD_eq_getElem?_getD, List.getElem?_eq_getElem hm] at this
  exact this
theorem VRs.take {l m : List Value} (h : VRs ρ l m) (n : Nat) : VRs ρ (l.take n) (m.take n) := by
  induction n generalizing l m with
  | zero => simpa using VRs.nil
  | succ n ih =>
    cases l with
    | nil => rw [h.nil_left]; simpa using VRs.nil
    | cons x l => obtain ⟨y, m1, rfl, h1, h2⟩ := h.cons_left; exact .cons h1 (ih h2)
theorem VRs.drop {l m : List Value} (h : VRs ρ l m) (n : Nat) : VRs ρ (l.drop n) (m.drop n) := by
  induction n generalizing l m with
  | zero => simpa using h
  | succ n ih =>
    cases l with
    | nil => rw [h.nil_left]; simpa using VRs.nil
    | cons x l => obtain ⟨y, m1, rfl, h1, h2⟩ := h.cons_left; exact ih h2
theorem VR.agg' {l m : List Value} (h : VRs ρ l m) : VR ρ (.agg ⟨l⟩) (.agg ⟨m⟩) := .agg ⟨l⟩ ⟨m⟩ h.1 h.2
theorem VR.tuple' {l m : List Value} (h : VRs ρ l m) : VR ρ (.tuple ⟨l⟩) (.tuple ⟨m⟩) := .tuple ⟨l⟩ ⟨m⟩ h.1 h.2
theorem VR.func' {f : FuncId} {x y x' y' : List Value} (h : VRs ρ x x') (k : VRs ρ y y') : VR ρ (.func (.func f) ⟨x⟩ ⟨y⟩) (.func (.func f) ⟨x'⟩ ⟨y'⟩) :=
  .func f ⟨x⟩ ⟨y⟩ ⟨x'⟩ ⟨y'⟩ h.1 h.2 k.1 k.2
theorem VR.agg_left {x : Array Value} {r : Value} (h : VR ρ (.agg x) r) : ∃ y : Array Value, r = .agg y ∧ VRs ρ x.toList y.toList := by
  cases h with
  | agg _ x' h1 h2 => exact ⟨x', rfl, h1, h2⟩
theorem VR.tuple_left {x : Array Value} {r : Value} (h : VR ρ (.tuple x) r) : ∃ y : Array Value, r = .tuple y ∧ VRs ρ x.toList y.toList := by
  cases h with
  | tuple _ x' h1 h2 => exact ⟨x', rfl, h1, h2⟩
theorem VR.undef : VR ρ undef undef := VR.tuple' (l := []) (m := []) VRs.nil
theorem VR.cells {v r : Value} (h : VR ρ v r) : VRs ρ v.cells.toList r.cells.toList := by
  cases h with
  | agg x x' h1 h2 => exact ⟨h1, h2⟩
  | _ => exact VRs.cons (by constructor <;> assumption) VRs.nil
end lists

/-! ### values without an address are the same -/
mutual
theorem scalar_same {ρ : Ren} : ∀ {v r : Value}, scalar v = true → VR ρ v r → r = v
  | .bool b, r, _, h => by cases h; rfl
  | .int k n, r, _, h => by cases h; rfl
  | .string s, r, _, h => by cases h; rfl
  | .pointer none, r, _, h => by cases h; rfl
  | .slice none _ _, r, _, h => by cases h; rfl
  | .map none, r, _, h => by cases h; rfl
  | .nilFunc, r, _, h => by cases h; rfl
  | .nilIface, r, _, h => by cases h; rfl
  | .iface t v, r, hs, h => by
    cases h with
    | iface _ hv => rw [scalar_same (v := v) (by simpa [scalar] using hs) hv]
  | .agg x, r, hs, h => by
    obtain ⟨y, rfl, hl⟩ := h.agg_left
    have := scalars_same (by simpa [scalar] using hs) hl
    cases x; cases y; simp at this; rw [this]
  | .tuple x, r, hs, h => by
    obtain ⟨y, rfl, hl⟩ := h.tuple_left
    have := scalars_same (by simpa [scalar] using hs) hl
    cases x; cases y; simp at this; rw [this]
  | .pointer (some _), _, hs, _ => by simp [scalar] at hs
  | .slice (some _) _ _, _, hs, _ => by simp [scalar] at hs
  | .map (some _), _, hs, _ => by simp [scalar] at hs
  | .func .., _, hs, _ => by simp [scalar] at hs
  | .float .., _, hs, _ => by simp [scalar] at hs
  | .complex .., _, hs, _ => by simp [scalar] at hs
  | .chan .., _, hs, _ => by simp [scalar] at hs
theorem scalars_same {ρ : Ren} : ∀ {l m : List Value}, scalars l = true → VRs ρ l m → m = l
  | [], m, _, h => h.nil_left
  | x :: l, m, hs, h => by
    obtain ⟨y, m', rfl, h1, h2⟩ := h.cons_left
    simp [scalars] at hs
    rw [scalar_same hs.1 h1, scalars_same hs.2 h2]
end
mutual
theorem scalar_refl {ρ : Ren} : ∀ {v : Value}, scalar v = true → VR ρ v v
  | .bool b, _ => .bool b
  | .int k n, _ => .int k n
  | .string s, _ => .string s
  | .pointer none, _ => .nilp
  | .slice none n c, _ => .nils n c
  | .map none, _ => .nilm
  | .nilFunc, _ => .nilf
  | .nilIface, _ => .nili
  | .iface t v, hs => .iface t (scalar_refl (v := v) (by simpa [scalar] using hs))
  | .agg x, hs => VR.agg' (l := x.toList) (m := x.toList) (scalars_refl (by simpa [scalar] using hs))
  | .tuple x, hs => VR.tuple' (l := x.toList) (m := x.toList) (scalars_refl (by simpa [scalar] using hs))
  | .pointer (some _), hs => by simp [scalar] at hs
  | .slice (some _) _ _, hs => by simp [scalar] at hs
  | .map (some _), hs => by simp [scalar] at hs
  | .func .., hs => by simp [scalar] at hs
  | .float .., hs => by simp [scalar] at hs
  | .complex .., hs => by simp [scalar] at hs
  | .chan .., hs => by simp [scalar] at hs
theorem scalars_refl {ρ : Ren} : ∀ {l : List Value}, scalars l = true → VRs ρ l l
  | [], _ => VRs.nil
  | x :: l, hs => by
    simp [scalars] at hs
    exact .cons (scalar_refl hs.1) (scalars_refl hs.2)
end

/-! ### objects, states -/
/-- no real cell is frozen that the canonical range leaves out -/
def FR (fz fr : Nat × Nat) (d rn : Nat) : Prop := fr.1 = fr.2 ∨ (fz.1 < fz.2 ∧ fz.1 + d ≤ fr.1 ∧ fr.2 ≤ fz.2 + d) ∨ (BIG ≤ fz.1 ∧ rn ≤ fr.1)

def ER (ρ : Ren) (x y : MapEntry) : Prop := y.key = x.key ∧ scalar x.key = true ∧ VR ρ x.val y.val ∧ y.born = x.born
def ERs (ρ : Ren) (l m : List MapEntry) : Prop := l.length = m.length ∧ ∀ (i : Nat) (x y : MapEntry), l[i]? = some x → m[i]? = some y → ER ρ x y

inductive OR (T : Tab) (ρ : Ren) (e : Ent) : CObj → Obj → Prop
  | cells {vs : List Value} {elem : TypeId} {fz fr : Nat × Nat} {arr : Array Value} : vs.length = e.n → arr.size = e.rn → e.d + e.n ≤ e.rn →
      (∀ i, i < e.n → VR ρ (vs.getD i undef) (arr.toList.getD (i + e.d) undef)) → T.sizeOf elem = some e.sz → e.sz ∣ e.d → FR fz fr e.d e.rn →
      OR T ρ e (.cells vs elem fz) (.cells arr elem fr)
  | map {es : List MapEntry} {ms : Array MapEntry} {c : Nat} : ERs ρ es ms.toList → OR T ρ e (.map es c) (.map ms c)
  | iter {s : ByteArray} {p : Nat} : e.d = 0 → OR T ρ e (.iter s p) (.stringIter s p)
  | loop {st : LoopState} {pend : Option Code} {fn g : FuncId} {tm : Tr Value} {size : Nat} {tmps : Array Value} {ps : Array Tmp} {asg bd : Code} {dl df : Nat} {e' : Ent} :
      tmps.size = size → (∀ t, VR ρ ((tm.get t).getD undef) (tmps.getD t undef)) → ρ dl = some e' → df = e'.b →
      OR T ρ e (.loop st pend fn tm size ps asg bd dl) (.loop { state := st, pending := pend, fn := g, tmps := tmps, params := ps, assign := asg, body := bd, defers := df })
  | deferred : OR T ρ e (.deferred (some [])) (.deferred (some []))
  | taken : OR T ρ e (.deferred none) (.deferred none)

/-- a block that no operation here writes to -/
def Locked (o : CObj) : Prop := ∃ vs el n, o = .cells vs el (0, n) ∧ vs.length ≤ n ∧ 0 < n

structure Rel (T : Tab) (base : Nat) (w0 : World) (ρ : Ren) (s : CSt) (w : World) : Prop where
  obj : ∀ i o e, s.heap.get i = some o → ρ i = some e → ∃ r, w.heap[e.b]? = some r ∧ OR T ρ e o r
  inj : ∀ i j o o' e e', s.heap.get i = some o → s.heap.get j = some o' → ρ i = some e → ρ j = some e' → e.b = e'.b → i = j
  own : ∀ i o e, s.heap.get i = some o → ρ i = some e → base ≤ e.b ∨ Locked o
  dom : ∀ i, s.next ≤ i → ρ i = none ∧ s.heap.get i = none
  below : Below base w0 w
  base_le : base ≤ w.heap.size
  glob : ∀ (j : Nat) (o : CObj), T.gobjs[j]? = some o → s.heap.get j = some o ∧ ∃ e, ρ j = some e ∧ e.b < base
  gl : ∀ g i, T.gl.get g = some i → ∃ e, ρ i = some e ∧ e.b = g ∧ e.d = 0

structure Ext (ρ : Ren) (s : CSt) (w : World) (ρ' : Ren) (s' : CSt) (w' : World) : Prop where
  keep : ∀ i, i < s.next → ρ' i = ρ i
  mono : s.next ≤ s'.next
  size : w.heap.size ≤ w'.heap.size
  frame : ∀ b, b < w.heap.size → (∀ i o e, s.heap.get i = some o → ρ i = some e → e.b ≠ b) → w'.heap[b]? = w.heap[b]?
  fresh : ∀ i o' e', s'.heap.get i = some o' → ρ' i = some e' → (∃ j o e, s.heap.get j = some o ∧ ρ j = some e ∧ e.b = e'.b) ∨ w.heap.size ≤ e'.b

theorem Ext.refl (ρ : Ren) (s : CSt) (w : World) : Ext ρ s w ρ s w :=
  ⟨fun _ _ => rfl, Nat.le_refl _, Nat.le_refl _, fun _ _ _ => rfl, fun i o e h1 h2 => .inl ⟨i, o, e, h1, h2, rfl⟩⟩
theorem Ext.trans {ρ ρ' ρ'' : Ren} {s s' s'' : CSt} {w w' w'' : World} (h : Ext ρ s w ρ' s' w') (k : Ext ρ' s' w' ρ'' s'' w'') : Ext ρ s w ρ'' s'' w'' where
  keep i hi := (k.keep i (Nat.lt_of_lt_of_le hi h.mono)).trans (h.keep i hi)
  mono := Nat.le_trans h.mono k.mono
  size := Nat.le_trans h.size k.size
  frame b hb hn := by
    refine (k.frame b (Nat.lt_of_lt_of_le hb h.size) fun i o e h1 h2 hbe => ?_).trans (h.frame b hb hn)
    rcases h.fresh i o e h1 h2 with ⟨j, o2, e2, g1, g2, g3⟩ | hge
    · exact hn j o2 e2 g1 g2 (g3.trans hbe)
    · omega
  fresh i o' e' h1 h2 := by
    rcases k.fresh i o' e' h1 h2 with ⟨j, o2, e2, g1, g2, g3⟩ | hge
    · rcases h.fresh j o2 e2 g1 g2 with ⟨j3, o3, e3, q1, q2, q3⟩ | hge
      · exact .inl ⟨j3, o3, e3, q1, q2, q3.trans g3⟩
      · exact .inr (g3 ▸ hge)
    · exact .inr (Nat.le_trans h.size hge)
theorem Ext.ren {T : Tab} {base : Nat} {w0 : World} {ρ ρ' : Ren} {s s' : CSt} {w w' : World} (h : Ext ρ s w ρ' s' w') (hr : Rel T base w0 ρ s w) : ∀ i e, ρ i = some e → ρ' i = some e := fun i e hi => by
  rw [h.keep i]
  · exact hi
  · exact Nat.lt_of_not_le fun hle => by rw [(hr.dom i hle).1] at hi; cases hi
theorem OR.mono {T : Tab} {ρ ρ' : Ren} (h : ∀ i e, ρ i = some e → ρ' i = some e) {e : Ent} {o : CObj} {r : Obj} (ho : OR T ρ e o r) : OR T ρ' e o r := by
  cases ho with
  | cells h1 h2 h3 h4 h5 h6 h7 => exact .cells h1 h2 h3 (fun i hi => (h4 i hi).mono h) h5 h6 h7
  | map h1 => exact .map ⟨h1.1, fun i x y hx hy => let ⟨a, b, c, d⟩ := h1.2 i x y hx hy; ⟨a, b, c.mono h, d⟩⟩
  | iter h1 => exact .iter h1
  | loop h1 h2 h3 h4 => exact .loop h1 (fun t => (h2 t).mono h) (h _ _ h3) h4
  | deferred => exact .deferred
  | taken => exact .taken
end Go.Canon
end
section
namespace Go.Canon
open Go Go.RowKit
/-! ### the tables -/
structure Tab.Ok (T : Tab) : Prop where
  ty : ∀ i t, T.ty.get i = some t → T.P.types[i]? = some t
  fn : ∀ i f, T.fn.get i = some f → T.P.funcs[i]? = some f
section tables
variable {T : Tab} (hT : T.Ok)
include hT
theorem Tab.Ok.info {i : TypeId} {t : TypeInfo} (h : T.ty.get i = some t) : T.P.info? i = some t := by
  have h1 := hT.ty i t h
  have h2 : i < T.P.types.size := (Array.getElem?_eq_some_iff.1 h1).1
  show (if i < T.P.types.size then T.P.types[i]? else _) = _
  rw [if_pos h2, h1]
theorem Tab.Ok.under {i : TypeId} {d : TypeDesc} (h : T.under i = some d) : T.P.underlying i = some d := by
  unfold Tab.under at h
  cases h1 : T.ty.get i with
  | none => rw [h1] at h; cases h
  | some t =>
    rw [h1] at h
    unfold Program.underlying
    rw [hT.info h1]
    obtain ⟨d1, _, _, _, _, _, _, _, _, _⟩ := t
    cases d1 with
    | named n u =>
      simp only at h ⊢
      cases h2 : T.ty.get u with
      | none => rw [h2] at h; cases h
      | some j => rw [h2] at h; rw [hT.info h2]; exact h
    | _ => simpa using h
theorem Tab.Ok.run_under {i : TypeId} {d : TypeDesc} (h : T.under i = some d) (w : World) : (underlying i).run T.P w = .ok d w := by
  unfold underlying; simp [hT.under h]
theorem Tab.Ok.run_size {i : TypeId} {n : Nat} (h : T.sizeOf i = some n) (w : World) : (Go.sizeOf i).run T.P w = .ok n w := by
  unfold Tab.sizeOf at h
  cases h1 : T.ty.get i with
  | none => rw [h1] at h; cases h
  | some t => rw [h1] at h; cases h; unfold Go.sizeOf typeInfo; simp [hT.info h1]
theorem Tab.Ok.run_zero {i : TypeId} {v : Value} (h : T.zero i = some v) (w : World) : (zeroValue i).run T.P w = .ok v w := by
  unfold Tab.zero at h
  cases h1 : T.ty.get i with
  | none => rw [h1] at h; cases h
  | some t =>
    rw [h1] at h
    have hz : t.zero = some v := by
      simp only [zeroIf] at h
      cases h2 : t.zero with
      | none => rw [h2] at h; cases h
      | some z =>
        simp only [h2] at h
        cases h3 : scalar z <;> simp [h3] at h
        rw [h]
    unfold zeroValue typeInfo; simp [hT.info h1, hz]
omit hT in
theorem Tab.zero_scalar {i : TypeId} {v : Value} (h : T.zero i = some v) : scalar v = true ∧ ∃ n, T.sizeOf i = some n := by
  unfold Tab.zero at h
  cases h1 : T.ty.get i with
  | none => rw [h1] at h; cases h
  | some t =>
    rw [h1] at h
    refine ⟨?_, t.size, by unfold Tab.sizeOf; rw [h1]⟩
    simp only [zeroIf] at h
    cases h2 : t.zero with
    | none => rw [h2] at h; cases h
    | some z =>
      simp only [h2] at h
      cases h3 : scalar z <;> simp [h3] at h
      rw [← h]; exact h3
theorem Tab.Ok.run_info {i : TypeId} {t : TypeInfo} (h : T.ty.get i = some t) (w : World) : (typeInfo i).run T.P w = .ok t w := by
  unfold typeInfo; simp [hT.info h]
theorem Tab.Ok.run_isAgg {i : TypeId} {d : TypeDesc} (h : T.under i = some d) (w : World) : (isAgg i).run T.P w = .ok (isAggD d) w := by
  unfold isAgg; simp [hT.run_under h]
  cases d <;> rfl
end tables

/-! ### worlds -/
/-- one block is another now; all else is as it was -/
def World.withObj (w : World) (b : Nat) (o : Obj) : World := { w with heap := w.heap.setIfInBounds b o }
theorem withObj_same {w : World} {b : Nat} {o : Obj} (hb : b < w.heap.size) : (World.withObj w b o).heap[b]? = some o := by
  simp [World.withObj, hb]
theorem withObj_other {w : World} {b k : Nat} {o : Obj} (h : k ≠ b) : (World.withObj w b o).heap[k]? = w.heap[k]? := by
  simp only [World.withObj]
  rw [Array.getElem?_setIfInBounds_ne (Ne.symm h)]
theorem withObj_size {w : World} {b : Nat} {o : Obj} : (World.withObj w b o).heap.size = w.heap.size := by simp [World.withObj]
theorem withObj_withObj {w : World} {b : Nat} {o o' : Obj} : World.withObj (World.withObj w b o) b o' = World.withObj w b o' := by
  simp [World.withObj]

def Ren.set (ρ : Ren) (i : Nat) (e : Ent) : Ren := fun j => if j = i then some e else ρ j
theorem Ren.set_same (ρ : Ren) (i : Nat) (e : Ent) : (Ren.set ρ i e) i = some e := if_pos rfl
theorem Ren.set_other {ρ : Ren} {i j : Nat} {e : Ent} (h : j ≠ i) : (Ren.set ρ i e) j = ρ j := if_neg h

section steps
variable {T : Tab} {base : Nat} {w0 w w' : World} {ρ : Ren} {s : CSt}

/-- the same heap, another count of the draws -/
theorem Rel.of_heap (h : Rel T base w0 ρ s w) (hh : w'.heap = w.heap) (ho : w'.os = w.os) (ht : w'.tape = w.tape) (hp : w'.output = w.output) :
    Rel T base w0 ρ s w' ∧ Ext ρ s w ρ s w' :=
  ⟨{ obj := fun i o e h1 h2 => by rw [hh]; exact h.obj i o e h1 h2
     inj := h.inj, own := h.own, dom := h.dom
     below := ⟨ho.trans h.below.os, ht.trans h.below.tape, hp.trans h.below.output, hh ▸ h.below.size, fun k hk => by rw [hh]; exact h.below.block k hk⟩
     base_le := hh ▸ h.base_le, glob := h.glob, gl := h.gl },
   { keep := fun _ _ => rfl, mono := Nat.le_refl _, size := by rw [hh]; exact Nat.le_refl _, frame := fun _ _ _ => by rw [hh],
     fresh := fun i o e h1 h2 => .inl ⟨i, o, e, h1, h2, rfl⟩ }⟩

/-- a new object on both sides -/
theorem Rel.alloc (h : Rel T base w0 ρ s w) {o : CObj} {r : Obj} {e : Ent} {s' : CSt} (hn : s'.next = s.next + 1) (hg : s'.heap.get s.next = some o)
    (hs : ∀ m, m ≠ s.next → s'.heap.get m = s.heap.get m) (he : e.b = w.heap.size) (ho : OR T (Ren.set ρ s.next e) e o r) :
    Rel T base w0 (Ren.set ρ s.next e) s' { w with heap := w.heap.push r } ∧ Ext ρ s w (Ren.set ρ s.next e) s' { w with heap := w.heap.push r } := by
  have hd := h.dom s.next (Nat.le_refl _)
  have hold : ∀ i o' e', s'.heap.get i = some o' → (Ren.set ρ s.next e) i = some e' → i ≠ s.next → s.heap.get i = some o' ∧ ρ i = some e' := by
    intro i o' e' h1 h2 hi
    rw [hs i hi] at h1; rw [Ren.set_other hi] at h2
    exact ⟨h1, h2⟩
  have hlt : ∀ i o' e', s.heap.get i = some o' → ρ i = some e' → e'.b < w.heap.size := by
    intro i o' e' h1 h2
    obtain ⟨r', h3, _⟩ := h.obj i o' e' h1 h2
    exact (Array.getElem?_eq_some_iff.1 h3).1
  have hmono : ∀ i e', ρ i = some e' → (Ren.set ρ s.next e) i = some e' := by
    intro i e' hi
    rw [Ren.set_other]
    · exact hi
    · intro hc; rw [hc, hd.1] at hi; cases hi
  have hpush : ∀ k, k < w.heap.size → (w.heap.push r)[k]? = w.heap[k]? := fun k hk => by rw [Array.getElem?_push, if_neg (by omega)]
  refine ⟨{ obj := ?_, inj := ?_, own := ?_, dom := ?_, below := ?_, base_le := ?_, glob := ?_, gl := ?_ }, { keep := ?_, mono := ?_, size := ?_, frame := ?_, fresh := ?_ }⟩
  · intro i o' e' h1 h2
    by_cases hi : i = s.next
    · subst hi
      rw [hg] at h1; rw [Ren.set_same] at h2; cases h1; cases h2
      exact ⟨r, by simp [he], ho⟩
    · obtain ⟨a, b⟩ := hold i o' e' h1 h2 hi
      obtain ⟨r', h3, h4⟩ := h.obj i o' e' a b
      exact ⟨r', by show (w.heap.push r)[e'.b]? = _; rw [hpush _ (hlt i o' e' a b)]; exact h3, h4.mono hmono⟩
  · intro i j o1 o2 e1 e2 a1 a2 b1 b2 hb
    by_cases hi : i = s.next <;> by_cases hj : j = s.next
    · rw [hi, hj]
    · subst hi
      rw [Ren.set_same] at b1; cases b1
      obtain ⟨c, d⟩ := hold j o2 e2 a2 b2 hj
      have := hlt j o2 e2 c d
      omega
    · subst hj
      rw [Ren.set_same] at b2; cases b2
      obtain ⟨c, d⟩ := hold i o1 e1 a1 b1 hi
      have := hlt i o1 e1 c d
      omega
    · obtain ⟨c, d⟩ := hold i o1 e1 a1 b1 hi
      obtain ⟨c', d'⟩ := hold j o2 e2 a2 b2 hj
      exact h.inj i j o1 o2 e1 e2 c c' d d' hb
  · intro i o' e' h1 h2
    by_cases hi : i = s.next
    · subst hi
      rw [Ren.set_same] at h2; cases h2
      exact .inl (he ▸ h.base_le)
    · obtain ⟨a, b⟩ := hold i o' e' h1 h2 hi
      exact h.own i o' e' a b
  · intro i hi
    rw [hn] at hi
    have : i ≠ s.next := by omega
    rw [Ren.set_other this, hs i this]
    exact h.dom i (by omega)
  · exact ⟨h.below.os, h.below.tape, h.below.output, by have := h.below.size; simp; omega, fun k hk => by
      have := h.base_le
      show (w.heap.push r)[k]? = _
      rw [hpush k (by omega)]; exact h.below.block k hk⟩
  · have := h.base_le; simp; omega
  · intro j oj hj
    obtain ⟨h1, e1, h2, h3⟩ := h.glob j oj hj
    have hne : j ≠ s.next := fun hc => by rw [hc, hd.2] at h1; cases h1
    exact ⟨by rw [hs j hne]; exact h1, e1, by rw [Ren.set_other hne]; exact h2, h3⟩
  · intro g i hi
    obtain ⟨e1, h1, h2, h3⟩ := h.gl g i hi
    exact ⟨e1, hmono _ _ h1, h2, h3⟩
  · exact fun i hi => Ren.set_other (by omega)
  · omega
  · simp
  · exact fun b hb _ => hpush b hb
  · intro i o' e' h1 h2
    by_cases hi : i = s.next
    · subst hi; rw [Ren.set_same] at h2; cases h2; exact .inr (by omega)
    · obtain ⟨a, b⟩ := hold i o' e' h1 h2 hi
      exact .inl ⟨i, o', e', a, b, rfl⟩

/-- an object of the call's own is another now, on both sides -/
theorem Rel.upd (h : Rel T base w0 ρ s w) {i : Nat} {o o' : CObj} {r' : Obj} {e : Ent} {s' : CSt} (hn : s'.next = s.next) (h0 : s.heap.get i = some o) (hρ : ρ i = some e)
    (hg : s'.heap.get i = some o') (hs : ∀ m, m ≠ i → s'.heap.get m = s.heap.get m) (hb : base ≤ e.b) (ho : OR T ρ e o' r') :
    Rel T base w0 ρ s' (World.withObj w e.b r') ∧ Ext ρ s w ρ s' (World.withObj w e.b r') := by
  have hlt : ∀ i o' e', s.heap.get i = some o' → ρ i = some e' → e'.b < w.heap.size := by
    intro i o' e' h1 h2
    obtain ⟨r', h3, _⟩ := h.obj i o' e' h1 h2
    exact (Array.getElem?_eq_some_iff.1 h3).1
  have hpres : ∀ j o2 e2, s'.heap.get j = some o2 → ρ j = some e2 → ∃ o3, s.heap.get j = some o3 := by
    intro j o2 e2 h1 h2
    by_cases hj : j = i
    · subst hj; exact ⟨o, h0⟩
    · rw [hs j hj] at h1; exact ⟨o2, h1⟩
  refine ⟨{ obj := ?_, inj := ?_, own := ?_, dom := ?_, below := ?_, base_le := ?_, glob := ?_, gl := ?_ }, { keep := ?_, mono := ?_, size := ?_, frame := ?_, fresh := ?_ }⟩
  · intro j o2 e2 h1 h2
    by_cases hj : j = i
    · subst hj; rw [hg] at h1; rw [hρ] at h2; cases h1; cases h2
      exact ⟨r', withObj_same (hlt _ _ _ h0 hρ), ho⟩
    · rw [hs j hj] at h1
      obtain ⟨r2, h3, h4⟩ := h.obj j o2 e2 h1 h2
      refine ⟨r2, ?_, h4⟩
      rw [withObj_other]
      · exact h3
      · intro hc; exact hj (h.inj j i o2 o e2 e h1 h0 h2 hρ hc)
  · intro j k o1 o2 e1 e2 a1 a2 b1 b2 hbb
    obtain ⟨o3, c1⟩ := hpres j o1 e1 a1 b1
    obtain ⟨o4, c2⟩ := hpres k o2 e2 a2 b2
    exact h.inj j k o3 o4 e1 e2 c1 c2 b1 b2 hbb
  · intro j o2 e2 h1 h2
    by_cases hj : j = i
    · subst hj; rw [hρ] at h2; cases h2; exact .inl hb
    · rw [hs j hj] at h1; exact h.own j o2 e2 h1 h2
  · intro j hj
    rw [hn] at hj
    have := h.dom j hj
    refine ⟨this.1, ?_⟩
    rw [hs]
    · exact this.2
    · intro hc; subst hc; rw [this.2] at h0; cases h0
  · exact ⟨h.below.os, h.below.tape, h.below.output, by rw [withObj_size]; exact h.below.size, fun k hk => by
      rw [withObj_other (by omega)]; exact h.below.block k hk⟩
  · rw [withObj_size]; exact h.base_le
  · intro j oj hj
    obtain ⟨h1, e1, h2, h3⟩ := h.glob j oj hj
    have hne : j ≠ i := fun hc => by subst hc; rw [hρ] at h2; cases h2; omega
    exact ⟨by rw [hs j hne]; exact h1, e1, h2, h3⟩
  · exact h.gl
  · exact fun _ _ => rfl
  · omega
  · rw [withObj_size]; exact Nat.le_refl _
  · intro b _ hnb
    rw [withObj_other]
    intro hc; exact hnb i o e h0 hρ hc.symm
  · intro j o2 e2 h1 h2
    obtain ⟨o3, c1⟩ := hpres j o2 e2 h1 h2
    exact .inl ⟨j, o3, e2, c1, h2, rfl⟩
end steps
end Go.Canon
end
section
namespace Go.Canon
open Go Go.RowKit
theorem add_mk (b o n : Nat) : (⟨b, o, none⟩ : Addr).add n = ⟨b, o + n, none⟩ := by
  unfold Addr.add; split
  · subst_vars; rfl
  · rfl
/-! ### lists -/
theorem takeN_spec {α : Type} : ∀ (n : Nat) (l r : List α), takeN n l = some r → r = l.take n ∧ n ≤ l.length := by
  intro n
  induction n with
  | zero => intro l r h; cases h; simp
  | succ n ih =>
    intro l r h
    cases l with
    | nil => cases h
    | cons x l =>
      simp only [takeN] at h
      cases h1 : takeN n l with
      | none => rw [h1] at h; cases h
      | some q => rw [h1] at h; cases h; have := ih l q h1; simp [this.1, this.2]
theorem dropN_spec {α : Type} : ∀ (n : Nat) (l r : List α), dropN n l = some r → r = l.drop n ∧ n ≤ l.length := by
  intro n
  induction n with
  | zero => intro l r h; cases h; simp
  | succ n ih =>
    intro l r h
    cases l with
    | nil => cases h
    | cons x l => have := ih l r h; simp [this.1, this.2]
theorem cellsAt_spec {vs l : List Value} {off n : Nat} (h : cellsAt vs off n = some l) : l = (vs.drop off).take n ∧ l.length = n ∧ off + n ≤ vs.length := by
  unfold cellsAt at h
  cases h1 : dropN off vs with
  | none => rw [h1] at h; cases h
  | some r =>
    rw [h1] at h
    have a := dropN_spec _ _ _ h1
    have b := takeN_spec _ _ _ h
    have e : r.length = vs.length - off := by rw [a.1]; simp
    have := a.2; have := b.2
    refine ⟨by rw [b.1, a.1], by rw [b.1]; simp; omega, by omega⟩
theorem cellsAt_get {vs l : List Value} {off n : Nat} (h : cellsAt vs off n = some l) (j : Nat) (hj : j < n) : l[j]? = vs[off + j]? := by
  rw [(cellsAt_spec h).1, List.getElem?_take, if_pos hj, List.getElem?_drop]
theorem putOver_spec : ∀ (vs xs r : List Value), putOver vs xs = some r → xs.length ≤ vs.length ∧ r = xs ++ vs.drop xs.length := by
  intro vs
  induction vs with
  | nil =>
    intro xs r h
    cases xs with
    | nil => simp [putOver] at h; subst h; simp
    | cons x xs => simp [putOver] at h
  | cons v vs ih =>
    intro xs r h
    cases xs with
    | nil => simp [putOver] at h; subst h; simp
    | cons x xs =>
      simp only [putOver] at h
      cases h1 : putOver vs xs with
      | none => rw [h1] at h; cases h
      | some q => rw [h1] at h; cases h; have := ih xs q h1; simp [this.1, this.2]
theorem putAt_spec : ∀ (off : Nat) (vs xs r : List Value), putAt off vs xs = some r → off + xs.length ≤ vs.length ∧ r = vs.take off ++ (xs ++ vs.drop (off + xs.length)) := by
  intro off
  induction off with
  | zero => intro vs xs r h; have := putOver_spec vs xs r h; exact ⟨by omega, by simp [this.2]⟩
  | succ off ih =>
    intro vs xs r h
    cases vs with
    | nil => cases h
    | cons v vs =>
      simp only [putAt] at h
      cases h1 : putAt off vs xs with
      | none => rw [h1] at h; cases h
      | some q =>
        rw [h1] at h; cases h
        have := ih vs xs q h1
        refine ⟨by simp; omega, ?_⟩
        rw [this.2, show off + 1 + xs.length = (off + xs.length) + 1 from by omega]; simp
theorem oneCells_spec : ∀ (l : List Value), oneCells l = true → ∀ x ∈ l, x.oneCell' = true := by
  intro l
  induction l with
  | nil => intro _ x hx; cases hx
  | cons y l ih =>
    intro h x hx
    have h2 : y.oneCell' = true ∧ oneCells l = true := by cases y <;> simp_all [oneCells, Value.oneCell']
    rcases List.mem_cons.1 hx with rfl | hx
    · exact h2.1
    · exact ih h2.2 x hx
theorem putC_spec {off : Nat} {vs xs r : List Value} (h : putC off vs xs = some r) :
    off + xs.length ≤ vs.length ∧ r = vs.take off ++ (xs ++ vs.drop (off + xs.length)) ∧ (∀ x ∈ xs, x.oneCell' = true) := by
  unfold putC at h
  cases h1 : oneCells xs with
  | false => rw [h1] at h; cases h
  | true => rw [h1] at h; have := putAt_spec _ _ _ _ h; exact ⟨this.1, this.2, oneCells_spec _ h1⟩
theorem VR.oneCell {ρ : Ren} {x y : Value} (h : VR ρ x y) : y.oneCell' = x.oneCell' := by cases h <;> rfl
theorem VRs.oneCells {ρ : Ren} {l m : List Value} (h : VRs ρ l m) (ho : ∀ x ∈ l, x.oneCell' = true) : ∀ y ∈ m, y.oneCell' = true := by
  induction l generalizing m with
  | nil => rw [h.nil_left]; intro y hy; cases hy
  | cons x l ih =>
    obtain ⟨y, m1, rfl, h1, h2⟩ := h.cons_left
    intro z hz
    rcases List.mem_cons.1 hz with rfl | hz
    · rw [h1.oneCell]; exact ho x (by simp)
    · exact ih h2 (fun x hx => ho x (by simp [hx])) z hz

/-! ### cells on both sides -/
def CellsRel (ρ : Ren) (d : Nat) (vs : List Value) (arr : Array Value) : Prop := ∀ j x, vs[j]? = some x → ∃ y, arr[j + d]? = some y ∧ VR ρ x y
theorem CellsRel.of {ρ : Ren} {d n rn : Nat} {vs : List Value} {arr : Array Value} (h1 : vs.length = n) (h2 : arr.size = rn) (h3 : d + n ≤ rn)
    (h : ∀ i, i < n → VR ρ (vs.getD i undef) (arr.toList.getD (i + d) undef)) : CellsRel ρ d vs arr := by
  intro j x hx
  have hj : j < vs.length := (List.getElem?_eq_some_iff.1 hx).1
  have hk : j + d < arr.size := by omega
  refine ⟨arr[j + d], Array.getElem?_eq_getElem hk, ?_⟩
  have := h j (by omega)
  rw [List.getD_eq_getElem?_getD, hx, List.getD_eq_getElem?_getD, Array.getElem?_toList, Array.getElem?_eq_getElem hk] at this
  exact this
theorem CellsRel.to {ρ : Ren} {d n : Nat} {vs : List Value} {arr : Array Value} (h1 : vs.length = n) (h : CellsRel ρ d vs arr) :
    ∀ i, i < n → VR ρ (vs.getD i undef) (arr.toList.getD (i + d) undef) := by
  intro i hi
  obtain ⟨y, hy, hv⟩ := h i vs[i] (List.getElem?_eq_getElem (by omega))
  rw [List.getD_eq_getElem?_getD, List.getElem?_eq_getElem (by omega), List.getD_eq_getElem?_getD, Array.getElem?_toList, hy]
  exact hv
theorem CellsRel.mono {ρ ρ' : Ren} (h : ∀ i e, ρ i = some e → ρ' i = some e) {d : Nat} {vs : List Value} {arr : Array Value} (hc : CellsRel ρ d vs arr) : CellsRel ρ' d vs arr :=
  fun j x hx => let ⟨y, h1, h2⟩ := hc j x hx; ⟨y, h1, h2.mono h⟩
def overA (arr : Array Value) (o : Nat) (ys : List Value) : Array Value := ⟨arr.toList.take o ++ (ys ++ arr.toList.drop (o + ys.length))⟩
theorem overA_size {arr : Array Value} {o : Nat} {ys : List Value} (h : o + ys.length ≤ arr.size) : (overA arr o ys).size = arr.size := by
  simp [overA]; omega
theorem overA_get {arr : Array Value} {o : Nat} {ys : List Value} (h : o + ys.length ≤ arr.size) (j : Nat) :
    (overA arr o ys)[j]? = if j < o then arr[j]? else if j < o + ys.length then ys[j - o]? else arr[j]? := by
  simp only [overA, List.getElem?_toArray]
  rw [List.getElem?_append]
  simp only [List.length_take, Array.length_toList]
  by_cases h1 : j < o
  · rw [if_pos (by omega), if_pos h1, List.getElem?_take, if_pos h1, Array.getElem?_toList]
  · rw [if_neg (by omega), if_neg h1, List.getElem?_append]
    have e : min o arr.size = o := by omega
    rw [e]
    by_cases h2 : j < o + ys.length
    · rw [if_pos (by omega), if_pos h2]
    · rw [if_neg (by omega), if_neg h2, List.getElem?_drop, Array.getElem?_toList]
      congr 1; omega
theorem overL_get {vs xs : List Value} {o : Nat} (h : o + xs.length ≤ vs.length) (j : Nat) :
    (vs.take o ++ (xs ++ vs.drop (o + xs.length)))[j]? = if j < o then vs[j]? else if j < o + xs.length then xs[j - o]? else vs[j]? := by
  have := overA_get (arr := ⟨vs⟩) (o := o) (ys := xs) (by simpa using h) j
  simpa [overA] using this
theorem CellsRel.over {ρ : Ren} {d off : Nat} {vs xs ys : List Value} {arr : Array Value} (h : CellsRel ρ d vs arr) (hx : VRs ρ xs ys) (hl : off + xs.length ≤ vs.length)
    (ha : vs.length + d ≤ arr.size) : CellsRel ρ d (vs.take off ++ (xs ++ vs.drop (off + xs.length))) (overA arr (off + d) ys) := by
  intro j x hj
  rw [overL_get hl] at hj
  rw [overA_get (by rw [← hx.1]; omega)]
  rw [← hx.1]
  by_cases h1 : j < off
  · rw [if_pos h1] at hj
    rw [if_pos (by omega)]
    exact h j x hj
  · rw [if_neg h1] at hj
    rw [if_neg (by omega)]
    by_cases h2 : j < off + xs.length
    · rw [if_pos h2] at hj
      rw [if_pos (by omega), show j + d - (off + d) = j - off from by omega]
      exact hx.getElem? hj
    · rw [if_neg h2] at hj
      rw [if_neg (by omega)]
      exact h j x hj

section
variable {T : Tab} {base : Nat} {w0 w : World} {ρ : Ren} {s : CSt}
theorem Rel.cells (h : Rel T base w0 ρ s w) {i : Nat} {vs : List Value} {el : TypeId} {fz : Nat × Nat} {e : Ent} (hc : s.heap.get i = some (.cells vs el fz)) (hρ : ρ i = some e) :
    ∃ arr fr, w.heap[e.b]? = some (.cells arr el fr) ∧ vs.length = e.n ∧ arr.size = e.rn ∧ e.d + e.n ≤ e.rn ∧ CellsRel ρ e.d vs arr ∧ T.sizeOf el = some e.sz ∧ e.sz ∣ e.d ∧ FR fz fr e.d e.rn := by
  obtain ⟨r, h1, h2⟩ := h.obj _ _ _ hc hρ
  cases h2 with
  | cells a b c d f g i => exact ⟨_, _, h1, a, b, c, CellsRel.of a b c d, f, g, i⟩
theorem cell?_at {b : Nat} {arr : Array Value} {el : TypeId} {fr : Nat × Nat} (h : w.heap[b]? = some (.cells arr el fr)) (j : Nat) : w.cell? ⟨b, j, none⟩ = arr[j]? := by
  simp [World.cell?, h]
theorem frozen?_at {b : Nat} {arr : Array Value} {el : TypeId} {fr : Nat × Nat} (h : w.heap[b]? = some (.cells arr el fr)) (j : Nat) : w.frozen? ⟨b, j, none⟩ = (decide (fr.1 ≤ j) && decide (j < fr.2)) := by
  simp [World.frozen?, h]
theorem withObj_self {b : Nat} {o : Obj} (h : w.heap[b]? = some o) : World.withObj w b o = w := by
  have : w.heap.setIfInBounds b o = w.heap := by
    apply Array.ext_getElem?
    intro k
    by_cases hk : k = b
    · subst hk
      have := (Array.getElem?_eq_some_iff.1 h).1
      rw [Array.getElem?_setIfInBounds_self_of_lt this, h]
    · rw [Array.getElem?_setIfInBounds_ne (Ne.symm hk)]
  simp [World.withObj, this]
theorem setCell_withObj {b j : Nat} {arr : Array Value} {el : TypeId} {fr : Nat × Nat} (h : w.heap[b]? = some (.cells arr el fr)) (v : Value) :
    w.setCell ⟨b, j, none⟩ v = World.withObj w b (.cells (arr.setIfInBounds j v) el fr) := by
  have hb := (Array.getElem?_eq_some_iff.1 h).1
  simp only [World.setCell, World.withObj]
  congr 1
  apply Array.ext_getElem?
  intro k
  by_cases hk : k = b
  · subst hk
    rw [Array.getElem?_setIfInBounds_self_of_lt hb, Array.getElem?_modify, if_pos rfl, h]
    simp
  · rw [Array.getElem?_setIfInBounds_ne (Ne.symm hk), Array.getElem?_modify, if_neg (by omega)]
theorem overA_nil (arr : Array Value) (o : Nat) : overA arr o [] = arr := by
  cases arr; simp [overA]
theorem overA_cons {arr : Array Value} {o : Nat} {y : Value} {ys : List Value} (h : o + (ys.length + 1) ≤ arr.size) :
    overA (arr.setIfInBounds o y) (o + 1) ys = overA arr o (y :: ys) := by
  apply Array.ext_getElem?
  intro k
  rw [overA_get (by simp; omega), overA_get (by simpa using h)]
  simp only [List.length_cons]
  by_cases h1 : k < o
  · rw [if_pos (by omega), if_pos h1, Array.getElem?_setIfInBounds_ne (by omega)]
  · rw [if_neg h1]
    by_cases h2 : k = o
    · subst h2
      rw [if_pos (by omega), if_pos (by omega), Array.getElem?_setIfInBounds_self_of_lt (by omega)]
      simp
    · rw [if_neg (by omega)]
      by_cases h3 : k < o + 1 + ys.length
      · rw [if_pos h3, if_pos (by omega), show k - o = (k - (o + 1)) + 1 from by omega, List.getElem?_cons_succ]
      · rw [if_neg h3, if_neg (by omega), Array.getElem?_setIfInBounds_ne (by omega)]
theorem run_storeCells_over {P : Program} (g o : Nat) (el : TypeId) (fr : Nat × Nat) : ∀ (ys : List Value) (i : Nat) (arr : Array Value) (w : World), w.heap[g]? = some (.cells arr el fr) →
    o + i + ys.length ≤ arr.size → (∀ y ∈ ys, y.oneCell' = true) → (∀ j, o + i ≤ j → j < o + i + ys.length → ¬ (fr.1 ≤ j ∧ j < fr.2)) →
    (storeCells ⟨g, o, none⟩ ys i).run P w = .ok () (World.withObj w g (.cells (overA arr (o + i) ys) el fr)) := by
  intro ys
  induction ys with
  | nil => intro i arr w h _ _ _; simp [storeCells, overA_nil, withObj_self h]
  | cons y ys ih =>
    intro i arr w h hl ho hf
    have hb := (Array.getElem?_eq_some_iff.1 h).1
    have hlt : o + i < arr.size := by simp at hl; omega
    have hc : w.cell? ⟨g, o + i, none⟩ = some arr[o + i] := by rw [cell?_at h, Array.getElem?_eq_getElem hlt]
    have hz : w.frozen? ⟨g, o + i, none⟩ = false := by
      rw [frozen?_at h]
      have := hf (o + i) (Nat.le_refl _) (by simp)
      simp; omega
    simp only [storeCells, Sem.run_bind, add_mk, run_store _ _ _ _ _ (ho y (by simp)), hc, hz]
    rw [setCell_withObj h]
    simp only [Bool.false_eq_true, if_false, Result.andThen_ok]
    have h2 : (World.withObj w g (.cells (arr.setIfInBounds (o + i) y) el fr)).heap[g]? = some (.cells (arr.setIfInBounds (o + i) y) el fr) := withObj_same hb
    rw [ih (i + 1) _ _ h2 (by simp at hl ⊢; omega) (fun z hz => ho z (by simp [hz])) (fun j h1 h3 => hf j (by omega) (by simp; omega)), withObj_withObj, ← overA_cons (by simp at hl; omega)]
    rfl
end
end Go.Canon
end
section
namespace Go.Canon
open Go Go.RowKit
/-- an operation's outcome that calls nothing -/
def Gives (P : Program) (sm : Sem Next) (w : World) (Q : Value → World → Prop) : Prop :=
  ∃ v w', (sm.run P w = .ok (.value v) w' ∨ (sm.run P w = .ok .skip w' ∧ v = undef)) ∧ Q v w'
inductive DR (ρ : Ren) : Deferred → Deferred → Prop
  | fn {f : FuncId} {c c' a a' : Array Value} : VRs ρ c.toList c'.toList → VRs ρ a.toList a'.toList → DR ρ { target := .fn (.func f) c, args := a } { target := .fn (.func f) c', args := a' }
  | coll {i : Nat} {e : Ent} : ρ i = some e → DR ρ { target := .collected i, args := #[] } { target := .collected e.b, args := #[] }
def DRs (ρ : Ren) : List Deferred → List Deferred → Prop
  | [], [] => True
  | x :: l, y :: m => DR ρ x y ∧ DRs ρ l m
  | _, _ => False
structure AR (ρ : Ren) (ca : CAct) (a : Act) : Prop where
  size : a.tmps.size = ca.size
  tm : ∀ t, VR ρ ((ca.tm.get t).getD undef) (a.tmps.getD t undef)
  ds : DRs ρ ca.defers a.defers
theorem DR.mono {ρ ρ' : Ren} (h : ∀ i e, ρ i = some e → ρ' i = some e) {x y : Deferred} (hd : DR ρ x y) : DR ρ' x y := by
  cases hd with
  | fn a b => exact .fn (a.mono h) (b.mono h)
  | coll a => exact .coll (h _ _ a)
theorem DRs.mono {ρ ρ' : Ren} (h : ∀ i e, ρ i = some e → ρ' i = some e) : ∀ {l m : List Deferred}, DRs ρ l m → DRs ρ' l m
  | [], [], _ => trivial
  | _ :: _, _ :: _, ⟨a, b⟩ => ⟨a.mono h, DRs.mono h b⟩
  | [], _ :: _, x => x.elim
  | _ :: _, [], x => x.elim
theorem AR.mono {ρ ρ' : Ren} (h : ∀ i e, ρ i = some e → ρ' i = some e) {ca : CAct} {a : Act} (ha : AR ρ ca a) : AR ρ' ca a :=
  ⟨ha.size, fun t => (ha.tm t).mono h, ha.ds.mono h⟩
section
variable {T : Tab} {base : Nat} {w0 w : World} {ρ : Ren} {s : CSt} {ca : CAct} {a : Act}
theorem AR.eval (ha : AR ρ ca a) (hr : Rel T base w0 ρ s w) {x : Operand} {v : Value} (h : ceval T ca x = some v) : VR ρ v (a.eval x) := by
  cases x with
  | tmp t =>
    have ht := ha.tm t
    simp only [ceval] at h
    cases h1 : ca.tm.get t with
    | none => rw [h1] at h ht; cases h; exact ht
    | some u => rw [h1] at h ht; cases h; exact ht
  | const u =>
    simp only [ceval] at h
    cases h1 : scalar u with
    | false => rw [h1] at h; cases h
    | true => rw [h1] at h; cases h; exact scalar_refl h1
  | func f => cases h; exact VR.func' (x := []) (y := []) (x' := []) (y' := []) VRs.nil VRs.nil
  | global g =>
    simp only [ceval] at h
    cases h1 : T.gl.get g with
    | none => rw [h1] at h; cases h
    | some i =>
      rw [h1] at h; cases h
      obtain ⟨e, h2, h3, h4⟩ := hr.gl g i h1
      have := VR.ptr (ρ := ρ) (off := 0) h2
      rw [h3, h4] at this
      exact this
theorem AR.put {P : CAct → Option COut} {dst : Option Tmp} {v v' : Value} {x : COut} (ha : AR ρ ca a) (hv : VR ρ v v') (h : putK ca dst v P = some x) :
    ∃ ca', P ca' = some x ∧ AR ρ ca' (a.put dst v') ∧ ca'.size = ca.size := by
  cases dst with
  | none => exact ⟨ca, h, ha, rfl⟩
  | some d =>
    obtain ⟨tm, size, ds⟩ := ca
    simp only [putK] at h
    cases hb : Nat.blt d size with
    | false => rw [hb] at h; cases h
    | true =>
      rw [hb] at h
      obtain ⟨t', h1, h2, h3⟩ := Tr.setK_spec h
      refine ⟨⟨t', size, ds⟩, h1, ⟨?_, fun t => ?_, ha.ds⟩, rfl⟩
      · show (a.tmps.setIfInBounds d v').size = size
        rw [Array.size_setIfInBounds]; exact ha.size
      · have hd : d < size := by simpa [Nat.blt_eq] using hb
        have hsz : a.tmps.size = size := ha.size
        have hlt : d < a.tmps.size := by rw [hsz]; exact hd
        show VR ρ ((t'.get t).getD undef) ((a.tmps.setIfInBounds d v').getD t undef)
        by_cases ht : t = d
        · subst ht
          rw [h2, Array.getD_eq_getD_getElem?, Array.getElem?_setIfInBounds_self_of_lt hlt]
          exact hv
        · rw [h3 t ht, Array.getD_eq_getD_getElem?, Array.getElem?_setIfInBounds_ne (Ne.symm ht), ← Array.getD_eq_getD_getElem?]
          exact ha.tm t
/-- the outcome of an operation that calls nothing, on both sides -/
def Sound1 (T : Tab) (base : Nat) (w0 : World) (ρ : Ren) (s : CSt) (w : World) (k : Value → CSt → Option COut) (x : COut) (v' : Value) (w' : World) : Prop :=
  ∃ ρ' s' v, k v s' = some x ∧ Ext ρ s w ρ' s' w' ∧ Rel T base w0 ρ' s' w' ∧ VR ρ' v v'
theorem Sound1.same {k : Value → CSt → Option COut} {x : COut} {v v' : Value} (hr : Rel T base w0 ρ s w) (hk : k v s = some x) (hv : VR ρ v v') : Sound1 T base w0 ρ s w k x v' w :=
  ⟨ρ, s, v, hk, Ext.refl _ _ _, hr, hv⟩
theorem Gives.value {P : Program} {sm : Sem Next} {Q : Value → World → Prop} {v : Value} {w' : World} (h : sm.run P w = .ok (.value v) w') (hq : Q v w') : Gives P sm w Q := ⟨v, w', .inl h, hq⟩
theorem Gives.skip {P : Program} {sm : Sem Next} {Q : Value → World → Prop} {w' : World} (h : sm.run P w = .ok .skip w') (hq : Q undef w') : Gives P sm w Q := ⟨undef, w', .inr ⟨h, rfl⟩, hq⟩
theorem quiet_val {k : Value → CSt → Option COut} {x : COut} {v : Value} (h : quietK s (.val v) k = some x) : k v s = some x := by simpa [quietK, force_eq] using h
theorem quiet_done {k : Value → CSt → Option COut} {x : COut} {v : Value} (h : quietK s (.done v) k = some x) : k v s = some x := h
theorem quiet_int {k : Value → CSt → Option COut} {x : COut} {kd : IntKind} {n : Int} (h : quietK s (.int kd n) k = some x) : k (.int kd n) s = some x := by simpa [quietK, forceInt_eq] using h
theorem quiet_bool {k : Value → CSt → Option COut} {x : COut} {b : Bool} (h : quietK s (.bool b) k = some x) : k (.bool b) s = some x := by cases b <;> exact h
theorem quiet_addr {k : Value → CSt → Option COut} {x : COut} {b o : Nat} (h : quietK s (.addr b o) k = some x) : k (ptr b o) s = some x := by simpa [quietK, forceNat_eq] using h
theorem quiet_alloc {k : Value → CSt → Option COut} {x : COut} {o : CObj} {mk : Nat → Value} (h : quietK s (.alloc o mk) k = some x) :
    ∃ s', k (mk s.next) s' = some x ∧ s'.next = s.next + 1 ∧ s'.heap.get s.next = some o ∧ ∀ m, m ≠ s.next → s'.heap.get m = s.heap.get m := by
  obtain ⟨h0, n⟩ := s
  simp only [quietK, allocK, forceObj_eq] at h
  obtain ⟨t', h1, h2, h3⟩ := Tr.setK_spec h
  rw [force_eq] at h1
  exact ⟨⟨t', Nat.succ n⟩, h1, rfl, h2, h3⟩
theorem quiet_upd {k : Value → CSt → Option COut} {x : COut} {i : Nat} {o : CObj} {v : Value} (h : quietK s (.upd i o v) k = some x) :
    ∃ s', k v s' = some x ∧ s'.next = s.next ∧ s'.heap.get i = some o ∧ ∀ m, m ≠ i → s'.heap.get m = s.heap.get m := by
  obtain ⟨h0, n⟩ := s
  simp only [quietK, updK, forceObj_eq] at h
  obtain ⟨t', h1, h2, h3⟩ := Tr.setK_spec h
  rw [force_eq] at h1
  exact ⟨⟨t', n⟩, h1, rfl, h2, h3⟩
end
end Go.Canon
end
