/- The evaluator's soundness over the calculus of calls, one part; no conditions. -/
import Derived.Lib.UnsafeStr
import Derived.Laws.BytesString
import Derived.Laws.BytesArg
import Derived.Test.YtlmeiickknfhhaaGreatDoorCd
set_option linter.all false
set_option linter.unusedVariables false
set_option linter.unusedSimpArgs false
set_option linter.unusedSectionVars false
set_option linter.unnecessarySimpa false
section
namespace Go.Canon
open Go Go.RowKit
set_option linter.unusedSectionVars false
/-! ### maps -/
section
variable {T : Tab} {base : Nat} {w0 w : World} {ρ : Ren} {s : CSt} {k : Value → CSt → Option COut} {x : COut}
/-- what is found on both sides -/
def Found (ρ : Ren) (k' : Value) (es ms : List MapEntry) (i : Nat) : Option (Nat × Value) → Option (Nat × Value) → Prop
  | none, none => True
  | some (j, v), some (j', v') => j' = j ∧ i ≤ j ∧ VR ρ v v' ∧ ∃ x y, es[j - i]? = some x ∧ ms[j - i]? = some y ∧ x.val = v ∧ y.val = v' ∧ y.key = k' ∧ Instr.sameBits 10000 k' k' = true
  | _, _ => False
theorem ERs.cons_left {x : MapEntry} {es ms : List MapEntry} (h : ERs ρ (x :: es) ms) : ∃ y ms', ms = y :: ms' ∧ ER ρ x y ∧ ERs ρ es ms' := by
  cases ms with
  | nil => exact absurd h.1 (by simp)
  | cons y ms => exact ⟨y, ms, rfl, h.2 0 x y rfl rfl, by simpa using h.1, fun i a b ha hb => h.2 (i + 1) a b (by simpa using ha) (by simpa using hb)⟩
theorem ERs.nil_left {ms : List MapEntry} (h : ERs ρ [] ms) : ms = [] := List.length_eq_zero_iff.1 h.1.symm
theorem ERs.nil : ERs ρ [] [] := ⟨rfl, fun i x y hx _ => by simp at hx⟩
theorem Found.later {k' : Value} {es ms : List MapEntry} {i : Nat} {x y : MapEntry} {r r' : Option (Nat × Value)} (h : Found ρ k' es ms (i + 1) r r') : Found ρ k' (x :: es) (y :: ms) i r r' := by
  cases r with
  | none => cases r' with
    | none => trivial
    | some q => exact h.elim
  | some p =>
    obtain ⟨j, v⟩ := p
    cases r' with
    | none => exact h.elim
    | some q =>
      obtain ⟨j', v'⟩ := q
      obtain ⟨a, b, c, d, e, f, g, hh⟩ := h
      refine ⟨a, by omega, c, d, e, ?_, ?_, hh⟩
      · rw [show j - i = (j - (i + 1)) + 1 from by omega, List.getElem?_cons_succ]; exact f
      · rw [show j - i = (j - (i + 1)) + 1 from by omega, List.getElem?_cons_succ]; exact g
theorem Found.here {k' : Value} {es ms : List MapEntry} {i : Nat} {x y : MapEntry} (h : ER ρ x y) (he : y.key = k') (hs : Instr.sameBits 10000 k' k' = true) : Found ρ k' (x :: es) (y :: ms) i (some (i, x.val)) (some (i, y.val)) :=
  ⟨rfl, Nat.le_refl _, h.2.2.1, x, y, by simp, by simp, rfl, rfl, he, hs⟩
theorem keyEq_sound {d : TypeDesc} {a b a' : Value} {r : Bool} (h : keyEq d a b = some r) (ha : VR ρ a a') : Instr.sameNow d a' b = some r ∧ a' = a ∧ (r = true → b = a' ∧ ∀ n, Instr.sameBits n a' a' = true) := by
  unfold keyEq at h
  split at h
  · rename_i j1 x j2 y
    cases ha
    cases h1 : kbeq j1 j2 with
    | false => rw [h1] at h; cases h
    | true =>
      rw [h1] at h; cases h
      have e := kbeq_eq h1
      subst e
      refine ⟨by simp [Instr.sameNow, ibeq_eq], rfl, fun hq => ?_⟩
      have := ibeq_true hq
      subst this
      exact ⟨rfl, fun n => by cases n <;> simp [Instr.sameBits]⟩
  · rename_i x y
    cases ha; cases h
    refine ⟨by simp [Instr.sameNow], rfl, fun hq => ?_⟩
    have := ba_eq hq; subst this
    exact ⟨rfl, fun n => by cases n <;> simp [Instr.sameBits, ba_rfl]⟩
  · rename_i x y
    cases ha; cases h
    refine ⟨by simp [Instr.sameNow], rfl, fun hq => ?_⟩
    rw [beq_iff_eq] at hq; subst hq
    exact ⟨rfl, fun n => by cases n <;> simp [Instr.sameBits]⟩
  · cases h
theorem findQuick_sound {d : TypeDesc} {a a' : Value} (ha : VR ρ a a') : ∀ {es ms : List MapEntry} {i : Nat} {r : Option (Nat × Value)}, findQuick d a es i = some r → ERs ρ es ms →
    ∃ r', Instr.findNow d a' ms i = some r' ∧ Found ρ a' es ms i r r' := by
  intro es
  induction es with
  | nil => intro ms i r h hes; rw [hes.nil_left]; cases h; exact ⟨none, rfl, trivial⟩
  | cons e es ih =>
    intro ms i r h hes
    obtain ⟨y, ms', rfl, h1, h2⟩ := hes.cons_left
    simp only [findQuick] at h
    split at h
    · rename_i hq
      cases h
      obtain ⟨q1, q2, q3⟩ := keyEq_sound hq ha
      refine ⟨some (i, y.val), ?_, Found.here h1 ?_ ((q3 rfl).2 _)⟩
      · simp [Instr.findNow, h1.1, q1]
      · rw [h1.1]; exact (q3 rfl).1
    · rename_i hq
      obtain ⟨q1, q2, q3⟩ := keyEq_sound hq ha
      obtain ⟨r', g1, g2⟩ := ih h h2
      exact ⟨r', by simp [Instr.findNow, h1.1, q1, g1], g2.later⟩
    · cases h
theorem findSlow_sound {P : Program} {kt : TypeId} {a : Value} : ∀ {es ms : List MapEntry} {i : Nat} {r : Option (Nat × Value)}, findSlow P kt a es i = some r → ERs ρ es ms →
    ∃ r', (Instr.findAsking kt a ms i).run P w = .ok r' w ∧ Found ρ a es ms i r r' := by
  intro es
  induction es with
  | nil => intro ms i r h hes; rw [hes.nil_left]; cases h; exact ⟨none, rfl, trivial⟩
  | cons e es ih =>
    intro ms i r h hes
    obtain ⟨y, ms', rfl, h1, h2⟩ := hes.cons_left
    simp only [findSlow] at h
    split at h
    · rename_i hq
      cases hf : flatEq e.key a with
      | false => rw [hf] at h; cases h
      | true =>
        rw [hf] at h; cases h
        obtain ⟨f1, f2⟩ := flatEq_eq hf
        subst f1
        exact ⟨some (i, y.val), by simp [Instr.findAsking, h1.1, peek_run hq], Found.here h1 h1.1 (f2 9999)⟩
    · rename_i hq
      obtain ⟨r', g1, g2⟩ := ih h h2
      refine ⟨r', ?_, g2.later⟩
      have g1 : (Instr.findAsking kt a ms' (i + 1)).run P w = .ok r' w := g1
      simp [Instr.findAsking, h1.1, peek_run hq, g1]
    · cases h
theorem checkKey_quick {P : Program} {d : TypeDesc} {kt : TypeId} {a : Value} (hd : isQuick d = true) (hu : (underlying kt).run P w = .ok d w) (b : Bool) (n : Nat) : (Instr.checkKey b (n + 1) kt a).run P w = .ok () w := by
  cases d <;> simp [isQuick] at hd <;> simp [Instr.checkKey, hu]
theorem findNow_slow {d : TypeDesc} {a : Value} (hd : isQuick d = false) {m : MapEntry} {ms : List MapEntry} {i : Nat} : Instr.findNow d a (m :: ms) i = none := by
  simp only [Instr.findNow]
  cases d <;> simp [isQuick] at hd <;> simp [Instr.sameNow]
theorem findC_sound (hT : T.Ok) {kt : TypeId} {a a' : Value} {es ms : List MapEntry} {r : Option (Nat × Value)} (h : findC T kt a es = some r) (ha : VR ρ a a') (hes : ERs ρ es ms) (w : World) :
    ∃ r', (∀ b, (Instr.checkKey b 10000 kt a').run T.P w = .ok () w) ∧ (Instr.findKey kt a' ms).run T.P w = .ok r' w ∧ Found ρ a' es ms 0 r r' := by
  unfold findC at h
  split at h
  · rename_i d h1
    split at h
    · rename_i hq
      obtain ⟨r', g1, g2⟩ := findQuick_sound ha h hes
      refine ⟨r', fun b => checkKey_quick hq (hT.run_under h1 w) b 9999, ?_, g2⟩
      simp [Instr.findKey, hT.run_under h1, g1]
    · rename_i hq
      split at h
      · rename_i hs
        have e := scalar_same hs ha
        subst e
        split at h
        · rename_i u1 u2 p1 p2
          obtain ⟨r', g1, g2⟩ := findSlow_sound (w := w) h hes
          refine ⟨r', fun b => ?_, ?_, g2⟩
          · cases b
            · exact peek_run p2 w
            · exact peek_run p1 w
          · cases ms with
            | nil =>
              cases es with
              | nil =>
                cases h
                cases r' with
                | none => simp [Instr.findKey, hT.run_under h1, Instr.findNow]
                | some q => exact g2.elim
              | cons e es => exact absurd hes.1 (by simp)
            | cons m ms => simp [Instr.findKey, hT.run_under h1, findNow_slow hq, g1]
        · cases h
      · cases h
  · cases h
theorem mapOf_some {o : Option CObj} {es : List MapEntry} {c : Nat} (h : mapOf o = some (es, c)) : o = some (.map es c) := by
  unfold mapOf at h; split at h
  · cases h; rfl
  · cases h
theorem Rel.map (hr : Rel T base w0 ρ s w) {i : Nat} {es : List MapEntry} {c : Nat} {e : Ent} (hg : s.heap.get i = some (.map es c)) (he : ρ i = some e) :
    ∃ ms, w.heap[e.b]? = some (.map ms c) ∧ ERs ρ es ms.toList ∧ base ≤ e.b := by
  obtain ⟨r, h1, h2⟩ := hr.obj _ _ _ hg he
  have hb : base ≤ e.b := (hr.own _ _ _ hg he).resolve_right (by rintro ⟨vs, el, n, q, _⟩; cases q)
  cases h2 with
  | map h3 => exact ⟨_, h1, h3, hb⟩
theorem entsOf_sound (hr : Rel T base w0 ρ s w) {u u' : Value} {es : List MapEntry} (h : entsOf s.heap u = some es) (hu : VR ρ u u') :
    ∃ ms : Array MapEntry, ERs ρ es ms.toList ∧ ((u' = .map none ∧ ms = #[]) ∨ ∃ r c, u' = .map (some r) ∧ w.heap[r]? = some (.map ms c)) := by
  unfold entsOf at h
  split at h
  · cases h; cases hu; exact ⟨#[], ERs.nil, .inl ⟨rfl, rfl⟩⟩
  · rename_i r
    cases hu with
    | map he =>
      split at h
      · rename_i es' c hm
        cases h
        obtain ⟨ms, g1, g2, _⟩ := hr.map (mapOf_some hm) he
        exact ⟨ms, g2, .inr ⟨_, c, rfl, g1⟩⟩
      · cases h
  · cases h
theorem lookup_sound (hr : Rel T base w0 ρ s w) (hT : T.Ok) {t : TypeId} {kt elem : TypeId} {u u' a a' : Value} {ok : Bool} {es : List MapEntry} {r : OpR} (h1 : T.under t = some (.map kt elem)) (h2 : entsOf s.heap u = some es)
    (h : lookupC T kt elem a ok es = some r) (hk : quietK s r k = some x) (hu : VR ρ u u') (ha : VR ρ a a') :
    ∃ v', (Instr.lookup t u' a' ok).run T.P w = .ok v' w ∧ Sound1 T base w0 ρ s w k x v' w := by
  obtain ⟨ms, g1, g2⟩ := entsOf_sound hr h2 hu
  have run : ∀ r', (∀ b, (Instr.checkKey b 10000 kt a').run T.P w = .ok () w) → (Instr.findKey kt a' ms.toList).run T.P w = .ok r' w → ∀ v ok',
      ((∃ j, r' = some (j, v) ∧ ok' = true) ∨ (r' = none ∧ ok' = false ∧ (zeroValue elem).run T.P w = .ok v w)) →
      (Instr.lookup t u' a' ok).run T.P w = .ok (if ok then .tuple #[v, .bool ok'] else v) w := by
    intro r' q1 q2 v ok' q3
    rcases g2 with ⟨rfl, rfl⟩ | ⟨rr, c, rfl, hw⟩
    · rcases q3 with ⟨j, rfl, rfl⟩ | ⟨rfl, rfl, q3⟩
      · simp only [Instr.lookup, Sem.run_bind, hT.run_under h1, Result.andThen_ok, Sem.run_pure, q1, q2]
      · simp only [Instr.lookup, Sem.run_bind, hT.run_under h1, Result.andThen_ok, Sem.run_pure, q1, q2, q3]
    · have hgo := run_getMap (P := T.P) hw
      rcases q3 with ⟨j, rfl, rfl⟩ | ⟨rfl, rfl, q3⟩
      · simp only [Instr.lookup, Sem.run_bind, hT.run_under h1, Result.andThen_ok, Sem.run_pure, q1, q2, hgo]
      · simp only [Instr.lookup, Sem.run_bind, hT.run_under h1, Result.andThen_ok, Sem.run_pure, q1, q2, q3, hgo]
  unfold lookupC at h
  split at h
  · rename_i j v hf
    cases h
    obtain ⟨r', q1, q2, q3⟩ := findC_sound hT hf ha g1 w
    cases r' with
    | none => exact q3.elim
    | some p =>
      obtain ⟨j', v'⟩ := p
      obtain ⟨_, _, q4, _⟩ := q3
      refine ⟨_, run _ q1 q2 v' true (.inl ⟨_, rfl, rfl⟩), .same hr (quiet_val hk) ?_⟩
      cases ok
      · exact q4
      · exact VR.tuple' (.cons q4 (.cons (.bool _) .nil))
  · rename_i hf
    split at h
    · rename_i z hz
      cases h
      obtain ⟨r', q1, q2, q3⟩ := findC_sound hT hf ha g1 w
      cases r' with
      | some p => exact q3.elim
      | none =>
        refine ⟨_, run _ q1 q2 z false (.inr ⟨rfl, rfl, hT.run_zero hz w⟩), .same hr (quiet_val hk) ?_⟩
        have hs := scalar_refl (ρ := ρ) (Tab.zero_scalar hz).1
        cases ok
        · exact hs
        · exact VR.tuple' (.cons hs (.cons (.bool _) .nil))
    · cases h
  · cases h
end
end Go.Canon
end
section
namespace Go.Canon
open Go Go.RowKit
set_option linter.unusedSectionVars false
section
variable {T : Tab} {base : Nat} {w0 w : World} {ρ : Ren} {s : CSt} {k : Value → CSt → Option COut} {x : COut}
theorem run_setMap {P : Program} {r : Nat} {o o' : Obj} {es : Array MapEntry} {clock : Nat} (hb : w.heap[r]? = some (.map es clock)) : (setObj r o').run P w = .ok () (World.withObj w r o') := by
  simp [setObj, Sem.run, hb, World.withObj]
theorem Rel.putMap (hr : Rel T base w0 ρ s w) {i : Nat} {es es' : List MapEntry} {c c' : Nat} {e : Ent} {ms ms' : Array MapEntry} {v v' : Value} (hg : s.heap.get i = some (.map es c)) (he : ρ i = some e)
    (hb : base ≤ e.b) (hes : ERs ρ es' ms'.toList) (hv : VR ρ v v') (hk : quietK s (.upd i (.map es' c') v) k = some x) :
    Sound1 T base w0 ρ s w k x v' (World.withObj w e.b (.map ms' c')) := by
  obtain ⟨s', h1, h2, h3, h4⟩ := quiet_upd hk
  have := hr.upd (r' := .map ms' c') (e := e) h2 hg he h3 h4 hb (.map hes)
  exact ⟨_, s', _, h1, this.2, this.1, hv⟩
theorem setEntry_get : ∀ (es : List MapEntry) (i : Nat) (v : Value) (j : Nat), (setEntry es i v)[j]? = if j = i then (es[j]?).map (fun e => { e with val := v }) else es[j]?
  | [], i, v, j => by simp [setEntry]
  | e :: es, 0, v, j => by
    cases j with
    | zero => simp [setEntry]
    | succ j => simp [setEntry]
  | e :: es, i + 1, v, j => by
    cases j with
    | zero => simp [setEntry]
    | succ j => simp [setEntry, setEntry_get es i v j]
theorem setEntry_length : ∀ (es : List MapEntry) (i : Nat) (v : Value), (setEntry es i v).length = es.length
  | [], i, v => by simp [setEntry]
  | e :: es, 0, v => by simp [setEntry]
  | e :: es, i + 1, v => by simp [setEntry, setEntry_length es i v]
theorem ERs.set {es : List MapEntry} {ms : Array MapEntry} {i : Nat} {v v' : Value} {f : MapEntry → MapEntry} (h : ERs ρ es ms.toList) (hv : VR ρ v v') (hf : ∀ y, ms[i]? = some y → f y = { y with val := v' }) :
    ERs ρ (setEntry es i v) (ms.modify i f).toList := by
  refine ⟨by rw [setEntry_length]; simpa using h.1, fun j x y hx hy => ?_⟩
  rw [setEntry_get] at hx
  rw [Array.getElem?_toList, Array.getElem?_modify] at hy
  by_cases hj : j = i
  · subst hj
    rw [if_pos rfl] at hx hy
    cases h1 : es[j]? with
    | none => rw [h1] at hx; cases hx
    | some x0 =>
      cases h2 : ms[j]? with
      | none => rw [h2] at hy; cases hy
      | some y0 =>
        rw [h1] at hx; rw [h2] at hy
        simp only [Option.map_some, Option.some.injEq] at hx hy
        rw [hf y0 h2] at hy
        have := h.2 j x0 y0 h1 (by rw [Array.getElem?_toList]; exact h2)
        subst hx; subst hy
        exact ⟨this.1, this.2.1, hv, this.2.2.2⟩
  · rw [if_neg hj] at hx
    rw [if_neg (fun q => hj q.symm)] at hy
    exact h.2 j x y hx (by rw [Array.getElem?_toList]; exact hy)
theorem ERs.push {es : List MapEntry} {ms : Array MapEntry} {x y : MapEntry} (h : ERs ρ es ms.toList) (hxy : ER ρ x y) : ERs ρ (es ++ [x]) (ms.push y).toList := by
  refine ⟨by simpa using h.1, fun j a b ha hb => ?_⟩
  rw [Array.toList_push] at hb
  have hl := h.1
  by_cases hj : j < es.length
  · rw [List.getElem?_append_left hj] at ha
    rw [List.getElem?_append_left (by omega)] at hb
    exact h.2 j a b ha hb
  · rw [List.getElem?_append_right (by omega)] at ha
    rw [List.getElem?_append_right (by omega)] at hb
    have e : j - es.length = 0 := by
      have := (List.getElem?_eq_some_iff.1 ha).1
      simp at this; omega
    rw [e] at ha
    rw [← hl, e] at hb
    simp at ha hb
    subst ha; subst hb
    exact hxy
theorem dropEntry_erase : ∀ (es : List MapEntry) (i : Nat), dropEntry es i = es.eraseIdx i
  | [], i => by simp [dropEntry]
  | e :: es, 0 => by simp [dropEntry]
  | e :: es, i + 1 => by simp [dropEntry, dropEntry_erase es i]
theorem ERs.drop {es : List MapEntry} {ms : Array MapEntry} {i : Nat} (h : ERs ρ es ms.toList) : ERs ρ (dropEntry es i) (ms.eraseIdxIfInBounds i).toList := by
  rw [dropEntry_erase]
  have e : (ms.eraseIdxIfInBounds i).toList = ms.toList.eraseIdx i := by
    unfold Array.eraseIdxIfInBounds
    split
    · simp
    · rename_i hn
      rw [List.eraseIdx_of_length_le]
      simpa using hn
  rw [e]
  refine ⟨?_, fun j x y hx hy => ?_⟩
  · have := h.1
    rw [List.length_eraseIdx, List.length_eraseIdx, this]
  · rw [List.getElem?_eraseIdx] at hx hy
    split at hx
    · rw [if_pos (by assumption)] at hy; exact h.2 j x y hx hy
    · rw [if_neg (by assumption)] at hy; exact h.2 (j + 1) x y hx hy
theorem run_stays {P : Program} {a : Value} (h : Instr.sameBits 10000 a a = true) : (Instr.keyThatStays a a).run P w = .ok a w := by simp [Instr.keyThatStays, h]
theorem mapPut_sound (hr : Rel T base w0 ρ s w) (hT : T.Ok) {t : TypeId} {i : Nat} {e : Ent} {a a' v v' : Value} {r : OpR} (h : mapPut T s.heap t i a v = some r) (hk : quietK s r k = some x)
    (he : ρ i = some e) (ha : VR ρ a a') (hv : VR ρ v v') :
    ∃ w', (Instr.mapUpdate t (.map (some e.b)) a' v').run T.P w = .ok () w' ∧ Sound1 T base w0 ρ s w k x undef w' := by
  unfold mapPut at h
  split at h
  · rename_i kt elem es clock h1 h2
    have hg := mapOf_some h2
    obtain ⟨ms, g1, g2, g3⟩ := hr.map hg he
    have hgo := run_getMap (P := T.P) g1
    have hso := fun o' => run_setMap (P := T.P) (o := o') (o' := o') g1
    split at h
    · rename_i hs
      have ea := scalar_same hs ha
      subst ea
      split at h
      · rename_i j u hf
        cases h
        obtain ⟨r', q1, q2, q3⟩ := findC_sound hT hf ha g2 w
        cases r' with
        | none => exact q3.elim
        | some p =>
          obtain ⟨j', u'⟩ := p
          obtain ⟨rfl, _, _, p1, p2, p3, p4, p5, p6, p7, p8⟩ := q3
          rw [Nat.sub_zero, Array.getElem?_toList] at p4
          have hst : (Instr.keyThatStays (((ms[j']?).map (·.key)).getD a') a').run T.P w = .ok a' w := by
            rw [p4]; simp only [Option.map_some, Option.getD_some, p7]; exact run_stays p8
          refine ⟨_, ?_, hr.putMap (ms := ms) hg he g3 (g2.set (f := fun e => { e with key := a', val := v' }) hv ?_) VR.undef hk⟩
          · simp only [Instr.mapUpdate, Sem.run_bind, hT.run_under h1, Result.andThen_ok, hgo, q1, q2, hst, hso]
          · intro y hy
            rw [p4] at hy; cases hy
            rw [← p7]
      · rename_i hf
        cases h
        obtain ⟨r', q1, q2, q3⟩ := findC_sound hT hf ha g2 w
        cases r' with
        | some p => exact q3.elim
        | none =>
          refine ⟨_, ?_, hr.putMap (ms := ms) hg he g3 (g2.push (x := { key := a', val := v, born := clock }) (y := { key := a', val := v', born := clock }) ⟨rfl, hs, hv, rfl⟩) VR.undef hk⟩
          simp only [Instr.mapUpdate, Sem.run_bind, hT.run_under h1, Result.andThen_ok, hgo, q1, q2, hso]
      · cases h
    · cases h
  · cases h
theorem delete_sound (hr : Rel T base w0 ρ s w) (hT : T.Ok) {ts : Array TypeId} {ty t : TypeId} {i : Nat} {e : Ent} {a a' : Value} {r : OpR} (h : deleteC T s.heap t i a = some r) (hk : quietK s r k = some x)
    (t0 : ts[0]? = some t) (he : ρ i = some e) (ha : VR ρ a a') :
    ∃ v' w', (Builtin.delete_ ts ty #[.map (some e.b), a']).run T.P w = .ok v' w' ∧ Sound1 T base w0 ρ s w k x v' w' := by
  unfold deleteC at h
  split at h
  · rename_i kt elem es clock h1 h2
    have hg := mapOf_some h2
    obtain ⟨ms, g1, g2, g3⟩ := hr.map hg he
    have hgo := run_getMap (P := T.P) g1
    have hso := fun o' => run_setMap (P := T.P) (o := o') (o' := o') g1
    split at h
    · rename_i j u hf
      cases h
      obtain ⟨r', q1, q2, q3⟩ := findC_sound hT hf ha g2 w
      cases r' with
      | none => exact q3.elim
      | some p =>
        obtain ⟨j', u'⟩ := p
        obtain ⟨rfl, _⟩ := q3
        refine ⟨_, _, ?_, hr.putMap (ms := ms) hg he g3 (g2.drop (i := j')) VR.undef hk⟩
        simp [Builtin.delete_, t0, hT.run_under h1, hgo, q1, q2, hso]
        rfl
    · rename_i hf
      cases h
      obtain ⟨r', q1, q2, q3⟩ := findC_sound hT hf ha g2 w
      cases r' with
      | some p => exact q3.elim
      | none =>
        refine ⟨_, _, ?_, hr.putMap (ms := ms) hg he g3 g2 VR.undef hk⟩
        simp [Builtin.delete_, t0, hT.run_under h1, hgo, q1, q2, hso]
        rfl
    · cases h
  · cases h
theorem mapEntry_sound (hr : Rel T base w0 ρ s w) (hT : T.Ok) {t kt elem : TypeId} {i : Nat} {e : Ent} {a a' : Value} {es : List MapEntry} {clock : Nat} {r : OpR} (h1 : T.under t = some (.map kt elem))
    (hg : s.heap.get i = some (.map es clock)) (h : mapEntryC T kt elem i a es clock = some r) (hk : quietK s r k = some x) (he : ρ i = some e) (ha : VR ρ a a') :
    ∃ v' w', (Instr.mapEntry t (.map (some e.b)) a').run T.P w = .ok v' w' ∧ Sound1 T base w0 ρ s w k x v' w' := by
  obtain ⟨ms, g1, g2, g3⟩ := hr.map hg he
  have hgo := run_getMap (P := T.P) g1
  have hso := fun o' => run_setMap (P := T.P) (o := o') (o' := o') g1
  unfold mapEntryC at h
  split at h
  · rename_i j u hf
    obtain ⟨r', q1, q2, q3⟩ := findC_sound hT hf ha g2 w
    cases r' with
    | none => exact q3.elim
    | some p =>
      obtain ⟨j', u'⟩ := p
      obtain ⟨rfl, _, p0, p1, p2, p3, p4, p5, p6, p7, p8⟩ := q3
      rw [Nat.sub_zero] at p3 p4
      have p4' := p4
      rw [Array.getElem?_toList] at p4
      have her := g2.2 _ _ _ p3 p4'
      rw [p3] at h
      cases h
      have hst : (Instr.keyThatStays p2.key a').run T.P w = .ok a' w := by
        rw [p7]; exact run_stays p8
      have hms : ms.modify j' (fun e => { e with key := a' }) = ms := by
        apply Array.ext_getElem?
        intro q
        rw [Array.getElem?_modify]
        by_cases hq : j' = q
        · subst hq; rw [if_pos rfl, p4]; simp [← p7]
        · rw [if_neg hq]
      refine ⟨.tuple #[u', goInt p2.born], _, ?_, hr.putMap (ms := ms) hg he g3 g2 (VR.tuple' (.cons p0 (.cons ?_ .nil))) hk⟩
      · simp only [Instr.mapEntry, Sem.run_bind, hT.run_under h1, Result.andThen_ok, hgo, q1, q2, p4, Option.map_some, Option.getD_some, hst, hso, hms, Sem.run_pure]
      · rw [her.2.2.2]; exact .int _ _
  · rename_i hf
    split at h
    · rename_i z hz hs
      cases h
      have ea := scalar_same hs ha
      subst ea
      obtain ⟨r', q1, q2, q3⟩ := findC_sound hT hf ha g2 w
      cases r' with
      | some p => exact q3.elim
      | none =>
        have hzs := scalar_refl (ρ := ρ) (Tab.zero_scalar hz).1
        refine ⟨.tuple #[z, goInt clock], _, ?_, hr.putMap (ms := ms) hg he g3 (g2.push (y := { key := a', val := z, born := clock }) ⟨rfl, hs, hzs, rfl⟩) (VR.tuple' (.cons hzs (.cons (.int _ _) .nil))) hk⟩
        simp only [Instr.mapEntry, Sem.run_bind, hT.run_under h1, Result.andThen_ok, hgo, q1, q2, hT.run_zero hz, hso, Sem.run_pure]
    · cases h
  · cases h
theorem bornAt_sound {born : Int} : ∀ {es ms : List MapEntry} {i j : Nat}, bornAt born es i = some j → ERs ρ es ms → i ≤ j ∧ ms.findIdx? (fun e => (e.born : Int) == born) = some (j - i) := by
  intro es
  induction es with
  | nil => intro ms i j h _; cases h
  | cons e es ih =>
    intro ms i j h hes
    obtain ⟨y, ms', rfl, h1, h2⟩ := hes.cons_left
    simp only [bornAt] at h
    split at h
    · rename_i hq
      cases h
      rw [ibeq_eq] at hq
      refine ⟨Nat.le_refl _, ?_⟩
      rw [List.findIdx?_cons, h1.2.2.2, hq]; simp
    · rename_i hq
      rw [ibeq_eq] at hq
      obtain ⟨q1, q2⟩ := ih h h2
      refine ⟨by omega, ?_⟩
      rw [List.findIdx?_cons, h1.2.2.2, hq]
      simp only [Bool.false_eq_true, if_false, q2, Option.map_some]
      congr 1; omega
theorem entryStore_sound (hr : Rel T base w0 ρ s w) {t : TypeId} {i j : Nat} {e : Ent} {kd : IntKind} {born : Int} {v v' : Value} {es : List MapEntry} {clock : Nat}
    (hg : s.heap.get i = some (.map es clock)) (h : bornAt born es 0 = some j) (hk : quietK s (.upd i (.map (setEntry es j v) clock) undef) k = some x) (he : ρ i = some e) (hv : VR ρ v v') :
    ∃ w', (Instr.entryStore t (.map (some e.b)) (.int kd born) v').run T.P w = .ok () w' ∧ Sound1 T base w0 ρ s w k x undef w' := by
  obtain ⟨ms, g1, g2, g3⟩ := hr.map hg he
  have hgo := run_getMap (P := T.P) g1
  have hso := fun o' => run_setMap (P := T.P) (o := o') (o' := o') g1
  obtain ⟨_, q2⟩ := bornAt_sound h g2
  have q2 : ms.findIdx? (fun e => (e.born : Int) == born) = some j := by
    rw [Nat.sub_zero] at q2
    rw [← q2]; cases ms; simp
  refine ⟨_, ?_, hr.putMap (ms := ms) hg he g3 (g2.set (f := fun e => { e with val := v' }) hv (fun _ _ => rfl)) VR.undef hk⟩
  have ha : (asInt (.int kd born)).run T.P w = .ok born w := rfl
  simp only [Instr.entryStore, Sem.run_bind, Result.andThen_ok, hgo, ha, q2, hso]
end
end Go.Canon
end
section
namespace Go.Canon
open Go Go.RowKit
set_option linter.unusedSectionVars false
section
variable {T : Tab} {base : Nat} {w0 w : World} {ρ : Ren} {s : CSt} {k : Value → CSt → Option COut} {x : COut}
theorem getCells_some {h : Tr CObj} {b : Nat} {vs : List Value} {e : TypeId} {fz : Nat × Nat} (h1 : getCells h b = some (vs, e, fz)) : h.get b = some (.cells vs e fz) := by
  unfold getCells at h1
  split at h1
  · rename_i q; cases h1; exact q
  · cases h1
theorem bytesOf_ints : ∀ {l : List Value} {bs : List UInt8}, bytesOf l = some bs → ∃ ns : List Nat, l = ns.map (fun n => Value.int .u8 (Int.ofNat n)) ∧ bs = ns.map UInt8.ofNat
  | [], bs, h => by cases h; exact ⟨[], rfl, rfl⟩
  | v :: l, bs, h => by
    unfold bytesOf at h
    split at h
    · rename_i q; cases q
    · rename_i x l' q
      cases q
      split at h
      · rename_i r hr
        cases h
        obtain ⟨ns, h1, h2⟩ := bytesOf_ints hr
        exact ⟨x :: ns, by rw [h1]; rfl, by rw [h2]; rfl⟩
      · cases h
    · cases h
theorem run_loadBytesN {P : Program} : ∀ (ns : List Nat) (a : Addr) (acc : ByteArray), (∀ j n, ns[j]? = some n → w.cell? (a.add j) = some (.int .u8 (Int.ofNat n))) →
    (loadBytes a acc ns.length).run P w = .ok ⟨acc.data ++ (ns.map UInt8.ofNat).toArray⟩ w
  | [], a, acc, _ => by simp [loadBytes]
  | n :: ns, a, acc, h => by
    have h0 : w.cell? a = some (.int .u8 (Int.ofNat n)) := by
      have := h 0 n rfl
      simpa [Addr.add] using this
    have ih := run_loadBytesN (P := P) ns (a.add 1) (acc.push (UInt8.ofNat n)) (fun j y hy => by
      have := h (j + 1) y (by simpa using hy)
      have e : (a.add 1).add j = a.add (j + 1) := by
        unfold Addr.add
        by_cases hj : j = 0
        · subst hj; simp
        · simp [hj]; omega
      rw [e]; exact this)
    have hx : ((Int.ofNat n).toNat).toUInt8 = UInt8.ofNat n := rfl
    simp only [List.length_cons, loadBytes, Sem.run_bind, run_load, h0, Result.andThen, hx]
    rw [ih]
    congr 1
    apply ByteArray.ext
    simp [ByteArray.push]
theorem liesAt_row {P : Program} {e : TypeId} {sz : Nat} (hc : P.cellsOf e = sz) (hz : 0 < sz) (count off n : Nat) (hd : off % sz = 0) (hn : off / sz + n ≤ count) : liesAt P P.depth e count off e n = true := by
  have hdp : P.depth = (2 * (P.types.size + Made.depth) + 1) + 1 := rfl
  rw [hdp]
  simp only [liesAt, Bool.or_eq_true]
  left
  rw [hdp]
  have : ¬ sz = 0 := by omega
  simp [rowAt, hc, hn, sameLayout, hd, this]
theorem Tab.Ok.cellsOf (hT : T.Ok) {e : TypeId} {n : Nat} (h : T.sizeOf e = some n) : T.P.cellsOf e = n := by
  unfold Tab.sizeOf at h
  split at h
  · rename_i i hi
    cases h
    simp [Program.cellsOf, hT.info hi]
  · cases h
theorem shape?_at {b : Nat} {arr : Array Value} {el : TypeId} {fr : Nat × Nat} (h : w.heap[b]? = some (.cells arr el fr)) : w.shape? b = some (el, arr.size) := by simp [World.shape?, h]
theorem VRs.mapInts {ns : List Nat} {m : List Value} (h : VRs ρ (ns.map (fun n => Value.int .u8 (Int.ofNat n))) m) : m = ns.map (fun n => Value.int .u8 (Int.ofNat n)) := by
  induction ns generalizing m with
  | nil => exact h.nil_left
  | cons n ns ih =>
    obtain ⟨y, m', rfl, h1, h2⟩ := VRs.cons_left (l := ns.map _) h
    cases h1
    rw [ih h2]; rfl
/-- cells read on both sides -/
theorem CellsRel.at {d : Nat} {vs : List Value} {arr : Array Value} (hc : CellsRel ρ d vs arr) {off n : Nat} {l : List Value} (h : cellsAt vs off n = some l) : VRs ρ l ((arr.toList.drop (off + d)).take n) := by
  obtain ⟨c1, c2, c3⟩ := cellsAt_spec h
  have hin : ∀ j, j < n → ∃ y, arr[off + j + d]? = some y ∧ VR ρ (l.getD j undef) y := by
    intro j hj
    have hlt : off + j < vs.length := by omega
    obtain ⟨y, hy, hv⟩ := hc (off + j) vs[off + j] (List.getElem?_eq_getElem hlt)
    refine ⟨y, hy, ?_⟩
    rw [List.getD_eq_getElem?_getD, cellsAt_get h j hj, List.getElem?_eq_getElem hlt]
    exact hv
  have hsz : n = 0 ∨ off + d + n ≤ arr.size := by
    cases n with
    | zero => exact .inl rfl
    | succ n =>
      obtain ⟨y, hy, _⟩ := hin n (by omega)
      have := (Array.getElem?_eq_some_iff.1 hy).1
      right; omega
  refine ⟨by simp; omega, fun j hj => ?_⟩
  obtain ⟨y, hy, hv⟩ := hin j (by omega)
  rw [List.getD_eq_getElem?_getD (l := List.take _ _), List.getElem?_take, if_pos (by omega), List.getElem?_drop, Array.getElem?_toList, show off + d + j = off + j + d from by omega, hy]
  exact hv
theorem unsafeString_sound (hr : Rel T base w0 ρ s w) (hT : T.Ok) {ts : Array TypeId} {ty t : TypeId} {p : Option Addr} {p' : Value} {n : Nat} {kd : IntKind} {r : OpR} (h : unsafeStringC T s.heap t p n = some r) (hk : quietK s r k = some x)
    (t0 : ts[0]? = some t) (hp : VR ρ (.pointer p) p') :
    ∃ v' w', (Builtin.unsafeString_ ts ty #[p', .int kd (Int.ofNat n)]).run T.P w = .ok v' w' ∧ Sound1 T base w0 ρ s w k x v' w' := by
  have hmax : IntKind.i64.max = 9223372036854775807 := rfl
  have hasI : ∀ m : Nat, (asInt (.int kd (Int.ofNat m))).run T.P w = .ok (Int.ofNat m) w := fun _ => rfl
  unfold unsafeStringC at h
  split at h
  · cases h
    refine ⟨.string .empty, w, ?_, .same hr (quiet_val hk) (.string _)⟩
    have h0 : (asInt (.int kd 0)).run T.P w = .ok 0 w := rfl
    cases hp with
    | nilp => rw [show Builtin.unsafeString_ ts ty #[.pointer none, .int kd (Int.ofNat 0)] = (asInt (.int kd (Int.ofNat 0)) >>= _) from rfl]; simp [h0, t0, hmax]
    | ptr he => rw [show Builtin.unsafeString_ ts ty #[.pointer (some _), .int kd (Int.ofNat 0)] = (asInt (.int kd (Int.ofNat 0)) >>= _) from rfl]; simp [h0, t0, hmax]
  · rename_i n b off
    split at h
    · rename_i vs e fz el h1 h2
      split at h
      · rename_i l h3 h4 h5
        split at h
        · rename_i bs h6 h7
          split at h
          · rename_i h8
            cases h
            simp only [Bool.and_eq_true] at h8
            obtain ⟨f1, f2, f3⟩ := h8
            have f1 := nbeq_true f1
            have f2 := ble_iff.1 f2
            have f3 : fz.1 < BIG := by simpa [Nat.blt_eq] using f3
            have hel := nbeq_true h3
            subst hel
            have hg := getCells_some h1
            cases hp with
            | ptr he =>
              rename_i eb
              obtain ⟨arr, fr, hw, a1, a2, a3, hcr, hsz, hdv, hfr⟩ := hr.cells hg he
              have hb : base ≤ eb.b := (hr.own _ _ _ hg he).resolve_right (not_locked' f1)
              have e1 : eb.sz = 1 := by rw [h7] at hsz; exact (Option.some.inj hsz).symm
              obtain ⟨ns, n1, n2⟩ := bytesOf_ints h6
              obtain ⟨c1, c2, c3⟩ := cellsAt_spec h5
              have hrow := hcr.at h5
              rw [n1] at hrow
              have hrow := hrow.mapInts
              have hnl : ns.length = n + 1 := by rw [n1] at c2; simpa using c2
              have hcell : ∀ j m, ns[j]? = some m → w.cell? ((⟨eb.b, off + eb.d, none⟩ : Addr).add j) = some (.int .u8 (Int.ofNat m)) := by
                intro j m hm
                rw [add_mk, cell?_at hw]
                have hj := (List.getElem?_eq_some_iff.1 hm).1
                have : ((arr.toList.drop (off + eb.d)).take (n + 1))[j]? = some (.int .u8 (Int.ofNat m)) := by rw [hrow]; simp [hm]
                rw [List.getElem?_take, if_pos (by omega), List.getElem?_drop, Array.getElem?_toList] at this
                exact this
              have hlb := run_loadBytesN (P := T.P) ns ⟨eb.b, off + eb.d, none⟩ .empty hcell
              rw [hnl] at hlb
              have hlies := liesAt_row (P := T.P) (hT.cellsOf h7) Nat.one_pos (arr.size / 1) (off + eb.d) (n + 1) (Nat.mod_one _) (by simp; omega)
              have hvat : (variablesAt ⟨eb.b, off + eb.d, none⟩ el (n + 1)).run T.P w = .ok true w := by
                simp [variablesAt, shape?_at hw, hT.cellsOf h7]
                simpa using hlies
              have hfz : World.freeze w ⟨eb.b, off + eb.d, none⟩ (n + 1) = World.withObj w eb.b (.cells arr el (off + eb.d, off + eb.d + (n + 1))) := by
                have hfr' : fr.1 = fr.2 := by
                  rcases hfr with q | q | q
                  · exact q
                  · omega
                  · omega
                have hbl := (Array.getElem?_eq_some_iff.1 hw).1
                unfold World.freeze World.withObj
                rw [if_neg (by omega)]
                congr 1
                apply Array.ext_getElem?
                intro q
                rw [Array.getElem?_modify]
                by_cases hq : eb.b = q
                · subst hq
                  rw [if_pos rfl, Array.getElem?_setIfInBounds_self_of_lt hbl, hw]
                  obtain ⟨fr1, fr2⟩ := fr
                  simp only at hfr'
                  subst hfr'
                  simp
                · rw [if_neg hq, Array.getElem?_setIfInBounds_ne hq]
              obtain ⟨s', q1, q2, q3, q4⟩ := quiet_upd hk
              have := hr.upd (r' := .cells arr el (off + eb.d, off + eb.d + (n + 1))) (e := eb) q2 hg he q3 q4 hb
                (.cells a1 a2 a3 (CellsRel.to a1 hcr) hsz hdv (.inr (.inl ⟨by simp, by simp, by simp; omega⟩)))
              refine ⟨.string ⟨⟨bs⟩⟩, _, ?_, _, s', _, q1, this.2, this.1, .string _⟩
              have h63 : ¬ (Int.ofNat (n + 1) > 9223372036854775807) := by
                have : Int.ofNat (n + 1) = ((n + 1 : Nat) : Int) := rfl
                omega
              have hneg : ¬ (Int.ofNat (n + 1) < 0) := by
                have : Int.ofNat (n + 1) = ((n + 1 : Nat) : Int) := rfl
                omega
              have hne : ¬ (Int.ofNat (n + 1) = 0) := by
                have : Int.ofNat (n + 1) = ((n + 1 : Nat) : Int) := rfl
                omega
              have htn : (Int.ofNat (n + 1)).toNat = n + 1 := rfl
              have hel' : (elemOf t).run T.P w = .ok el w := by simp [elemOf, hT.run_under h2]
              rw [show Builtin.unsafeString_ ts ty #[.pointer (some _), .int kd (Int.ofNat (n + 1))] = (asInt (.int kd (Int.ofNat (n + 1))) >>= _) from rfl]
              simp only [Sem.run_bind, hasI, Result.andThen_ok, t0, hmax, if_neg h63, if_neg hneg, if_neg hne, Sem.run_pure, hel', htn, hvat, if_true, hlb, run_freeze, hfz]
              rw [n2]
              simp
          · cases h
        · cases h
      · cases h
    · cases h
  · cases h
end
end Go.Canon
end
section
namespace Go.Canon
open Go Go.RowKit
set_option linter.unusedSectionVars false
section
variable {T : Tab} {base : Nat} {w0 w : World} {ρ : Ren} {s : CSt} {k : Value → CSt → Option COut} {x : COut}
theorem run_viewAt {P : Program} {b : Nat} {arr : Array Value} {el : TypeId} {fr : Nat × Nat} (h : w.heap[b]? = some (.cells arr el fr)) : (viewAt b).run P w = .ok none w := by
  simp [viewAt, shape?_at h]
theorem run_seenAt {P : Program} {b o : Nat} {arr : Array Value} {el : TypeId} {fr : Nat × Nat} (h : w.heap[b]? = some (.cells arr el fr)) : (Conv.seenAt ⟨b, o, none⟩).run P w = .ok ⟨b, o, none⟩ w := by
  simp [Conv.seenAt, run_viewAt h]
theorem run_cellsIn {P : Program} {b : Nat} {arr : Array Value} {el : TypeId} {fr : Nat × Nat} (h : w.heap[b]? = some (.cells arr el fr)) : (cellsIn b).run P w = .ok (some arr.size) w := by
  simp [cellsIn, shape?_at h]
theorem convPtr_sound (hr : Rel T base w0 ρ s w) (hT : T.Ok) {src dst t : TypeId} {b off : Nat} {u' : Value} {r : OpR} (h1 : T.under src = some (.pointer t)) (h2 : T.under dst = some .unsafePointer)
    (h : convPtr T s.heap t b off = some r) (hk : quietK s r k = some x) (hu : VR ρ (ptr b off) u') :
    ∃ v' w', (convert src dst u').run T.P w = .ok v' w' ∧ Sound1 T base w0 ρ s w k x v' w' := by
  unfold convPtr at h
  split at h
  · rename_i vs e fz n g1 g2
    cases hb : Nat.blt off vs.length with
    | false => rw [hb] at h; cases h
    | true =>
      rw [hb] at h; cases h
      have hlt : off < vs.length := by simpa [Nat.blt_eq] using hb
      cases hu with
      | ptr he =>
        rename_i eb
        obtain ⟨arr, fr, hw, a1, a2, a3, hcr, hsz, hdv, hfr⟩ := hr.cells (getCells_some g1) he
        refine ⟨_, w, ?_, .same hr (quiet_val hk) (.ptr he)⟩
        have hn : ¬ (arr.size ≤ off + eb.d) := by omega
        simp [convert, hT.run_under h1, hT.run_under h2, Conv.unsafePointer, run_seenAt hw, run_cellsIn hw, hT.run_size g2, hn]
  · cases h
theorem convBack_sound (hr : Rel T base w0 ρ s w) (hT : T.Ok) {src dst t : TypeId} {b : Nat} {u' : Value} {r : OpR} (h1 : T.under src = some .unsafePointer) (h2 : T.under dst = some (.pointer t))
    (h : convBack T s.heap t b = some r) (hk : quietK s r k = some x) (hu : VR ρ (ptr b 0) u') :
    ∃ v' w', (convert src dst u').run T.P w = .ok v' w' ∧ Sound1 T base w0 ρ s w k x v' w' := by
  unfold convBack at h
  split at h
  · rename_i vs e fz n g1 g2
    cases hb : Nat.beq e t && Nat.ble (n + 1) vs.length with
    | false => rw [hb] at h; cases h
    | true =>
      rw [hb] at h; cases h
      simp only [Bool.and_eq_true] at hb
      have he := nbeq_true hb.1
      subst he
      have hle := ble_iff.1 hb.2
      cases hu with
      | ptr he =>
        rename_i eb
        obtain ⟨arr, fr, hw, a1, a2, a3, hcr, hsz, hdv, hfr⟩ := hr.cells (getCells_some g1) he
        have e1 : eb.sz = n + 1 := by rw [g2] at hsz; exact (Option.some.inj hsz).symm
        refine ⟨_, w, ?_, .same hr (quiet_val hk) (.ptr he)⟩
        obtain ⟨q, hq⟩ := hdv
        have hlies := liesAt_row (P := T.P) (hT.cellsOf g2) (Nat.succ_pos n) (arr.size / (n + 1)) (0 + eb.d) 1 (by rw [Nat.zero_add, hq, e1]; exact Nat.mul_mod_right _ _) (by
          have hm : (n + 1) * q + (n + 1) ≤ arr.size := by rw [← e1, ← hq, e1]; omega
          rw [Nat.zero_add, hq, e1, Nat.mul_div_cancel_left _ (Nat.succ_pos n), Nat.le_div_iff_mul_le (Nat.succ_pos n), Nat.add_mul, Nat.one_mul, Nat.mul_comm q]
          exact hm)
        have hvat : (variablesAt ⟨eb.b, 0 + eb.d, none⟩ e 1).run T.P w = .ok true w := by
          simp only [variablesAt, Sem.run_bind, run_program, Result.andThen_ok, run_shape, shape?_at hw, hT.cellsOf g2, hlies, Sem.run_pure]
        simp [convert, hT.run_under h1, hT.run_under h2, Conv.unsafePointer, run_seenAt hw, hT.run_size g2]
        rw [Nat.zero_add] at hvat
        simp [hvat]
  · cases h
theorem convText_sound (hr : Rel T base w0 ρ s w) {b off len : Nat} {u' : Value} {c : Nat} {r : OpR} (h : convText s.heap b off len = some r) (hk : quietK s r k = some x) (hu : VR ρ (.slice (some ⟨b, off, none⟩) len c) u') :
    ∃ v' w', (Conv.bytesToString u').run T.P w = .ok v' w' ∧ Sound1 T base w0 ρ s w k x v' w' := by
  have he : ∃ (o' c' : Nat) (eb : Ent), u' = .slice (some ⟨eb.b, o', none⟩) len c' ∧ ρ b = some eb ∧ (len = 0 ∨ o' = off + eb.d) := by
    cases hu with
    | xs he hc => exact ⟨_, _, _, rfl, he, .inr rfl⟩
    | gs he hc g1 g2 g3 g4 => exact ⟨_, _, _, rfl, he, g1.imp (fun q => by omega) id⟩
  obtain ⟨o', c', eb, rfl, he, ho⟩ := he
  unfold convText at h
  split at h
  · cases h
    have := run_bytesToString (P := T.P) w ⟨eb.b, o', none⟩ 0 c' [] (by simp [loadCells, loadCellsFrom])
    exact ⟨_, w, this, .same hr (quiet_val hk) (.string _)⟩
  · rename_i len
    have ho := ho.resolve_left (by omega)
    subst ho
    split at h
    · rename_i vs e fz h1
      split at h
      · rename_i l h5
        split at h
        · rename_i bs h6
          cases h
          obtain ⟨arr, fr, hw, a1, a2, a3, hcr, hsz, hdv, hfr⟩ := hr.cells (getCells_some h1) he
          obtain ⟨ns, n1, n2⟩ := bytesOf_ints h6
          obtain ⟨c1, c2, c3⟩ := cellsAt_spec h5
          have hrow := hcr.at h5
          rw [n1] at hrow
          have hrow := hrow.mapInts
          have hnl : ns.length = len + 1 := by rw [n1] at c2; simpa using c2
          have hl : ∀ j y, ((ns.map Int.ofNat).map (Value.int .u8))[j]? = some y → w.cell? ((⟨eb.b, off + eb.d, none⟩ : Addr).add j) = some y := by
            intro j y hy
            rw [add_mk, cell?_at hw]
            have hj := (List.getElem?_eq_some_iff.1 hy).1
            simp at hj
            have : ((arr.toList.drop (off + eb.d)).take (len + 1))[j]? = some y := by rw [hrow, ← hy, List.getElem?_map, List.getElem?_map, List.getElem?_map, Option.map_map]; rfl
            rw [List.getElem?_take, if_pos (by omega), List.getElem?_drop, Array.getElem?_toList] at this
            exact this
          have hrun := run_loadCells_list (P := T.P) w ⟨eb.b, off + eb.d, none⟩ _ hl
          rw [List.length_map, List.length_map, hnl] at hrun
          have := run_bytesToString (P := T.P) w ⟨eb.b, off + eb.d, none⟩ (len + 1) c' _ hrun
          rw [foldl_push_bytes] at this
          refine ⟨_, w, this, .same hr (quiet_val hk) ?_⟩
          have e : (⟨ByteArray.empty.data ++ ((ns.map Int.ofNat).map fun n => UInt8.ofNat n.toNat).toArray⟩ : ByteArray) = ⟨⟨bs⟩⟩ := by
            rw [n2]
            simp [Function.comp_def]
          rw [e]
          exact .string _
        · cases h
      · cases h
    · cases h
theorem convBytes_sound (hr : Rel T base w0 ρ s w) {e : TypeId} {b : ByteArray} (hs : T.sizeOf e = some 1) (hk : quietK s (convBytes e b) k = some x) :
    ∃ v' w', (Conv.stringToBytes e b).run T.P w = .ok v' w' ∧ Sound1 T base w0 ρ s w k x v' w' := by
  have hrd : Rel T base w0 ρ s w.drew := hr.drew
  obtain ⟨s', q1, q2, q3, q4⟩ := quiet_alloc hk
  have hcap : ∃ c, (choose (.appendCap b.size 0 e)).run T.P w = .ok c w.drew ∧ b.size ≤ c := by
    refine ⟨Question.cut (.appendCap b.size 0 e) (w.tape w.drawn (.appendCap b.size 0 e)), rfl, ?_⟩
    exact Nat.le_add_right _ _
  obtain ⟨c, hc1, hc2⟩ := hcap
  have hlen : ((b.data.map fun b => Value.int .u8 b.toNat).toList).length = b.size := by rw [Array.length_toList, Array.size_map]; rfl
  have hdl : (b.data.map fun b => Value.int .u8 b.toNat).size = b.size := by rw [Array.size_map]; rfl
  have hvs : VRs ρ ((b.data.map fun b => Value.int .u8 b.toNat).toList) ((b.data.map fun b => Value.int .u8 b.toNat).toList) := by
    refine scalars_refl ?_
    rw [Array.toList_map]
    generalize b.data.toList = l
    induction l with
    | nil => rfl
    | cons a l ih => simp only [List.map_cons, scalars, scalar, ih, Bool.and_self]
  have hsz : ((b.data.map fun b => Value.int .u8 b.toNat) ++ Array.replicate (c - b.size) (Value.int .u8 0)).size = c := by
    rw [Array.size_append, hdl, Array.size_replicate]; omega
  have hnew := hrd.newCells (arr := (b.data.map fun b => Value.int .u8 b.toNat) ++ Array.replicate (c - b.size) (Value.int .u8 0)) (fr := (c, c + 1)) (sz := 1) q2 q3 q4
    (CellsRel.pre (rest := Array.replicate (c - b.size) (Value.int .u8 0)) hvs) (by rw [hsz, hlen]; omega) hs (.inr (.inr ⟨Nat.le_refl _, by rw [hsz]; exact Nat.le_refl _⟩))
  rw [hlen, hsz] at hnew
  refine ⟨.slice (some ⟨w.heap.size, 0, none⟩) b.size c, _, ?_, _, s', _, q1, Ext.of_drew hnew.2, hnew.1, ?_⟩
  · have hnr : ∀ (cells : Array Value) (w1 : World), (newRow e cells).run T.P w1 = .ok ⟨w1.heap.size, 0, none⟩ { w1 with heap := w1.heap.push (.cells cells e (0, 0)) } := fun _ _ => rfl
    have hms : ∀ (cells : Array Value) (w1 : World), (markStringish ⟨w1.heap.size, 0, none⟩).run T.P { w1 with heap := w1.heap.push (.cells cells e (0, 0)) } =
        .ok () { w1 with heap := w1.heap.push (.cells cells e (cells.size, cells.size + 1)) } := by
      intro cells w1
      have h1 : World.shape? { w1 with heap := w1.heap.push (.cells cells e (0, 0)) } w1.heap.size = some (e, cells.size) := by simp [World.shape?]
      simp only [markStringish, Sem.run_bind, run_shape, h1, Result.andThen_ok, run_freeze]
      congr 1
      unfold World.freeze
      rw [if_neg (by omega)]
      congr 1
      apply Array.ext_getElem?
      intro q
      rw [Array.getElem?_modify]
      by_cases hq : w1.heap.size = q
      · subst hq; rw [if_pos rfl]; simp
      · rw [if_neg hq, Array.getElem?_push, if_neg (fun q' => hq q'.symm), Array.getElem?_push, if_neg (fun q' => hq q'.symm)]
    simp only [Conv.stringToBytes, Sem.run_bind, hc1, Result.andThen_ok, hnr, hms, hsz, Sem.run_pure]
    rfl
  · have := VR.gs (ρ := Ren.set ρ s.next ⟨w.drew.heap.size, 0, b.size, c, 1⟩) (i := s.next) (off := 0) (n := b.size) (c := BIG) (off' := 0) (c' := c) (Ren.set_same ρ _ _) (Nat.le_refl _) (.inr rfl) hc2 (by simp; omega) (by simp)
    exact this
theorem convC_sound (hr : Rel T base w0 ρ s w) (hT : T.Ok) {src dst : TypeId} {u u' : Value} {r : OpR} (h : convC T s.heap src dst u = some r) (hk : quietK s r k = some x) (hu : VR ρ u u') :
    ∃ v' w', (convert src dst u').run T.P w = .ok v' w' ∧ Sound1 T base w0 ρ s w k x v' w' := by
  unfold convC at h
  split at h
  · rename_i ds dd h1 h2
    split at h
    · cases h; cases hu
      exact ⟨_, w, by cases ds <;> simp [convert, hT.run_under h1, hT.run_under h2, Conv.intToInt], .same hr (quiet_val hk) (.int _ _)⟩
    · cases h; cases hu
      exact ⟨_, w, by cases ds <;> simp [convert, hT.run_under h1, hT.run_under h2], .same hr (quiet_val hk) (.string _)⟩
    · split at h
      · exact convPtr_sound hr hT h1 h2 h hk hu
      · cases h
    · split at h
      · exact convBack_sound hr hT h1 h2 h hk hu
      · cases h
    · split at h
      · rename_i h3 h4
        cases h; cases hu
        obtain ⟨v', w', g1, g2⟩ := convBytes_sound (T := T) hr h4 hk
        exact ⟨v', w', by cases ds <;> simp [convert, hT.run_under h1, hT.run_under h2, hT.run_under h3, g1], g2⟩
      · cases h
    · split at h
      · rename_i e
        split at h
        · rename_i h3
          have go : ∀ a' n c, u' = .slice a' n c → (convert src dst u').run T.P w = (Conv.bytesToString u').run T.P w := by
            intro a' n c q
            subst q
            exact run_convert_bytes_string w src dst e a' n c (hT.under h1) (hT.under h3) (hT.under h2)
          split at h
          · cases h
            cases hu
            exact ⟨_, w, by rw [go _ _ _ rfl]; simp [Conv.bytesToString], .same hr (quiet_val hk) (.string _)⟩
          · have hgo : (convert src dst u').run T.P w = (Conv.bytesToString u').run T.P w := by
              cases hu with
              | xs => exact go _ _ _ rfl
              | gs => exact go _ _ _ rfl
            rw [hgo]
            exact convText_sound hr h hk hu
          · cases h
        · cases h
      · cases h
    · cases h
  · cases h
end
end Go.Canon
end
section
namespace Go.Canon
open Go Go.RowKit
set_option linter.unusedSectionVars false
section
variable {T : Tab} {base : Nat} {w0 w : World} {ρ : Ren} {s : CSt} {ca : CAct} {a : Act} {k : Value → CSt → Option COut} {x : COut}
theorem run_setIter {P : Program} {r : Nat} {o' : Obj} {b : ByteArray} {p : Nat} (hb : w.heap[r]? = some (.stringIter b p)) : (setObj r o').run P w = .ok () (World.withObj w r o') := by
  simp [setObj, Sem.run, hb, World.withObj]
variable (hr : Rel T base w0 ρ s w) (ha : AR ρ ca a) (hT : T.Ok)
include hr ha
theorem map_new {i : Nat} {e : Ent} : VR (Ren.set ρ i e) (.map (some i)) (.map (some e.b)) := VR.map (Ren.set_same ρ i e)
/-- a new object that is no row of cells -/
theorem newObj_gives {o : CObj} {r : Obj} {mk : Nat → Value} {v' : Value} (ho : ∀ e : Ent, e = ⟨w.heap.size, 0, 0, 0, 0⟩ → OR T (Ren.set ρ s.next e) e o r) (hk : quietK s (.alloc o mk) k = some x)
    (hm : ∀ e : Ent, e = ⟨w.heap.size, 0, 0, 0, 0⟩ → VR (Ren.set ρ s.next e) (mk s.next) v') :
    Sound1 T base w0 ρ s w k x v' { w with heap := w.heap.push r } := by
  obtain ⟨s', h1, h2, h3, h4⟩ := quiet_alloc hk
  have := hr.alloc (e := ⟨w.heap.size, 0, 0, 0, 0⟩) h2 h3 h4 rfl (ho _ rfl)
  exact ⟨_, s', _, h1, this.2, this.1, hm _ rfl⟩
omit hr ha in
theorem makeMap_sound {t : TypeId} : ∃ v' w', (Instr.makeMap t none).run T.P w = .ok v' w' ∧ FreshG T ρ w (.map [] 0) (fun id => .map (some id)) v' w' :=
  ⟨.map (some w.heap.size), _, by simp [Instr.makeMap, newObj, Sem.run], ⟨w.heap.size, 0, 0, 0, 0⟩, .map #[] 0, rfl, rfl, .map ERs.nil, fun ρ' id h => VR.map h⟩
include hT
theorem copRange_sound {t : TypeId} {y : Operand} {r : OpR} (h : copRange T (ceval T ca) t y = some r) (hk : quietK s r k = some x) :
    ∃ v' w', (Instr.range t (a.eval y)).run T.P w = .ok v' w' ∧ Sound1 T base w0 ρ s w k x v' w' := by
  unfold copRange at h
  split at h
  · rename_i b h1 h2
    cases h
    have hv := ha.eval hr h2
    generalize a.eval y = u at hv
    cases hv
    refine ⟨.pointer (some ⟨w.heap.size, 0, none⟩), _, ?_, newObj_gives (r := .stringIter b 0) hr ha (fun e he => .iter (by rw [he])) hk (fun e he => by
      have := ptr_new (ρ := ρ) hr ha (i := s.next) (e := e) (by rw [he])
      rw [he] at this ⊢
      exact this)⟩
    simp [Instr.range, hT.run_under h1, newObj, Sem.run]
  · cases h
theorem copNext_sound {y : Operand} {ty : TypeId} {r : OpR} (h : copNext s.heap (ceval T ca) y = some r) (hk : quietK s r k = some x) :
    ∃ v' w', (Instr.next (a.eval y) true ty).run T.P w = .ok v' w' ∧ Sound1 T base w0 ρ s w k x v' w' := by
  unfold copNext at h
  split at h
  · rename_i i h1
    have hv := ha.eval hr h1
    generalize a.eval y = u at hv
    split at h
    · rename_i b pos h2
      cases hv with
      | ptr he =>
        rename_i eb
        obtain ⟨q, g1, g2⟩ := hr.obj _ _ _ h2 he
        have hb : base ≤ eb.b := (hr.own _ _ _ h2 he).resolve_right (by rintro ⟨vs, el, n, q, _⟩; cases q)
        cases g2 with
        | iter hd =>
          have hgo : (getObj eb.b).run T.P w = .ok (.stringIter b pos) w := by simp [getObj, Sem.run, g1]
          have hso := fun o' => run_setIter (P := T.P) (o' := o') g1
          have e0 : 0 + eb.d = 0 := by omega
          rw [e0]
          split at h
          · rename_i hlt
            cases h
            have hlt : pos < b.size := by simpa [Nat.blt_eq] using hlt
            obtain ⟨s', q1, q2, q3, q4⟩ := quiet_upd hk
            have := hr.upd (r' := .stringIter b (pos + (Utf8.decode b pos).2)) (e := eb) q2 h2 he q3 q4 hb (.iter hd)
            refine ⟨_, _, ?_, _, s', _, q1, this.2, this.1, VR.tuple' (.cons (.bool _) (.cons (.int _ _) (.cons (.int _ _) .nil)))⟩
            simp only [Instr.next, Sem.run_bind, hgo, Result.andThen_ok, if_pos hlt, hso, Sem.run_pure]
            rfl
          · rename_i hlt
            cases h
            have hlt : ¬ pos < b.size := fun q => by rw [← Nat.blt_eq] at q; rw [q] at hlt; cases hlt
            refine ⟨.tuple #[.bool false], w, ?_, .same hr (quiet_val hk) (VR.tuple' (.cons (.bool _) .nil))⟩
            simp only [Instr.next, Sem.run_bind, hgo, Result.andThen_ok, if_neg hlt, Sem.run_pure]
    · cases h
  · cases h
theorem copFunc_sound {fn : Fn} {f c : Array Operand} {r : OpR} (h : copFunc (ceval T ca) fn f c = some r) (hk : quietK s r k = some x) :
    ∃ v', (Instr.makeFunc fn (f.map a.eval) (c.map a.eval)).run T.P w = .ok v' w ∧ Sound1 T base w0 ρ s w k x v' w := by
  unfold copFunc at h
  split at h
  · rename_i g xs ys h1 h2
    cases h
    have e1 := evs_sound hr ha hT h1
    have e2 := evs_sound hr ha hT h2
    refine ⟨.func (.func g) (f.map a.eval) (c.map a.eval), by simp [Instr.makeFunc], .same hr (quiet_val hk) ?_⟩
    have := VR.func' (f := g) e1 e2
    have q : ∀ z : Array Operand, (⟨z.toList.map a.eval⟩ : Array Value) = z.map a.eval := fun z => by rw [← Array.toList_inj]; simp
    rw [q, q] at this
    exact this
  · cases h
theorem lookupOp_sound {t : TypeId} {y z : Operand} {ok : Bool} {r : OpR} (h : copLookup T s.heap (ceval T ca) t y z ok = some r) (hk : quietK s r k = some x) :
    ∃ v', (Instr.lookup t (a.eval y) (a.eval z) ok).run T.P w = .ok v' w ∧ Sound1 T base w0 ρ s w k x v' w := by
  unfold copLookup at h
  split at h
  · rename_i m kk kt elem h1 h2 h3
    split at h
    · rename_i es h4
      exact lookup_sound hr hT h3 h4 h hk (ha.eval hr h1) (ha.eval hr h2)
    · cases h
  · cases h
theorem updateOp_sound {t : TypeId} {y z v : Operand} {r : OpR} (h : copUpdate T s.heap (ceval T ca) t y z v = some r) (hk : quietK s r k = some x) :
    ∃ w', (Instr.mapUpdate t (a.eval y) (a.eval z) (a.eval v)).run T.P w = .ok () w' ∧ Sound1 T base w0 ρ s w k x undef w' := by
  unfold copUpdate at h
  split at h
  · rename_i i kk vv h1 h2 h3
    have hv := ha.eval hr h1
    generalize a.eval y = u at hv
    cases hv with
    | map he => exact mapPut_sound hr hT h hk he (ha.eval hr h2) (ha.eval hr h3)
  · cases h
theorem entryOp_sound {t : TypeId} {y z : Operand} {r : OpR} (h : copMapEntry T s.heap (ceval T ca) t y z = some r) (hk : quietK s r k = some x) :
    ∃ v' w', (Instr.mapEntry t (a.eval y) (a.eval z)).run T.P w = .ok v' w' ∧ Sound1 T base w0 ρ s w k x v' w' := by
  unfold copMapEntry at h
  split at h
  · rename_i i kk kt elem h1 h2 h3
    split at h
    · rename_i es clock h4
      have hv := ha.eval hr h1
      generalize a.eval y = u at hv
      cases hv with
      | map he => exact mapEntry_sound hr hT h3 (mapOf_some h4) h hk he (ha.eval hr h2)
    · cases h
  · cases h
theorem storeOp_sound {t : TypeId} {y z v : Operand} {r : OpR} (h : copEntryStore s.heap (ceval T ca) y z v = some r) (hk : quietK s r k = some x) :
    ∃ w', (Instr.entryStore t (a.eval y) (a.eval z) (a.eval v)).run T.P w = .ok () w' ∧ Sound1 T base w0 ρ s w k x undef w' := by
  unfold copEntryStore at h
  split at h
  · rename_i i kd born vv h1 h2 h3
    split at h
    · rename_i es clock h4
      split at h
      · rename_i j h5
        cases h
        have hv := ha.eval hr h1
        have hz := ha.eval hr h2
        generalize a.eval y = u at hv
        generalize a.eval z = u2 at hz
        cases hz
        cases hv with
        | map he => exact entryStore_sound hr (mapOf_some h4) h5 hk he (ha.eval hr h3)
      · cases h
    · cases h
  · cases h
omit ha in
theorem builtinC_sound {b : Builtin} {ts : Array TypeId} {ty : TypeId} {consts : Array Bool} {args : List Value} {args' : Array Value} {r : OpR} (h : builtinC T s.heap b ts args = some r) (hk : quietK s r k = some x)
    (hv : VRs ρ args args'.toList) :
    ∃ v' w', (builtin b ts ty consts args').run T.P w = .ok (.value v') w' ∧ Sound1 T base w0 ρ s w k x v' w' := by
  have one : ∀ {u : Value}, args = [u] → ∃ u', args' = #[u'] ∧ VR ρ u u' := by
    intro u e
    subst e
    obtain ⟨y, m, e, h1, h2⟩ := hv.cons_left
    rw [h2.nil_left] at e
    exact ⟨y, by rw [← Array.toList_inj, e], h1⟩
  have two : ∀ {u v : Value}, args = [u, v] → ∃ u' v', args' = #[u', v'] ∧ VR ρ u u' ∧ VR ρ v v' := by
    intro u v e
    subst e
    obtain ⟨y, m, e, h1, h2⟩ := hv.cons_left
    obtain ⟨y2, m2, e2, h3, h4⟩ := h2.cons_left
    rw [h4.nil_left] at e2
    exact ⟨y, y2, by rw [← Array.toList_inj, e, e2], h1, h3⟩
  have hd : ∀ {t : TypeId} {l : List TypeId}, ts.toList = t :: l → ts[0]? = some t := fun e => by rw [← Array.getElem?_toList, e]; rfl
  have hd1 : ∀ {t u : TypeId} {l : List TypeId}, ts.toList = t :: u :: l → ts[1]? = some u := fun e => by rw [← Array.getElem?_toList, e]; rfl
  have fin : ∀ {sm : Sem Value}, (∃ v' w', sm.run T.P w = .ok v' w' ∧ Sound1 T base w0 ρ s w k x v' w') →
      ∃ v' w', (do Pure.pure (Next.value (← sm)) : Sem Next).run T.P w = .ok (.value v') w' ∧ Sound1 T base w0 ρ s w k x v' w' := by
    rintro sm ⟨v', w', g1, g2⟩
    exact ⟨v', w', by simp [g1], g2⟩
  have fin1 : ∀ {sm : Sem Value}, (∃ v', sm.run T.P w = .ok v' w ∧ Sound1 T base w0 ρ s w k x v' w) →
      ∃ v' w', (do Pure.pure (Next.value (← sm)) : Sem Next).run T.P w = .ok (.value v') w' ∧ Sound1 T base w0 ρ s w k x v' w' := by
    rintro sm ⟨v', g1, g2⟩
    exact fin ⟨v', w, g1, g2⟩
  unfold builtinC at h
  split at h
  · obtain ⟨u', rfl, hu⟩ := one rfl
    split at h
    · rename_i e; exact fin1 (lenB_sound hr hT h hk (hd e) hu)
    · cases h
  · obtain ⟨u', rfl, hu⟩ := one rfl
    split at h
    · rename_i e; exact fin1 (capB_sound hr hT h hk (hd e) hu)
    · cases h
  · obtain ⟨u', y', rfl, hu, hy⟩ := two rfl
    split at h
    · rename_i e; exact fin (appendC_sound hr hT h hk (hd e) (hd1 e) hu hy)
    · cases h
  · obtain ⟨u', y', rfl, hu, hy⟩ := two rfl
    split at h
    · rename_i e; exact fin (copyC_sound hr hT h hk (hd e) hu hy)
    · cases h
  · obtain ⟨y, m, e, h1, h2⟩ := hv.cons_left
    split at h
    · rename_i v hm
      cases h
      have e : args' = ⟨y :: m⟩ := by rw [← Array.toList_inj, e]
      subst e
      exact fin1 (min_sound hr hm hk h1 h2)
    · cases h
  · obtain ⟨y, m, e, h1, h2⟩ := hv.cons_left
    split at h
    · rename_i v hm
      cases h
      have e : args' = ⟨y :: m⟩ := by rw [← Array.toList_inj, e]
      subst e
      exact fin1 (max_sound hr hm hk h1 h2)
    · cases h
  · obtain ⟨u', y', rfl, hu, hy⟩ := two rfl
    split at h
    · rename_i e
      cases hu with
      | map he => exact fin (delete_sound hr hT h hk (hd e) he hy)
    · cases h
  · obtain ⟨u', rfl, hu⟩ := one rfl
    split at h
    · rename_i e; exact fin (clear_sound hr hT h hk (hd e) hu)
    · cases h
  · cases h; cases hk
  · obtain ⟨u', rfl, hu⟩ := one rfl
    exact fin1 (sliceData_sound hr h hk hu)
  · obtain ⟨u', y', rfl, hu, hy⟩ := two rfl
    cases hy
    split at h
    · rename_i e; exact fin (unsafeString_sound hr hT h hk (hd e) hu)
    · cases h
  · cases h
end
end Go.Canon
end
