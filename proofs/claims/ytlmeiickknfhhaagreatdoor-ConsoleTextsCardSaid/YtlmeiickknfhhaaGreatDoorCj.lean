/- This program's tables fit the evaluator, and its four bodiless functions and slices.Insert answer as it says; no conditions. -/
import Derived.KernelRfl
import Derived.Laws.Externs
import Derived.Room.MakeNoZero
import Derived.Shelf.Spec.SlicesInsert
import Derived.Lib.AppendZerosOnto
import Derived.CallsIn
import Derived.Test.YtlmeiickknfhhaaGreatDoorCi
import Derived.Test.YtlmeiickknfhhaaGreatDoorKt
set_option linter.all false
set_option linter.unusedVariables false
set_option linter.unusedSimpArgs false
set_option linter.unusedSectionVars false
set_option linter.unnecessarySimpa false
section
namespace Go.Canon
open Go Go.RowKit
set_option linter.unusedSectionVars false
/-! ### the program's tables -/
theorem T0_ok : T0.Ok where
  ty i t h := by rw [← Array.getElem?_toList]; exact Tr.mk_get (d := 64) h
  fn i f h := by rw [← Array.getElem?_toList]; exact Tr.mk_get (d := 64) h
theorem glT_get {g i : Nat} (h : glT.get g = some i) : g = 2 ∧ i = 0 := by
  have h : (mkGet 48 g : GetF Nat).run glT = some i := h
  cases g with
  | zero => cases h
  | succ k =>
    rw [glT, mkGet_succ] at h
    cases hk : (k % 2).beq 0 with
    | true => rw [hk] at h; simp only [cond_true] at h; rw [mkGet_nil] at h; cases h
    | false =>
      rw [hk] at h
      simp only [cond_false] at h
      have h0 : k % 2 ≠ 0 := fun q => by rw [q] at hk; cases hk
      cases hd : k / 2 with
      | zero =>
        rw [hd] at h
        cases h
        exact ⟨by omega, rfl⟩
      | succ m =>
        rw [hd, mkGet_succ] at h
        cases hm : (m % 2).beq 0 <;> rw [hm] at h <;> simp only [cond_true, cond_false] at h <;> rw [mkGet_nil] at h <;> cases h
theorem mem_fn {i : Nat} {f : Func} (h : T0.fn.get i = some f) : f ∈ Go.Proofs.Tryz.prog.funcs.toList := List.mem_of_getElem? (Tr.mk_get (d := 64) h)
def numOk (f : Func) : Bool := !(f.name == "runtime.NumGoroutine")
theorem nums : (Go.Proofs.Tryz.prog.funcs.toList.all numOk) = true := by kernel_rfl
theorem T0_mixed : T0.P.follows .mixedOrders = true := by kernel_rfl
theorem g0_scalars : ∃ vs el fz, g0 = .cells vs el fz ∧ scalars vs = true := ⟨_, _, _, rfl, by kernel_rfl⟩
theorem T0_fit : T0.Fit where
  mixed := T0_mixed
  num i f h := by
    have := List.all_eq_true.1 nums f (mem_fn h)
    simpa [numOk] using this
  gobjs o ho := by
    have : o = g0 := by simpa [T0] using ho
    subst this
    exact g0_scalars
  gls g i h := by
    have := (glT_get h).2
    subst this
    decide
end Go.Canon
end
section
namespace Go.Canon
open Go Go.RowKit
set_option linter.unusedSectionVars false
/-! ### the functions that are not walked -/
def natsOk : List Nat → Nat → Bool
  | [], _ => true
  | k :: l, i => (Nat.beq k 0 || ((Nat.beq i 69 && Nat.beq k 1) || ((Nat.beq i 225 && Nat.beq k 3) || ((Nat.beq i 89 && Nat.beq k 4) || ((Nat.beq i 218 && Nat.beq k 6) || (Nat.beq i 426 && Nat.beq k 5)))))) && natsOk l (Nat.succ i)
theorem nats_ok : natsOk natL 0 = true := by kernel_rfl
theorem nbeq_eq {a b : Nat} : Nat.beq a b = true ↔ a = b := ⟨Nat.eq_of_beq_eq_true, fun h => by subst h; exact Nat.beq_refl a⟩
theorem natsOk_get : ∀ (l : List Nat) (i j k : Nat), natsOk l i = true → l[j]? = some (k + 1) →
    (i + j = 69 ∧ k + 1 = 1) ∨ (i + j = 225 ∧ k + 1 = 3) ∨ (i + j = 89 ∧ k + 1 = 4) ∨ (i + j = 218 ∧ k + 1 = 6) ∨ (i + j = 426 ∧ k + 1 = 5) := by
  intro l
  induction l with
  | nil => intro i j k _ h; simp at h
  | cons x l ih =>
    intro i j k h hj
    simp only [natsOk, Bool.and_eq_true, Bool.or_eq_true, nbeq_eq] at h
    obtain ⟨h1, h2⟩ := h
    cases j with
    | zero =>
      simp only [List.getElem?_cons_zero, Option.some.injEq] at hj
      rcases h1 with h1 | h1 | h1 | h1 | h1 | h1 <;> omega
    | succ j =>
      have := ih _ j k h2 (by simpa using hj)
      omega
theorem natL_get {f k : Nat} (h : T0.nat.get f = some (k + 1)) : (f = 69 ∧ k + 1 = 1) ∨ (f = 225 ∧ k + 1 = 3) ∨ (f = 89 ∧ k + 1 = 4) ∨ (f = 218 ∧ k + 1 = 6) ∨ (f = 426 ∧ k + 1 = 5) := by
  have h : natL[f]? = some (k + 1) := Tr.mk_get (d := 64) h
  have := natsOk_get natL 0 f k nats_ok h
  omega
theorem isSome_of_isNone {α : Type} {o : Option α} (h : o.isNone = true) : o.isSome = false := by cases o <;> simp_all
section
variable {base : Nat} {w0 w : World} {ρ : Ren} {s : CSt}
theorem extern_gives {T : Tab} {f : FuncId} {fn : Func} {e : Array Value → Sem Value} {args' : Array Value} {v : Value} {s' : CSt} (hf : T.P.funcs[f]? = some fn) (hname : (fn.name == "runtime.NumGoroutine") = false)
    (hb : fn.body.isNone = true) (hn : Extern.findNext fn = none) (he : Extern.find fn = some e)
    (h : ∃ v' w', (e args').run T.P w = .ok v' w' ∧ Sound1 T base w0 ρ s w (fun v s => some (packV v s)) (packV v s') v' w') :
    CallGives T.P f args' w (fun v' w' => SoundV T base w0 ρ s w v s' v' w') := by
  obtain ⟨v', w', h1, h2⟩ := h
  refine ⟨fn, hf, hname, .inr ⟨isSome_of_isNone hb, v', w', ?_, h2.toV⟩⟩
  rw [run_callFunc_extern hf hname hb hn he, h1]
  rfl
theorem VRs.one {ρ : Ren} {x : Value} {m : List Value} (h : VRs ρ [x] m) : ∃ y, m = [y] ∧ VR ρ x y := by
  obtain ⟨h1, h2⟩ := h
  match m, h1 with
  | [y], _ => exact ⟨y, rfl, h2 0 (by simp)⟩
theorem VRs.two {ρ : Ren} {x x2 : Value} {m : List Value} (h : VRs ρ [x, x2] m) : ∃ y y2, m = [y, y2] ∧ VR ρ x y ∧ VR ρ x2 y2 := by
  obtain ⟨h1, h2⟩ := h
  match m, h1 with
  | [y, y2], _ => exact ⟨y, y2, rfl, h2 0 (by simp), h2 1 (by simp)⟩
theorem f69_at : T0.P.funcs[69]? = some Go.Proofs.Tryz.f69 := by kernel_rfl
theorem f225_at : T0.P.funcs[225]? = some Go.Proofs.Tryz.f225 := by kernel_rfl
theorem f89_at : T0.P.funcs[89]? = some Go.Proofs.Tryz.f89 := by kernel_rfl
theorem f218_at : T0.P.funcs[218]? = some Go.Proofs.Tryz.f218 := by kernel_rfl
theorem nat1 {args : List Value} {r : OpR} {v : Value} {s' : CSt} {args' : Array Value} {fn : Func} (h : nativeC T0 s.heap 1 fn args = some r) (hk : quietK s r outV0 = some ⟨v, s'⟩) (hr : Rel T0 base w0 ρ s w) (hv : VRs ρ args args'.toList) :
    CallGives T0.P 69 args' w (fun v' w' => SoundV T0 base w0 ρ s w v s' v' w') := by
  refine extern_gives (e := Extern.AbiNoEscape.same) f69_at (by kernel_rfl) (by kernel_rfl) (by kernel_rfl) (by kernel_rfl) ?_
  simp only [nativeC] at h
  split at h <;> first | (cases h; done) | (rename_i hh; cases hh; done) | skip
  all_goals first | (rename_i hh _; cases hh; done) | skip
  rename_i x _
  cases h
  obtain ⟨y, h1, h2⟩ := hv.one
  have : args' = #[y] := by rw [← Array.toList_inj, h1]
  subst this
  exact ⟨y, w, rfl, .same hr (quiet_val (quiet_pack hk)) h2⟩
theorem nat3 {args : List Value} {r : OpR} {v : Value} {s' : CSt} {args' : Array Value} {fn : Func} (h : nativeC T0 s.heap 3 fn args = some r) (hk : quietK s r outV0 = some ⟨v, s'⟩) (hr : Rel T0 base w0 ρ s w) (hv : VRs ρ args args'.toList) :
    CallGives T0.P 225 args' w (fun v' w' => SoundV T0 base w0 ρ s w v s' v' w') := by
  refine extern_gives (e := Extern.BytealgIndexByte.indexByte) f225_at (by kernel_rfl) (by kernel_rfl) (by kernel_rfl) (by kernel_rfl) ?_
  simp only [nativeC] at h
  split at h <;> first | (cases h; done) | (rename_i hh; cases hh; done) | skip
  all_goals first | (rename_i hh _; cases hh; done) | skip
  rename_i b c _
  obtain ⟨y, y2, h1, h2, h3⟩ := hv.two
  cases h2; cases h3
  have : args' = #[.string b, .int .u8 c] := by rw [← Array.toList_inj, h1]
  subst this
  refine ⟨_, w, run_indexByte_string b c w, ?_⟩
  simp only [firstIdx, show c.toNat.toUInt8 = UInt8.ofNat c.toNat from rfl]
  split at h
  · rename_i i hi
    cases h
    rw [hi]
    exact .same hr (quiet_val (quiet_pack hk)) (.int _ _)
  · rename_i hi
    cases h
    rw [hi]
    exact .same hr (quiet_val (quiet_pack hk)) (.int _ _)
theorem nat4 {args : List Value} {r : OpR} {v : Value} {s' : CSt} {args' : Array Value} {fn : Func} (h : nativeC T0 s.heap 4 fn args = some r) (hk : quietK s r outV0 = some ⟨v, s'⟩) (hr : Rel T0 base w0 ρ s w) (hv : VRs ρ args args'.toList) :
    CallGives T0.P 89 args' w (fun v' w' => SoundV T0 base w0 ρ s w v s' v' w') := by
  refine extern_gives (e := Extern.BytealgCount.count) f89_at (by kernel_rfl) (by kernel_rfl) (by kernel_rfl) (by kernel_rfl) ?_
  simp only [nativeC] at h
  split at h <;> first | (cases h; done) | (rename_i hh; cases hh; done) | skip
  all_goals first | (rename_i hh _; cases hh; done) | skip
  rename_i b c _
  obtain ⟨y, y2, h1, h2, h3⟩ := hv.two
  cases h2; cases h3
  have : args' = #[.string b, .int .u8 c] := by rw [← Array.toList_inj, h1]
  subst this
  cases h
  refine ⟨goInt (b.foldl (fun n x => if x == UInt8.ofNat c.toNat then n + 1 else n) (0 : Nat)), w, ?_, .same hr (quiet_val (quiet_pack hk)) (.int _ _)⟩
  show Sem.run _ (do
    let b ← Extern.Bytes.bytesOf (.string b)
    let c' ← Extern.Bytes.asByte (.int .u8 c)
    pure (goInt (b.foldl (fun n x => if x == c' then n + 1 else n) (0 : Nat)))) w = _
  simp only [Extern.Bytes.bytesOf, Extern.Bytes.asByte, Sem.run_bind, Sem.run_pure, Result.andThen]
theorem u31 : T0.under 31 = some (.slice 5) := by kernel_rfl
theorem s6 : T0.sizeOf 5 = some 1 := by kernel_rfl
theorem nat6 {args : List Value} {r : OpR} {v : Value} {s' : CSt} {args' : Array Value} (h : nativeC T0 s.heap 6 Go.Proofs.Tryz.f218 args = some r) (hk : quietK s r outV0 = some ⟨v, s'⟩) (hr : Rel T0 base w0 ρ s w) (hv : VRs ρ args args'.toList) :
    CallGives T0.P 218 args' w (fun v' w' => SoundV T0 base w0 ρ s w v s' v' w') := by
  refine extern_gives (e := Extern.BytealgMakeNoZero.makeNoZero #[3] #[31]) f218_at (by kernel_rfl) (by kernel_rfl) (by kernel_rfl) (by kernel_rfl) ?_
  simp only [nativeC] at h
  split at h <;> first | (cases h; done) | (rename_i hh; cases hh; done) | skip
  all_goals first | (rename_i hh _; cases hh; done) | skip
  rename_i n _
  obtain ⟨y, h1, h2⟩ := hv.one
  cases h2
  have : args' = #[.int .i64 (.ofNat n)] := by rw [← Array.toList_inj, h1]
  subst this
  cases hb : Nat.ble n 1048576 with
  | false => rw [hb] at h; cases h
  | true =>
  rw [hb] at h
  simp only [cond_true, show Go.Proofs.Tryz.f218.resultTypes.toList = [31] from by kernel_rfl, u31] at h
  cases h
  have hn := ble_iff.1 hb
  obtain ⟨cs, h1, h2, _⟩ := Lib.run_makeNoZero_cap w #[3] 31 5 (T0_ok.under u31) n (by omega)
  refine ⟨_, _, h1, ?_⟩
  obtain ⟨s2, q1, q2, q3, q4⟩ := quiet_alloc (quiet_pack hk)
  have := hr.drew.drew.newCells (fr := (0, 0)) (arr := cs) q2 q3 q4 (CellsRel.pre (arr := #[]) (rest := cs) (VRs.nil) |> fun h => by simpa using h) (Nat.zero_le _) s6 (FR.zero _ _)
  refine ⟨_, s2, _, q1, this.2.of_drew.of_drew, this.1, ?_⟩
  exact gs_new (off := 0) rfl h2 (by simp) (by simp)
end
end Go.Canon
end
section
namespace Go.Canon
open Go Go.RowKit Go.Lib Go.Proofs
set_option maxRecDepth 100000 in
set_option maxHeartbeats 4000000 in
theorem ins_room (b off c vb voff vc : Nat) (w W1 W2 : World) (hroom : 2 ≤ c)

    (hov : ∀ lb cb, (callFunc 446 #[.slice (some ⟨vb, voff, none⟩) 1 vc, .slice (some ⟨b, off + 6, none⟩) lb cb]).run Tryz.prog w = .ok (.value (.bool false)) w)
    (hcp1 : ∀ ty, (Builtin.copy_ #[34, 34] ty #[.slice (some ⟨b, off + 6, none⟩) 1 (c - 1), .slice (some ⟨b, off, none⟩) 2 c]).run Tryz.prog w.drew = .ok (goInt 1) W1)
    (hcp2 : ∀ ty, (Builtin.copy_ #[34, 34] ty #[.slice (some ⟨b, off, none⟩) 2 c, .slice (some ⟨vb, voff, none⟩) 1 vc]).run Tryz.prog W1 = .ok (goInt 1) W2) :
    Calls Tryz.prog 426 #[.slice (some ⟨b, off, none⟩) 1 c, .int .i64 0, .slice (some ⟨vb, voff, none⟩) 1 vc] w fun e w' =>
      e = .returned (.slice (some ⟨b, off, none⟩) 2 c) ∧ w' = W2 := by
  have u34 : ∀ w, (underlying 34).run Tryz.prog w = .ok (.slice 79) w := fun w => T0_ok.run_under (show T0.under 34 = some (.slice 79) by kernel_rfl) w
  have u3 : ∀ w, (underlying 3).run Tryz.prog w = .ok (.int .i64) w := fun w => T0_ok.run_under (show T0.under 3 = some (.int .i64) by kernel_rfl) w
  have u4 : ∀ w, (underlying 4).run Tryz.prog w = .ok .bool w := fun w => T0_ok.run_under (show T0.under 4 = some .bool by kernel_rfl) w
  have z79 : ∀ w, (Go.sizeOf 79).run Tryz.prog w = .ok 6 w := fun w => T0_ok.run_size (show T0.sizeOf 79 = some 6 by kernel_rfl) w
  have mixed : Tryz.prog.follows .mixedOrders = true := T0_mixed
  have hw1 : IntKind.i64.wrap 1 = 1 := by decide
  have hb4 : ¬ (c = 1) := by omega
  have hb5 : ¬ (c = 0) := by omega
  go_enter Tryz.func426, Tryz.ntmps426
  go_wp2
  go_region_law_o (refine step_copy_runI rfl _ _ 34 34 rfl _ _ (by simp [Act.eval, Act.put]) (by simp [Act.eval, Act.put]) (hcp1 _) ?_)
  go_wp2_with (at_builtin; refine wpList_copy_runI _ rfl _ _ 34 34 rfl _ _ rfl rfl (hcp2 _) ?_)
  go_ret
  exact ⟨rfl, rfl⟩
set_option maxRecDepth 100000 in
set_option maxHeartbeats 4000000 in
theorem ins_new (b off vb voff vc nb G : Nat) (w W1 W2 W3 : World) (hG : 2 ≤ G)
    (hap : ∀ ty, (Builtin.append_ #[34, 3] ty #[.slice (some ⟨b, off, none⟩) 0 1, .int .i64 2]).run Tryz.prog w = .ok (.slice (some ⟨nb, 0, none⟩) 2 G) W1)
    (hcp1 : ∀ ty, (Builtin.copy_ #[34, 34] ty #[.slice (some ⟨nb, 0, none⟩) 2 G, .slice (some ⟨vb, voff, none⟩) 1 vc]).run Tryz.prog W1 = .ok (goInt 1) W2)
    (hcp2 : ∀ ty, (Builtin.copy_ #[34, 34] ty #[.slice (some ⟨nb, 6, none⟩) 1 (G - 1), .slice (some ⟨b, off, none⟩) 1 1]).run Tryz.prog W2.drew = .ok (goInt 1) W3) :
    Calls Tryz.prog 426 #[.slice (some ⟨b, off, none⟩) 1 1, .int .i64 0, .slice (some ⟨vb, voff, none⟩) 1 vc] w fun e w' =>
      e = .returned (.slice (some ⟨nb, 0, none⟩) 2 G) ∧ w' = W3 := by
  have u34 : ∀ w, (underlying 34).run Tryz.prog w = .ok (.slice 79) w := fun w => T0_ok.run_under (show T0.under 34 = some (.slice 79) by kernel_rfl) w
  have u3 : ∀ w, (underlying 3).run Tryz.prog w = .ok (.int .i64) w := fun w => T0_ok.run_under (show T0.under 3 = some (.int .i64) by kernel_rfl) w
  have u4 : ∀ w, (underlying 4).run Tryz.prog w = .ok .bool w := fun w => T0_ok.run_under (show T0.under 4 = some .bool by kernel_rfl) w
  have z79 : ∀ w, (Go.sizeOf 79).run Tryz.prog w = .ok 6 w := fun w => T0_ok.run_size (show T0.sizeOf 79 = some 6 by kernel_rfl) w
  have mixed : Tryz.prog.follows .mixedOrders = true := T0_mixed
  have hw1 : IntKind.i64.wrap 1 = 1 := by decide
  have hw2 : IntKind.i64.wrap 2 = 2 := by decide
  have hb4 : ¬ (G = 1) := by omega
  have hb5 : ¬ (G = 0) := by omega
  go_enter Tryz.func426, Tryz.ntmps426
  go_wp2_with (first
    | (at_builtin; refine Lib.wpList_append_run _ rfl _ _ _ _ rfl _ _ rfl rfl _ _ (hap _) ?_)
    | (at_builtin; refine wpList_copy_runI _ rfl _ _ 34 34 rfl _ _ rfl rfl (hcp1 _) ?_))
  go_region_law_o (refine step_copy_runI rfl _ _ 34 34 rfl _ _ (by simp [Act.eval, Act.put]) (by simp [Act.eval, Act.put]) (hcp2 _) ?_)
  go_wp2
  go_ret
  exact ⟨rfl, rfl⟩
end Go.Canon
end
section
namespace Go.Canon
open Go Go.RowKit Go.Lib Go.Proofs
set_option linter.unusedSectionVars false
set_option linter.unusedVariables false
/-! ### slices.Insert: one value, ahead of one -/
section
variable {T : Tab} {base : Nat} {w0 w w' : World} {ρ : Ren} {s : CSt}
theorem Rel.world (h : Rel T base w0 ρ s w) (hb : Below base w w') (hs : w.heap.size ≤ w'.heap.size)
    (ho : ∀ i o e r, s.heap.get i = some o → ρ i = some e → w.heap[e.b]? = some r → OR T ρ e o r → ∃ r', w'.heap[e.b]? = some r' ∧ OR T ρ e o r') : Rel T base w0 ρ s w' where
  obj i o e h1 h2 := by obtain ⟨r, g1, g2⟩ := h.obj i o e h1 h2; exact ho i o e r h1 h2 g1 g2
  inj := h.inj
  own := h.own
  dom := h.dom
  below := h.below.trans hb
  base_le := Nat.le_trans h.base_le hs
  glob := h.glob
  gl := h.gl
theorem below_withObj {b : Nat} {o : Obj} (h : base ≤ b) : Below base w (World.withObj w b o) :=
  ⟨rfl, rfl, rfl, by rw [withObj_size]; exact Nat.le_refl _, fun k hk => withObj_other (by omega)⟩
theorem below_push {o : Obj} (h : base ≤ w.heap.size) : Below base w (w.alloc o) :=
  ⟨rfl, rfl, rfl, by show w.heap.size ≤ (w.heap.push o).size; rw [Array.size_push]; omega, fun k hk => by show (w.heap.push o)[k]? = _; rw [Array.getElem?_push, if_neg (by omega)]⟩
theorem push_other {o : Obj} {k : Nat} (h : k < w.heap.size) : (w.alloc o).heap[k]? = w.heap[k]? := by
  show (w.heap.push o)[k]? = _; rw [Array.getElem?_push, if_neg (by omega)]
theorem push_at {o : Obj} : (w.alloc o).heap[w.heap.size]? = some o := by show (w.heap.push o)[w.heap.size]? = _; simp
/-- a free block is written -/
theorem Rel.free (h : Rel T base w0 ρ s w) {nb : Nat} {o : Obj} (hb : base ≤ nb) (hf : ∀ i o e, s.heap.get i = some o → ρ i = some e → e.b ≠ nb) : Rel T base w0 ρ s (World.withObj w nb o) :=
  h.world (below_withObj hb) (by rw [withObj_size]; exact Nat.le_refl _) fun i o e r h1 h2 h3 h4 => ⟨r, by rw [withObj_other (hf i o e h1 h2)]; exact h3, h4⟩
theorem Rel.pushed (h : Rel T base w0 ρ s w) {o : Obj} : Rel T base w0 ρ s (w.alloc o) :=
  h.world (below_push h.base_le) (by show w.heap.size ≤ (w.heap.push o).size; rw [Array.size_push]; omega) fun i o e r h1 h2 h3 h4 => ⟨r, by rw [push_other (Array.getElem?_eq_some_iff.1 h3).1]; exact h3, h4⟩
/-- the cells behind the known ones are written -/
theorem Rel.spare (h : Rel T base w0 ρ s w) {b : Nat} {vs : List Value} {el : TypeId} {fz fr : Nat × Nat} {e : Ent} {arr arr' : Array Value} (hg : s.heap.get b = some (.cells vs el fz)) (he : ρ b = some e) (hown : base ≤ e.b)
    (hw : w.heap[e.b]? = some (.cells arr el fr)) (hs : arr'.size = arr.size) (hk : ∀ j, j < e.d + e.n → arr'[j]? = arr[j]?) : Rel T base w0 ρ s (World.withObj w e.b (.cells arr' el fr)) := by
  refine h.world (below_withObj hown) (by rw [withObj_size]; exact Nat.le_refl _) fun i o e2 r h1 h2 h3 h4 => ?_
  by_cases hb : e2.b = e.b
  · have : i = b := h.inj _ _ _ _ _ _ h1 hg h2 he hb
    subst this
    rw [hg] at h1; cases h1
    rw [he] at h2; cases h2
    rw [hw] at h3; cases h3
    refine ⟨_, withObj_same (Array.getElem?_eq_some_iff.1 hw).1, ?_⟩
    cases h4 with
    | cells g1 g2 g3 g4 g5 g6 g7 =>
      refine .cells g1 (hs.trans g2) g3 (fun j hj => ?_) g5 g6 g7
      have := g4 j hj
      rw [List.getD_eq_getElem?_getD (l := arr'.toList), Array.getElem?_toList, hk (j + e.d) (by omega), ← Array.getElem?_toList, ← List.getD_eq_getElem?_getD]
      exact this
  · exact ⟨r, by rw [withObj_other hb]; exact h3, h4⟩
theorem VRs.three {ρ : Ren} {x x2 x3 : Value} {m : List Value} (h : VRs ρ [x, x2, x3] m) : ∃ y y2 y3, m = [y, y2, y3] ∧ VR ρ x y ∧ VR ρ x2 y2 ∧ VR ρ x3 y3 := by
  obtain ⟨h1, h2⟩ := h
  match m, h1 with
  | [y, y2, y3], _ => exact ⟨y, y2, y3, rfl, h2 0 (by simp), h2 1 (by simp), h2 2 (by simp)⟩
end
end Go.Canon
end
section
namespace Go.Canon
open Go Go.RowKit Go.Lib Go.Proofs
set_option linter.unusedSectionVars false
set_option linter.unusedVariables false
section
variable {base : Nat} {w0 w : World} {ρ : Ren} {s : CSt}
theorem f446_at : T0.P.funcs[446]? = some Tryz.f446 := by kernel_rfl
theorem u34 : T0.under 34 = some (.slice 79) := by kernel_rfl
theorem u3 : T0.under 3 = some (.int .i64) := by kernel_rfl
theorem s79 : T0.sizeOf 79 = some 6 := by kernel_rfl
theorem overlaps_false {w : World} {vb voff vc b off lb cb : Nat} {tA tB : TypeId} {kA kB : Nat} (hne : vb ≠ b) (hsa : w.shape? vb = some (tA, kA)) (hsb : w.shape? b = some (tB, kB)) (hkB : kB ≠ 0)
    (hfa : w.frozen? ⟨vb, voff, none⟩ = false) (hfe : w.frozen? ⟨vb, kA, none⟩ = false) :
    (callFunc 446 #[.slice (some ⟨vb, voff, none⟩) 1 vc, .slice (some ⟨b, off, none⟩) lb cb]).run Tryz.prog w = .ok (.value (.bool false)) w := by
  have h := run_callFunc_extern (P := Tryz.prog) (f := 446) (fn := Tryz.f446) (e := Extern.SlicesOverlaps.overlaps #[34, 34] #[4]) f446_at (by kernel_rfl) (by kernel_rfl) (by kernel_rfl) (by kernel_rfl)
    #[.slice (some ⟨vb, voff, none⟩) 1 vc, .slice (some ⟨b, off, none⟩) lb cb] w
  rw [h, Lib.run_overlaps_apart (P := Tryz.prog) w 34 4 79 (T0_ok.under u34) 6 (fun w => T0_ok.run_size s79 w) ⟨vb, voff, none⟩ ⟨b, off, none⟩ 1 vc lb cb hne tA tB kA kB hsa hsb hkB hfa hfe]
  rfl
/-- a copy of one element, where its parts are known -/
theorem copy_one {w w' : World} {ts : Array TypeId} {ty : TypeId} {nb o dl dc sl sc : Nat} {a : Addr} {A : Array Value} (hn : Nat.min sl dl = 1) (t0 : ts[0]? = some 34) (hl : (Builtin.firstCells 6 1 (.slice (some a) sl sc)).run T0.P w = .ok A w)
    (hs : (storeCells ⟨nb, o, none⟩ A.toList).run T0.P w = .ok () w') :
    (Builtin.copy_ ts ty #[.slice (some ⟨nb, o, none⟩) dl dc, .slice (some a) sl sc]).run T0.P w = .ok (goInt 1) w' := by
  simp [Builtin.copy_, t0, T0_ok.run_under u34, T0_ok.run_size s79, Builtin.lenOf, hn, hl, hs]
theorem takeN_all {α : Type} : ∀ (l : List α), takeN l.length l = some l
  | [] => rfl
  | x :: l => by show (match takeN l.length l with | some r => some (x :: r) | none => none) = _; rw [takeN_all l]
theorem cells_two {d : Nat} {new vs : List Value} {arr A1 A2 : Array Value} (hn : new.length = 6) (h1 : VRs ρ vs A1.toList) (h2 : VRs ρ new A2.toList) (g2 : ∀ j, j < 6 → arr[j + d]? = A2[j]?) (g1 : ∀ j, j < 6 → arr[j + 6 + d]? = A1[j]?)
    (hv : vs.length = 6) : CellsRel ρ d (new ++ vs) arr := by
  intro j y hy
  by_cases hj : j < new.length
  · rw [List.getElem?_append_left hj] at hy
    obtain ⟨q, q1, q2⟩ := h2.getElem? hy
    exact ⟨q, by rw [g2 j (by omega), ← Array.getElem?_toList]; exact q1, q2⟩
  · rw [List.getElem?_append_right (by omega)] at hy
    have hj2 : j - new.length < vs.length := (List.getElem?_eq_some_iff.1 hy).1
    obtain ⟨q, q1, q2⟩ := h1.getElem? hy
    refine ⟨q, ?_, q2⟩
    have := g1 (j - new.length) (by omega)
    rw [show j - new.length + 6 + d = j + d from by omega] at this
    rw [this, ← Array.getElem?_toList]; exact q1
noncomputable def zero79 : Bool := match T0.ty.get 79 with
  | some t => (match t.zero with
    | some z => Nat.beq t.size 6 && (Nat.ble t.bytes 65536 && Nat.beq z.cells.size 6)
    | none => false)
  | none => false
theorem zero79_ok : zero79 = true := by kernel_rfl
theorem info79 : ∃ t z, T0.P.info? 79 = some t ∧ t.zero = some z ∧ t.size = 6 ∧ t.bytes ≤ 65536 ∧ z.cells.size = 6 := by
  have h := zero79_ok
  unfold zero79 at h
  split at h
  · rename_i t ht
    split at h
    · rename_i z hz
      simp only [Bool.and_eq_true, nbeq_eq] at h
      exact ⟨t, z, T0_ok.info ht, hz, h.1, ble_iff.1 h.2.1, h.2.2⟩
    · cases h
  · cases h
theorem f426_at : T0.P.funcs[426]? = some Tryz.f426 := by kernel_rfl
theorem insAt_sound {r : OpR} {v : Value} {s' : CSt} {args' : Array Value} {b b2 o2 c2 cap : Nat} (h : insAt T0 s.heap 79 6 b b2 o2 c2 = some r) (hk : quietK s r outV0 = some ⟨v, s'⟩) (hne : b ≠ b2) (hcap : BIG ≤ cap)
    (hr : Rel T0 base w0 ρ s w) (hv : VRs ρ [.slice (some ⟨b, 0, none⟩) 1 cap, .int .i64 (.ofNat 0), .slice (some ⟨b2, o2, none⟩) 1 c2] args'.toList) :
    CallGives T0.P 426 args' w (fun v' w' => SoundV T0 base w0 ρ s w v s' v' w') := by
  unfold insAt at h
  split at h
  case h_2 => cases h
  rename_i vs el fz hg
  split at h
  case h_2 => cases h
  rename_i vs2 el2 fz2 hg2
  cases hc : (Nat.beq fz.1 fz.2 && (Nat.beq fz2.1 0 && (Nat.beq fz2.2 0 && (Nat.beq vs.length 6 && (Nat.beq el 79 && oneCells vs))))) with
  | false => rw [hc] at h; cases h
  | true =>
  rw [hc] at h
  simp only [Bool.and_eq_true, nbeq_eq, cond_true] at hc h
  obtain ⟨hz, hz1, hz2, hlen, hel, hone⟩ := hc
  subst hel
  split at h
  case h_2 => cases h
  rename_i new hnew
  cases hone2 : oneCells new with
  | false => rw [hone2] at h; cases h
  | true =>
  rw [hone2] at h
  cases h
  obtain ⟨y1, y2, y3, e1, hv1, hv2, hv3⟩ := hv.three
  cases hv2
  have hargs : args' = #[y1, .int .i64 0, y3] := by rw [← Array.toList_inj, e1]; rfl
  subst hargs
  -- the value's place
  obtain ⟨e2, off2, c2', rfl, he2⟩ : ∃ e2 off2 c2', y3 = .slice (some ⟨Ent.b e2, off2, none⟩) 1 c2' ∧ ρ b2 = some e2 := by
    cases hv3 with
    | xs he hc => exact ⟨_, _, _, rfl, he⟩
    | gs he _ _ _ _ _ => exact ⟨_, _, _, rfl, he⟩
  cases hv1 with
  | xs he hc => omega
  | gs he hcap2 g1 g2 g3 g4 =>
  rename_i off' c' e
  obtain ⟨arr, fr, hw, a1, a2, a3, hcr, hes, hdv, hfr⟩ := hr.cells hg he
  obtain ⟨arrv, frv, hwv, b1, b2', b3, hcrv, hesv, hdvv, hfrv⟩ := hr.cells hg2 he2
  have hez : e.sz = 6 := by rw [s79] at hes; exact (Option.some.inj hes).symm
  rw [hez] at g3 g4
  have hoff : off' = e.d := by have := g1.resolve_left (by omega); omega
  subst hoff
  have hown := (hr.own _ _ _ hg he).resolve_right (not_locked' hz)
  have hbb : e2.b ≠ e.b := fun q => hne (hr.inj _ _ _ _ _ _ hg hg2 he he2 q.symm)
  have hbs : e.b < w.heap.size := (Array.getElem?_eq_some_iff.1 hw).1
  have hbn : b < s.next := Nat.lt_of_not_le fun q => by rw [(hr.dom b q).2] at hg; cases hg
  obtain ⟨s1, q1, q2, q3, q4, q5⟩ := quiet_grow (quiet_pack hk) (by omega)
  obtain ⟨p1, p2⟩ := packV_inj (Option.some.inj q1)
  subst p2
  have hxa : (e.d + 6 ≤ arr.size) := by omega
  have hfit : 1 ≤ c' := g2
  have hfit6 : e.d + c' * 6 ≤ arr.size := by omega
  have hfe2 : frv.1 = frv.2 := by
    rcases hfrv with q | ⟨q, _⟩ | ⟨q, _⟩
    · exact q
    · omega
    · rw [hz1] at q; exact absurd q (by decide)
  have hnf : ∀ j, w.frozen? ⟨e2.b, j, none⟩ = false := by
    intro j
    simp only [World.frozen?, hwv]
    rw [hfe2]
    simp
  have hgv : VR ρ (.slice (some ⟨b, 0, none⟩) 1 cap) (.slice (some ⟨e.b, e.d, none⟩) 1 c') := .gs he hcap (.inr (by omega)) g2 (by rw [hez]; exact g3) (by rw [hez]; exact g4)
  have hfirst : firstC T0 s.heap 6 1 (.slice (some ⟨b, 0, none⟩) 1 cap) = some vs := by
    simp only [firstC, getCells, hg, Option.bind_eq_bind, Option.bind_some]
    rw [show Nat.beq (1 * 6) 0 = false from rfl]
    simp only [cond_false]
    show takeN (1 * 6) vs = some vs
    rw [show 1 * 6 = vs.length from by omega]
    exact takeN_all vs
  have hnl : new.length = 6 := firstC_length hnew rfl (Nat.le_refl _)
  have fin : ∀ (eN : Ent) (arrN : Array Value) (w3 : World) (cN : Nat) (fr' : Nat × Nat), eN.sz = 6 → eN.n = 12 → eN.rn = arrN.size → (eN.b = e.b ∨ eN.b = w.heap.size) → (6 ∣ eN.d) → 2 ≤ cN → eN.d + cN * 6 ≤ arrN.size → 12 ≤ cN * 6 → Below base w.drew w3 → w.heap.size ≤ w3.heap.size →
      w3.heap[eN.b]? = some (.cells arrN 79 fr') → FR fz fr' eN.d eN.rn →
      (∀ q, q < w.heap.size → q ≠ e.b → w3.heap[q]? = w.heap[q]?) → CellsRel ρ eN.d (new ++ vs) arrN →
      SoundV T0 base w0 ρ s w v s1 (.slice (some ⟨eN.b, eN.d, none⟩) 2 cN) w3 := by
    intro eN arrN w3 cN fr' z1 z2 z3 z4 z5 z6 z7 z8 z9 z10 z11 z12 z13 z14
    have := hr.drew.adopt (e := eN) (w' := w3) (r := .cells arrN 79 fr') q2 hg he q3 q4 q5 hown z4 z9 z10 z11 z13
      (.cells (by rw [List.length_append]; omega) z3.symm (by omega) (CellsRel.to (by rw [List.length_append]; omega) (z14.mono (set_mono hr _))) (by rw [z1]; exact s79) (by rw [z1]; exact z5) z12)
    refine ⟨_, this.2.of_drew, this.1, ?_⟩
    rw [← p1]
    exact gs_new rfl z6 (by rw [z1]; omega) (by rw [z1]; omega)
  have body : ∀ {R : Ending → World → Prop}, Calls Tryz.prog 426 #[.slice (some ⟨e.b, e.d, none⟩) 1 c', .int .i64 0, .slice (some ⟨e2.b, off2, none⟩) 1 c2'] w R → (∀ en w', R en w' → ∃ v', en = .returned v' ∧ SoundV T0 base w0 ρ s w v s1 v' w') →
      CallGives T0.P 426 #[.slice (some ⟨e.b, e.d, none⟩) 1 c', .int .i64 0, .slice (some ⟨e2.b, off2, none⟩) 1 c2'] w (fun v' w' => SoundV T0 base w0 ρ s w v s1 v' w') :=
    fun hc hR => ⟨Tryz.f426, f426_at, by kernel_rfl, .inl ⟨by kernel_rfl, callsIn_wide.2 (Calls.mono hc hR)⟩⟩
  have hsv : w.shape? e2.b = some (el2, arrv.size) := by simp only [World.shape?, hwv]
  have hsb : w.shape? e.b = some (79, arr.size) := by simp only [World.shape?, hw]
  by_cases hroom : 2 ≤ c'
  · obtain ⟨A1, f1, v1⟩ := firstC_sound hr.drew hfirst hgv (fun _ _ _ q => by cases q; exact Nat.le_refl _)
    have l1 : A1.toList.length = 6 := by rw [← v1.1]; exact hlen
    have t1 := run_storeCells_over (P := T0.P) e.b (e.d + 6) 79 fr A1.toList 0 arr w.drew hw (by omega) (v1.oneCells (oneCells_spec _ hone)) (fun j _ _ => hfr.none hz (by omega))
    simp only [Nat.add_zero] at t1
    have sz1 : (overA arr (e.d + 6) A1.toList).size = arr.size := overA_size (by omega)
    have hr1 := hr.drew.spare (arr' := overA arr (e.d + 6) A1.toList) hg he hown hw sz1 (fun j hj => by rw [overA_get (by omega), if_pos (by omega)])
    obtain ⟨A2, f2, v2⟩ := firstC_sound hr1 hnew hv3 (fun _ _ _ q => by cases q; exact Nat.le_refl _)
    have l2 : A2.toList.length = 6 := by rw [← v2.1]; exact hnl
    have t2 := run_storeCells_over (P := T0.P) e.b e.d 79 fr A2.toList 0 (overA arr (e.d + 6) A1.toList) _ (withObj_same (w := w.drew) hbs) (by omega) (v2.oneCells (oneCells_spec _ hone2)) (fun j _ _ => hfr.none hz (by omega))
    simp only [Nat.add_zero] at t2
    refine body (ins_room e.b e.d c' e2.b off2 c2' w _ _ hroom (fun lb cb => overlaps_false hbb hsv hsb (by omega) (hnf _) (hnf _))
      (fun ty => copy_one (by decide) rfl f1 t1) (fun ty => copy_one (by decide) rfl f2 t2)) ?_
    rintro en w' ⟨rfl, rfl⟩
    refine ⟨_, rfl, fin ⟨e.b, e.d, 12, arr.size, 6⟩ _ _ c' fr rfl rfl ?_ (.inl rfl) (by rw [← hez]; exact hdv) hroom ?_ (by omega) ?_ ?_ (withObj_same (by rw [withObj_size]; exact hbs)) ?_ ?_ ?_⟩
    · rw [overA_size (by omega), sz1]
    · rw [overA_size (by omega), sz1]; exact hfit6
    · exact (below_withObj hown).trans (below_withObj hown)
    · rw [withObj_size, withObj_size]; exact Nat.le_refl _
    · exact a2 ▸ hfr
    · intro q _ hq; rw [withObj_other hq, withObj_other hq]; rfl
    · refine cells_two (d := e.d) hnl v1 v2 (fun j hj => ?_) (fun j hj => ?_) hlen
      · rw [overA_get (by omega), if_neg (by omega), if_pos (by omega), show j + e.d - e.d = j from by omega, Array.getElem?_toList]
      · rw [overA_get (by omega), if_neg (by omega), if_neg (by omega), overA_get (by omega), if_neg (by omega), if_pos (by omega), show j + 6 + e.d - (e.d + 6) = j from by omega, Array.getElem?_toList]
  · have hc1 : c' = 1 := by omega
    subst hc1
    obtain ⟨ti, z, i1, i2, i3, i4, i5⟩ := info79
    obtain ⟨G, hG⟩ : ∃ G, G = grownCap w (0 + 2) 1 79 := ⟨_, rfl⟩
    have hG2 : 2 ≤ G := by have := grownCap_ge w (0 + 2) 1 79; omega
    have hap := fun ty => Lib.run_append_grow_zeros (P := Tryz.prog) w 34 3 ty 79 ti z .i64 .i64 (T0_ok.under u34) (T0_ok.under u3) i1 i2 (some ⟨e.b, e.d, none⟩) 0 1 [] (by simp [Builtin.firstCells, loadCells, loadCellsFrom]) 2 (by omega) (by omega) (by omega) (by decide) (by omega)
      (by have : Builtin.nextslicecap (0 + 2) 1 = 2 := by decide
          rw [this]; omega)
    rw [← hG] at hap
    obtain ⟨Z, hZ⟩ : ∃ Z, Z = ([] : List Value).toArray ++ Builtin.zeroCells z.cells 2 ++ Builtin.zeroCells z.cells (G - (0 + 2)) := ⟨_, rfl⟩
    rw [← hZ] at hap
    have hZs : Z.size = G * 6 := by rw [hZ]; simp only [Array.size_append, zeroCells_size, i5]; simp; omega
    have hnbs : w.heap.size < (w.drew.alloc (.cells Z 79)).heap.size := by show _ < (w.heap.push _).size; rw [Array.size_push]; omega
    have hr1 := hr.drew.pushed (o := .cells Z 79)
    obtain ⟨A2, f2, v2⟩ := firstC_sound hr1 hnew hv3 (fun _ _ _ q => by cases q; exact Nat.le_refl _)
    have l2 : A2.toList.length = 6 := by rw [← v2.1]; exact hnl
    have t1 := run_storeCells_over (P := T0.P) w.heap.size 0 79 (0, 0) A2.toList 0 Z (w.drew.alloc (.cells Z 79)) push_at (by omega) (v2.oneCells (oneCells_spec _ hone2)) (fun j _ _ => by simp)
    simp only [Nat.add_zero] at t1
    have sz1 : (overA Z 0 A2.toList).size = Z.size := overA_size (by omega)
    have hr2 := hr1.free (nb := w.heap.size) (o := .cells (overA Z 0 A2.toList) 79 (0, 0)) hr.base_le (fun i o e3 h1 h2 h3 => by
      obtain ⟨r3, g3, _⟩ := hr.obj _ _ _ h1 h2
      have := (Array.getElem?_eq_some_iff.1 g3).1
      omega)
    obtain ⟨A1, f1, v1⟩ := firstC_sound hr2.drew hfirst hgv (fun _ _ _ q => by cases q; exact Nat.le_refl _)
    have l1 : A1.toList.length = 6 := by rw [← v1.1]; exact hlen
    have t2 := run_storeCells_over (P := T0.P) w.heap.size 6 79 (0, 0) A1.toList 0 (overA Z 0 A2.toList) (World.withObj (w.drew.alloc (.cells Z 79)) w.heap.size (.cells (overA Z 0 A2.toList) 79 (0, 0))).drew (withObj_same hnbs) (by omega) (v1.oneCells (oneCells_spec _ hone)) (fun j _ _ => by simp)
    simp only [Nat.add_zero] at t2
    refine body (ins_new e.b e.d e2.b off2 c2' w.heap.size G w _ _ _ hG2 (fun ty => hap ty) (fun ty => copy_one (by decide) rfl f2 t1) (fun ty => copy_one (by decide) rfl f1 t2)) ?_
    rintro en w' ⟨rfl, rfl⟩
    refine ⟨_, rfl, fin ⟨w.heap.size, 0, 12, G * 6, 6⟩ _ _ G (0, 0) rfl rfl ?_ (.inr rfl) ⟨0, rfl⟩ hG2 ?_ (by omega) ?_ ?_ (withObj_same (by show _ < (World.withObj _ _ _).heap.size; rw [withObj_size]; exact hnbs)) (.inl rfl) ?_ ?_⟩
    · rw [overA_size (by omega), sz1, hZs]
    · rw [overA_size (by omega), sz1, hZs]; show 0 + G * 6 ≤ G * 6; omega
    · refine Below.trans (below_push (w := w.drew) (o := .cells Z 79) hr.base_le) (Below.trans (below_withObj (b := w.heap.size) (o := .cells (overA Z 0 A2.toList) 79 (0, 0)) hr.base_le) ?_)
      exact ⟨rfl, rfl, rfl, by rw [withObj_size (w := World.drew _)]; show _ ≤ (World.withObj _ _ _).heap.size; exact Nat.le_refl _, fun k hk => by rw [withObj_other (by have := hr.base_le; omega)]; rfl⟩
    · rw [withObj_size]; show _ ≤ (World.withObj _ _ _).heap.size; rw [withObj_size]; omega
    · intro q hq _
      rw [withObj_other (by omega)]
      show (World.withObj _ _ _).heap[q]? = _
      rw [withObj_other (by omega)]
      exact push_other hq
    · refine cells_two (d := 0) hnl v1 v2 (fun j hj => ?_) (fun j hj => ?_) hlen
      · rw [overA_get (by omega), if_pos (by omega), overA_get (by omega), if_neg (by omega), if_pos (by omega), Array.getElem?_toList]; rfl
      · rw [overA_get (by omega), if_neg (by omega), if_pos (by omega), show j + 6 + 0 - 6 = j from by omega, Array.getElem?_toList]
end
end Go.Canon
end
section
namespace Go.Canon
open Go Go.RowKit Go.Lib Go.Proofs
set_option linter.unusedSectionVars false
set_option linter.unusedVariables false
theorem insElem426 : insElem T0 Tryz.f426 = some (79, 6) := by kernel_rfl
theorem nat5 {base : Nat} {w0 w : World} {ρ : Ren} {s : CSt} {args : List Value} {r : OpR} {v : Value} {s' : CSt} {args' : Array Value} (h : nativeC T0 s.heap 5 Tryz.f426 args = some r) (hk : quietK s r outV0 = some ⟨v, s'⟩) (hr : Rel T0 base w0 ρ s w) (hv : VRs ρ args args'.toList) :
    CallGives T0.P 426 args' w (fun v' w' => SoundV T0 base w0 ρ s w v s' v' w') := by
  change insertC T0 s.heap Tryz.f426 args = some r at h
  unfold insertC at h
  split at h
  case h_2 => cases h
  rename_i b o n cap i b2 o2 m c2
  cases hn : insNums b o n cap i b2 m with
  | false => rw [hn] at h; cases h
  | true =>
  rw [hn, insElem426] at h
  simp only [cond_true] at h
  simp only [insNums, Bool.and_eq_true, nbeq_eq] at hn
  obtain ⟨rfl, rfl, hcap, rfl, rfl, hne⟩ := hn
  refine insAt_sound h hk (fun q => ?_) (ble_iff.1 hcap) hr hv
  subst q
  rw [Nat.beq_refl] at hne
  cases hne
theorem T0_nat : NatOk T0 := by
  intro f fn args s r v s' base w0 ρ w args' hfn hn hk hr hv
  have hP := T0_ok.fn _ _ hfn
  unfold nativeOf at hn
  split at hn
  case h_2 => cases hn
  rename_i k hk2
  rcases natL_get hk2 with ⟨rfl, e⟩ | ⟨rfl, e⟩ | ⟨rfl, e⟩ | ⟨rfl, e⟩ | ⟨rfl, e⟩ <;> rw [e] at hn
  · exact nat1 hn hk hr hv
  · exact nat3 hn hk hr hv
  · exact nat4 hn hk hr hv
  · rw [f218_at] at hP; cases hP
    exact nat6 hn hk hr hv
  · rw [f426_at] at hP; cases hP
    exact nat5 hn hk hr hv
end Go.Canon
end
