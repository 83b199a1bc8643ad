/- Parse is walked at one, two, three or more pieces; conditions: at most 1000 bytes, where the errors of strconv lie. -/
import Derived.Deep.LoopGhost
import Derived.Laws.ResultCell
import Derived.Test.YtlmeiickknfhhaaGreatDoorPd
set_option linter.all false
set_option linter.unusedVariables false
set_option linter.unusedSimpArgs false
set_option linter.unusedSectionVars false
set_option linter.unnecessarySimpa false
section
namespace Go.Proofs
open Go.Shelf Go.RowKit Go.Lib
def pieces (z : ByteArray) : List ByteArray := Lib.splitB ⟨#[32]⟩ 0 (Lib.countB z ⟨#[32]⟩) z
theorem split_walk (z : ByteArray) (hz : z.size ≤ 1000) (w : World) (m : Int) (hm : w.cell? ⟨3, 0, none⟩ = some (.int .i64 m)) (L : List ByteArray) (hL : pieces z = L) :
    Calls Tryz.prog 16 #[.string z, .string ⟨#[32]⟩] w fun e w' => e = .returned (.slice (some ⟨w.heap.size, 0, none⟩) L.length L.length) ∧ w' = w.alloc (.cells (L.map Value.string).toArray 9) := by
  have h := Any.strings_Split Tryz.laysSplit (by kernel_rfl) z ⟨#[32]⟩ m w (by omega) hm (by decide)
  have hlen := Lib.splitB_all ⟨#[32]⟩ (by decide) 0 _ z rfl
  subst hL
  have : (pieces z).length = Lib.countB z ⟨#[32]⟩ + 1 := hlen
  rw [this]
  exact h
structure St (w W : World) (L : List ByteArray) (k a b : Int) : Prop where
  bw : Below w.heap.size w W
  sz : w.heap.size + 5 ≤ W.heap.size
  r : W.heap[w.heap.size]? = some (.cells #[.int .i64 0, .int .i64 0, .int .i64 0] 23 (0, 0))
  l : W.heap[w.heap.size + 1]? = some (.cells (L.map Value.string).toArray 9 (0, 0))
  v : W.heap[w.heap.size + 1 + 1]? = some (.cells #[.slice (some ⟨w.heap.size + 1, 0, none⟩) L.length L.length] 32 (0, 0))
  q : W.heap[w.heap.size + 1 + 1 + 1 + 1]? = some (.cells #[.int .i64 k, .int .i64 a, .int .i64 b] 23 (0, 0))
theorem St.below {w W W' : World} {L : List ByteArray} {k a b : Int} (h : St w W L k a b) (hb : Below W.heap.size W W') : St w W' L k a b :=
  ⟨h.bw.trans (hb.mono (by have := h.sz; omega)), Nat.le_trans h.sz hb.size, by rw [hb.block _ (by have := h.sz; omega)]; exact h.r, by rw [hb.block _ (by have := h.sz; omega)]; exact h.l,
    by rw [hb.block _ (by have := h.sz; omega)]; exact h.v, by rw [hb.block _ (by have := h.sz; omega)]; exact h.q⟩
theorem cell_of {W : World} {b : Nat} {arr : Array Value} {t : TypeId} {fr : Nat × Nat} (h : W.heap[b]? = some (.cells arr t fr)) (j : Nat) : W.cell? ⟨b, j, none⟩ = arr[j]? := by simp [World.cell?, h]
theorem unfrozen_of {W : World} {b : Nat} {arr : Array Value} {t : TypeId} (h : W.heap[b]? = some (.cells arr t (0, 0))) (j : Nat) : W.frozen? ⟨b, j, none⟩ = false := by simp [World.frozen?, h]
theorem alloc_heap (w : World) (o : Obj) (k : Nat) : (w.alloc o).heap[k]? = if k = w.heap.size then some o else w.heap[k]? := by show (w.heap.push o)[k]? = _; rw [Array.getElem?_push]
theorem alloc_size (w : World) (o : Obj) : (w.alloc o).heap.size = w.heap.size + 1 := by show (w.heap.push o).size = _; rw [Array.size_push]
def parsed (z : ByteArray) (k a b : Int) : Value := if valid k a b && ((text k a b).toList == z.toList) then .tuple #[.agg #[.int .i64 k, .int .i64 a, .int .i64 b], .int .i64 0] else .tuple #[.agg #[.int .i64 0, .int .i64 0, .int .i64 0], .int .i64 430]
theorem setCell_size (W : World) (a : Addr) (v : Value) : (W.setCell a v).heap.size = W.heap.size := by simp [World.setCell]
theorem St.seta {w W : World} {L : List ByteArray} {k a b : Int} (h : St w W L k a b) (a' : Int) : St w (W.setCell ⟨w.heap.size + 1 + 1 + 1 + 1, 1, none⟩ (.int .i64 a')) L k a' b := by
  have other : ∀ x, x ≠ w.heap.size + 1 + 1 + 1 + 1 → (W.setCell ⟨w.heap.size + 1 + 1 + 1 + 1, 1, none⟩ (.int .i64 a')).heap[x]? = W.heap[x]? := fun x hx => Below.heap_setCell W _ _ x hx
  refine ⟨h.bw.setCell (by show _ ≤ w.heap.size + 1 + 1 + 1 + 1; omega) _, by rw [setCell_size]; exact h.sz, by rw [other _ (by omega)]; exact h.r, by rw [other _ (by omega)]; exact h.l, by rw [other _ (by omega)]; exact h.v, ?_⟩
  simp [World.setCell, Array.getElem?_modify, h.q]
theorem St.setb {w W : World} {L : List ByteArray} {k a b : Int} (h : St w W L k a b) (b' : Int) : St w (W.setCell ⟨w.heap.size + 1 + 1 + 1 + 1, 2, none⟩ (.int .i64 b')) L k a b' := by
  have other : ∀ x, x ≠ w.heap.size + 1 + 1 + 1 + 1 → (W.setCell ⟨w.heap.size + 1 + 1 + 1 + 1, 2, none⟩ (.int .i64 b')).heap[x]? = W.heap[x]? := fun x hx => Below.heap_setCell W _ _ x hx
  refine ⟨h.bw.setCell (by show _ ≤ w.heap.size + 1 + 1 + 1 + 1; omega) _, by rw [setCell_size]; exact h.sz, by rw [other _ (by omega)]; exact h.r, by rw [other _ (by omega)]; exact h.l, by rw [other _ (by omega)]; exact h.v, ?_⟩
  simp [World.setCell, Array.getElem?_modify, h.q]
end Go.Proofs
end
section
namespace Go.Proofs
open Go.Shelf Go.RowKit Go.Lib
set_option maxHeartbeats 4000000 in
theorem parse1 (z : ByteArray) (hz : z.size ≤ 1000) (w : World) (m : Int) (hm : w.cell? ⟨3, 0, none⟩ = some (.int .i64 m)) (p0 : ByteArray) (hL : pieces z = [p0]) :
    Calls Tryz.prog 7 #[.string z] w fun e w' => e = .returned (parsed z (kindOf p0 5 0) 0 0) ∧ Below w.heap.size w w' := by
  have e16 : ∀ args w, (callFunc 16 args).run Tryz.prog w = .ok (.enter 16 args) w := Tryz.call16
  have e14 : ∀ args w, (callFunc 14 args).run Tryz.prog w = .ok (.enter 14 args) w := Tryz.call14
  have e17 : ∀ args w, (callFunc 17 args).run Tryz.prog w = .ok (.enter 17 args) w := Tryz.call17
  have e6 : ∀ args w, (callFunc 6 args).run Tryz.prog w = .ok (.enter 6 args) w := Tryz.call6
  have hm2 : ∀ o : Obj, (w.alloc o).cell? ⟨3, 0, none⟩ = some (.int .i64 m) := fun o => ((Below.of_alloc o).cell (p := ⟨3, 0, none⟩) (block_lt_of_cell hm)).trans hm
  have hsp := fun (o : Obj) => split_walk z hz (w.alloc o) m (hm2 o) _ hL
  clear hm2
  go_enter Tryz.func7, Tryz.ntmps7
  go_wp2_with (first
    | (go_at_fn 16; refine (hsp _).mono ?_; rintro e w' ⟨rfl, rfl⟩)
    | (go_at_fn 14; refine (words_walk _).mono ?_; rintro e w' ⟨rfl, rfl⟩))
  refine (find_walk p0 (w.heap.size + 1 + 1 + 1) (w.heap.size + 1 + 1) (w.heap.size + 1) 1 (by omega) _ ?_ ?_ ?_).mono ?_
  · go_simp
  · go_simp
  · intro j hj
    have : j = 0 ∨ j = 1 ∨ j = 2 ∨ j = 3 ∨ j = 4 := by omega
    rcases this with rfl | rfl | rfl | rfl | rfl <;> (simp only [word]; go_simp)
  rintro e w' ⟨rfl, rfl⟩
  go_wp2_with fail
  refine (print_all _ _ _ _).mono ?_
  rintro e w2 ⟨rfl, hb⟩
  have S : St w w2 [p0] (kindOf p0 5 0) 0 0 := St.below ⟨?_, ?_, ?_, ?_, ?_, ?_⟩ hb
  rotate_left
  · exact (((((Below.refl _ w).alloc (Nat.le_refl _) _).alloc (by simp only [alloc_size]; omega) _).alloc (by simp only [alloc_size]; omega) _).alloc (by simp only [alloc_size]; omega) _).alloc (by simp only [alloc_size]; omega) _
  · simp only [alloc_size]; omega
  · simp only [alloc_size, alloc_heap]; rw [if_neg (by omega), if_neg (by omega), if_neg (by omega), if_neg (by omega), if_pos trivial]
  · simp only [alloc_size, alloc_heap]; simp
  · simp only [alloc_size, alloc_heap]; simp
  · simp only [alloc_size, alloc_heap]; simp
  have BW : Aside (Below w.heap.size w w2) := S.bw
  have q0 := cell_of S.q 0
  have q1 := cell_of S.q 1
  have q2 := cell_of S.q 2
  have r0 := cell_of S.r 0
  have r1 := cell_of S.r 1
  have r2 := cell_of S.r 2
  have u0 := unfrozen_of S.r 0
  have u1 := unfrozen_of S.r 1
  have u2 := unfrozen_of S.r 2
  simp only [List.getElem?_toArray, List.getElem?_cons_zero, List.getElem?_cons_succ] at q0 q1 q2 r0 r1 r2
  clear S hb hsp
  cases hv : valid (kindOf p0 5 0) 0 0 with
  | false =>
    rw [show printed (kindOf p0 5 0) 0 0 = .tuple #[.string ⟨#[]⟩, .int .i64 430] from by simp [printed, hv]]
    go_wp2_with fail
    (try simp only [Exit.inBlock, Exit.then])
    refine bodyPost_ret (v := .tuple #[.agg #[.int .i64 0, .int .i64 0, .int .i64 0], .int .i64 430]) ?_ rfl ⟨?_, ?_⟩
    · rw [results_cell_tmp rfl]; go_simp
    · simp [parsed, hv]
    · exact ((BW.out.setCell (Nat.le_refl _) _).setCell (Nat.le_refl _) _).setCell (Nat.le_refl _) _
  | true =>
    rw [show printed (kindOf p0 5 0) 0 0 = .tuple #[.string (text (kindOf p0 5 0) 0 0), .int .i64 0] from by simp [printed, hv]]
    cases ht : ((text (kindOf p0 5 0) 0 0).toList == z.toList) with
    | false =>
      go_wp2_with fail
      (try simp only [Exit.inBlock, Exit.then])
      refine bodyPost_ret (v := .tuple #[.agg #[.int .i64 0, .int .i64 0, .int .i64 0], .int .i64 430]) ?_ rfl ⟨?_, ?_⟩
      · rw [results_cell_tmp rfl]; go_simp
      · simp [parsed, hv, ht]
      · exact ((BW.out.setCell (Nat.le_refl _) _).setCell (Nat.le_refl _) _).setCell (Nat.le_refl _) _
    | true =>
      go_wp2_with fail
      (try simp only [Exit.inBlock, Exit.then])
      refine bodyPost_ret (v := .tuple #[.agg #[.int .i64 (kindOf p0 5 0), .int .i64 0, .int .i64 0], .int .i64 0]) ?_ rfl ⟨?_, ?_⟩
      · rw [results_cell_tmp rfl]; go_simp
      · simp [parsed, hv, ht]
      · exact ((BW.out.setCell (Nat.le_refl _) _).setCell (Nat.le_refl _) _).setCell (Nat.le_refl _) _
end Go.Proofs
end
section
namespace Go.Proofs
open Go.Shelf Go.RowKit Go.Lib
set_option maxHeartbeats 8000000 in
theorem parse2 (z : ByteArray) (hz : z.size ≤ 1000) (w : World) (m : Int) (hm : w.cell? ⟨3, 0, none⟩ = some (.int .i64 m)) (hE0 : ErrAt w 0) (hE1 : ErrAt w 1) (p0 p1 : ByteArray) (hL : pieces z = [p0, p1]) (hp1 : p1.size ≤ 1000) :
    Calls Tryz.prog 7 #[.string z] w fun e w' => e = .returned (parsed z (kindOf p0 5 0) (atoiV p1) 0) ∧ Below w.heap.size w w' := by
  have e16 : ∀ args w, (callFunc 16 args).run Tryz.prog w = .ok (.enter 16 args) w := Tryz.call16
  have e14 : ∀ args w, (callFunc 14 args).run Tryz.prog w = .ok (.enter 14 args) w := Tryz.call14
  have e17 : ∀ args w, (callFunc 17 args).run Tryz.prog w = .ok (.enter 17 args) w := Tryz.call17
  have e19 : ∀ args w, (callFunc 19 args).run Tryz.prog w = .ok (.enter 19 args) w := Tryz.call19
  have e6 : ∀ args w, (callFunc 6 args).run Tryz.prog w = .ok (.enter 6 args) w := Tryz.call6
  have hlt3 : 3 < w.heap.size := block_lt_of_cell hm
  have hm2 : ∀ o : Obj, (w.alloc o).cell? ⟨3, 0, none⟩ = some (.int .i64 m) := fun o => ((Below.of_alloc o).cell (p := ⟨3, 0, none⟩) (block_lt_of_cell hm)).trans hm
  have hsp := fun (o : Obj) => split_walk z hz (w.alloc o) m (hm2 o) _ hL
  have hE : ∀ W, Below w.heap.size w W → ErrAt W 0 ∧ ErrAt W 1 := fun W hb => ⟨hE0.below hb (by omega), hE1.below hb (by omega)⟩
  clear hm2
  skip
  skip
  skip
  go_enter Tryz.func7, Tryz.ntmps7
  go_wp2_with (first
    | (go_at_fn 16; refine (hsp _).mono ?_; rintro e w' ⟨rfl, rfl⟩)
    | (go_at_fn 14; refine (words_walk _).mono ?_; rintro e w' ⟨rfl, rfl⟩))
  refine (find_walk p0 (w.heap.size + 1 + 1 + 1) (w.heap.size + 1 + 1) (w.heap.size + 1) 2 (by omega) _ ?_ ?_ ?_).mono ?_
  · go_simp
  · go_simp
  · intro j hj
    have : j = 0 ∨ j = 1 ∨ j = 2 ∨ j = 3 ∨ j = 4 := by omega
    rcases this with rfl | rfl | rfl | rfl | rfl <;> (simp only [word]; go_simp)
  rintro e w' ⟨rfl, rfl⟩
  go_wp2_with fail
  have b5 : Below w.heap.size w _ := (((((Below.refl _ w).alloc (Nat.le_refl _) (.cells #[.int .i64 0, .int .i64 0, .int .i64 0] 23)).alloc (by simp only [alloc_size]; omega) (.cells ([p0, p1].map Value.string).toArray 9)).alloc (by simp only [alloc_size]; omega) (.cells #[.slice (some ⟨w.heap.size + 1, 0, none⟩) 2 2] 32)).alloc (by simp only [alloc_size]; omega) (.cells #[.string ⟨#[]⟩, .string ⟨#[117, 110, 105, 116]⟩, .string ⟨#[109, 97, 114, 107]⟩, .string ⟨#[111, 108, 100, 101, 114]⟩, .string ⟨#[116, 97, 115, 107]⟩] 9)).alloc (by simp only [alloc_size]; omega) (.cells #[.int .i64 (kindOf p0 5 0), .int .i64 0, .int .i64 0] 23)
  refine (atoi_walk p1 (by omega) _ (hE _ b5).1 (hE _ b5).2).mono ?_
  rintro e w2 ⟨⟨ev, rfl⟩, hb⟩
  have S : St w w2 [p0, p1] (kindOf p0 5 0) 0 0 := by
    refine St.below ⟨b5, ?_, ?_, ?_, ?_, ?_⟩ hb
    · simp only [alloc_size]; omega
    · simp only [alloc_size, alloc_heap]; rw [if_neg (by omega), if_neg (by omega), if_neg (by omega), if_neg (by omega), if_pos trivial]
    · simp only [alloc_size, alloc_heap]; simp
    · simp only [alloc_size, alloc_heap]; simp
    · simp only [alloc_size, alloc_heap]; simp
  clear hb b5 hsp
  have v0 := cell_of S.v 0
  have l0 := cell_of S.l 0
  have l1 := cell_of S.l 1
  have q0 := cell_of S.q 0
  have q1 := cell_of S.q 1
  have q2 := cell_of S.q 2
  simp only [List.getElem?_toArray, List.getElem?_cons_zero, List.getElem?_cons_succ, List.map_cons, List.length_cons] at v0 l0 l1 q0 q1 q2
  have y1 := unfrozen_of S.q 1
  have S' := S.seta (atoiV p1)
  go_wp2_with fail
  refine (print_all _ _ _ _).mono ?_
  rintro e w3 ⟨rfl, hb3⟩
  have S3 := St.below S' hb3
  have BW : Aside (Below w.heap.size w w3) := S3.bw
  clear hb3 v0 l0 l1 q0 q1 q2
  have q0 := cell_of S3.q 0
  have q1 := cell_of S3.q 1
  have q2 := cell_of S3.q 2
  have r0 := cell_of S3.r 0
  have r1 := cell_of S3.r 1
  have r2 := cell_of S3.r 2
  simp only [List.getElem?_toArray, List.getElem?_cons_zero, List.getElem?_cons_succ, List.map_cons, List.length_cons] at q0 q1 q2 r0 r1 r2
  have u0 := unfrozen_of S3.r 0
  have u1 := unfrozen_of S3.r 1
  have u2 := unfrozen_of S3.r 2
  clear S S' S3 
  generalize hA : atoiV p1 = A at *
  skip
  cases hv : valid (kindOf p0 5 0) A 0 with
  | false =>
    rw [show printed (kindOf p0 5 0) A 0 = .tuple #[.string ⟨#[]⟩, .int .i64 430] from by simp [printed, hv]]
    go_wp2_with fail
    (try simp only [Exit.inBlock, Exit.then])
    refine bodyPost_ret (v := .tuple #[.agg #[.int .i64 0, .int .i64 0, .int .i64 0], .int .i64 430]) ?_ rfl ⟨?_, ?_⟩
    · rw [results_cell_tmp rfl]; go_simp
    · simp [parsed, hA, hv]
    · exact ((BW.out.setCell (Nat.le_refl _) _).setCell (Nat.le_refl _) _).setCell (Nat.le_refl _) _
  | true =>
    rw [show printed (kindOf p0 5 0) A 0 = .tuple #[.string (text (kindOf p0 5 0) A 0), .int .i64 0] from by simp [printed, hv]]
    cases ht : ((text (kindOf p0 5 0) A 0).toList == z.toList) with
    | false =>
      go_wp2_with fail
      (try simp only [Exit.inBlock, Exit.then])
      refine bodyPost_ret (v := .tuple #[.agg #[.int .i64 0, .int .i64 0, .int .i64 0], .int .i64 430]) ?_ rfl ⟨?_, ?_⟩
      · rw [results_cell_tmp rfl]; go_simp
      · simp [parsed, hA, hv, ht]
      · exact ((BW.out.setCell (Nat.le_refl _) _).setCell (Nat.le_refl _) _).setCell (Nat.le_refl _) _
    | true =>
      go_wp2_with fail
      (try simp only [Exit.inBlock, Exit.then])
      refine bodyPost_ret (v := .tuple #[.agg #[.int .i64 (kindOf p0 5 0), .int .i64 A, .int .i64 0], .int .i64 0]) ?_ rfl ⟨?_, ?_⟩
      · rw [results_cell_tmp rfl]; go_simp
      · simp [parsed, hA, hv, ht]
      · exact ((BW.out.setCell (Nat.le_refl _) _).setCell (Nat.le_refl _) _).setCell (Nat.le_refl _) _
end Go.Proofs
end
section
namespace Go.Proofs
open Go.Shelf Go.RowKit Go.Lib
set_option maxHeartbeats 8000000 in
theorem parse3 (z : ByteArray) (hz : z.size ≤ 1000) (w : World) (m : Int) (hm : w.cell? ⟨3, 0, none⟩ = some (.int .i64 m)) (hE0 : ErrAt w 0) (hE1 : ErrAt w 1) (p0 p1 p2 : ByteArray) (R : List ByteArray) (hL : pieces z = (p0 :: p1 :: p2 :: R)) (hp1 : p1.size ≤ 1000) (hp2 : p2.size ≤ 1000) :
    Calls Tryz.prog 7 #[.string z] w fun e w' => e = .returned (parsed z (kindOf p0 5 0) (atoiV p1) (atoiV p2)) ∧ Below w.heap.size w w' := by
  have e16 : ∀ args w, (callFunc 16 args).run Tryz.prog w = .ok (.enter 16 args) w := Tryz.call16
  have e14 : ∀ args w, (callFunc 14 args).run Tryz.prog w = .ok (.enter 14 args) w := Tryz.call14
  have e17 : ∀ args w, (callFunc 17 args).run Tryz.prog w = .ok (.enter 17 args) w := Tryz.call17
  have e19 : ∀ args w, (callFunc 19 args).run Tryz.prog w = .ok (.enter 19 args) w := Tryz.call19
  have e6 : ∀ args w, (callFunc 6 args).run Tryz.prog w = .ok (.enter 6 args) w := Tryz.call6
  have hlt3 : 3 < w.heap.size := block_lt_of_cell hm
  have hm2 : ∀ o : Obj, (w.alloc o).cell? ⟨3, 0, none⟩ = some (.int .i64 m) := fun o => ((Below.of_alloc o).cell (p := ⟨3, 0, none⟩) (block_lt_of_cell hm)).trans hm
  have hsp := fun (o : Obj) => split_walk z hz (w.alloc o) m (hm2 o) _ hL
  have hE : ∀ W, Below w.heap.size w W → ErrAt W 0 ∧ ErrAt W 1 := fun W hb => ⟨hE0.below hb (by omega), hE1.below hb (by omega)⟩
  clear hm2
  have hR1 : (1 : Int) < (R.length : Int) + 1 + 1 + 1 := by omega
  have hR2 : (2 : Int) < (R.length : Int) + 1 + 1 + 1 := by omega
  have hR3 : (0 : Int) ≤ (R.length : Int) := by omega
  go_enter Tryz.func7, Tryz.ntmps7
  go_wp2_with (first
    | (go_at_fn 16; refine (hsp _).mono ?_; rintro e w' ⟨rfl, rfl⟩)
    | (go_at_fn 14; refine (words_walk _).mono ?_; rintro e w' ⟨rfl, rfl⟩))
  refine (find_walk p0 (w.heap.size + 1 + 1 + 1) (w.heap.size + 1 + 1) (w.heap.size + 1) (R.length + 1 + 1 + 1) (by omega) _ ?_ ?_ ?_).mono ?_
  · go_simp
  · go_simp
  · intro j hj
    have : j = 0 ∨ j = 1 ∨ j = 2 ∨ j = 3 ∨ j = 4 := by omega
    rcases this with rfl | rfl | rfl | rfl | rfl <;> (simp only [word]; go_simp)
  rintro e w' ⟨rfl, rfl⟩
  go_wp2_with fail
  have b5 : Below w.heap.size w _ := (((((Below.refl _ w).alloc (Nat.le_refl _) (.cells #[.int .i64 0, .int .i64 0, .int .i64 0] 23)).alloc (by simp only [alloc_size]; omega) (.cells ((p0 :: p1 :: p2 :: R).map Value.string).toArray 9)).alloc (by simp only [alloc_size]; omega) (.cells #[.slice (some ⟨w.heap.size + 1, 0, none⟩) (R.length + 1 + 1 + 1) (R.length + 1 + 1 + 1)] 32)).alloc (by simp only [alloc_size]; omega) (.cells #[.string ⟨#[]⟩, .string ⟨#[117, 110, 105, 116]⟩, .string ⟨#[109, 97, 114, 107]⟩, .string ⟨#[111, 108, 100, 101, 114]⟩, .string ⟨#[116, 97, 115, 107]⟩] 9)).alloc (by simp only [alloc_size]; omega) (.cells #[.int .i64 (kindOf p0 5 0), .int .i64 0, .int .i64 0] 23)
  refine (atoi_walk p1 (by omega) _ (hE _ b5).1 (hE _ b5).2).mono ?_
  rintro e w2 ⟨⟨ev, rfl⟩, hb⟩
  have S : St w w2 (p0 :: p1 :: p2 :: R) (kindOf p0 5 0) 0 0 := by
    refine St.below ⟨b5, ?_, ?_, ?_, ?_, ?_⟩ hb
    · simp only [alloc_size]; omega
    · simp only [alloc_size, alloc_heap]; rw [if_neg (by omega), if_neg (by omega), if_neg (by omega), if_neg (by omega), if_pos trivial]
    · simp only [alloc_size, alloc_heap]; simp
    · simp only [alloc_size, alloc_heap]; simp
    · simp only [alloc_size, alloc_heap]; simp
  clear hb b5 hsp
  have v0 := cell_of S.v 0
  have l0 := cell_of S.l 0
  have l1 := cell_of S.l 1
  have l2 := cell_of S.l 2
  have q0 := cell_of S.q 0
  have q1 := cell_of S.q 1
  have q2 := cell_of S.q 2
  simp only [List.getElem?_toArray, List.getElem?_cons_zero, List.getElem?_cons_succ, List.map_cons, List.length_cons] at v0 l0 l1 l2 q0 q1 q2
  have y1 := unfrozen_of S.q 1
  have S' := S.seta (atoiV p1)
  go_wp2_with fail
  refine (atoi_walk p2 (by omega) _ (hE _ S'.bw).1 (hE _ S'.bw).2).mono ?_
  rintro e w4 ⟨⟨ev2, rfl⟩, hb4⟩
  have S4 := S'.below hb4
  clear hb4 v0 l0 l1 l2 q0 q1 q2 y1
  have v0 := cell_of S4.v 0
  have l0 := cell_of S4.l 0
  have l1 := cell_of S4.l 1
  have l2 := cell_of S4.l 2
  have q0 := cell_of S4.q 0
  have q1 := cell_of S4.q 1
  have q2 := cell_of S4.q 2
  simp only [List.getElem?_toArray, List.getElem?_cons_zero, List.getElem?_cons_succ, List.map_cons, List.length_cons] at v0 l0 l1 l2 q0 q1 q2
  have y2 := unfrozen_of S4.q 2
  have S5 := S4.setb (atoiV p2)
  go_wp2_with fail
  refine (print_all _ _ _ _).mono ?_
  rintro e w3 ⟨rfl, hb3⟩
  have S3 := St.below S5 hb3
  have BW : Aside (Below w.heap.size w w3) := S3.bw
  clear hb3 v0 l0 l1 l2 q0 q1 q2
  have q0 := cell_of S3.q 0
  have q1 := cell_of S3.q 1
  have q2 := cell_of S3.q 2
  have r0 := cell_of S3.r 0
  have r1 := cell_of S3.r 1
  have r2 := cell_of S3.r 2
  simp only [List.getElem?_toArray, List.getElem?_cons_zero, List.getElem?_cons_succ, List.map_cons, List.length_cons] at q0 q1 q2 r0 r1 r2
  have u0 := unfrozen_of S3.r 0
  have u1 := unfrozen_of S3.r 1
  have u2 := unfrozen_of S3.r 2
  clear S S' S3 S4 S5 
  generalize hA : atoiV p1 = A at *
  generalize hB : atoiV p2 = B at *
  cases hv : valid (kindOf p0 5 0) A B with
  | false =>
    rw [show printed (kindOf p0 5 0) A B = .tuple #[.string ⟨#[]⟩, .int .i64 430] from by simp [printed, hv]]
    go_wp2_with fail
    (try simp only [Exit.inBlock, Exit.then])
    refine bodyPost_ret (v := .tuple #[.agg #[.int .i64 0, .int .i64 0, .int .i64 0], .int .i64 430]) ?_ rfl ⟨?_, ?_⟩
    · rw [results_cell_tmp rfl]; go_simp
    · simp [parsed, hA, hB, hv]
    · exact ((BW.out.setCell (Nat.le_refl _) _).setCell (Nat.le_refl _) _).setCell (Nat.le_refl _) _
  | true =>
    rw [show printed (kindOf p0 5 0) A B = .tuple #[.string (text (kindOf p0 5 0) A B), .int .i64 0] from by simp [printed, hv]]
    cases ht : ((text (kindOf p0 5 0) A B).toList == z.toList) with
    | false =>
      go_wp2_with fail
      (try simp only [Exit.inBlock, Exit.then])
      refine bodyPost_ret (v := .tuple #[.agg #[.int .i64 0, .int .i64 0, .int .i64 0], .int .i64 430]) ?_ rfl ⟨?_, ?_⟩
      · rw [results_cell_tmp rfl]; go_simp
      · simp [parsed, hA, hB, hv, ht]
      · exact ((BW.out.setCell (Nat.le_refl _) _).setCell (Nat.le_refl _) _).setCell (Nat.le_refl _) _
    | true =>
      go_wp2_with fail
      (try simp only [Exit.inBlock, Exit.then])
      refine bodyPost_ret (v := .tuple #[.agg #[.int .i64 (kindOf p0 5 0), .int .i64 A, .int .i64 B], .int .i64 0]) ?_ rfl ⟨?_, ?_⟩
      · rw [results_cell_tmp rfl]; go_simp
      · simp [parsed, hA, hB, hv, ht]
      · exact ((BW.out.setCell (Nat.le_refl _) _).setCell (Nat.le_refl _) _).setCell (Nat.le_refl _) _
end Go.Proofs
end
