/- The law's own body is walked: it returns true; conditions: the self-test's contract, where the errors of strconv lie. -/
import Derived.StillTailTactics
import Derived.Outline
import Derived.Lib.Hide
import Derived.Deep.DeepCutAuto
import Derived.BigRegion
import Derived.Test.YtlmeiickknfhhaaGreatDoorPf
set_option linter.all false
set_option linter.unusedVariables false
set_option linter.unusedSimpArgs false
set_option linter.unusedSectionVars false
set_option linter.unnecessarySimpa false
namespace Go.Proofs
open Go.Shelf Go.RowKit Go.Lib
theorem region_tail {P : Program} {id : Nat} {Q : Exit → Act → World → Prop} {a : Act} {w : World} {l : List Oper} (n : Nat) (w2 : World) (hw2 : w.drew = w2) (hm : P.follows .mixedOrders = true) (hB : Region.lexTailB .any l.toArray n = true)
    (h : wpStill P l.toArray w2 (fun a' => wpList P l.toArray Q (l.drop n) a' w2) (l.take n) a) : (Code.region id l.toArray true).wp P Q a w := by
  subst hw2
  exact wp_region_still_tail n hm hB h
/-- what becomes of the inquiry's block -/
structure Asked (w0 w : World) (K A B : Int) : Prop where
  below : Below w0.heap.size w0 w
  size : w0.heap.size < w.heap.size
  c0 : w.cell? ⟨w0.heap.size, 0, none⟩ = some (.int .i64 K)
  c1 : w.cell? ⟨w0.heap.size, 1, none⟩ = some (.int .i64 A)
  c2 : w.cell? ⟨w0.heap.size, 2, none⟩ = some (.int .i64 B)
  f0 : w.frozen? ⟨w0.heap.size, 0, none⟩ = false
  f1 : w.frozen? ⟨w0.heap.size, 1, none⟩ = false
  f2 : w.frozen? ⟨w0.heap.size, 2, none⟩ = false
theorem Asked.set0 {w0 w : World} {K A B : Int} (h : Asked w0 w K A B) (x : Int) : Asked w0 (w.setCell ⟨w0.heap.size, 0, none⟩ (.int .i64 x)) x A B :=
  ⟨h.below.setCell (Nat.le_refl _) _, by rw [World.size_setCell]; exact h.size, World.cell?_setCell_same _ _ _ h.c0, by rw [World.cell?_setCell_other _ _ _ _ (by simp)]; exact h.c1,
    by rw [World.cell?_setCell_other _ _ _ _ (by simp)]; exact h.c2, by rw [World.frozen?_setCell]; exact h.f0, by rw [World.frozen?_setCell]; exact h.f1, by rw [World.frozen?_setCell]; exact h.f2⟩
theorem Asked.set1 {w0 w : World} {K A B : Int} (h : Asked w0 w K A B) (x : Int) : Asked w0 (w.setCell ⟨w0.heap.size, 1, none⟩ (.int .i64 x)) K x B :=
  ⟨h.below.setCell (Nat.le_refl _) _, by rw [World.size_setCell]; exact h.size, by rw [World.cell?_setCell_other _ _ _ _ (by simp)]; exact h.c0, World.cell?_setCell_same _ _ _ h.c1,
    by rw [World.cell?_setCell_other _ _ _ _ (by simp)]; exact h.c2, by rw [World.frozen?_setCell]; exact h.f0, by rw [World.frozen?_setCell]; exact h.f1, by rw [World.frozen?_setCell]; exact h.f2⟩
theorem Asked.set2 {w0 w : World} {K A B : Int} (h : Asked w0 w K A B) (x : Int) : Asked w0 (w.setCell ⟨w0.heap.size, 2, none⟩ (.int .i64 x)) K A x :=
  ⟨h.below.setCell (Nat.le_refl _) _, by rw [World.size_setCell]; exact h.size, by rw [World.cell?_setCell_other _ _ _ _ (by simp)]; exact h.c0, by rw [World.cell?_setCell_other _ _ _ _ (by simp)]; exact h.c1,
    World.cell?_setCell_same _ _ _ h.c2, by rw [World.frozen?_setCell]; exact h.f0, by rw [World.frozen?_setCell]; exact h.f1, by rw [World.frozen?_setCell]; exact h.f2⟩
theorem Asked.step {w0 w w' : World} {K A B : Int} (h : Asked w0 w K A B) (hb : Below w.heap.size w w') : Asked w0 w' K A B :=
  have hs := h.size
  ⟨h.below.trans (hb.mono (by omega)), Nat.lt_of_lt_of_le h.size hb.size, by rw [hb.cell (p := ⟨w0.heap.size, 0, none⟩) hs]; exact h.c0, by rw [hb.cell (p := ⟨w0.heap.size, 1, none⟩) hs]; exact h.c1,
    by rw [hb.cell (p := ⟨w0.heap.size, 2, none⟩) hs]; exact h.c2, by rw [hb.frozen (p := ⟨w0.heap.size, 0, none⟩) hs]; exact h.f0, by rw [hb.frozen (p := ⟨w0.heap.size, 1, none⟩) hs]; exact h.f1,
    by rw [hb.frozen (p := ⟨w0.heap.size, 2, none⟩) hs]; exact h.f2⟩
/-- four texts lie in a row -/
structure Four (w0 w : World) (rb : Nat) (z0 z1 z2 z3 : ByteArray) : Prop where
  below : Below w0.heap.size w0 w
  lo : w0.heap.size ≤ rb
  hi : rb < w.heap.size
  c0 : w.cell? ⟨rb, 0, none⟩ = some (.string z0)
  c1 : w.cell? ⟨rb, 1, none⟩ = some (.string z1)
  c2 : w.cell? ⟨rb, 2, none⟩ = some (.string z2)
  c3 : w.cell? ⟨rb, 3, none⟩ = some (.string z3)
  s0 : z0.size ≤ 1000
  s1 : z1.size ≤ 1000
  s2 : z2.size ≤ 1000
  s3 : z3.size ≤ 1000
theorem Four.made {w0 w : World} (hb : Below w0.heap.size w0 w) (o : Obj) {z0 z1 z2 z3 : ByteArray} (h0 : z0.size ≤ 1000) (h1 : z1.size ≤ 1000) (h2 : z2.size ≤ 1000) (h3 : z3.size ≤ 1000) :
    Four w0 ((w.alloc o).alloc (.cells #[.string z0, .string z1, .string z2, .string z3] 9)).drew (w.heap.size + 1) z0 z1 z2 z3 := by
  have hs := hb.size
  have hq : ((w.alloc o).alloc (.cells #[.string z0, .string z1, .string z2, .string z3] 9)).drew.heap[w.heap.size + 1]? = some (.cells #[.string z0, .string z1, .string z2, .string z3] 9 (0, 0)) := by
    show ((w.alloc o).alloc _).heap[_]? = _
    rw [alloc_heap, if_pos (by rw [alloc_size])]
  refine ⟨?_, by omega, ?_, ?_, ?_, ?_, ?_, h0, h1, h2, h3⟩
  · exact ((hb.alloc hs o).alloc (by rw [alloc_size]; omega) _).drew
  · show _ < ((w.alloc o).alloc _).heap.size
    rw [alloc_size, alloc_size]; omega
  · simpa using cell_of hq 0
  · simpa using cell_of hq 1
  · simpa using cell_of hq 2
  · simpa using cell_of hq 3
theorem Four.cell {w0 w : World} {rb : Nat} {z0 z1 z2 z3 : ByteArray} (h : Four w0 w rb z0 z1 z2 z3) {k : Nat} (hk : k < 4) : ∃ z : ByteArray, z.size ≤ 1000 ∧ w.cell? ⟨rb, k, none⟩ = some (.string z) := by
  have : k = 0 ∨ k = 1 ∨ k = 2 ∨ k = 3 := by omega
  rcases this with rfl | rfl | rfl | rfl
  · exact ⟨_, h.s0, h.c0⟩
  · exact ⟨_, h.s1, h.c1⟩
  · exact ⟨_, h.s2, h.c2⟩
  · exact ⟨_, h.s3, h.c3⟩
theorem Four.step {w0 w w' : World} {rb : Nat} {z0 z1 z2 z3 : ByteArray} (h : Four w0 w rb z0 z1 z2 z3) (hb : Below w.heap.size w w') : Four w0 w' rb z0 z1 z2 z3 :=
  have hs := h.below.size
  ⟨h.below.trans (hb.mono hs), h.lo, Nat.lt_of_lt_of_le h.hi hb.size, by rw [hb.cell (p := ⟨rb, 0, none⟩) h.hi]; exact h.c0, by rw [hb.cell (p := ⟨rb, 1, none⟩) h.hi]; exact h.c1,
    by rw [hb.cell (p := ⟨rb, 2, none⟩) h.hi]; exact h.c2, by rw [hb.cell (p := ⟨rb, 3, none⟩) h.hi]; exact h.c3, h.s0, h.s1, h.s2, h.s3⟩
theorem Below.step1 {w w' : World} (h : Below w.heap.size w w') (o : Obj) : Below w.heap.size w (w'.alloc o) := h.alloc h.size o
def FourSome (w0 w : World) (v : Value) : Prop := ∃ (rb : Nat) (z0 z1 z2 z3 : ByteArray), v = .slice (some ⟨rb, 0, none⟩) 4 4 ∧ Four w0 w rb z0 z1 z2 z3
def AskedSome (w0 w : World) : Prop := ∃ K A B : Int, valid K A B = true ∧ Asked w0 w K A B
set_option maxRecDepth 100000 in
set_option maxHeartbeats 4000000 in
theorem law_walk (x0 x1 x2 place : Int) (c : Int) (w : World) (hp : -9223372036854775808 ≤ place) (hp2 : place ≤ 9223372036854775807)
  (h0 : -9223372036854775808 ≤ x0) (h02 : x0 ≤ 9223372036854775807) (h1 : -9223372036854775808 ≤ x1) (h12 : x1 ≤ 9223372036854775807) (h2 : -9223372036854775808 ≤ x2) (h22 : x2 ≤ 9223372036854775807) (hw : Ready w)
  (hsane : ∀ o : Obj, Calls Tryz.prog 4 #[] (w.alloc o) fun e w' => e = .returned (.bool true) ∧ Below (w.alloc o).heap.size (w.alloc o) w') :
    Calls Tryz.prog 3 #[.agg #[.int .i64 x0, .int .i64 x1, .int .i64 x2], .int .i64 place, .int .u8 c] w fun e w' => e = .returned (.bool true) ∧ Below w.heap.size w w' := by
  have e4 : ∀ args w, (callFunc 4 args).run Tryz.prog w = .ok (.enter 4 args) w := Tryz.call4
  have e5 : ∀ args w, (callFunc 5 args).run Tryz.prog w = .ok (.enter 5 args) w := Tryz.call5
  have e6 : ∀ args w, (callFunc 6 args).run Tryz.prog w = .ok (.enter 6 args) w := Tryz.call6
  have e7 : ∀ args w, (callFunc 7 args).run Tryz.prog w = .ok (.enter 7 args) w := Tryz.call7
  go_enter Tryz.func3, Tryz.ntmps3
  go_wp2_with fail
  refine (hsane _).mono ?_
  rintro e w1 ⟨rfl, hb1⟩
  have B1 : Below (w.heap.size + 1) (w.alloc (.cells #[.int .i64 x0, .int .i64 x1, .int .i64 x2] 23)) w1 := by rw [← alloc_size w (.cells #[.int .i64 x0, .int .i64 x1, .int .i64 x2] 23)]; exact hb1
  have Q : w1.heap[w.heap.size]? = some (.cells #[.int .i64 x0, .int .i64 x1, .int .i64 x2] 23 (0, 0)) := by rw [B1.block _ (by omega), alloc_heap, if_pos rfl]
  have A1 : Asked w w1 x0 x1 x2 := by
    refine ⟨?_, ?_, ?_, ?_, ?_, ?_, ?_, ?_⟩
    · exact (Below.of_alloc _).trans (B1.mono (by omega))
    · have := B1.size; rw [alloc_size] at this; omega
    · simpa using cell_of Q 0
    · simpa using cell_of Q 1
    · simpa using cell_of Q 2
    · exact unfrozen_of Q 0
    · exact unfrozen_of Q 1
    · exact unfrozen_of Q 2
  clear Q B1 hb1 hsane
  have r4 := pickV_range (c := x0) (n := 4) (by decide)
  have rA := pickV_range (c := x1) (n := 100) (by decide)
  have rB := pickV_range (c := x2) (n := 100) (by decide)
  go_upto_region 7 with fail
  go_cut [] (fun wx => Asked w wx (1 + pickV x0 4) (pickV x1 100) (pickV x2 100))
  case first => 
    obtain ⟨w2, hw2⟩ : ∃ w2, w1.drew = w2 := ⟨_, rfl⟩
    have A2 : Asked w w2 x0 x1 x2 := by rw [← hw2]; exact ⟨A1.below.drew, A1.size, A1.c0, A1.c1, A1.c2, A1.f0, A1.f1, A1.f2⟩
    refine region_tail 11 w2 hw2 (by kernel_rfl) (by kernel_rfl) ?_
    clear hw2 A1
    have q0 := A2.c0
    have q1 := A2.c1
    have q2 := A2.c2
    have u0 := A2.f0
    have u1 := A2.f1
    have u2 := A2.f2
    have p4 := fun w => pick_fun x0 4 (by decide) h0 h02 w
    have pA := fun w => pick_fun x1 100 (by decide) h1 h12 w
    have pB := fun w => pick_fun x2 100 (by decide) h2 h22 w
    simp only [List.take_succ_cons, List.take_zero, List.drop_succ_cons, List.drop_zero]
    still_step
    still_step
    still_call (p4 _)
    still_step
    still_step
    still_step
    still_call (pA _)
    still_step
    still_step
    still_call (pB _)
    still_step
    refine wpStill_nil ?_
    clear p4 pA pB
    go_wp2_with fail
    go_meet
    exact ((A2.set0 _).set1 _).set2 _
  case rest =>
    generalize pickV x0 4 = k0 at hcut r4
    generalize pickV x1 100 = a0 at hcut rA
    generalize pickV x2 100 = b0 at hcut rB
    have hc1 := hcut
    clear hcut
    have q0 := hc1.c0
    have q1 := hc1.c1
    have q2 := hc1.c2
    have u2 := hc1.f2
    clear A1
    go_upto_if 35 with fail
    go_cut [] (fun wx => AskedSome w wx)
    case first =>
      by_cases hk : k0 = 2
      · subst hk
        have hkb : ((1 + 2 : Int) != 3) = false := by decide
        go_wp2_with fail
        go_meet
        exact ⟨1 + 2, a0, b0, by simp [valid]; omega, hc1⟩
      · have hkb : (1 + k0 != 3) = true := by simp; omega
        go_wp2_with fail
        go_meet
        have h3 : ¬ (1 + k0 = 3) := by omega
        exact ⟨1 + k0, a0, 0, by simp [valid, h3]; omega, hc1.set2 _⟩
    case rest =>
      clear hc1 q0 q1 q2 u2 r4 rA rB
      obtain ⟨K, A, B, hv, hA⟩ := hcut
      have q0 := hA.c0
      have q1 := hA.c1
      have q2 := hA.c2
      have hT := text_size hv
      have hps := Lib.hid (parse_text hv)
      have hpr : ∀ w', Calls Tryz.prog 6 #[.agg #[.int .i64 K, .int .i64 A, .int .i64 B]] w' fun e w'' => e = .returned (.tuple #[.string (text K A B), .int .i64 0]) ∧ Below w'.heap.size w' w'' := by
        intro w'
        have := print_all K A B w'
        rw [printed, hv] at this
        exact this
      generalize text K A B = s at hT hps hpr
      obtain ⟨hT1, hT2⟩ := hT
      clear hv
      go_wp2_with fail
      refine (hpr _).mono ?_
      rintro e w5 ⟨rfl, hb5⟩
      have hA5 := hA.step hb5
      clear hb5 hA q0 q1 q2 hpr
      have q0 := hA5.c0
      have q1 := hA5.c1
      have q2 := hA5.c2
      go_wp2_with fail
      refine (parse_all s (by omega) _ (hw.below hA5.below)).mono ?_
      rintro e w6 ⟨rfl, hb6⟩
      rw [hps.out]
      have hA6 := hA5.step hb6
      clear hb6 hA5 q0 q1 q2
      have q0 := hA6.c0
      have q1 := hA6.c1
      have q2 := hA6.c2
      have hz : ((s.size : Int) == 0) = false := by rw [beq_eq_false_iff_ne]; omega
      have hs6 := hA6.size
      go_wp2_with fail
      have hpk := pick_fun place s.size (by omega) hp hp2
      have rk := pickV_range (c := place) (n := s.size) (by omega)
      refine (hpk _).mono ?_
      rintro e w7' ⟨rfl, rfl⟩
      have hb7 : Below w.heap.size w (w6.alloc (.cells #[.int .i64 K, .int .i64 A, .int .i64 B] 23)) := hA6.below.alloc (by omega) _
      obtain ⟨k, hk⟩ : ∃ k : Nat, pickV place s.size = k := Int.eq_ofNat_of_zero_le rk.1
      rw [hk]
      rw [hk] at rk
      have hk2 : k < s.size := by omega
      clear hk rk hpk hs6 hz q0 q1 q2 hA6 hp hp2
      generalize w6.alloc (.cells #[.int .i64 K, .int .i64 A, .int .i64 B] 23) = w7 at hb7 ⊢
      go_upto_region 12 with fail
      go_cut [93, 94, 95] (fun s93 s94 s95 wx => FourSome w wx s93 ∧ s94 = .int .i64 4 ∧ s95 = .int .i64 0)
      case first =>
        have hconv : ∃ zc : ByteArray, zc.size = 1 ∧ (convert 31 9 (.slice (some ⟨w7.heap.size, 0, none⟩) 1 1)).run Tryz.prog (w7.alloc (.cells #[.int .u8 c] 5)).drew = .ok (.string zc) (w7.alloc (.cells #[.int .u8 c] 5)).drew := by
          refine ⟨_, ?_, run_convert_bytes_arg _ 31 5 Tryz.underlying31 Tryz.underlying5 w7.heap.size 0 1 1 [c] rfl (fun i hi => ?_) 9 Tryz.underlying9⟩
          · rfl
          · obtain rfl : i = 0 := by omega
            show (w7.alloc _).cell? _ = _
            simp [World.cell?_alloc_new]
        obtain ⟨zc, hzc, hconv⟩ := hconv
        have hk3 : ((k : Int) + 1) ≤ (s.size : Int) := by omega
        have hk4 : (k : Int) ≤ (s.size : Int) := by omega
        go_region
        go_wp2_with fail
        go_meet
        have s1 : (s.extract 0 k).size ≤ 20 := by rw [ByteArray.size_extract]; omega
        have s2 : (s.extract k s.size).size ≤ 20 := by rw [ByteArray.size_extract]; omega
        have s3 : (s.extract (k + 1) s.size).size ≤ 20 := by rw [ByteArray.size_extract]; omega
        have s4 : (⟨#[32]⟩ : ByteArray).size = 1 := rfl
        exact ⟨⟨w7.heap.size + 1, _, _, _, _, rfl, Four.made hb7 _ (by rw [ByteArray.size_append, ByteArray.size_append]; omega) (by omega) (by omega) (by rw [ByteArray.size_append, ByteArray.size_append]; omega)⟩, rfl, rfl⟩
      case rest =>
        obtain ⟨⟨rb, z0, z1, z2, z3, rfl, hF⟩, rfl, rfl⟩ := hcut
        clear hb7 hk2 hT1 hT2
        go_wp2_with fail
        go_loopg [95] 4 (fun gg s95 wr => ∃ kk : Nat, kk ≤ 4 ∧ 4 - kk ≤ gg ∧ s95 = .int .i64 kk ∧ Four w wr rb z0 z1 z2 z3)
        case atStart => exact ⟨0, by omega, by omega, rfl, hF⟩
        case round =>
          clear hF
          obtain ⟨kk, hkk, hg, rfl, hF⟩ := hrel
          by_cases hlt : kk < 4
          · obtain ⟨z, hz, hcz⟩ := hF.cell hlt
            have hltz : (kk : Int) < 4 := by omega
            go_wp2_with fail
            refine (parse_all z hz _ (hw.below hF.below)).mono ?_
            rintro e w8 ⟨rfl, hb8⟩
            have hF8 := hF.step hb8
            clear hcz hb8
            rcases parse_cases z with ⟨k', a', b', hv', ht', hp'⟩ | hp'
            · rw [hp']
              have hpr' : ∀ w', Calls Tryz.prog 6 #[.agg #[.int .i64 k', .int .i64 a', .int .i64 b']] w' fun e w'' => e = .returned (.tuple #[.string z, .int .i64 0]) ∧ Below w'.heap.size w' w'' := by
                intro w'
                have := print_all k' a' b' w'
                rw [printed, hv', ht'] at this
                exact this
              clear hp' hv' ht'
              go_wp2_with fail
              refine (hpr' _).mono ?_
              rintro e w9 ⟨rfl, hb9⟩
              have hF9 := hF8.step ((Below.of_alloc _).trans (hb9.mono (by rw [alloc_size]; omega)))
              clear hb9 hpr' hF8 hF
              go_wp2_with fail
              go_roundg (4 - (kk + 1))
              case measure => omega
              case rel => exact ⟨kk + 1, by omega, by omega, by go_num, hF9⟩
            · rw [hp']
              have hne : (z.toList == s.toList) = false := by
                rw [beq_eq_false_iff_ne]
                intro h
                have : z = s := by
                  apply bytes_ext
                  rw [Lib.toList_data, Lib.toList_data] at h
                  exact h
                rw [this, hps.out] at hp'
                simp at hp'
              clear hp' hF
              go_wp2_with fail
              go_roundg (4 - (kk + 1))
              case measure => omega
              case rel => exact ⟨kk + 1, by omega, by omega, by go_num, hF8.step (Below.of_alloc _)⟩
          · have : kk = 4 := by omega
            subst this
            go_wp2
            go_ret
            exact ⟨rfl, hF.below⟩
end Go.Proofs
