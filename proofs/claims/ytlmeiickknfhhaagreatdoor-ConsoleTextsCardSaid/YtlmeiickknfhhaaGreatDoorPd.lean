/- Print gives the text of every inquiry; find gives the index of a word; Atoi's number; conditions: where the errors of strconv lie. -/
import Derived.Deep.LoopGhost
import Derived.Test.YtlmeiickknfhhaaGreatDoorPa
import Derived.Test.YtlmeiickknfhhaaGreatDoorPb
import Derived.Test.YtlmeiickknfhhaaGreatDoorPc
set_option linter.all false
set_option linter.unusedVariables false
set_option linter.unusedSimpArgs false
set_option linter.unusedSectionVars false
set_option linter.unnecessarySimpa false
section
namespace Go.Proofs
open Go.Shelf Go.RowKit Go.Lib
def word : Nat → ByteArray
  | 0 => ⟨#[]⟩
  | 1 => ⟨#[117, 110, 105, 116]⟩
  | 2 => ⟨#[109, 97, 114, 107]⟩
  | 3 => ⟨#[111, 108, 100, 101, 114]⟩
  | _ => ⟨#[116, 97, 115, 107]⟩
set_option maxHeartbeats 1000000 in
theorem same_walk (x p : ByteArray) (pb lb n : Nat) (hn : 1 ≤ n) (w : World) (h1 : w.cell? ⟨pb, 0, none⟩ = some (.slice (some ⟨lb, 0, none⟩) n n)) (h2 : w.cell? ⟨lb, 0, none⟩ = some (.string p)) :
    Calls Tryz.prog 18 #[.string x, .pointer (some ⟨pb, 0, none⟩)] w fun e w' => e = .returned (.bool (x.toList == p.toList)) ∧ w' = w := by
  have hn1 : (0 : Int) < (n : Int) := by omega
  go_enter Tryz.func18, Tryz.ntmps18
  go_wp2
  go_ret
  exact ⟨rfl, rfl⟩
def kindOf (p : ByteArray) : Nat → Nat → Int
  | 0, _ => -1
  | f + 1, i => if (word i).toList == p.toList then (i : Int) else kindOf p f (i + 1)
set_option maxHeartbeats 2000000 in
theorem indexFunc_walk (p : ByteArray) (b pb lb n : Nat) (hn : 1 ≤ n) (w : World) (h1 : w.cell? ⟨pb, 0, none⟩ = some (.slice (some ⟨lb, 0, none⟩) n n)) (h2 : w.cell? ⟨lb, 0, none⟩ = some (.string p))
    (hw : ∀ j, j < 5 → w.cell? ⟨b, j, none⟩ = some (.string (word j))) :
    Calls Tryz.prog 31 #[.slice (some ⟨b, 0, none⟩) 5 5, .func (.func 18) #[] #[.pointer (some ⟨pb, 0, none⟩)]] w fun e w' => e = .returned (.int .i64 (kindOf p 5 0)) ∧ w' = w := by
  have e18 : ∀ args w, (callFunc 18 args).run Tryz.prog w = .ok (.enter 18 args) w := Tryz.call18
  go_enter Tryz.func31, Tryz.ntmps31
  go_wp2
  go_loopg [5, 8] 5 (fun gg _ s8 wr => ∃ kk : Nat, kk ≤ 5 ∧ 5 - kk ≤ gg ∧ s8 = .int .i64 kk ∧ wr = w ∧ Aside (kindOf p 5 0 = kindOf p (5 - kk) kk))
  case atStart => exact ⟨0, Nat.zero_le _, by omega, rfl, rfl, rfl⟩
  case round =>
    obtain ⟨kk, hkk, hg, rfl, rfl, A⟩ := hrel
    by_cases hlt : kk < 5
    · have hltz : (kk : Int) < 5 := by omega
      have l2 := hw kk hlt
      have hcall := same_walk (word kk) p pb lb n hn wr h1 h2
      clear hw
      generalize hy : word kk = y at l2 hcall
      have B : Aside (word kk = y) := hy
      clear hy
      cases hq : (y.toList == p.toList) with
      | true =>
        rw [hq] at hcall
        go_wp2_with (go_at_fn 18; refine hcall.mono ?_; rintro e w' ⟨rfl, rfl⟩)
        go_ret
        refine ⟨?_, rfl⟩
        rw [A.out, show 5 - kk = (5 - kk - 1) + 1 from by omega, kindOf, B.out, hq]
        rfl
      | false =>
        rw [hq] at hcall
        go_wp2_with (go_at_fn 18; refine hcall.mono ?_; rintro e w' ⟨rfl, rfl⟩)
        go_roundg (5 - (kk + 1))
        case measure => omega
        case rel =>
          refine ⟨kk + 1, by omega, by omega, by go_num, rfl, (show Aside _ from ?_)⟩
          show _ = _
          rw [A.out, show 5 - kk = (5 - (kk + 1)) + 1 from by omega, kindOf, B.out, hq]
          rfl
    · have hltz : ¬ (kk : Int) < 5 := by omega
      have : kk = 5 := by omega
      subst this
      go_wp2
      go_ret
      refine ⟨?_, rfl⟩
      rw [A.out]
      rfl
set_option maxHeartbeats 2000000 in
theorem find_walk (p : ByteArray) (b pb lb n : Nat) (hn : 1 ≤ n) (w : World) (h1 : w.cell? ⟨pb, 0, none⟩ = some (.slice (some ⟨lb, 0, none⟩) n n)) (h2 : w.cell? ⟨lb, 0, none⟩ = some (.string p))
    (hw : ∀ j, j < 5 → w.cell? ⟨b, j, none⟩ = some (.string (word j))) :
    Calls Tryz.prog 17 #[.slice (some ⟨b, 0, none⟩) 5 5, .func (.func 18) #[] #[.pointer (some ⟨pb, 0, none⟩)]] w fun e w' => e = .returned (.int .i64 (kindOf p 5 0)) ∧ w' = w := by
  have e31 : ∀ args w, (callFunc 31 args).run Tryz.prog w = .ok (.enter 31 args) w := Tryz.call31
  have hc := indexFunc_walk p b pb lb n hn w h1 h2 hw
  clear hw
  go_enter Tryz.func17, Tryz.ntmps17
  go_wp2_with (go_at_fn 31; refine hc.mono ?_; rintro e w' ⟨rfl, rfl⟩)
  go_ret
  exact ⟨rfl, rfl⟩
end Go.Proofs
end
section
namespace Go.Proofs
open Go.Shelf Go.RowKit Go.Lib
def atoiV (s : ByteArray) : Int := match Lib.atoiAll s.data.toList with
  | .ok v => v
  | .range => Lib.atoiSat s.data.toList
  | _ => 0
def ErrAt (w : World) (g : Nat) : Prop := ∃ ev, w.cell? ⟨g, 0, none⟩ = some ev ∧ (ev = .nilIface ∨ ∃ te pe, ev = .iface te pe)
theorem ErrAt.below {w w' : World} {g B : Nat} (h : ErrAt w g) (hb : Below B w w') (hg : g < B) : ErrAt w' g := by
  obtain ⟨ev, h1, h2⟩ := h
  exact ⟨ev, by rw [hb.cell (p := ⟨g, 0, none⟩) hg]; exact h1, h2⟩
theorem below_bytesWorld (w : World) (e : TypeId) (s : ByteArray) : Below w.heap.size w (Lib.bytesWorld w e s) := by
  have h : Below w.heap.size w (w.drew.alloc (.cells (Lib.bytesCells w e s) e)) := ((Below.refl _ w).drew).alloc (Nat.le_refl _) _
  unfold Lib.bytesWorld World.freeze
  split
  · exact h
  · refine ⟨h.os, h.tape, h.output, ?_, fun k hk => ?_⟩
    · show _ ≤ (Array.modify _ _ _).size
      rw [Array.size_modify]; exact h.size
    · show (Array.modify _ _ _)[k]? = _
      rw [Array.getElem?_modify, if_neg (by show ¬ w.heap.size = k; omega)]
      exact h.block k hk
theorem atoi_walk (s : ByteArray) (hs : s.size ≤ 281474976710656) (w : World) (h0 : ErrAt w 0) (h1 : ErrAt w 1) :
    Calls Tryz.prog 19 #[.string s] w fun e w' => (∃ ev, e = .returned (.tuple #[.int .i64 (atoiV s), ev])) ∧ Below w.heap.size w w' := by
  cases h : Lib.atoiAll s.data.toList with
  | ok v =>
    refine (Any.strconv_Atoi_ok Tryz.laysAtoi s (by omega) v h w).mono ?_
    rintro e w' ⟨rfl, hw⟩
    refine ⟨⟨_, by unfold atoiV; rw [h]⟩, ?_⟩
    rcases hw with rfl | ⟨t, rfl⟩
    · exact Below.refl _ _
    · exact below_bytesWorld _ _ _
  | range =>
    obtain ⟨ev, g1, g2⟩ := h1
    refine (Any.strconv_Atoi_range Tryz.laysAtoi s hs h ev w g1 g2).mono ?_
    rintro e w' ⟨N, rfl, _, _, hb⟩
    exact ⟨⟨_, by unfold atoiV; rw [h]⟩, hb⟩
  | _ =>
    obtain ⟨ev, g1, g2⟩ := h0
    refine (Any.strconv_Atoi_syntax Tryz.laysAtoi s hs h ev w g1 g2).mono ?_
    rintro e w' ⟨N, rfl, _, _, hb⟩
    exact ⟨⟨_, by unfold atoiV; rw [h]⟩, hb⟩
end Go.Proofs
end
section
namespace Go.Proofs
open Go.Shelf Go.RowKit Go.Lib
def D (n : Nat) : ByteArray := ⟨(Lib.decDigits n).toArray⟩
theorem D_size {n : Nat} (h : n ≤ 99) : (D n).size ≤ 2 := by
  show (Lib.decDigits n).toArray.size ≤ 2
  rw [List.size_toArray]
  by_cases h1 : n < 10
  · rw [Lib.decDigits_one h1]; simp
  · rw [Lib.decDigits_two h1 (by omega)]; simp
def text (k a b : Int) : ByteArray := if k = 3 then word 3 ++ ⟨#[32]⟩ ++ D a.toNat ++ (⟨#[32]⟩ ++ D b.toNat) else word k.toNat ++ ⟨#[32]⟩ ++ D a.toNat
def printed (k a b : Int) : Value := if valid k a b then .tuple #[.string (text k a b), .int .i64 0] else .tuple #[.string ⟨#[]⟩, .int .i64 430]
theorem print_all (k a b : Int) (w : World) : Calls Tryz.prog 6 #[.agg #[.int .i64 k, .int .i64 a, .int .i64 b]] w fun e w' => e = .returned (printed k a b) ∧ Below w.heap.size w w' := by
  cases hv : valid k a b with
  | false => rw [printed, hv]; exact print_bad k a b hv w
  | true =>
    rw [printed, hv]
    simp only [valid, Bool.and_eq_true, decide_eq_true_eq] at hv
    obtain ⟨⟨k1, k2⟩, ⟨a1, a2⟩, b1, b2⟩ := hv
    obtain ⟨a, rfl⟩ := Int.eq_ofNat_of_zero_le a1
    obtain ⟨b, rfl⟩ := Int.eq_ofNat_of_zero_le b1
    have hit : ∀ n : Nat, n ≤ 99 → ∀ (w : World), Calls Tryz.prog 15 #[.int .i64 n] w fun e w' => e = .returned (.string (D n)) ∧ w' = w := fun n hn w => Any.strconv_Itoa_small Tryz.laysItoa n (by omega) w
    have ha : a ≤ 99 := by omega
    have hk : k = 1 ∨ k = 2 ∨ k = 3 ∨ k = 4 := by omega
    rcases hk with rfl | rfl | rfl | rfl
    · have : b = 0 := by simp at b2; omega
      subst this
      exact print1 a ha (D a) (D_size ha) (hit a ha) w
    · have : b = 0 := by simp at b2; omega
      subst this
      exact print2 a ha (D a) (D_size ha) (hit a ha) w
    · have hb : b ≤ 99 := by simp at b2; omega
      exact print3 a ha (D a) (D_size ha) (hit a ha) b hb (D b) (D_size hb) (hit b hb) w
    · have : b = 0 := by simp at b2; omega
      subst this
      exact print4 a ha (D a) (D_size ha) (hit a ha) w
end Go.Proofs
end
