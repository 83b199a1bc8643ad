/- Parse undoes Print, and what Parse accepts Print returns: plain laws, with the sizes of texts; conditions: at most 1000 bytes. -/
import Derived.KernelRfl
import Derived.Test.YtlmeiickknfhhaaGreatDoorPe
set_option linter.all false
set_option linter.unusedVariables false
set_option linter.unusedSimpArgs false
set_option linter.unusedSectionVars false
set_option linter.unnecessarySimpa false
section
namespace Go.Proofs
open Go.Shelf Go.RowKit Go.Lib
theorem splitB_sizes (sep : ByteArray) : ∀ (k : Nat) (s : ByteArray), ∀ p ∈ Lib.splitB sep 0 k s, p.size ≤ s.size := by
  intro k
  induction k with
  | zero => intro s p hp; simp only [Lib.splitB, List.mem_singleton] at hp; subst hp; exact Nat.le_refl _
  | succ k ih =>
    intro s p hp
    unfold Lib.splitB at hp
    split at hp
    · simp only [List.mem_singleton] at hp; subst hp; exact Nat.le_refl _
    · rcases List.mem_cons.1 hp with rfl | hp
      · rw [ByteArray.size_extract]; omega
      · have := ih _ p hp
        rw [ByteArray.size_extract] at this
        omega
theorem pieces_sizes {z p : ByteArray} (h : p ∈ pieces z) : p.size ≤ z.size := splitB_sizes _ _ _ p h
theorem pieces_ne (z : ByteArray) : pieces z ≠ [] := by
  have hlen := Lib.splitB_all ⟨#[32]⟩ (by decide) 0 _ z rfl
  intro h
  have : (pieces z).length = Lib.countB z ⟨#[32]⟩ + 1 := hlen
  rw [h] at this
  simp at this
def F (z : ByteArray) : Int × Int × Int := match pieces z with
  | [] => (0, 0, 0)
  | [p0] => (kindOf p0 5 0, 0, 0)
  | [p0, p1] => (kindOf p0 5 0, atoiV p1, 0)
  | p0 :: p1 :: p2 :: _ => (kindOf p0 5 0, atoiV p1, atoiV p2)
def parseV (z : ByteArray) : Value := parsed z (F z).1 (F z).2.1 (F z).2.2
/-- the world as the walks want it -/
structure Ready (w : World) : Prop where
  e0 : ErrAt w 0
  e1 : ErrAt w 1
  m : ∃ m, w.cell? ⟨3, 0, none⟩ = some (.int .i64 m)
theorem Ready.below {w w' : World} (h : Ready w) (hb : Below w.heap.size w w') : Ready w' := by
  obtain ⟨m, hm⟩ := h.m
  have : 3 < w.heap.size := block_lt_of_cell hm
  exact ⟨h.e0.below hb (by omega), h.e1.below hb (by omega), m, by rw [hb.cell (p := ⟨3, 0, none⟩) this]; exact hm⟩
theorem parse_all (z : ByteArray) (hz : z.size ≤ 1000) (w : World) (hw : Ready w) : Calls Tryz.prog 7 #[.string z] w fun e w' => e = .returned (parseV z) ∧ Below w.heap.size w w' := by
  obtain ⟨m, hm⟩ := hw.m
  cases hL : pieces z with
  | nil => exact absurd hL (pieces_ne z)
  | cons p0 R =>
    cases R with
    | nil =>
      have : parseV z = parsed z (kindOf p0 5 0) 0 0 := by unfold parseV F; rw [hL]
      rw [this]
      exact parse1 z hz w m hm p0 hL
    | cons p1 R =>
      have h1 : p1.size ≤ 1000 := Nat.le_trans (pieces_sizes (by rw [hL]; simp)) hz
      cases R with
      | nil =>
        have : parseV z = parsed z (kindOf p0 5 0) (atoiV p1) 0 := by unfold parseV F; rw [hL]
        rw [this]
        exact parse2 z hz w m hm hw.e0 hw.e1 p0 p1 hL h1
      | cons p2 R =>
        have h2 : p2.size ≤ 1000 := Nat.le_trans (pieces_sizes (by rw [hL]; simp)) hz
        have : parseV z = parsed z (kindOf p0 5 0) (atoiV p1) (atoiV p2) := by unfold parseV F; rw [hL]
        rw [this]
        exact parse3 z hz w m hm hw.e0 hw.e1 p0 p1 p2 R hL h1 h2
end Go.Proofs
end
section
namespace Go.Proofs
open Go.Shelf Go.RowKit Go.Lib
/-! ### the plain law -/
theorem indexByte_hit (r : List UInt8) : ∀ (l : List UInt8), (∀ x ∈ l, x ≠ 32) → Lib.indexByte (l ++ 32 :: r) 32 = l.length := by
  intro l
  induction l with
  | nil => intro _; simp [Lib.indexByte]
  | cons x l ih =>
    intro h
    have hx : (x == 32) = false := by simpa using h x (by simp)
    have := ih fun y hy => h y (by simp [hy])
    show (if x == 32 then (0 : Int) else if Lib.indexByte (l ++ 32 :: r) 32 == -1 then -1 else Lib.indexByte (l ++ 32 :: r) 32 + 1) = _
    rw [hx, this]
    have : ((l.length : Int) == -1) = false := by rw [beq_eq_false_iff_ne]; omega
    rw [this]; simp
theorem indexByte_miss : ∀ (l : List UInt8), (∀ x ∈ l, x ≠ 32) → Lib.indexByte l 32 = -1 := by
  intro l
  induction l with
  | nil => intro _; rfl
  | cons x l ih =>
    intro h
    have hx : (x == 32) = false := by simpa using h x (by simp)
    have := ih fun y hy => h y (by simp [hy])
    show (if x == 32 then (0 : Int) else if Lib.indexByte l 32 == -1 then -1 else Lib.indexByte l 32 + 1) = _
    rw [hx, this]; rfl
theorem indexB_of (s : ByteArray) : Lib.indexB s ⟨#[32]⟩ = Lib.indexByte s.data.toList 32 := Lib.index_one s.data.toList 32
theorem bytes_append (p q : ByteArray) : (p ++ q).data.toList = p.data.toList ++ q.data.toList := by simp [ByteArray.data_append]
theorem pieces_one (p : ByteArray) (hp : ∀ x ∈ p.data.toList, x ≠ 32) : pieces p = [p] := by
  have h : Lib.indexB p ⟨#[32]⟩ = -1 := by rw [indexB_of]; exact indexByte_miss _ hp
  unfold pieces
  exact Lib.splitB_miss _ _ _ _ h
theorem bytes_ext {p q : ByteArray} (h : p.data.toList = q.data.toList) : p = q := by
  obtain ⟨⟨p⟩⟩ := p; obtain ⟨⟨q⟩⟩ := q; exact congrArg (fun l => (⟨⟨l⟩⟩ : ByteArray)) h
theorem pieces_cons (p r : ByteArray) (hp : ∀ x ∈ p.data.toList, x ≠ 32) : pieces (p ++ (⟨#[32]⟩ ++ r)) = p :: pieces r := by
  have h : Lib.indexB (p ++ (⟨#[32]⟩ ++ r)) ⟨#[32]⟩ = (p.size : Nat) := by
    rw [indexB_of, bytes_append, bytes_append]
    exact indexByte_hit _ _ hp
  have e1 : (p ++ (⟨#[32]⟩ ++ r)).extract (p.size + (⟨#[32]⟩ : ByteArray).size) (p ++ (⟨#[32]⟩ ++ r)).size = r := by
    apply bytes_ext
    rw [Lib.extract_to_end, bytes_append, bytes_append]
    show List.drop (p.data.toList.length + 1) (p.data.toList ++ 32 :: r.data.toList) = r.data.toList
    generalize p.data.toList = l
    rw [List.drop_append, List.drop_eq_nil_of_le (by omega), show l.length + 1 - l.length = 1 from by omega]
    rfl
  have e2 : (p ++ (⟨#[32]⟩ ++ r)).extract 0 (p.size + 0) = p := by
    apply bytes_ext
    rw [Lib.extract_from_zero, bytes_append]
    show List.take (p.data.toList.length + 0) (p.data.toList ++ _) = p.data.toList
    generalize p.data.toList = l
    rw [Nat.add_zero, List.take_left']
    rfl
  unfold pieces
  rw [Lib.countB_hit _ _ _ (by decide) h, e1, Nat.add_comm 1, Lib.splitB_hit _ _ _ _ _ h, e1, e2]
def dOk (n : Nat) : Bool := (D n).data.toList.all (fun x => !(x == 32)) && (decide (atoiV (D n) = (n : Int)) && Nat.ble 1 (D n).size)
theorem dOk_all : ((List.range 100).all dOk) = true := by kernel_rfl
theorem d_spec {n : Nat} (h : n ≤ 99) : (∀ x ∈ (D n).data.toList, x ≠ 32) ∧ atoiV (D n) = (n : Int) := by
  have := List.all_eq_true.1 dOk_all n (List.mem_range.2 (by omega))
  simp only [dOk, Bool.and_eq_true, decide_eq_true_eq] at this
  refine ⟨fun x hx => ?_, this.2.1⟩
  have := List.all_eq_true.1 this.1 x hx
  simpa using this
end Go.Proofs
end
section
namespace Go.Proofs
open Go.Shelf Go.RowKit Go.Lib
theorem word_clean {k : Nat} (h : k ≤ 4) : ∀ x ∈ (word k).data.toList, x ≠ 32 := by
  have : k = 0 ∨ k = 1 ∨ k = 2 ∨ k = 3 ∨ k = 4 := by omega
  rcases this with rfl | rfl | rfl | rfl | rfl <;> simp [word]
theorem kind1 : kindOf (word 1) 5 0 = 1 := by kernel_rfl
theorem kind2 : kindOf (word 2) 5 0 = 2 := by kernel_rfl
theorem kind3 : kindOf (word 3) 5 0 = 3 := by kernel_rfl
theorem kind4 : kindOf (word 4) 5 0 = 4 := by kernel_rfl
theorem F_two (k : Nat) (hk : k ≤ 4) (a : Nat) (ha : a ≤ 99) : F (word k ++ ⟨#[32]⟩ ++ D a) = (kindOf (word k) 5 0, (a : Int), 0) := by
  have h : pieces (word k ++ ⟨#[32]⟩ ++ D a) = [word k, D a] := by
    rw [ByteArray.append_assoc, pieces_cons _ _ (word_clean hk), pieces_one _ (d_spec ha).1]
  unfold F
  rw [h]
  show (_, atoiV (D a), (0 : Int)) = _
  rw [(d_spec ha).2]
theorem F_three (a b : Nat) (ha : a ≤ 99) (hb : b ≤ 99) : F (word 3 ++ ⟨#[32]⟩ ++ D a ++ (⟨#[32]⟩ ++ D b)) = (3, (a : Int), (b : Int)) := by
  have h : pieces (word 3 ++ ⟨#[32]⟩ ++ D a ++ (⟨#[32]⟩ ++ D b)) = [word 3, D a, D b] := by
    rw [ByteArray.append_assoc (a := word 3 ++ ⟨#[32]⟩), ByteArray.append_assoc, pieces_cons _ _ (word_clean (by omega)), pieces_cons _ _ (d_spec ha).1, pieces_one _ (d_spec hb).1]
  unfold F
  rw [h]
  show (kindOf (word 3) 5 0, atoiV (D a), atoiV (D b)) = _
  rw [(d_spec ha).2, (d_spec hb).2, kind3]
theorem F_text {k a b : Int} (hv : valid k a b = true) : F (text k a b) = (k, a, b) := by
  simp only [valid, Bool.and_eq_true, decide_eq_true_eq] at hv
  obtain ⟨⟨k1, k2⟩, ⟨a1, a2⟩, b1, b2⟩ := hv
  obtain ⟨a, rfl⟩ := Int.eq_ofNat_of_zero_le a1
  obtain ⟨b, rfl⟩ := Int.eq_ofNat_of_zero_le b1
  have ha : a ≤ 99 := by omega
  have hk : k = 1 ∨ k = 2 ∨ k = 3 ∨ k = 4 := by omega
  rcases hk with rfl | rfl | rfl | rfl
  · have : b = 0 := by simp at b2; omega
    subst this
    have := F_two 1 (by omega) a ha
    rw [kind1] at this; exact this
  · have : b = 0 := by simp at b2; omega
    subst this
    have := F_two 2 (by omega) a ha
    rw [kind2] at this; exact this
  · have hb : b ≤ 99 := by simp at b2; omega
    exact F_three a b ha hb
  · have : b = 0 := by simp at b2; omega
    subst this
    have := F_two 4 (by omega) a ha
    rw [kind4] at this; exact this
/-- Parse undoes Print -/
theorem parse_text {k a b : Int} (hv : valid k a b = true) : parseV (text k a b) = .tuple #[.agg #[.int .i64 k, .int .i64 a, .int .i64 b], .int .i64 0] := by
  unfold parseV
  rw [F_text hv]
  simp [parsed, hv]
/-- what Parse accepts, Print returns -/
theorem parse_cases (z : ByteArray) : (∃ k a b, valid k a b = true ∧ text k a b = z ∧ parseV z = .tuple #[.agg #[.int .i64 k, .int .i64 a, .int .i64 b], .int .i64 0]) ∨
    parseV z = .tuple #[.agg #[.int .i64 0, .int .i64 0, .int .i64 0], .int .i64 430] := by
  unfold parseV parsed
  split
  · rename_i h
    simp only [Bool.and_eq_true, beq_iff_eq] at h
    refine .inl ⟨_, _, _, h.1, ?_, rfl⟩
    have h2 := h.2
    apply bytes_ext
    rw [Lib.toList_data, Lib.toList_data] at h2
    exact h2
  · exact .inr rfl
end Go.Proofs
end
section
namespace Go.Proofs
open Go.Shelf Go.RowKit Go.Lib
theorem text_size {k a b : Int} (hv : valid k a b = true) : 1 ≤ (text k a b).size ∧ (text k a b).size ≤ 20 := by
  simp only [valid, Bool.and_eq_true, decide_eq_true_eq] at hv
  obtain ⟨⟨k1, k2⟩, ⟨a1, a2⟩, b1, b2⟩ := hv
  have hb : b ≤ 99 := by split at b2 <;> omega
  have h1 := D_size (n := a.toNat) (by omega)
  have h2 := D_size (n := b.toNat) (by omega)
  have hk : k = 1 ∨ k = 2 ∨ k = 3 ∨ k = 4 := by omega
  have hw : ∀ k, (word k).size ≤ 5 := by
    intro k
    match k with
    | 0 => decide
    | 1 => decide
    | 2 => decide
    | 3 => decide
    | n + 4 => show (4 : Nat) ≤ 5; omega
  have h3 := hw k.toNat
  have h4 := hw 3
  have h5 : (⟨#[32]⟩ : ByteArray).size = 1 := rfl
  unfold text
  split <;> simp only [ByteArray.size_append, h5] <;> omega
end Go.Proofs
end
section
namespace Go.Proofs
open Go.Shelf Go.RowKit Go.Lib
def pickV (c n : Int) : Int := if c < 0 then (-(c + 1)).tmod n else c % n
theorem pickV_range {c n : Int} (hn : 0 < n) : 0 ≤ pickV c n ∧ pickV c n < n := by
  unfold pickV
  split
  · exact ⟨Int.tmod_nonneg _ (by omega), Int.tmod_lt_of_pos _ hn⟩
  · exact ⟨Int.emod_nonneg _ (by omega), Int.emod_lt_of_pos _ hn⟩
set_option maxHeartbeats 1000000 in
theorem pick_fun (c n : Int) (hn : 0 < n) (hc : -9223372036854775808 ≤ c) (hc2 : c ≤ 9223372036854775807) (w : World) : Calls Tryz.prog 5 #[.int .i64 c, .int .i64 n] w fun e w' => e = .returned (.int .i64 (pickV c n)) ∧ w' = w := by
  go_enter Tryz.func5, Tryz.ntmps5
  go_wp2
  all_goals go_ret
  · rename_i h
    refine ⟨?_, rfl⟩
    rw [pickV, if_pos h]
    simp
  · rename_i h
    refine ⟨?_, rfl⟩
    rw [pickV, if_neg (by omega)]
    simp
end Go.Proofs
end
