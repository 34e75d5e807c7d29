/- strings.Contains at two texts, told by bytes; turn.Same; letterbecklaw1.turnFact. -/
import Derived.Test.YtkmoohhnjgpchaaShelf
import Derived.Test.YtkmoohhnjgpchaaTurnLeastFn
import Derived.Test.YtkmoohhnjgpchaaTurnRoot
import Derived.Test.YtkmoohhnjgpchaaTurnB
namespace Go.Proofs.Ytkmoohhnjgpchaa
set_option linter.unusedVariables false
set_option linter.unusedSimpArgs false
open Go.RowKit

theorem index_iff (sub : List UInt8) : ∀ l : List UInt8, 0 ≤ Lib.index l sub ↔ ∃ i, i ≤ l.length ∧ sub.isPrefixOf (l.drop i) = true
  | [] => by
    unfold Lib.index
    cases sub with
    | nil => simp
    | cons c sub => simp
  | b :: l => by
    have ih := index_iff sub l
    have hge : ∀ l : List UInt8, -1 ≤ Lib.index l sub := by
      intro l
      induction l with
      | nil => unfold Lib.index; split <;> omega
      | cons b l ih =>
        unfold Lib.index
        split
        · omega
        · split <;> omega
    have := hge l
    unfold Lib.index
    by_cases h : sub.isPrefixOf (b :: l) = true
    · rw [if_pos h]
      exact ⟨fun _ => ⟨0, Nat.zero_le _, h⟩, fun _ => by omega⟩
    · rw [if_neg h]
      constructor
      · intro h2
        have h3 : 0 ≤ Lib.index l sub := by
          by_cases e : Lib.index l sub == -1
          · rw [if_pos e] at h2; omega
          · have : Lib.index l sub ≠ -1 := by simpa using e
            omega
        obtain ⟨i, h4, h5⟩ := ih.1 h3
        exact ⟨i + 1, by simp; omega, by simpa using h5⟩
      · rintro ⟨i, h4, h5⟩
        rcases i with _ | i
        · exact absurd h5 h
        · have h6 := ih.2 ⟨i, by simp at h4; omega, by simpa using h5⟩
          have : ¬ (Lib.index l sub == -1) = true := by simp; omega
          rw [if_neg this]; omega

theorem pre_iff {s t : ByteArray} {i : Nat} (hi : i ≤ s.size) : t.data.toList.isPrefixOf (s.data.toList.drop i) = true ↔ i + t.size ≤ s.size ∧ ∀ j, j < t.size → bt t j = bt s (i + j) := by
  have ls : s.data.toList.length = s.size := by simp
  have lt : t.data.toList.length = t.size := by simp
  rw [List.isPrefixOf_iff_prefix, List.prefix_iff_eq_take]
  constructor
  · intro h
    have hl := congrArg List.length h
    rw [List.length_take, List.length_drop, ls, lt] at hl
    refine ⟨by omega, fun j hj => ?_⟩
    unfold bt
    rw [List.getD_eq_getElem?_getD, List.getD_eq_getElem?_getD, h, List.getElem?_take, if_pos (by rw [lt]; exact hj), List.getElem?_drop]
  · rintro ⟨h1, h2⟩
    refine List.ext_getElem (by rw [List.length_take, List.length_drop, ls, lt]; omega) fun j h3 h4 => ?_
    have h5 := h2 j (by omega)
    unfold bt at h5
    rw [List.getD_eq_getElem?_getD, List.getD_eq_getElem?_getD, List.getElem?_eq_getElem h3, List.getElem?_eq_getElem (show i + j < s.data.toList.length by omega)] at h5
    rw [List.getElem_take, List.getElem_drop]
    exact UInt8.toNat_inj.1 h5

theorem contains_iff {s t : ByteArray} : Lib.contains s.data.toList t.data.toList = true ↔ ∃ i, i + t.size ≤ s.size ∧ ∀ j, j < t.size → bt t j = bt s (i + j) := by
  have ls : s.data.toList.length = s.size := by simp
  unfold Lib.contains
  rw [decide_eq_true_eq, index_iff, ls]
  constructor
  · rintro ⟨i, h1, h2⟩; exact ⟨i, (pre_iff h1).1 h2⟩
  · rintro ⟨i, h1, h2⟩; exact ⟨i, by omega, (pre_iff (by omega)).2 ⟨h1, h2⟩⟩

/-- Twice a text has each of its turns, and no other text of its length. -/
theorem contains_turn {a b : ByteArray} (h : a.size = b.size) : Lib.contains (a ++ a).data.toList b.data.toList = true ↔ ∃ i, i ≤ a.size ∧ b = turnB a i := by
  have hbt : ∀ i j, i ≤ a.size → j < a.size → bt (a ++ a) (i + j) = rot (bt a) a.size i j := fun i j hi hj => by
    unfold rot
    rw [bt_append]
    split
    · rw [Nat.mod_eq_of_lt (by omega)]
    · rw [show i + j = i + j - a.size + a.size from by omega, Nat.add_mod_right, Nat.mod_eq_of_lt (by omega), Nat.add_sub_cancel]
  rw [contains_iff, ByteArray.size_append]
  constructor
  · rintro ⟨i, h1, h2⟩
    have hi : i ≤ a.size := by omega
    refine ⟨i, hi, ext_bt (by rw [turnB_size hi, h]) fun j hj => ?_⟩
    rw [turnB_bt hi j (by omega), h2 j hj, hbt i j hi (by omega)]
  · rintro ⟨i, hi, h2⟩
    refine ⟨i, by omega, fun j hj => ?_⟩
    rw [hbt i j hi (by omega), h2, turnB_bt hi j (by omega)]

theorem sl_two (w : World) (a b : ByteArray) (B : Nat) (hB : w.heap.size < B) : Sl (w.alloc (.cells #[.string a, .string b] 9)) B (some ⟨w.heap.size, 0, none⟩) ([a, b].map Value.string) := fun _ =>
  ⟨w.heap.size, 0, rfl, hB, fun i u hu => by
    rw [Nat.zero_add, cell_of_row _ w.heap.size i #[.string a, .string b] 9 (0, 0) (heap_alloc_new w _)]
    simpa using hu⟩

theorem long2_ok (w : World) (a b : ByteArray) (ha : a.size ≤ 24) (hb : b.size ≤ 24) :
    Calls Try.prog 23 #[.int .i64 24, .slice (some ⟨w.heap.size, 0, none⟩) 2 2] (w.alloc (.cells #[.string a, .string b] 9)) fun e w' => e = .returned .nilIface ∧ (w.alloc (.cells #[.string a, .string b] 9)) = w' :=
  long_ok _ _ 2 [a, b] 24 (w.heap.size + 1) (sl_two w a b _ (by omega)) (by simp) (by decide) (fun i hi => by
    match i, hi with
    | 0, _ => show (a.size : Int) ≤ 24; omega
    | 1, _ => show (b.size : Int) ≤ 24; omega)

theorem long2_bad (w : World) (a b : ByteArray) (h : 24 < a.size ∨ 24 < b.size) (ha : a.size ≤ maxLen) (hb : b.size ≤ maxLen) :
    Calls Try.prog 23 #[.int .i64 24, .slice (some ⟨w.heap.size, 0, none⟩) 2 2] (w.alloc (.cells #[.string a, .string b] 9)) fun e w' => e = .returned (errv 4) ∧ (w.alloc (.cells #[.string a, .string b] 9)) = w' := by
  have hz : ∀ i (hi : i < [a, b].length), [a, b][i].size ≤ 9223372036854775807 := fun i hi => by
    match i, hi with
    | 0, _ => exact ha
    | 1, _ => exact hb
  rcases h with h | h
  · exact long_bad _ _ 2 [a, b] 24 (w.heap.size + 1) (sl_two w a b _ (by omega)) (by simp) (by decide) 0 (by simp) (by show (24 : Int) < (a.size : Int); omega) hz
  · exact long_bad _ _ 2 [a, b] 24 (w.heap.size + 1) (sl_two w a b _ (by omega)) (by simp) (by decide) 1 (by simp) (by show (24 : Int) < (b.size : Int); omega) hz

/-- internal/bytealg.MaxLen holds some number. -/
def HasMax (w : World) : Prop := ∃ m : Int, w.cell? ⟨0, 0, none⟩ = some (.int .i64 m)

theorem HasMax.below {w w' : World} (h : HasMax w) (hb : Below w.heap.size w w') : HasMax w' := by
  obtain ⟨m, hm⟩ := h
  exact ⟨m, (hb.cell (World.block_lt_of_cell? w _ hm)).trans hm⟩

set_option maxHeartbeats 400000 in
theorem same_bad (w : World) (a b : ByteArray) (h : 24 < a.size ∨ 24 < b.size) (ha : a.size ≤ maxLen) (hb : b.size ≤ maxLen) :
    Calls Try.prog 20 #[.string a, .string b] w fun e w' => e = .returned (.tuple #[.bool false, errv 4]) ∧ Below w.heap.size w w' := by
  have H := hid h
  clear h
  go_enter Try.func20, Try.ntmps20
  go_wp2_with (go_at_call 23; refine (long2_bad _ a b H.out ha hb).mono ?_; rintro e w' ⟨rfl, rfl⟩)
  go_ret2
  exact ⟨rfl, (Below.refl _ _).alloc (Nat.le_refl _) _⟩

set_option maxHeartbeats 400000 in
theorem same_ok (w : World) (a b : ByteArray) (ha : a.size ≤ 24) (hb : b.size ≤ 24) (hM : HasMax w) (x : Bool) (hx : x = true ↔ ∃ i, i ≤ a.size ∧ b = turnB a i) :
    Calls Try.prog 20 #[.string a, .string b] w fun e w' => e = .returned (.tuple #[.bool x, .nilIface]) ∧ Below w.heap.size w w' := by
  obtain ⟨m, hm⟩ := hM
  have hm' : (w.alloc (.cells #[.string a, .string b] 9)).cell? ⟨0, 0, none⟩ = some (.int .i64 m) := ((Below.refl w.heap.size w).alloc (Nat.le_refl _) _).cell (World.block_lt_of_cell? w _ hm) |>.trans hm
  have Hm := hid hm'
  clear hm hm'
  by_cases h : a.size = b.size
  · have hz : (a ++ a).size < 4294967281 := by rw [ByteArray.size_append]; omega
    have hcon : Lib.contains (a ++ a).data.toList b.data.toList = x := by
      have h1 := contains_turn h
      cases x
      · cases e : Lib.contains (a ++ a).data.toList b.data.toList
        · rfl
        · exact absurd (hx.2 (h1.1 e)) (by decide)
      · exact h1.2 (hx.1 rfl)
    have hcall := hid (Try.strings_Contains (a ++ a) b m _ hz Hm.out)
    rw [hcon] at hcall
    have e1 : ((a.size : Int) == b.size) = true := by rw [beq_iff_eq]; omega
    clear hx h hcon hz
    go_enter Try.func20, Try.ntmps20
    go_wp2_with (first
      | (go_at_call 23; refine (long2_ok _ a b ha hb).mono ?_; rintro e w' ⟨rfl, rfl⟩)
      | (go_at_call 25; refine hcall.out.mono ?_; rintro e w' ⟨rfl, rfl⟩))
    go_ret2
    exact ⟨rfl, (Below.refl _ _).alloc (Nat.le_refl _) _⟩
  · have hxf : x = false := by
      cases x
      · rfl
      · obtain ⟨i, h1, h2⟩ := hx.1 rfl
        exact absurd (by rw [h2, turnB_size h1]) h
    have e1 : ((a.size : Int) == b.size) = false := by rw [beq_eq_false_iff_ne]; omega
    subst hxf
    clear hx h
    go_enter Try.func20, Try.ntmps20
    go_wp2_with (go_at_call 23; refine (long2_ok _ a b ha hb).mono ?_; rintro e w' ⟨rfl, rfl⟩)
    go_ret2
    exact ⟨rfl, (Below.refl _ _).alloc (Nat.le_refl _) _⟩

/-! The least turn, reckoned. -/
def rltB (f : Nat → Nat) (n i j : Nat) : Bool := (List.range n).any fun l => (List.range l).all (fun x => rot f n i x == rot f n j x) && decide (rot f n i l < rot f n j l)

theorem rltB_iff {f : Nat → Nat} {n i j : Nat} : rltB f n i j = true ↔ RLt f n i j := by
  unfold rltB RLt
  simp only [List.any_eq_true, List.mem_range, Bool.and_eq_true, List.all_eq_true, beq_iff_eq, decide_eq_true_eq]

def leastB (f : Nat → Nat) (n r : Nat) : Bool := decide (r < n) && (List.range n).all (fun t => !rltB f n t r) && (List.range r).all fun t => rltB f n r t

theorem leastB_ok {f : Nat → Nat} {n r : Nat} (h : leastB f n r = true) : IsLeast f n r := by
  unfold leastB at h
  simp only [Bool.and_eq_true, List.all_eq_true, List.mem_range, decide_eq_true_eq, Bool.not_eq_true'] at h
  refine ⟨h.1.1, fun t ht hlt => ?_, fun t ht => rltB_iff.1 (h.2 t ht)⟩
  have := h.1.2 t ht
  rw [rltB_iff.2 hlt] at this; cases this

set_option maxHeartbeats 400000 in
theorem turnFact_true (w : World) (hM : HasMax w) : Calls Try.prog 19 #[] w fun e w' => e = .returned (.bool true) ∧ Below w.heap.size w w' := by
  have HM := hid hM
  clear hM
  have h1 := hid (fun w => turnLeast_ok w ⟨#[98, 97, 98]⟩ (by decide) 1 (.inr (leastB_ok (by decide))))
  have h2 : Hid (∀ w, Calls Try.prog 17 #[.string ⟨#[97, 98, 97, 98]⟩] w fun e w' => e = .returned (.tuple #[.int .i64 2, .nilIface]) ∧ Below w.heap.size w w') := fun w => by
    have := turnRoot_ok w ⟨#[97, 98, 97, 98]⟩ (by decide) (by decide)
    rwa [show rootOf (bt ⟨#[97, 98, 97, 98]⟩) (ByteArray.size ⟨#[97, 98, 97, 98]⟩) = 2 from by decide] at this
  have h3 := hid (fun w hw => same_ok w ⟨#[97, 98, 99]⟩ ⟨#[99, 97, 98]⟩ (by decide) (by decide) hw true ⟨fun _ => ⟨2, by decide, by decide⟩, fun _ => rfl⟩)
  go_enter Try.func19, Try.ntmps19
  go_wp2_with fail
  refine (h1.out _).mono ?_
  rintro e w1 ⟨rfl, hb⟩
  go_wp2_with fail
  refine (h2.out _).mono ?_
  rintro e w2 ⟨rfl, hb2⟩
  go_wp2_with fail
  refine (h3.out _ ((HM.out.below hb).below hb2)).mono ?_
  rintro e w3 ⟨rfl, hb3⟩
  go_wp2
  go_ret
  exact ⟨rfl, bch hb (bch hb2 hb3)⟩
end Go.Proofs.Ytkmoohhnjgpchaa
