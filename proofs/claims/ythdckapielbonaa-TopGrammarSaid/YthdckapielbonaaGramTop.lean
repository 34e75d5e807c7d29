/- gram.Has at the grammar of brackets, and dyck.Check. -/
import Derived.Test.YthdckapielbonaaGramWalk
import Derived.Test.YthdckapielbonaaPerPlain
namespace Go.Proofs.Ythdckapielbonaa
set_option linter.unusedVariables false
set_option linter.unusedSimpArgs false
open Go.RowKit Go.Deep

attribute [local go_sem] get_bt

theorem r0_ok : ∀ r ∈ R0, ROk r := by
  intro r hr
  unfold R0 at hr
  simp only [List.mem_cons, List.not_mem_nil, or_false] at hr
  rcases hr with rfl | rfl | rfl | rfl | rfl | rfl <;> (unfold ROk; decide)

/-- The text is of letters a and b. -/
def IsAB (s : ByteArray) (n : Nat) : Prop := ∀ k, k < n → bt s k = 97 ∨ bt s k = 98

theorem names_r0 (w : World) {s : ByteArray} (h : IsAB s s.size) : NamesIn w R0 s (V (bt s)) where
  ok := r0_ok
  one i hi := cell_one s i hi
  two i n h1 h2 := cell_two (bt s) i n h1 fun k hk => h (i + k) (by omega)
  lt i n := Nat.lt_trans (V_lt (bt s) i n) (by decide)

theorem ghas_ab (w : World) (A : Option Addr) (c : Nat) (h : RL w w.heap.size A R0) (s : ByteArray) (hs : s.size ≤ 24) (hab : IsAB s s.size) (b : Bool) (hb : b = decide (1 ≤ s.size ∧ Bal (bt s) 0 s.size)) :
    Calls Try.prog 23 #[.slice A 6 c, .string s] w fun e w' => e = .returned (.tuple #[.bool b, .nilIface]) ∧ Below w.heap.size w w' := by
  by_cases h0 : s.size = 0
  · refine ghas_of w A 6 c s ByteArray.empty b (by decide) ?_ (gnames_empty w A c R0 h (by decide) r0_ok s h0)
    constructor
    · intro hb2
      rw [hb] at hb2
      have := (of_decide_eq_true hb2).1
      omega
    · rintro ⟨i, hi, _⟩
      exact absurd hi (Nat.not_lt_zero _)
  · refine ghas_of w A 6 c s (setS (V (bt s) 0 s.size) 26) b (by rw [setS_size]; exact setL_le _ _) ?_ (gnames_ok w A c R0 h (by decide) s hs (by omega) (V (bt s)) (names_r0 w hab))
    rw [← setS_has (x := V (bt s) 0 s.size) (k := 26) (j := 18) (by omega) (by omega), V_bit, hb, decide_eq_true_eq]
    unfold nt
    constructor
    · intro hc; exact .inr (.inr (.inr ⟨rfl, hc⟩))
    · rintro (hc | hc | hc | hc)
      · omega
      · omega
      · omega
      · exact hc.2

/-! dyck.Check -/

theorem ht_up (f : Nat → Nat) (i : Nat) : ∀ k, ht f i k ≤ k
  | 0 => by simp [ht]
  | k + 1 => by
    have := ht_up f i k
    rw [ht]
    split <;> omega

set_option maxRecDepth 100000 in
set_option maxHeartbeats 1000000 in
theorem dcheck_any (w : World) (f : Nat → Nat) (t : ByteArray) (h16 : t.size ≤ 16) (hb : ∀ i, i < t.size → bt t i = if f i = 97 then 40 else 41) :
    Calls Try.prog 24 #[.string t] w fun e w' => ((Bal f 0 t.size ∧ e = .returned .nilIface) ∨ (¬ Bal f 0 t.size ∧ e = .returned (errv 7))) ∧ Below w.heap.size w w' := by
  have HB := hid hb
  have HL := hid (fun w b c hc => longN_ok w t 16 (by omega) h16 b c hc)
  have hbel := hid ((Below.refl w.heap.size w).alloc (Nat.le_refl _) (.cells #[.string t] 9))
  have HU := hid (ht_up f 0)
  clear hb
  go_enter Try.func24, Try.ntmps24
  go_wp2_with (first | (go_at_call 25; refine (HL.out _ _ _ (by simp)).mono ?_; rintro e w' ⟨rfl, rfl⟩) | fail)
  obtain ⟨w1, hw1⟩ : ∃ w1, w.alloc (.cells #[.string t] 9) = w1 := ⟨_, rfl⟩
  rw [hw1] at hbel ⊢
  clear hw1
  go_loopw [4, 14] (fun o i wr => wr = w1 ∧ ∃ (k : Nat) (x : Int), k ≤ t.size ∧ i = .int .i64 (k : Nat) ∧ o = .int .i64 x ∧ 0 ≤ x ∧ x ≤ 16 ∧ Hid (ht f 0 k = x) ∧ Hid (∀ j, j ≤ k → 0 ≤ ht f 0 j)) (fun _ i _ => t.size - (intOf i).toNat)
  case atStart => exact ⟨rfl, 0, 0, by omega, rfl, rfl, by omega, by omega, hid rfl, hid (fun j hj => by rw [show j = 0 by omega]; simp [ht])⟩
  case round =>
    obtain ⟨rfl, k, x, hk, rfl, rfl, hx0, hx1, hx, hall⟩ := hrel
    by_cases hlt : k < t.size
    · have hlt' : (k : Int) < t.size := by omega
      have hup := HU.out (k + 1)
      by_cases hf : f k = 97
      · have hbk := HB.out k hlt
        rw [if_pos hf] at hbk
        have e1 : ((bt t k : Int) == 40) = true := by rw [hbk]; rfl
        have hn : ht f 0 (k + 1) = x + 1 := by rw [ht, hx.out, Nat.zero_add, if_pos hf]
        have hall2 := hid (show ∀ j, j ≤ k + 1 → 0 ≤ ht f 0 j from fun j hj => by
          by_cases e : j = k + 1
          · rw [e, hn]; omega
          · exact hall.out j (by omega))
        have hn2 := hid hn
        have hx3 : x + 1 ≤ 16 := by omega
        have hx4 : ¬ x + 1 < 0 := by omega
        clear hbk hf hn hup
        go_wp2_with fail
        go_roundw
        case rel => exact ⟨trivial, k + 1, x + 1, by omega, by go_num, by go_num, by omega, by omega, hn2, hall2⟩
        case measure => simp [intOf]; omega
      · have hbk := HB.out k hlt
        rw [if_neg hf] at hbk
        have e1 : ((bt t k : Int) == 40) = false := by rw [hbk]; rfl
        have e2 : ((bt t k : Int) == 41) = true := by rw [hbk]; rfl
        have hn : ht f 0 (k + 1) = x - 1 := by rw [ht, hx.out, Nat.zero_add, if_neg hf]; rfl
        have hn2 := hid hn
        by_cases hz : x = 0
        · subst hz
          have hbad := hid (show ¬ Bal f 0 t.size from fun hB => by
            have := hB.1 (k + 1) (by omega)
            omega)
          clear hbk hf hn hup
          go_wp2_with fail
          go_ret
          exact ⟨.inr ⟨hbad.out, rfl⟩, hbel.out⟩
        · have hall2 := hid (show ∀ j, j ≤ k + 1 → 0 ≤ ht f 0 j from fun j hj => by
            by_cases e : j = k + 1
            · rw [e, hn]; omega
            · exact hall.out j (by omega))
          have hx4 : ¬ x - 1 < 0 := by omega
          clear hbk hf hn hup
          go_wp2_with fail
          go_roundw
          case rel => exact ⟨trivial, k + 1, x - 1, by omega, by go_num, by go_num, by omega, by omega, hn2, hall2⟩
          case measure => simp [intOf]; omega
    · have hlt' : ¬ (k : Int) < t.size := by omega
      have hke : k = t.size := by omega
      by_cases hz : x = 0
      · subst hz
        have hgood := hid (show Bal f 0 t.size from by rw [← hke]; exact ⟨hall.out, hx.out⟩)
        clear hke
        go_wp2_with fail
        go_ret
        exact ⟨.inl ⟨hgood.out, rfl⟩, hbel.out⟩
      · have hbad := hid (show ¬ Bal f 0 t.size from fun hB => by
          have := hB.2
          rw [← hke, hx.out] at this
          exact hz this)
        have e1 : (x == 0) = false := by simpa using hz
        clear hke
        go_wp2_with fail
        go_ret
        exact ⟨.inr ⟨hbad.out, rfl⟩, hbel.out⟩

/-- The brackets of the first k letters. -/
def brk (s : ByteArray) (k : Nat) : ByteArray := ⟨((List.range k).map fun j => if bt s j = 97 then (40 : UInt8) else 41).toArray⟩
theorem brk_size (s : ByteArray) (k : Nat) : (brk s k).size = k := by
  show (List.toArray _).size = _
  simp
theorem brk_bt (s : ByteArray) (k i : Nat) (h : i < k) : bt (brk s k) i = if bt s i = 97 then 40 else 41 := by
  show (((List.range k).map fun j => if bt s j = 97 then (40 : UInt8) else 41).getD i 0).toNat = _
  rw [List.getD_eq_getElem?_getD, List.getElem?_map, List.getElem?_range h]
  show (if bt s i = 97 then (40 : UInt8) else 41).toNat = _
  split <;> rfl
theorem brk_a {s : ByteArray} {k : Nat} (h : bt s k = 97) : brk s (k + 1) = brk s k ++ ⟨#[40]⟩ := by
  unfold brk
  apply ByteArray.ext
  rw [ByteArray.data_append]
  simp [List.range_succ, h]
theorem brk_b {s : ByteArray} {k : Nat} (h : ¬ bt s k = 97) : brk s (k + 1) = brk s k ++ ⟨#[41]⟩ := by
  unfold brk
  apply ByteArray.ext
  rw [ByteArray.data_append]
  simp [List.range_succ, h]
end Go.Proofs.Ythdckapielbonaa
