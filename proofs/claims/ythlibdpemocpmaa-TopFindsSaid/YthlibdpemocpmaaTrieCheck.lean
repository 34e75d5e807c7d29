/- slices.Contains over texts; trie.Check. -/
import Derived.Test.YthlibdpemocpmaaTrieGrow
import Derived.Test.YthlibdpemocpmaaLong
import Derived.Test.YthlibdpemocpmaaStrs
namespace Go.Proofs.Ythlibdpemocpmaa
set_option linter.unusedVariables false
set_option linter.unusedSimpArgs false
open Go.RowKit

/-- Is the text among the first k? -/
def Among (ws : List ByteArray) (k : Nat) (y : ByteArray) : Prop := ∃ j, j < k ∧ wat ws j = y

set_option maxHeartbeats 1000000 in
theorem indexS_any (w : World) (A : Option Addr) (n c : Nat) (ws : List ByteArray) (y : ByteArray) (B : Nat) (h : Sl w B A (ws.map Value.string)) (hn : n ≤ ws.length) (hl : ws.length ≤ 1000) :
    Calls Try.prog 54 #[.slice A n c, .string y] w fun e w' => ∃ i : Int, e = .returned (.int .i64 i) ∧ (0 ≤ i ↔ Among ws n y) ∧ ∃ m, w' = w.drewN m := by
  go_enter Try.func54, Try.ntmps54
  go_wp2_with fail
  go_loopw [8] (fun i wr => ∃ k u : Nat, k ≤ n ∧ i = .int .i64 k ∧ wr = w.drewN u ∧ Hid (∀ j, j < k → wat ws j ≠ y)) (fun i _ => n - (intOf i).toNat)
  case atStart => exact ⟨0, 0, by omega, rfl, rfl, hid fun j hj => by omega⟩
  case round =>
    obtain ⟨k, u, hk, rfl, rfl, hno⟩ := hrel
    by_cases hlt : k < n
    · have hkl : k < ws.length := by omega
      have hlt' : (k : Int) < n := by omega
      obtain ⟨g, o, hA, hg, hc⟩ := h (by intro e; simp at e; simp [e] at hkl)
      have q := hc k _ (wat_get hkl)
      obtain ⟨s, hs, HSs⟩ : ∃ s, wat ws k = s ∧ Hid (wat ws k = s) := ⟨_, rfl, rfl⟩
      rw [hs] at q
      subst hA
      clear hc hs
      by_cases he : y = s
      · have h1 := eq_true' he
        have He := hid he
        clear he
        go_wp2_with fail
        go_ret
        exact ⟨k, rfl, ⟨fun _ => ⟨k, hlt, by rw [HSs.out, He.out]⟩, fun _ => by omega⟩, _, rfl⟩
      · have h1 := eq_false' he
        have He := hid he
        clear he
        go_wp2_with fail
        go_roundw
        case rel =>
          refine ⟨k + 1, _, by omega, by go_num, rfl, hid fun j hj => ?_⟩
          by_cases e : j = k
          · subst e; rw [HSs.out]; exact fun h => He.out h.symm
          · exact hno.out j (by omega)
        case measure => simp [intOf]; omega
    · have hlt' : ¬ (k : Int) < n := by omega
      go_wp2_with fail
      go_ret
      exact ⟨-1, rfl, ⟨fun h => absurd h (by decide), fun ⟨j, h1, h2⟩ => absurd h2 (hno.out j (by omega))⟩, _, rfl⟩

set_option maxHeartbeats 400000 in
theorem containsS_any (w : World) (A : Option Addr) (n c : Nat) (ws : List ByteArray) (y : ByteArray) (B : Nat) (h : Sl w B A (ws.map Value.string)) (hn : n ≤ ws.length) (hl : ws.length ≤ 1000) (b : Bool) (hb : b = true ↔ Among ws n y) :
    Calls Try.prog 47 #[.slice A n c, .string y] w fun e w' => e = .returned (.bool b) ∧ ∃ m, w' = w.drewN m := by
  have hc := hid (fun w => indexS_any w A n c ws y B)
  have HB := hid hb
  clear hb
  go_enter Try.func47, Try.ntmps47
  go_wp2_with fail
  refine (hc.out _ h hn hl).mono ?_
  rintro e w1 ⟨i, rfl, hi, u, rfl⟩
  have hd : decide (0 ≤ i) = b := by
    have := HB.out
    cases b
    · simp only [decide_eq_false_iff_not]; exact fun h => absurd (this.2 (hi.1 h)) (by decide)
    · simp only [decide_eq_true_eq]; exact hi.2 (this.1 rfl)
  clear hi
  subst hd
  go_wp2_with fail
  go_ret
  exact ⟨rfl, _, rfl⟩

theorem long8_ok (w : World) (s : ByteArray) (hs : s.size ≤ 8) (b c : Nat) (hc : w.cell? ⟨b, 0, none⟩ = some (.string s)) :
    Calls Try.prog 33 #[.int .i64 8, .slice (some ⟨b, 0, none⟩) 1 c] w fun e w' => e = .returned .nilIface ∧ w = w' :=
  long_ok w _ c [s] 8 (b + 1) (fun _ => ⟨b, 0, rfl, by omega, fun i u hu => by
    match i, hu with
    | 0, hu => simp at hu; subst hu; exact hc⟩) (by simp) (by decide) (fun i hi => by
    match i, hi with
    | 0, _ => show (s.size : Int) ≤ 8; omega)
theorem long8_bad (w : World) (s : ByteArray) (hs : 8 < s.size) (hm : s.size ≤ maxLen) (b c : Nat) (hc : w.cell? ⟨b, 0, none⟩ = some (.string s)) :
    Calls Try.prog 33 #[.int .i64 8, .slice (some ⟨b, 0, none⟩) 1 c] w fun e w' => e = .returned (errv 4) ∧ w = w' :=
  long_bad w _ c [s] 8 (b + 1) (fun _ => ⟨b, 0, rfl, by omega, fun i u hu => by
    match i, hu with
    | 0, hu => simp at hu; subst hu; exact hc⟩) (by simp) (by decide) 0 (by simp) (by show (8 : Int) < (s.size : Int); omega) (fun i hi => by
    match i, hi with
    | 0, _ => show s.size ≤ _; unfold maxLen at hm; exact hm)

/-- Nothing is wrong with word k. -/
def WOk (ws : List ByteArray) (k : Nat) : Prop := 0 < (wat ws k).size ∧ (wat ws k).size ≤ 8 ∧ ¬ Among ws k (wat ws k)
/-- What is wrong with word k. -/
def WBad (ws : List ByteArray) (k : Nat) (x : Int) : Prop := (8 < (wat ws k).size ∧ x = 4) ∨ ((wat ws k).size = 0 ∧ x = 5) ∨ (0 < (wat ws k).size ∧ (wat ws k).size ≤ 8 ∧ Among ws k (wat ws k) ∧ x = 6)
/-- All words are as they may be. -/
def WAll (ws : List ByteArray) : Prop := ws.length ≤ 6 ∧ ∀ k, k < ws.length → WOk ws k
/-- What is wrong with the words. -/
def WErr (ws : List ByteArray) (x : Int) : Prop := (6 < ws.length ∧ x = 4) ∨ (ws.length ≤ 6 ∧ ∃ k, k < ws.length ∧ (∀ j, j < k → WOk ws j) ∧ WBad ws k x)

theorem wok_or (ws : List ByteArray) (k : Nat) : WOk ws k ∨ ∃ x, x ≠ 0 ∧ WBad ws k x := by
  by_cases h1 : 8 < (wat ws k).size
  · exact .inr ⟨4, by decide, .inl ⟨h1, rfl⟩⟩
  · by_cases h2 : (wat ws k).size = 0
    · exact .inr ⟨5, by decide, .inr (.inl ⟨h2, rfl⟩)⟩
    · rcases Classical.em (Among ws k (wat ws k)) with h3 | h3
      · exact .inr ⟨6, by decide, .inr (.inr ⟨by omega, by omega, h3, rfl⟩)⟩
      · exact .inl ⟨by omega, by omega, h3⟩
theorem words_or (ws : List ByteArray) : WAll ws ∨ ∃ x, x ≠ 0 ∧ WErr ws x := by
  by_cases h : 6 < ws.length
  · exact .inr ⟨4, by decide, .inl ⟨h, rfl⟩⟩
  · have key : ∀ n, n ≤ ws.length → (∀ k, k < n → WOk ws k) ∨ ∃ x, x ≠ 0 ∧ ∃ k, k < ws.length ∧ (∀ j, j < k → WOk ws j) ∧ WBad ws k x := by
      intro n
      induction n with
      | zero => intro _; exact .inl fun k hk => by omega
      | succ n ih =>
        intro hn
        rcases ih (by omega) with h1 | h1
        · rcases wok_or ws n with h2 | ⟨x, h2, h3⟩
          · exact .inl fun k hk => by
              by_cases e : k = n
              · subst e; exact h2
              · exact h1 k (by omega)
          · exact .inr ⟨x, h2, n, by omega, h1, h3⟩
        · exact .inr h1
    rcases key ws.length (Nat.le_refl _) with h1 | ⟨x, h1, h2⟩
    · exact .inl ⟨by omega, h1⟩
    · exact .inr ⟨x, h1, .inr ⟨by omega, h2⟩⟩

set_option maxRecDepth 100000 in
set_option maxHeartbeats 1000000 in
theorem check_ok (w : World) (A : Option Addr) (c : Nat) (ws : List ByteArray) (h : Sl w w.heap.size A (ws.map Value.string)) (hc : ws.length ≤ c) (hW : WAll ws) :
    Calls Try.prog 29 #[.slice A ws.length c] w fun e w' => e = .returned .nilIface ∧ Below w.heap.size w w' := by
  have hl := hW.1
  have HW := hid hW.2
  clear hW
  go_enter Try.func29, Try.ntmps29
  have hl' : ¬ (6 : Int) < ws.length := by omega
  go_wp2_with fail
  go_loopw [12] (fun i wr => ∃ k : Nat, k ≤ ws.length ∧ i = .int .i64 k ∧ Below w.heap.size w wr) (fun i _ => ws.length - (intOf i).toNat)
  case atStart => exact ⟨0, by omega, rfl, Below.refl _ _⟩
  case round =>
    obtain ⟨k, hk, rfl, hb⟩ := hrel
    by_cases hlt : k < ws.length
    · have hlt' : (k : Int) < ws.length := by omega
      obtain ⟨g, o, hA, hg, hcell⟩ := h (by intro e; simp at e; simp [e] at hlt)
      have q := (hb.cell (p := ⟨g, o + k, none⟩) hg).trans (hcell k _ (wat_get hlt))
      obtain ⟨h1, h2, h3⟩ := HW.out k hlt
      have HC := hid (fun wr (hb : Below w.heap.size w wr) => containsS_any wr A k c ws (wat ws k) w.heap.size (h.below hb) hk (by omega) false ⟨fun h => absurd h (by decide), fun h => absurd h h3⟩)
      rw [hA] at HC
      have hkc : (k : Int) ≤ c := by omega
      obtain ⟨s, hs⟩ : ∃ s, wat ws k = s := ⟨_, rfl⟩
      rw [hs] at q h1 h2 HC
      have he := emp_false h1
      subst hA
      clear hcell hs h3
      have hwr := hb.size
      go_wp2_with (first | (go_at_call 33; refine (long8_ok _ s h2 _ _ (by simp)).mono ?_; rintro e w' ⟨rfl, rfl⟩) | fail)
      have hb2 := hb.alloc hwr (.cells #[.string s] 9)
      refine (HC.out _ hb2).mono ?_
      rintro e w3 ⟨rfl, u3, rfl⟩
      go_wp2_with fail
      go_roundw
      case rel => exact ⟨k + 1, by omega, by go_num, below_dn hb2 _⟩
      case measure => simp [intOf]; omega
    · have hlt' : ¬ (k : Int) < ws.length := by omega
      go_wp2_with fail
      go_ret
      exact ⟨rfl, hb⟩

set_option maxRecDepth 100000 in
set_option maxHeartbeats 1000000 in
theorem check_bad (w : World) (A : Option Addr) (c : Nat) (ws : List ByteArray) (h : Sl w w.heap.size A (ws.map Value.string)) (hc : ws.length ≤ c) (hz : ∀ k, k < ws.length → (wat ws k).size ≤ maxLen) (x : Int) (hW : WErr ws x) :
    Calls Try.prog 29 #[.slice A ws.length c] w fun e w' => e = .returned (errv x) ∧ Below w.heap.size w w' := by
  rcases hW with ⟨hl, rfl⟩ | ⟨hl, k0, hk0, hW, hB⟩
  · have hl' : (6 : Int) < ws.length := by omega
    go_enter Try.func29, Try.ntmps29
    go_wp2_with fail
    go_ret
    exact ⟨rfl, Below.refl _ _⟩
  · have HW := hid hW
    have HB := hid hB
    have HZ := hid hz
    clear hW hB hz
    go_enter Try.func29, Try.ntmps29
    have hl' : ¬ (6 : Int) < ws.length := by omega
    go_wp2_with fail
    go_loopw [12] (fun i wr => ∃ k : Nat, k ≤ k0 ∧ i = .int .i64 k ∧ Below w.heap.size w wr) (fun i _ => ws.length - (intOf i).toNat)
    case atStart => exact ⟨0, by omega, rfl, Below.refl _ _⟩
    case round =>
      obtain ⟨k, hk, rfl, hb⟩ := hrel
      have hlt : k < ws.length := by omega
      have hlt' : (k : Int) < ws.length := by omega
      obtain ⟨g, o, hA, hg, hcell⟩ := h (by intro e; simp at e; simp [e] at hlt)
      have q := (hb.cell (p := ⟨g, o + k, none⟩) hg).trans (hcell k _ (wat_get hlt))
      have hkc : (k : Int) ≤ c := by omega
      have hwr := hb.size
      have hzk := HZ.out k hlt
      obtain ⟨s, hs, HSs⟩ : ∃ s, wat ws k = s ∧ Hid (wat ws k = s) := ⟨_, rfl, rfl⟩
      rw [hs] at q hzk
      by_cases hkk : k < k0
      · obtain ⟨h1, h2, h3⟩ := HW.out k hkk
        have HC := hid (fun wr (hb : Below w.heap.size w wr) => containsS_any wr A k c ws (wat ws k) w.heap.size (h.below hb) (by omega) (by omega) false ⟨fun h => absurd h (by decide), fun h => absurd h h3⟩)
        rw [hA] at HC
        rw [hs] at h1 h2 HC
        have he := emp_false h1
        subst hA
        clear hcell hs h3
        go_wp2_with (first | (go_at_call 33; refine (long8_ok _ s h2 _ _ (by simp)).mono ?_; rintro e w' ⟨rfl, rfl⟩) | fail)
        have hb2 := hb.alloc hwr (.cells #[.string s] 9)
        refine (HC.out _ hb2).mono ?_
        rintro e w3 ⟨rfl, u3, rfl⟩
        go_wp2_with fail
        go_roundw
        case rel => exact ⟨k + 1, by omega, by go_num, below_dn hb2 _⟩
        case measure => simp [intOf]; omega
      · have hke : k = k0 := by omega
        have hBk := HB.out
        rw [← hke] at hBk
        unfold WBad at hBk
        have hb2 := hb.alloc hwr (.cells #[.string s] 9)
        rcases hBk with ⟨h1, hx⟩ | ⟨h1, hx⟩ | ⟨h1, h2, h3, hx⟩
        · rw [hs] at h1
          subst hx hA
          clear hcell hs hke
          go_wp2_with (first | (go_at_call 33; refine (long8_bad _ s h1 hzk _ _ (by simp)).mono ?_; rintro e w' ⟨rfl, rfl⟩) | fail)
          go_ret
          exact ⟨rfl, hb2⟩
        · rw [hs] at h1
          subst hx hA
          have he := emp_true h1
          have h8 : s.size ≤ 8 := by omega
          clear hcell hs hke h1
          go_wp2_with (first | (go_at_call 33; refine (long8_ok _ s h8 _ _ (by simp)).mono ?_; rintro e w' ⟨rfl, rfl⟩) | fail)
          go_ret
          exact ⟨rfl, hb2⟩
        · have HC := hid (fun wr (hb : Below w.heap.size w wr) => containsS_any wr A k c ws (wat ws k) w.heap.size (h.below hb) (by omega) (by omega) true ⟨fun _ => h3, fun _ => rfl⟩)
          rw [hA] at HC
          rw [hs] at h1 h2 HC
          have he := emp_false h1
          subst hx hA
          clear hcell hs h3 hke
          go_wp2_with (first | (go_at_call 33; refine (long8_ok _ s h2 _ _ (by simp)).mono ?_; rintro e w' ⟨rfl, rfl⟩) | fail)
          refine (HC.out _ hb2).mono ?_
          rintro e w3 ⟨rfl, u3, rfl⟩
          go_wp2_with fail
          go_ret
          exact ⟨rfl, below_dn hb2 _⟩
end Go.Proofs.Ythlibdpemocpmaa
