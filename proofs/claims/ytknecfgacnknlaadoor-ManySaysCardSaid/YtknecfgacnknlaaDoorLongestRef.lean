/- letterbeckref1.Longest. -/
import Derived.Test.YtknecfgacnknlaaDoorOrdN
namespace Go.Proofs.YtknecfgacnknlaaDoor
set_option linter.unusedVariables false
set_option linter.unusedSimpArgs false
open Go.RowKit

/-- The longest one of the first i words with which the text begins. -/
def WLp (ws : List ByteArray) (t : ByteArray) (i : Nat) (r : Int) : Prop :=
  (r = -1 ∧ ∀ m, m < i → ¬ Begs t (wat ws m)) ∨ ∃ m : Nat, m < i ∧ r = m ∧ Begs t (wat ws m) ∧ ∀ j, j < i → Begs t (wat ws j) → (wat ws j).size ≤ (wat ws m).size
theorem wlp_end {ws : List ByteArray} {t : ByteArray} {r : Int} (h : WLp ws t ws.length r) : WLongest ws t r := h
theorem wlp_skip {ws : List ByteArray} {t : ByteArray} {i : Nat} {r : Int} (h : WLp ws t i r) (hb : ¬ Begs t (wat ws i)) : WLp ws t (i + 1) r := by
  rcases h with ⟨h1, h2⟩ | ⟨m, h1, h2, h3, h4⟩
  · refine .inl ⟨h1, fun m hm => ?_⟩
    by_cases e : m = i
    · subst e; exact hb
    · exact h2 m (by omega)
  · refine .inr ⟨m, by omega, h2, h3, fun j hj h5 => ?_⟩
    by_cases e : j = i
    · subst e; exact absurd h5 hb
    · exact h4 j (by omega) h5
theorem wlp_keep {ws : List ByteArray} {t : ByteArray} {i m : Nat} (h : WLp ws t i m) (hle : (wat ws i).size ≤ (wat ws m).size) : WLp ws t (i + 1) m := by
  rcases h with ⟨h1, h2⟩ | ⟨k, h1, h2, h3, h4⟩
  · omega
  · obtain rfl : m = k := by omega
    refine .inr ⟨m, by omega, rfl, h3, fun j hj h5 => ?_⟩
    by_cases e : j = i
    · subst e; exact hle
    · exact h4 j (by omega) h5
theorem wlp_take {ws : List ByteArray} {t : ByteArray} {i : Nat} {r : Int} (h : WLp ws t i r) (hb : Begs t (wat ws i)) (hgt : r < 0 ∨ ∃ m : Nat, r = m ∧ (wat ws m).size < (wat ws i).size) : WLp ws t (i + 1) i := by
  refine .inr ⟨i, by omega, rfl, hb, fun j hj h5 => ?_⟩
  by_cases e : j = i
  · subst e; exact Nat.le_refl _
  · rcases h with ⟨h1, h2⟩ | ⟨m, h1, h2, h3, h4⟩
    · exact absurd h5 (h2 j (by omega))
    · have := h4 j (by omega) h5
      rcases hgt with h6 | ⟨k, h6, h7⟩
      · omega
      · obtain rfl : m = k := by omega
        omega
theorem wlp_lo {ws : List ByteArray} {t : ByteArray} {i : Nat} {r : Int} (h : WLp ws t i r) : r = -1 ∨ ∃ m : Nat, m < i ∧ r = m := by
  rcases h with ⟨h1, _⟩ | ⟨m, h1, h2, _⟩
  · exact .inl h1
  · exact .inr ⟨m, h1, h2⟩

set_option maxRecDepth 100000 in
set_option maxHeartbeats 2000000 in
theorem longestRef_any (w : World) (A : Option Addr) (c : Nat) (ws : List ByteArray) (B : Nat) (h : Sl w B A (ws.map Value.string)) (hW : WAll ws) (t : ByteArray) (ht : t.size ≤ 24) (r : Int) (hr : WLongest ws t r) :
    Calls Tryd.prog 56 #[.slice A ws.length c, .string t] w fun e w' => e = .returned (.int .i64 r) ∧ ∃ m, w' = w.drewN m := by
  have HR := hid (fun r' (h' : WLongest ws t r') => wlongest_unique (wall_dist hW) h' hr)
  have HZ := hid (wall_size hW)
  have hl6 := hW.1
  clear hW hr
  go_enter Tryd.func56, Tryd.ntmps56
  go_wp2_with fail
  go_loopw [5, 6] (fun b i wr => ∃ (k u : Nat) (x : Int), k ≤ ws.length ∧ b = .int .i64 x ∧ i = .int .i64 k ∧ wr = w.drewN u ∧ Hid (WLp ws t k x)) (fun _ i _ => ws.length - (intOf i).toNat)
  case atStart => exact ⟨0, 0, -1, by omega, rfl, rfl, rfl, .inl ⟨rfl, fun m hm => by omega⟩⟩
  case round =>
    obtain ⟨i, u, x, hi, rfl, rfl, rfl, hL⟩ := hrel
    by_cases hlt : i < ws.length
    · have hlt' : (i : Int) < ws.length := by omega
      obtain ⟨g, o, hA, hg, hcell⟩ := h (by intro e; simp at e; simp [e] at hlt)
      have ri : (w.drewN u).cell? ⟨g, o + i, none⟩ = some (.string (wat ws i)) := hcell i _ (wat_get hlt)
      have hsz := HZ.out i hlt
      have HC := hid (fun m (hm : m < ws.length) => (show (w.drewN u).cell? ⟨g, o + m, none⟩ = some (.string (wat ws m)) from hcell m _ (wat_get hm)))
      obtain ⟨s, hs, Hs⟩ : ∃ s, wat ws i = s ∧ Hid (wat ws i = s) := ⟨_, rfl, rfl⟩
      rw [hs] at ri hsz
      obtain ⟨wv, hwv, Hwv⟩ : ∃ wv, w.drewN u = wv ∧ Hid (w.drewN u = wv) := ⟨_, rfl, rfl⟩
      rw [hwv] at ri HC ⊢
      subst hA
      clear hcell hs hwv
      rcases Classical.em (Begs t s) with hb | hb
      · have hcb := hid (fun w q => begins_in w q t s (by unfold maxLen; omega) (by unfold maxLen; omega) true ⟨fun _ => begs_beg.1 hb, fun _ => rfl⟩)
        have Hb := hid hb
        clear hb
        rcases wlp_lo hL.out with hx | ⟨m, hm, hx⟩
        · subst hx
          have Hn := hid (wlp_take hL.out (by rw [Hs.out]; exact Hb.out) (.inl (by decide)))
          go_wp2_with fail
          go_quiet ((go_at_call 67; exact hcb.out _ _))
          go_wp2_with fail
          go_roundw
          case rel => exact ⟨i + 1, _, i, by omega, rfl, by go_num, by rw [← Hwv.out]; exact World.drewN_drewN _ _ _, Hn⟩
          case measure => simp [intOf]; omega
        · subst hx
          have hn2 : decide ((m : Int) < 0) = false := by simp
          have hml : (m : Int) < ws.length := by omega
          have hml' : m < ws.length := by omega
          have rm := HC.out m hml'
          have hzm := HZ.out m hml'
          obtain ⟨v, hv, Hv⟩ : ∃ v, wat ws m = v ∧ Hid (wat ws m = v) := ⟨_, rfl, rfl⟩
          rw [hv] at rm hzm
          clear hv
          by_cases hgt : v.size < s.size
          · have Hn := hid (wlp_take hL.out (by rw [Hs.out]; exact Hb.out) (.inr ⟨m, rfl, by rw [Hv.out, Hs.out]; exact hgt⟩))
            have hgt' : (v.size : Int) < s.size := by omega
            go_wp2_with fail
            go_quiet ((go_at_call 67; exact hcb.out _ _))
            go_wp2_with fail
            go_roundw
            case rel => exact ⟨i + 1, _, i, by omega, rfl, by go_num, by rw [← Hwv.out]; exact World.drewN_drewN _ _ _, Hn⟩
            case measure => simp [intOf]; omega
          · have Hn := hid (wlp_keep hL.out (by rw [Hv.out, Hs.out]; omega))
            have hgt' : decide ((v.size : Int) < s.size) = false := by simp; omega
            go_wp2_with fail
            go_quiet ((go_at_call 67; exact hcb.out _ _))
            go_wp2_with fail
            go_roundw
            case rel => exact ⟨i + 1, _, m, by omega, rfl, by go_num, by rw [← Hwv.out]; exact World.drewN_drewN _ _ _, Hn⟩
            case measure => simp [intOf]; omega
      · have hcb := hid (fun w q => begins_in w q t s (by unfold maxLen; omega) (by unfold maxLen; omega) false ⟨fun h => absurd h (by decide), fun h => absurd (begs_beg.2 h) hb⟩)
        have Hn := hid (wlp_skip hL.out (by rw [Hs.out]; exact hb))
        clear hb
        go_wp2_with fail
        go_quiet ((go_at_call 67; exact hcb.out _ _))
        go_wp2_with fail
        go_roundw
        case rel => exact ⟨i + 1, _, x, by omega, rfl, by go_num, by rw [← Hwv.out]; exact World.drewN_drewN _ _ _, Hn⟩
        case measure => simp [intOf]; omega
    · have hlt' : ¬ (i : Int) < ws.length := by omega
      have hie : i = ws.length := by omega
      have hx : x = r := HR.out x (by have := hL.out; rw [hie] at this; exact wlp_end this)
      subst hx
      clear hie
      go_wp2_with fail
      go_ret
      exact ⟨rfl, _, rfl⟩
end Go.Proofs.YtknecfgacnknlaaDoor
