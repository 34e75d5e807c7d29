/- letterbecklaw1.TrieLongest returns true at all words and texts: the walk. -/
import Derived.Test.YthlibdpemocpmaaTrieOrderLaw
namespace Go.Proofs.Ythlibdpemocpmaa
set_option linter.unusedVariables false
set_option linter.unusedSimpArgs false
open Go.RowKit

theorem wlongest_exists {ws : List ByteArray} {t : ByteArray} : ∃ r, WLongest ws t r := by
  have key : ∀ n, n ≤ ws.length → (∀ m, m < n → ¬ Begs t (wat ws m)) ∨ ∃ m, m < n ∧ Begs t (wat ws m) ∧ ∀ i, i < n → Begs t (wat ws i) → (wat ws i).size ≤ (wat ws m).size := by
    intro n
    induction n with
    | zero => intro _; exact .inl fun m hm => by omega
    | succ n ih =>
      intro hn
      rcases Classical.em (Begs t (wat ws n)) with hb | hb
      · rcases ih (by omega) with h | ⟨m, h1, h2, h3⟩
        · refine .inr ⟨n, by omega, hb, fun i hi h4 => ?_⟩
          by_cases e : i = n
          · subst e; exact Nat.le_refl _
          · exact absurd h4 (h i (by omega))
        · by_cases hle : (wat ws n).size ≤ (wat ws m).size
          · refine .inr ⟨m, by omega, h2, fun i hi h4 => ?_⟩
            by_cases e : i = n
            · subst e; exact hle
            · exact h3 i (by omega) h4
          · refine .inr ⟨n, by omega, hb, fun i hi h4 => ?_⟩
            by_cases e : i = n
            · subst e; exact Nat.le_refl _
            · have := h3 i (by omega) h4; omega
      · rcases ih (by omega) with h | ⟨m, h1, h2, h3⟩
        · refine .inl fun m hm => ?_
          by_cases e : m = n
          · subst e; exact hb
          · exact h m (by omega)
        · refine .inr ⟨m, by omega, h2, fun i hi h4 => ?_⟩
          by_cases e : i = n
          · subst e; exact absurd h4 hb
          · exact h3 i (by omega) h4
  rcases key ws.length (Nat.le_refl _) with h | ⟨m, h1, h2, h3⟩
  · exact ⟨-1, .inl ⟨rfl, h⟩⟩
  · exact ⟨m, .inr ⟨m, h1, rfl, h2, h3⟩⟩
theorem begs_beg {t s : ByteArray} : Begs t s ↔ Beg (bt s) s.size (bt t) t.size := ⟨fun h => ⟨h.1, fun j hj => (h.2 j hj).symm⟩, fun h => ⟨h.1, fun j hj => (h.2 j hj).symm⟩⟩

set_option maxRecDepth 100000 in
set_option maxHeartbeats 2000000 in
theorem walk_trieLongest (A : Option Addr) (c : Nat) (ws : List ByteArray) (a1 : ByteArray) (w1 : a1.size ≤ maxLen) (W : World) (h : Sl W W.heap.size A (ws.map Value.string)) (hc : ws.length ≤ c) (hz : ∀ k, k < ws.length → (wat ws k).size ≤ maxLen) :
    Calls Try.prog 4 #[.slice A ws.length c, .string a1] W fun e w' => e = .returned (.bool true) ∧ Below W.heap.size W w' := by
  have HF := hid (fun w => trieFact_true w)
  rcases words_or ws with hW | ⟨x, hx, hW⟩
  · by_cases ht : a1.size ≤ 24
    · obtain ⟨r, hr⟩ := wlongest_exists (ws := ws) (t := a1)
      have HO := hid (fun w (hb : Below W.heap.size W w) => trieLongest_ok w A c ws ((h.below hb).mono hb.size) hc hW a1 ht r hr)
      have hl6 := hW.1
      have HZ := hid (wall_size hW)
      have HS := hid h
      have htm : a1.size ≤ maxLen := w1
      clear hW hz h
      rcases hr with ⟨rfl, hno⟩ | ⟨m, hm, rfl, hbm, hmax⟩
      · have HNo := hid hno
        clear hno
        go_enter Try.func4, Try.ntmps4
        go_wp2_with fail
        refine (HF.out _).mono ?_
        rintro e w2 ⟨rfl, hb1⟩
        go_wp2_with fail
        refine (HO.out _ hb1).mono ?_
        rintro e w2 ⟨rfl, hb2⟩
        have hB2 := bch hb1 hb2
        have hsw := hid (HS.out.below hB2)
        clear hb1 hb2 HO HF
        go_wp2_with fail
        go_loopw [8] (fun i wr => ∃ k u : Nat, k ≤ ws.length ∧ i = .int .i64 k ∧ wr = w2.drewN u) (fun i _ => ws.length - (intOf i).toNat)
        case atStart => exact ⟨0, 0, by omega, rfl, rfl⟩
        case round =>
          obtain ⟨i, u, hi, rfl, rfl⟩ := hrel
          by_cases hlt : i < ws.length
          · have hlt' : (i : Int) < ws.length := by omega
            obtain ⟨g, o, hA, hg, hcell⟩ := hsw.out (by intro e; simp at e; simp [e] at hlt)
            have ri : (w2.drewN u).cell? ⟨g, o + i, none⟩ = some (.string (wat ws i)) := hcell i _ (wat_get hlt)
            have hnb := HNo.out i hlt
            have hsz := HZ.out i hlt
            generalize wat ws i = s at *
            have hcb := hid (fun w q => begins_in w q a1 s htm (by unfold maxLen; omega) false ⟨fun h => absurd h (by decide), fun h => absurd (begs_beg.2 h) hnb⟩)
            obtain ⟨wv, hwv, Hwv⟩ : ∃ wv, w2.drewN u = wv ∧ Hid (w2.drewN u = wv) := ⟨_, rfl, rfl⟩
            rw [hwv] at ri ⊢
            subst hA
            clear hcell hnb hwv
            go_wp2_with fail
            go_quiet ((go_at_call 17; exact hcb.out _ _))
            go_wp2_with fail
            go_roundw
            case rel => exact ⟨i + 1, _, by omega, by go_num, by rw [← Hwv.out]; exact World.drewN_drewN _ _ _⟩
            case measure => simp [intOf]; omega
          · have hlt' : ¬ (i : Int) < ws.length := by omega
            go_wp2_with fail
            go_ret
            exact ⟨rfl, below_dn hB2 _⟩
      · have HMx := hid hmax
        have hmi' : (m : Int) < ws.length := by omega
        have hin := hid (fun w => in_true w (m : Int) 0 ((ws.length : Int) - 1) (by omega) (by omega))
        have hszm := HZ.out m hm
        have hg' := wat_get hm
        obtain ⟨s, hs, Hs⟩ : ∃ s, wat ws m = s ∧ Hid (wat ws m = s) := ⟨_, rfl, rfl⟩
        rw [hs] at hszm hbm hg'
        have hcm := hid (fun w => begins_any w a1 s htm (by unfold maxLen; omega) true ⟨fun _ => begs_beg.1 hbm, fun _ => rfl⟩)
        have hn1 : ((m : Int) != -1) = true := by simp
        have hn2 : decide ((m : Int) < 0) = false := by simp
        have HG' := hid hg'
        clear hs hmax hg' hbm
        go_enter Try.func4, Try.ntmps4
        go_wp2_with fail
        refine (HF.out _).mono ?_
        rintro e w2 ⟨rfl, hb1⟩
        go_wp2_with fail
        refine (HO.out _ hb1).mono ?_
        rintro e w2 ⟨rfl, hb2⟩
        have hB2 := bch hb1 hb2
        have hsw := hid (HS.out.below hB2)
        obtain ⟨g, o, hA, hg, hcell⟩ := hsw.out (by intro e; simp at e; simp [e] at hm)
        have rm := hcell m _ HG'.out
        have HC := hid hcell
        subst hA
        clear hb1 hb2 HO HF hcell
        go_wp2_with fail
        refine (hin.out _).mono ?_
        rintro e w3 ⟨rfl, rfl⟩
        go_wp2_with fail
        refine (hcm.out _).mono ?_
        rintro e w3 ⟨rfl, rfl⟩
        go_wp2_with fail
        go_loopw [8] (fun i wr => ∃ k u : Nat, k ≤ ws.length ∧ i = .int .i64 k ∧ wr = w2.drewN u) (fun i _ => ws.length - (intOf i).toNat)
        case atStart => exact ⟨0, 0, by omega, rfl, rfl⟩
        case round =>
          obtain ⟨i, u, hi, rfl, rfl⟩ := hrel
          by_cases hlt : i < ws.length
          · have hlt' : (i : Int) < ws.length := by omega
            have ri : (w2.drewN u).cell? ⟨g, o + i, none⟩ = some (.string (wat ws i)) := HC.out i _ (wat_get hlt)
            have rm' : (w2.drewN u).cell? ⟨g, o + m, none⟩ = some (.string s) := rm
            have hsz := HZ.out i hlt
            have hmx := HMx.out i hlt
            rw [Hs.out] at hmx
            obtain ⟨t, ht', Ht⟩ : ∃ t, wat ws i = t ∧ Hid (wat ws i = t) := ⟨_, rfl, rfl⟩
            rw [ht'] at ri hsz hmx
            obtain ⟨wv, hwv, Hwv⟩ : ∃ wv, w2.drewN u = wv ∧ Hid (w2.drewN u = wv) := ⟨_, rfl, rfl⟩
            rw [hwv] at ri rm' ⊢
            clear hwv ht'
            rcases Classical.em (Begs a1 t) with hb | hb
            · have hcb := hid (fun w q => begins_in w q a1 t htm (by unfold maxLen; omega) true ⟨fun _ => begs_beg.1 hb, fun _ => rfl⟩)
              have hle := hmx hb
              have hle' : decide ((s.size : Int) < t.size) = false := by simp; omega
              clear hb hmx
              go_wp2_with fail
              go_quiet ((go_at_call 17; exact hcb.out _ _))
              go_wp2_with fail
              go_roundw
              case rel => exact ⟨i + 1, _, by omega, by go_num, by rw [← Hwv.out]; exact World.drewN_drewN _ _ _⟩
              case measure => simp [intOf]; omega
            · have hcb := hid (fun w q => begins_in w q a1 t htm (by unfold maxLen; omega) false ⟨fun h => absurd h (by decide), fun h => absurd (begs_beg.2 h) hb⟩)
              clear hb hmx
              go_wp2_with fail
              go_quiet ((go_at_call 17; exact hcb.out _ _))
              go_wp2_with fail
              go_roundw
              case rel => exact ⟨i + 1, _, by omega, by go_num, by rw [← Hwv.out]; exact World.drewN_drewN _ _ _⟩
              case measure => simp [intOf]; omega
          · have hlt' : ¬ (i : Int) < ws.length := by omega
            go_wp2_with fail
            go_ret
            exact ⟨rfl, below_dn hB2 _⟩
    · have HO := hid (fun w (hb : Below W.heap.size W w) => trieLongest_long w A c ws ((h.below hb).mono hb.size) hc hW a1 (by omega) w1)
      clear h hz hW
      go_enter Try.func4, Try.ntmps4
      go_wp2_with fail
      refine (HF.out _).mono ?_
      rintro e w2 ⟨rfl, hb1⟩
      go_wp2_with fail
      refine (HO.out _ hb1).mono ?_
      rintro e w2 ⟨rfl, hb2⟩
      go_wp2_with fail
      go_ret
      exact ⟨rfl, bch hb1 hb2⟩
  · have HO := hid (fun w (hb : Below W.heap.size W w) => trieLongest_bad w A c ws ((h.below hb).mono hb.size) hc hz x hW a1)
    clear h hz hW
    go_enter Try.func4, Try.ntmps4
    go_wp2_with fail
    refine (HF.out _).mono ?_
    rintro e w2 ⟨rfl, hb1⟩
    go_wp2_with fail
    refine (HO.out _ hb1).mono ?_
    rintro e w2 ⟨rfl, hb2⟩
    go_wp2_with fail
    go_ret
    exact ⟨rfl, bch hb1 hb2⟩
end Go.Proofs.Ythlibdpemocpmaa
