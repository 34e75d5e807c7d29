/- letterbeckref1.Words, Size. -/
import Derived.Test.YtknecfgacnknlaaDoorOrdN
namespace Go.Proofs.YtknecfgacnknlaaDoor
set_option linter.unusedVariables false
set_option linter.unusedSimpArgs false
open Go.RowKit

/-- What is to be told of the words: 0, or what is wrong. -/
def WCode (ws : List ByteArray) (x : Int) : Prop := (x = 0 ∧ WAll ws) ∨ WErr ws x

theorem wcode_bad {ws : List ByteArray} {x y : Int} (h : WCode ws x) (hl : ws.length ≤ 6) {i : Nat} (hi : i < ws.length) (hok : ∀ j, j < i → WOk ws j) (hb : WBad ws i y) : x = y := by
  have hno : ¬ WOk ws i := fun ⟨h1, h2, h3⟩ => by
    rcases hb with ⟨h4, _⟩ | ⟨h4, _⟩ | ⟨_, _, h4, _⟩
    · omega
    · omega
    · exact h3 h4
  rcases h with ⟨_, h1⟩ | ⟨h1, _⟩ | ⟨_, k, h1, h2, h3⟩
  · exact absurd (h1.2 i hi) hno
  · omega
  · have hk : k = i := by
      rcases Nat.lt_trichotomy k i with h4 | h4 | h4
      · exfalso
        obtain ⟨g1, g2, g3⟩ := hok k h4
        rcases h3 with ⟨h5, _⟩ | ⟨h5, _⟩ | ⟨_, _, h5, _⟩
        · omega
        · omega
        · exact g3 h5
      · exact h4
      · exact absurd (h2 i h4) hno
    subst hk
    rcases h3 with ⟨g1, g2⟩ | ⟨g1, g2⟩ | ⟨g1, g2, g3, g4⟩ <;> rcases hb with ⟨h4, h5⟩ | ⟨h4, h5⟩ | ⟨h4, h6, _, h5⟩ <;> omega
theorem wcode_all {ws : List ByteArray} {x : Int} (h : WCode ws x) (hl : ws.length ≤ 6) (hok : ∀ j, j < ws.length → WOk ws j) : x = 0 := by
  rcases h with ⟨h1, _⟩ | ⟨h1, _⟩ | ⟨_, k, h1, h2, h3⟩
  · exact h1
  · omega
  · exfalso
    obtain ⟨g1, g2, g3⟩ := hok k h1
    rcases h3 with ⟨h5, _⟩ | ⟨h5, _⟩ | ⟨_, _, h5, _⟩
    · omega
    · omega
    · exact g3 h5
theorem wcode_long {ws : List ByteArray} {x : Int} (h : WCode ws x) (hl : 6 < ws.length) : x = 4 := by
  rcases h with ⟨_, h1⟩ | ⟨_, h1⟩ | ⟨h1, _⟩
  · have := h1.1; omega
  · exact h1
  · omega

set_option maxRecDepth 100000 in
set_option maxHeartbeats 2000000 in
theorem wordsRef_any (w : World) (A : Option Addr) (c : Nat) (ws : List ByteArray) (B : Nat) (h : Sl w B A (ws.map Value.string)) (hz : ∀ k, k < ws.length → (wat ws k).size ≤ maxLen) (x : Int) (hx : WCode ws x) :
    Calls Tryd.prog 50 #[.slice A ws.length c] w fun e w' => e = .returned (.int .i64 x) ∧ ∃ m, w' = w.drewN m := by
  by_cases hl : 6 < ws.length
  · have hl' : (6 : Int) < ws.length := by omega
    have := wcode_long hx hl
    subst this
    clear hx
    go_enter Tryd.func50, Tryd.ntmps50
    go_wp2_with fail
    go_ret
    exact ⟨rfl, 0, rfl⟩
  · have hl' : ¬ (6 : Int) < ws.length := by omega
    have hl6 : ws.length ≤ 6 := by omega
    have HX := hid hx
    have HZ := hid hz
    clear hx hz
    go_enter Tryd.func50, Tryd.ntmps50
    go_wp2_with fail
    go_loopw [3] (fun i wr => ∃ k u : Nat, k ≤ ws.length ∧ i = .int .i64 k ∧ wr = w.drewN u ∧ Hid (∀ j, j < k → WOk ws j)) (fun i _ => ws.length - (intOf i).toNat)
    case atStart => exact ⟨0, 0, by omega, rfl, rfl, hid fun j hj => by omega⟩
    case round =>
      obtain ⟨i, u, hi, rfl, rfl, hok⟩ := hrel
      by_cases hlt : i < ws.length
      · have hlt' : (i : Int) < ws.length := by omega
        obtain ⟨g, o, hA, hg, hcell⟩ := h (by intro e; simp at e; simp [e] at hlt)
        have ri : (w.drewN u).cell? ⟨g, o + i, none⟩ = some (.string (wat ws i)) := hcell i _ (wat_get hlt)
        have HC := hid (fun u m (hm : m < ws.length) => (show (w.drewN u).cell? ⟨g, o + m, none⟩ = some (.string (wat ws m)) from hcell m _ (wat_get hm)))
        have hsz := HZ.out i hlt
        unfold maxLen at hsz
        obtain ⟨s, hs, Hs⟩ : ∃ s, wat ws i = s ∧ Hid (wat ws i = s) := ⟨_, rfl, rfl⟩
        rw [hs] at ri hsz
        subst hA
        clear hcell hs
        by_cases h8 : 8 < s.size
        · have h8' : (8 : Int) < s.size := by omega
          have hv := wcode_bad HX.out hl6 hlt hok.out (.inl ⟨by rw [Hs.out]; exact h8, rfl⟩)
          subst hv
          go_wp2_with fail
          go_ret
          exact ⟨rfl, _, rfl⟩
        · have h8' : ¬ (8 : Int) < s.size := by omega
          by_cases h0 : s.size = 0
          · have h0' : ((s.size : Int) == 0) = true := by simp [h0]
            have hv := wcode_bad HX.out hl6 hlt hok.out (.inr (.inl ⟨by rw [Hs.out]; exact h0, rfl⟩))
            subst hv
            clear h0
            go_wp2_with fail
            go_ret
            exact ⟨rfl, _, rfl⟩
          · have h0' : ((s.size : Int) == 0) = false := by simp [h0]
            go_wp2_with fail
            go_loopw [4] (fun j wr => ∃ k u : Nat, k ≤ i ∧ j = .int .i64 k ∧ wr = w.drewN u ∧ Hid (∀ j, j < k → wat ws j ≠ s)) (fun j _ => i - (intOf j).toNat)
            case atStart => exact ⟨0, u, by omega, rfl, rfl, hid fun j hj => by omega⟩
            case round =>
              clear ri
              obtain ⟨k, u', hk, rfl, rfl, hne⟩ := hrel
              by_cases hki : k < i
              · have hki' : (k : Int) < i := by omega
                have hkn : (k : Int) < ws.length := by omega
                have ri := HC.out u' i hlt
                rw [Hs.out] at ri
                have rk := HC.out u' k (by omega)
                obtain ⟨t, ht, Ht⟩ : ∃ t, wat ws k = t ∧ Hid (wat ws k = t) := ⟨_, rfl, rfl⟩
                rw [ht] at rk
                obtain ⟨wv, hwv, Hwv⟩ : ∃ wv, w.drewN u' = wv ∧ Hid (w.drewN u' = wv) := ⟨_, rfl, rfl⟩
                rw [hwv] at ri rk ⊢
                clear ht hwv
                by_cases he : t = s
                · have h1 := eq_true' he
                  have hv := wcode_bad HX.out hl6 hlt hok.out (.inr (.inr ⟨by rw [Hs.out]; omega, by rw [Hs.out]; omega, ⟨k, hki, by rw [Ht.out, Hs.out, he]⟩, rfl⟩))
                  subst hv
                  clear he
                  go_wp2_with fail
                  go_quiet (fail)
                  go_wp2_with fail
                  go_ret
                  exact ⟨rfl, by rw [← Hwv.out]; exact ⟨_, World.drewN_drewN _ _ _⟩⟩
                · have h1 := eq_false' he
                  have He := hid he
                  clear he
                  go_wp2_with fail
                  go_quiet (fail)
                  go_wp2_with fail
                  go_roundw
                  case rel =>
                    refine ⟨k + 1, _, by omega, by go_num, by rw [← Hwv.out]; exact World.drewN_drewN _ _ _, hid fun j hj => ?_⟩
                    by_cases e : j = k
                    · subst e; rw [Ht.out]; exact He.out
                    · exact hne.out j (by omega)
                  case measure => simp [intOf]; omega
              · have hki' : ¬ (k : Int) < i := by omega
                have hke : k = i := by omega
                have Hn := hid (show ∀ j, j < i + 1 → WOk ws j from fun j hj => by
                  by_cases e : j = i
                  · subst e
                    exact ⟨by rw [Hs.out]; omega, by rw [Hs.out]; omega, fun ⟨m, hm, hm2⟩ => hne.out m (by omega) (by rw [hm2, Hs.out])⟩
                  · exact hok.out j (by omega))
                clear hke
                go_wp2_with fail
                go_roundw
                case rel => exact ⟨i + 1, _, by omega, by go_num, rfl, Hn⟩
                case measure => simp [intOf]; omega
      · have hlt' : ¬ (i : Int) < ws.length := by omega
        have hie : i = ws.length := by omega
        have hv := wcode_all HX.out hl6 (by have := hok.out; rw [hie] at this; exact this)
        subst hv
        clear hie
        go_wp2_with fail
        go_ret
        exact ⟨rfl, _, rfl⟩

/-- The beginning of k bytes of word i is none of an earlier word's. -/
theorem fresh_iff {ws : List ByteArray} {i k : Nat} (hi : k + 1 ≤ (wat ws i).size) : (∀ j, j < i → ¬ Beg (bt ((wat ws i).extract 0 (k + 1))) ((wat ws i).extract 0 (k + 1)).size (bt (wat ws j)) (wat ws j).size) ↔ ¬ pfx (wat ws i) (k + 1) ∈ addTo (nodesTo ws i) (wat ws i) k := by
  have hz : ((wat ws i).extract 0 (k + 1)).size = k + 1 := by simp; omega
  have hb : ∀ j, Beg (bt ((wat ws i).extract 0 (k + 1))) ((wat ws i).extract 0 (k + 1)).size (bt (wat ws j)) (wat ws j).size ↔ k + 1 ≤ (wat ws j).size ∧ pfx (wat ws i) (k + 1) = pfx (wat ws j) (k + 1) := fun j => by
    unfold Beg
    rw [hz, pfx_eq]
    constructor
    · rintro ⟨h1, h2⟩
      exact ⟨h1, fun x hx => by have := h2 x hx; rwa [bt_extract _ _ _ _ (by omega), Nat.zero_add] at this⟩
    · rintro ⟨h1, h2⟩
      exact ⟨h1, fun x hx => by rw [bt_extract _ _ _ _ (by omega), Nat.zero_add]; exact h2 x hx⟩
  rw [addTo_mem, nodesTo_mem]
  constructor
  · rintro h ((h1 | ⟨m, j, h1, h2, h3, h4⟩) | ⟨j, h1, h2, h3⟩)
    · have := congrArg List.length h1; simp at this
    · have e := congrArg List.length h4
      rw [pfx_len, pfx_len] at e
      subst e
      exact h m h1 ((hb m).2 ⟨h3, h4⟩)
    · have e := congrArg List.length h3
      rw [pfx_len, pfx_len] at e
      omega
  · intro h j hj h1
    obtain ⟨h2, h3⟩ := (hb j).1 h1
    exact h (.inl (.inr ⟨j, k + 1, hj, by omega, h2, h3⟩))

set_option maxRecDepth 100000 in
set_option maxHeartbeats 2000000 in
theorem sizeRef_any (w : World) (A : Option Addr) (c : Nat) (ws : List ByteArray) (B : Nat) (h : Sl w B A (ws.map Value.string)) (hW : WAll ws) :
    Calls Tryd.prog 52 #[.slice A ws.length c] w fun e w' => e = .returned (.int .i64 (nodesTo ws ws.length).length) ∧ ∃ m, w' = w.drewN m := by
  have HZ := hid (wall_size hW)
  have hl6 := hW.1
  have HLe := hid (fun i k (hi : i < ws.length) (hk : k ≤ 8) => (show (addTo (nodesTo ws i) (wat ws i) k).length ≤ 1 + 8 * i + k by
    have h1 := nodesTo_le (ws := ws) (k := i) fun j hj => wall_size hW j (by omega)
    have h2 := addTo_le (nodesTo ws i) (wat ws i) k
    omega))
  have HLn := hid (fun i (hi : i ≤ ws.length) => (show (nodesTo ws i).length ≤ 1 + 8 * i from nodesTo_le fun j hj => wall_size hW j (by omega)))
  clear hW
  go_enter Tryd.func52, Tryd.ntmps52
  go_wp2_with fail
  go_loopw [3, 4] (fun n i wr => ∃ k u V : Nat, k ≤ ws.length ∧ V ≤ 100 ∧ n = .int .i64 V ∧ i = .int .i64 k ∧ wr = w.drewN u ∧ Hid (V = (nodesTo ws k).length)) (fun _ i _ => ws.length - (intOf i).toNat)
  case atStart => exact ⟨0, 0, 1, by omega, by omega, rfl, rfl, rfl, rfl⟩
  case round =>
    obtain ⟨i, u, V, hi, hV, rfl, rfl, rfl, hVe⟩ := hrel
    by_cases hlt : i < ws.length
    · have hlt' : (i : Int) < ws.length := by omega
      obtain ⟨g, o, hA, hg, hcell⟩ := h (by intro e; simp at e; simp [e] at hlt)
      have HC := hid (fun u m (hm : m < ws.length) => (show (w.drewN u).cell? ⟨g, o + m, none⟩ = some (.string (wat ws m)) from hcell m _ (wat_get hm)))
      have hsz := HZ.out i hlt
      obtain ⟨s, hs, Hs⟩ : ∃ s, wat ws i = s ∧ Hid (wat ws i = s) := ⟨_, rfl, rfl⟩
      rw [hs] at hsz
      subst hA
      clear hcell hs
      go_wp2_with fail
      go_loopw [3, 5] (fun n j wr => ∃ k u V : Nat, k ≤ s.size ∧ V ≤ 100 ∧ n = .int .i64 V ∧ j = .int .i64 ((k : Int) + 1) ∧ wr = w.drewN u ∧ Hid (V = (addTo (nodesTo ws i) (wat ws i) k).length)) (fun _ j _ => s.size + 1 - (intOf j).toNat)
      case atStart => exact ⟨0, u, V, by omega, hV, rfl, by go_num, rfl, hVe⟩
      case round =>
        clear hV hVe
        obtain ⟨k, u', V, hk, hV, rfl, rfl, rfl, hVe⟩ := hrel
        have ri := HC.out u' i hlt
        rw [Hs.out] at ri
        by_cases hks : k < s.size
        · have hks' : (k : Int) + 1 ≤ s.size := by omega
          obtain ⟨P, hP, hPn⟩ : ∃ P : Nat, (k : Int) + 1 = P ∧ P = k + 1 := ⟨k + 1, by omega, rfl⟩
          rw [hP] at hks' ⊢
          have hPs : P ≤ s.size := by omega
          have HP := hid hPn
          have hfr := hid (fresh_iff (ws := ws) (i := i) (k := k) (by rw [Hs.out]; omega))
          clear hPn hP
          go_wp2_with fail
          go_loopw [6, 7] (fun b j wr => ∃ (m u : Nat) (x : Bool), m ≤ i ∧ b = .bool x ∧ j = .int .i64 m ∧ wr = w.drewN u ∧ Hid (x = true ↔ ∀ j, j < m → ¬ Beg (bt (s.extract 0 P)) (s.extract 0 P).size (bt (wat ws j)) (wat ws j).size)) (fun _ j _ => i - (intOf j).toNat)
          case atStart => exact ⟨0, u', true, by omega, rfl, rfl, rfl, hid ⟨fun _ j hj => by omega, fun _ => rfl⟩⟩
          case round =>
            clear ri
            obtain ⟨m, v, x, hm, rfl, rfl, rfl, hx⟩ := hrel
            by_cases hmi : m < i
            · have hmi' : (m : Int) < i := by omega
              have hmn : (m : Int) < ws.length := by omega
              have ri := HC.out v i hlt
              rw [Hs.out] at ri
              have rm := HC.out v m (by omega)
              have hmz := HZ.out m (by omega)
              obtain ⟨t, ht, Ht⟩ : ∃ t, wat ws m = t ∧ Hid (wat ws m = t) := ⟨_, rfl, rfl⟩
              rw [ht] at rm hmz
              obtain ⟨wv, hwv, Hwv⟩ : ∃ wv, w.drewN v = wv ∧ Hid (w.drewN v = wv) := ⟨_, rfl, rfl⟩
              rw [hwv] at ri rm ⊢
              have hxz : (s.extract 0 P).size ≤ 8 := by simp; omega
              clear ht hwv
              rcases x with _ | _
              · have Hn := hid (show (false = true ↔ ∀ j, j < m + 1 → ¬ Beg (bt (s.extract 0 P)) (s.extract 0 P).size (bt (wat ws j)) (wat ws j).size) from ⟨fun h => absurd h (by decide), fun h => hx.out.2 fun j hj => h j (by omega)⟩)
                go_wp2_with fail
                go_quiet (fail)
                go_wp2_with fail
                go_roundw
                case rel => exact ⟨m + 1, _, false, by omega, rfl, by go_num, by rw [← Hwv.out]; exact World.drewN_drewN _ _ _, Hn⟩
                case measure => simp [intOf]; omega
              · rcases Classical.em (Beg (bt (s.extract 0 P)) (s.extract 0 P).size (bt t) t.size) with hb | hb
                · have hcb := hid (fun w q => begins_in w q t (s.extract 0 P) (by unfold maxLen; omega) (by unfold maxLen; omega) true ⟨fun _ => hb, fun _ => rfl⟩)
                  have Hn := hid (show (false = true ↔ ∀ j, j < m + 1 → ¬ Beg (bt (s.extract 0 P)) (s.extract 0 P).size (bt (wat ws j)) (wat ws j).size) from ⟨fun h => absurd h (by decide), fun h => absurd (by rw [Ht.out]; exact hb) (h m (by omega))⟩)
                  clear hb
                  go_wp2_with fail
                  go_quiet ((go_at_call 67; exact hcb.out _ _))
                  go_wp2_with fail
                  go_roundw
                  case rel => exact ⟨m + 1, _, false, by omega, rfl, by go_num, by rw [← Hwv.out]; exact World.drewN_drewN _ _ _, Hn⟩
                  case measure => simp [intOf]; omega
                · have hcb := hid (fun w q => begins_in w q t (s.extract 0 P) (by unfold maxLen; omega) (by unfold maxLen; omega) false ⟨fun h => absurd h (by decide), fun h => absurd h hb⟩)
                  have Hn := hid (show (true = true ↔ ∀ j, j < m + 1 → ¬ Beg (bt (s.extract 0 P)) (s.extract 0 P).size (bt (wat ws j)) (wat ws j).size) from ⟨fun _ j hj => by
                    by_cases e : j = m
                    · subst e; rw [Ht.out]; exact hb
                    · exact hx.out.1 rfl j (by omega), fun _ => rfl⟩)
                  clear hb
                  go_wp2_with fail
                  go_quiet ((go_at_call 67; exact hcb.out _ _))
                  go_wp2_with fail
                  go_roundw
                  case rel => exact ⟨m + 1, _, true, by omega, rfl, by go_num, by rw [← Hwv.out]; exact World.drewN_drewN _ _ _, hid (Iff.intro (fun _ => Hn.out.1 (by first | trivial | rfl)) (fun _ => rfl))⟩
                  case measure => simp [intOf]; omega
            · have hmi' : ¬ (m : Int) < i := by omega
              have hme : m = i := by omega
              have hx2 := hx.out
              have hfr2 := hfr.out
              rw [Hs.out, ← HP.out] at hfr2
              rw [hme, hfr2] at hx2
              have hle := HLe.out i P hlt (by omega)
              have Hle := hid hle
              rcases x with _ | _
              · have hmem : pfx (wat ws i) (k + 1) ∈ addTo (nodesTo ws i) (wat ws i) k := Classical.byContradiction fun hn => absurd (hx2.2 (by rw [HP.out, ← Hs.out] at *; exact hn)) (by decide)
                have Hn := hid (show V = (addTo (nodesTo ws i) (wat ws i) P).length by rw [HP.out, addTo_hit hmem]; exact hVe.out)
                have HPk := hid (show P = k + 1 from HP.out)
                clear hx2 hfr2 hme hmem hle
                go_wp2_with fail
                go_roundw
                case rel => exact ⟨P, _, V, by omega, hV, rfl, by go_num, rfl, Hn⟩
                case measure => have := HP.out; simp [intOf]; omega
              · have hmem : ¬ pfx (wat ws i) (k + 1) ∈ addTo (nodesTo ws i) (wat ws i) k := by
                  have := hx2.1 rfl
                  rw [HP.out, ← Hs.out] at this
                  exact this
                have hVV : V + 1 = (addTo (nodesTo ws i) (wat ws i) P).length := by rw [HP.out, addTo_miss hmem, List.length_append, hVe.out]; rfl
                have Hn := hid hVV
                have hV100 : V + 1 ≤ 100 := by rw [hVV]; omega
                clear hx2 hfr2 hme hmem hle hVV
                go_wp2_with fail
                go_roundw
                case rel => exact ⟨P, _, V + 1, by omega, hV100, by go_num, by go_num, rfl, Hn⟩
                case measure => have := HP.out; simp [intOf]; omega
        · have hks' : ¬ (k : Int) + 1 ≤ s.size := by omega
          have hke : k = s.size := by omega
          have Hn := hid (show V = (nodesTo ws (i + 1)).length by rw [nodesTo, Hs.out, ← hke, ← Hs.out]; exact hVe.out)
          clear hke
          go_wp2_with fail
          go_roundw
          case rel => exact ⟨i + 1, _, V, by omega, hV, rfl, by go_num, rfl, Hn⟩
          case measure => simp [intOf]; omega
    · have hlt' : ¬ (i : Int) < ws.length := by omega
      have hie : i = ws.length := by omega
      have hv := hVe.out
      rw [hie] at hv
      subst hv
      clear hie
      go_wp2_with fail
      go_ret
      exact ⟨rfl, _, rfl⟩
end Go.Proofs.YtknecfgacnknlaaDoor
