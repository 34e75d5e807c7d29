/- letterbecklaw1.ManyCut returns true at all words and texts: the walk. -/
import Derived.Test.YthlibdpemocpmaaManyFact
import Derived.Test.YthlibdpemocpmaaLongestRef
import Derived.Test.YthlibdpemocpmaaIn
namespace Go.Proofs.Ythlibdpemocpmaa
set_option linter.unusedVariables false
set_option linter.unusedSimpArgs false
open Go.RowKit

theorem cutl_at {ws : List ByteArray} {t : ByteArray} {k i : Nat} {l : List Int} (h : CutL ws t k (l.drop i)) (hi : i < l.length) : k < t.size ∧ ∃ m : Nat, m < ws.length ∧ l[i]? = some (m : Int) ∧ WLongest ws (sfx t k) (m : Int) ∧ CutL ws t (k + (wat ws m).size) (l.drop (i + 1)) := by
  rw [List.drop_eq_getElem_cons hi] at h
  obtain ⟨h1, m, h2, h3, h4, h5⟩ := h
  exact ⟨h1, m, h2, by rw [List.getElem?_eq_getElem hi, h3], h4, h5⟩
theorem longestRef_in (w : World) (A : Option Addr) (c : Nat) (ws : List ByteArray) (B q : Nat) (h : Sl w B A (ws.map Value.string)) (hW : WAll ws) (t : ByteArray) (ht : t.size ≤ 24) (r : Int) (hr : WLongest ws t r) :
    Calls Try.prog 20 #[.slice A ws.length c, .string t] (w.drewN q) fun e w' => e = .returned (.int .i64 r) ∧ ∃ m, w' = w.drewN m :=
  Calls.quiet_of (longestRef_any (w.drewN q) A c ws B h hW t ht r hr)

set_option maxRecDepth 100000 in
set_option maxHeartbeats 4000000 in
theorem walk_manyCut (A : Option Addr) (c : Nat) (ws : List ByteArray) (a1 : ByteArray) (w1 : a1.size ≤ maxLen) (W : World) (h : Sl W W.heap.size A (ws.map Value.string)) (hc : ws.length ≤ c) (hz : ∀ k, k < ws.length → (wat ws k).size ≤ maxLen) :
    Calls Try.prog 6 #[.slice A ws.length c, .string a1] W fun e w' => e = .returned (.bool true) ∧ Below W.heap.size W w' := by
  have HF := hid (fun w => manyFact_true w)
  rcases words_or ws with hW | ⟨x, hx, hW⟩
  · by_cases ht : a1.size ≤ 24
    · have HA := hid (fun w (hb : Below W.heap.size W w) => manyCut_ok w A c ws ((h.below hb).mono hb.size) hc hW a1 ht)
      have hl6 := hW.1
      have HW := hid hW
      have HS := hid h
      clear hW hz h
      go_enter Try.func6, Try.ntmps6
      go_wp2_with fail
      refine (HF.out _).mono ?_
      rintro e w2 ⟨rfl, hb1⟩
      go_wp2_with fail
      refine (HA.out _ hb1).mono ?_
      rintro e w3 ⟨hE, hb2⟩
      have hB2 := hid (bch hb1 hb2)
      clear hb1 HA HF hb2
      rcases hE with ⟨l, v, hcl, rfl, ho⟩ | ⟨hno, rfl⟩
      · have hll := cutl_len (fun m hm => hit_pos HW.out hm) hcl
        have hsw := hid (HS.out.below hB2.out)
        obtain ⟨A1, c1, rfl⟩ := ho.shape
        have HSL := hid ho.sl
        have H0 := hid (show CutL ws a1 0 (l.drop 0) from hcl)
        clear ho hcl HS
        go_wp2_with fail
        go_loopw [8, 9] (fun s i wr => ∃ (j k u : Nat) (s0 : ByteArray), j ≤ l.length ∧ s = .string s0 ∧ i = .int .i64 j ∧ wr = w3.drewN u ∧ s0.size ≤ 24 ∧ Hid (s0 = sfx a1 k) ∧ Hid (CutL ws a1 k (l.drop j))) (fun _ i _ => l.length - (intOf i).toNat)
        case atStart => exact ⟨0, 0, 0, a1, by omega, rfl, rfl, rfl, ht, hid (sfx_zero a1).symm, H0⟩
        case round =>
          clear H0
          obtain ⟨j, k, u, s, hj, rfl, rfl, rfl, hs24, hs, hC⟩ := hrel
          by_cases hjl : j < l.length
          · have hjl' : (j : Int) < l.length := by omega
            obtain ⟨hkt, m, hm, hlm, hL, hC2⟩ := cutl_at hC.out hjl
            obtain ⟨g1, o1, hA1, hg1, hc1⟩ := HSL.out (by intro e; have := congrArg List.length e; simp at this; simp [this] at hjl)
            have rj : (w3.drewN u).cell? ⟨g1, o1 + j, none⟩ = some (.int .i64 m) := hc1 j _ (ints_get' hlm)
            obtain ⟨g, o, hA, hg, hcell⟩ := hsw.out (by intro e; simp at e; simp [e] at hm)
            have rm : (w3.drewN u).cell? ⟨g, o + m, none⟩ = some (.string (wat ws m)) := hcell m _ (wat_get hm)
            rw [← hs.out] at hL
            have hbm : Begs s (wat ws m) := by
              rcases hL with ⟨h1, _⟩ | ⟨m', _, h1, h2, _⟩
              · omega
              · have : m' = m := by omega
                subst this; exact h2
            have hsz := wall_size HW.out m hm
            have hsz2 : s.size = a1.size - k := by rw [hs.out, sfx_size]
            have hlr := hid (fun w q (hw : Sl w w3.heap.size A (ws.map Value.string)) => longestRef_in w A c ws w3.heap.size q hw HW.out s hs24 m hL)
            have hswu := hid (show Sl (w3.drewN u) w3.heap.size A (ws.map Value.string) from hsw.out.mono hB2.out.size)
            obtain ⟨t, htm, Ht⟩ : ∃ t, wat ws m = t ∧ Hid (wat ws m = t) := ⟨_, rfl, rfl⟩
            rw [htm] at rm hbm hsz hC2
            have hle := hbm.1
            have hcb := hid (fun w q => begins_in w q s t (by unfold maxLen; omega) (by unfold maxLen; omega) true ⟨fun _ => begs_beg.1 hbm, fun _ => rfl⟩)
            have hin := hid (fun w q => in_in w q (m : Int) 0 ((ws.length : Int) - 1) (by omega) (by omega))
            have Hsx := hid (show s.extract t.size s.size = sfx a1 (k + t.size) by rw [hs.out]; exact sfx_sfx a1 k t.size (by omega))
            have Hsz := hid hsz2
            have HC2 := hid hC2
            have hm' : (m : Int) < ws.length := by omega
            obtain ⟨wv, hwv, Hwv⟩ : ∃ wv, w3.drewN u = wv ∧ Hid (w3.drewN u = wv) := ⟨_, rfl, rfl⟩
            rw [hwv] at rj rm hswu ⊢
            have hlr2 := hid (fun q => hlr.out wv q hswu.out)
            subst hA1 hA
            clear hcell hc1 hL hbm htm hwv hsz2 hC2 hlm hlr hC
            go_wp2_with fail
            go_quiet (first
              | (go_at_call 13; exact hin.out _ _)
              | (go_at_call 17; exact hcb.out _ _)
              | (go_at_call 20; exact hlr2.out _))
            go_wp2_with fail
            go_roundw
            case rel => exact ⟨j + 1, k + t.size, _, _, by omega, rfl, by go_num, by rw [← Hwv.out]; exact World.drewN_drewN _ _ _, by simp; omega, Hsx, HC2⟩
            case measure => simp [intOf]; omega
          · have hje : j = l.length := by omega
            subst hje
            have hk : k = a1.size := by have := hC.out; rw [List.drop_length] at this; exact this
            have hse : s = ⟨#[]⟩ := ext_bt (by rw [hs.out, sfx_size, hk, Nat.sub_self]; rfl) fun j hj => by rw [hs.out, sfx_size] at hj; omega
            subst hse
            go_wp2_with fail
            go_ret
            exact ⟨rfl, below_dn hB2.out _⟩
      · clear hno
        go_wp2_with fail
        go_ret
        exact ⟨rfl, hB2.out⟩
    · have HO := hid (fun w (hb : Below W.heap.size W w) => manyCut_long w A c ws ((h.below hb).mono hb.size) hc hW a1 (by omega) w1)
      clear h hz hW
      go_enter Try.func6, Try.ntmps6
      go_wp2_with fail
      refine (HF.out _).mono ?_
      rintro e w2 ⟨rfl, hb1⟩
      go_wp2_with fail
      refine (HO.out _ hb1).mono ?_
      rintro e w2 ⟨rfl, hb2⟩
      go_wp2_with fail
      go_ret
      exact ⟨rfl, bch hb1 hb2⟩
  · have HO := hid (fun w (hb : Below W.heap.size W w) => manyCut_bad w A c ws ((h.below hb).mono hb.size) hc hz x hW a1)
    clear h hz hW
    go_enter Try.func6, Try.ntmps6
    go_wp2_with fail
    refine (HF.out _).mono ?_
    rintro e w2 ⟨rfl, hb1⟩
    go_wp2_with fail
    refine (HO.out _ hb1).mono ?_
    rintro e w2 ⟨rfl, hb2⟩
    go_wp2_with fail
    go_ret
    exact ⟨rfl, bch hb1 hb2⟩
end Go.Proofs.Ythlibdpemocpmaa
