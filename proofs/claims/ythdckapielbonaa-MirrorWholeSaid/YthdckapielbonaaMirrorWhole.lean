/- letterbecklaw1.MirrorWhole returns true at every text: the walk. -/
import Derived.Test.YthdckapielbonaaMirrorLongest
import Derived.Test.YthdckapielbonaaBack
import Derived.Test.YthdckapielbonaaPerPlain
namespace Go.Proofs.Ythdckapielbonaa
set_option linter.unusedVariables false
set_option linter.unusedSimpArgs false
open Go.RowKit

/-- A text and itself turned round: byte by byte from both ends. -/
theorem whole_pal (s : ByteArray) : (s ++ back s).size = 2 * s.size ∧ ∀ j, j < 2 * s.size → bt (s ++ back s) j = bt (s ++ back s) (2 * s.size - 1 - j) := by
  have hb := back_size s
  refine ⟨by rw [ByteArray.size_append]; omega, fun j hj => ?_⟩
  rw [bt_append, bt_append]
  by_cases h : j < s.size
  · rw [if_pos h, if_neg (by omega), back_bt s _ (by omega)]
    congr 1; omega
  · rw [if_neg h, if_pos (by omega), back_bt s _ (by omega)]
    congr 1; omega

theorem whole_long {f : Nat → Nat} {n : Nat} (h : ∀ j, j < n → f j = f (n - 1 - j)) : mAt f n = 0 ∧ mLong f n = n := by
  obtain ⟨h1, h2, h3⟩ := mLong_spec f n
  rcases Nat.eq_zero_or_pos n with h0 | h0
  · omega
  · have := h3 0 n h0 (by omega) (fun j hj => by rw [Nat.zero_add, Nat.zero_add]; exact h j hj)
    omega

theorem edge_pal {f : Nat → Nat} {n k : Nat} (h : ∀ j, j < n → f j = f (n - 1 - j)) (hk : Bdr f n k) : ∀ j, j < k → f j = f (k - 1 - j) := by
  intro j hj
  have := hk.1
  rw [hk.2 j hj, h (n - k + j) (by omega)]
  congr 1; omega

set_option maxRecDepth 100000 in
set_option maxHeartbeats 1000000 in
theorem walk_mirrorWhole (a0 : ByteArray) (w0 : a0.size ≤ maxLen) (z0 : a0.size ≤ 140737488355328) (W : World) :
    Calls Try.prog 6 #[.string a0] W fun e w' => e = .returned (.bool true) ∧ Below W.heap.size W w' := by
  obtain ⟨hz, hp⟩ := whole_pal a0
  have hbs := back_size a0
  have hcat : a0.size + (back a0).size ≤ 9223372036854775807 := by omega
  have hbm : (back a0).size ≤ maxLen := by omega
  have hzm : (a0 ++ back a0).size ≤ maxLen := by unfold maxLen; omega
  by_cases hs : a0.size ≤ 12
  · rw [← hz] at hp
    obtain ⟨hA, hL⟩ := whole_long hp
    have Hl := hid (fun w => longest_at w (a0 ++ back a0) (by omega) 0 (2 * (a0.size : Int)) (by omega) (by omega))
    have He := hid (fun w => edgesAll_ok w (a0 ++ back a0) (by omega))
    have Hmir : Hid (∀ (j : Nat) (x : Int), (edgesAll (bt (a0 ++ back a0)) (a0 ++ back a0).size)[j]? = some x → ∃ k : Nat, x = k ∧ 0 < k ∧ k < (a0 ++ back a0).size ∧ isMir ((a0 ++ back a0).extract 0 k) = true) := by
      refine hid fun j x h => ?_
      obtain ⟨k, rfl, h1, h2⟩ := mem_edgesAll.1 (List.mem_of_getElem? h)
      have h3 := h2.1
      refine ⟨k, rfl, h1, h3, (isMir_sub (by omega) (by omega)).2 fun j hj => ?_⟩
      rw [Nat.zero_add, Nat.zero_add]
      exact edge_pal hp h2 j (by omega)
    have hlen := edgesAll_len (bt (a0 ++ back a0)) (a0 ++ back a0).size
    have Hz := hid hz
    have Hbs := hid hbs
    have Hp := hid hp
    generalize edgesAll (bt (a0 ++ back a0)) (a0 ++ back a0).size = L at *
    have hl24 : L.length ≤ 24 := by omega
    clear hlen hA hL hp hz hbs hzm
    go_enter Try.func6, Try.ntmps6
    go_wp2_with fail
    refine (mirrorFact_true _).mono ?_
    rintro e v1 ⟨rfl, hb1⟩
    go_wp2_with fail
    refine (back_any _ a0 w0).mono ?_
    rintro e v2 ⟨rfl, rfl⟩
    go_wp2_with fail
    refine (Hl.out _).mono ?_
    rintro e v2 ⟨rfl, hb2⟩
    go_wp2_with fail
    refine (back_any _ a0 w0).mono ?_
    rintro e v3 ⟨rfl, rfl⟩
    go_wp2_with fail
    refine (He.out _).mono ?_
    rintro e v3 ⟨A, c, rfl, ho, hb3⟩
    go_wp2_with fail
    refine (back_any _ a0 w0).mono ?_
    rintro e v4 ⟨rfl, rfl⟩
    go_wp2_with fail
    have hsl := ho.sl
    have HB := hid (bch (bch hb1 hb2) hb3)
    clear hb1 hb2 hb3 ho hcat
    go_loopw [9] (fun i wr => ∃ k u : Nat, k ≤ L.length ∧ i = .int .i64 k ∧ wr = v3.drewN u) (fun i _ => L.length - (intOf i).toNat)
    case atStart => exact ⟨0, 0, Nat.zero_le _, rfl, rfl⟩
    case round =>
      obtain ⟨k, u, hk, rfl, rfl⟩ := hrel
      by_cases hlt : k < L.length
      · obtain ⟨g, o, hA, hg, hc⟩ := hsl (ints_ne (by omega))
        subst hA
        obtain ⟨x, hx⟩ : ∃ x, L[k]? = some x := ⟨_, List.getElem?_eq_getElem hlt⟩
        have q1 := hc _ _ (ints_get' hx)
        obtain ⟨p, rfl, hp1, hp2, hp3⟩ := Hmir.out _ _ hx
        have hsz : ((a0 ++ back a0).extract 0 p).size ≤ 24 := by simp; have := Hz.out; have := Hbs.out; omega
        have hp4 : p ≤ a0.size + (back a0).size := by rw [← ByteArray.size_append]; omega
        have hmir := hid (fun w => mirror_any w ((a0 ++ back a0).extract 0 p) (by omega))
        rw [hp3] at hmir
        clear hc hx hp3 hsz
        go_wp2_with fail
        refine (in_true _ _ _ _ (by omega) (by omega)).mono ?_
        rintro e v4 ⟨rfl, rfl⟩
        go_wp2_with fail
        refine (hmir.out _).mono ?_
        rintro e v4 ⟨m, rfl, rfl⟩
        go_wp2
        go_roundw
        case rel => exact ⟨k + 1, _, by omega, by go_num, rfl⟩
        case measure => simp [intOf]; omega
      · go_wp2
        go_ret
        exact ⟨rfl, below_dn HB.out _⟩
  · have Hl := hid (fun w => longest_bad w (a0 ++ back a0) (by omega) hzm)
    have hd : decide (12 < (a0.size : Int)) = true := by simp; omega
    have Hbs := hid hbs
    clear hp hbs hz hzm
    go_enter Try.func6, Try.ntmps6
    go_wp2_with fail
    refine (mirrorFact_true _).mono ?_
    rintro e v1 ⟨rfl, hb1⟩
    go_wp2_with fail
    refine (back_any _ a0 w0).mono ?_
    rintro e v2 ⟨rfl, rfl⟩
    go_wp2_with fail
    refine (Hl.out _).mono ?_
    rintro e v2 ⟨rfl, hb2⟩
    go_wp2
    go_ret
    exact ⟨rfl, bch hb1 hb2⟩
end Go.Proofs.Ythdckapielbonaa
