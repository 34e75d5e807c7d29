/- core.Long(24, texts): nil where no text is longer than 24 bytes, else ErrFull. -/
import Derived.Test.YthlibdpemocpmaaBase
namespace Go.Proofs.Ythlibdpemocpmaa
set_option linter.unusedVariables false
set_option linter.unusedSimpArgs false
open Go.RowKit

/-- api.ErrFull and its kin as values of type error. -/
abbrev errv (n : Int) : Value := .iface 61 (.int .i64 n)

theorem strs_get (l : List ByteArray) (i : Nat) (h : i < l.length) : (l.map Value.string)[i]? = some (.string l[i]) := by simp [h]

set_option maxHeartbeats 400000 in
theorem long_ok (w : World) (A : Option Addr) (c : Nat) (l : List ByteArray) (m : Int) (B : Nat) (h : Sl w B A (l.map Value.string)) (hl : l.length ≤ 9223372036854775807) (hm : m ≤ 1000)
    (hs : ∀ i (hi : i < l.length), (l[i].size : Int) ≤ m) :
    Calls Try.prog 33 #[.int .i64 m, .slice A l.length c] w fun e w' => e = .returned .nilIface ∧ w = w' := by
  have Hs := hid hs
  clear hs
  go_enter Try.func33, Try.ntmps33
  go_wp2
  go_loop [9] (fun i => ∃ k : Nat, k ≤ l.length ∧ i = .int .i64 k) (fun i => l.length - (intOf i).toNat)
  case atStart => exact ⟨0, Nat.zero_le _, rfl⟩
  case round =>
    obtain ⟨k, hk, rfl⟩ := hrel
    by_cases hlt : k < l.length
    · obtain ⟨g, o, hA, hg, hc⟩ := h (by intro e; simp at e; simp [e] at hlt)
      have q := hc k _ (strs_get l k hlt)
      have hsk := Hs.out k hlt
      subst hA
      clear hc
      go_wp2
      go_round
      case rel => exact ⟨k + 1, hlt, by go_num⟩
      case measure => simp [intOf]; omega
    · go_wp2
      go_ret
      exact ⟨rfl, rfl⟩

set_option maxHeartbeats 400000 in
theorem long_bad (w : World) (A : Option Addr) (c : Nat) (l : List ByteArray) (m : Int) (B : Nat) (h : Sl w B A (l.map Value.string)) (hl : l.length ≤ 9223372036854775807) (hm : m ≤ 1000)
    (j : Nat) (hj : j < l.length) (hs : m < (l[j].size : Int)) (hz : ∀ i (hi : i < l.length), l[i].size ≤ 9223372036854775807) :
    Calls Try.prog 33 #[.int .i64 m, .slice A l.length c] w fun e w' => e = .returned (errv 4) ∧ w = w' := by
  have Hs := hid hs
  have Hz := hid hz
  clear hs hz
  go_enter Try.func33, Try.ntmps33
  go_wp2
  go_loop [9] (fun i => ∃ k : Nat, k ≤ j ∧ i = .int .i64 k) (fun i => l.length - (intOf i).toNat)
  case atStart => exact ⟨0, Nat.zero_le _, rfl⟩
  case round =>
    obtain ⟨k, hk, rfl⟩ := hrel
    have hlt : k < l.length := by omega
    obtain ⟨g, o, hA, hg, hc⟩ := h (by intro e; simp at e; simp [e] at hlt)
    have q := hc k _ (strs_get l k hlt)
    have hsk := Hz.out k hlt
    subst hA
    clear hc
    by_cases hb : m < (l[k].size : Int)
    · go_wp2
      go_ret
      exact ⟨rfl, rfl⟩
    · have hkj : k < j := by
        by_cases he : k = j
        · subst he; exact absurd Hs.out hb
        · omega
      go_wp2
      go_round
      case rel => exact ⟨k + 1, hkj, by go_num⟩
      case measure => simp [intOf]; omega
end Go.Proofs.Ythlibdpemocpmaa
