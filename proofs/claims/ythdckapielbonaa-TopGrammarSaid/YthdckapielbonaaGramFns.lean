/- gram.name, the closure of gram.names, gram.Check at rules without a fault. -/
import Derived.Test.YthdckapielbonaaGramMem
import Derived.Deep.DeepMust
import Derived.Laws.BitsAllLaws
namespace Go.Proofs.Ythdckapielbonaa
set_option linter.unusedVariables false
set_option linter.unusedSimpArgs false
open Go.RowKit Go.Deep

attribute [local go_sem] get_bt

theorem name_any (w : World) (c : Nat) (h1 : 65 ≤ c) (h2 : c ≤ 90) : Calls Try.prog 33 #[.int .u8 (c : Int)] w fun e w' => e = .returned (.bool true) ∧ w' = w := by
  have e1 : (65 : Int) ≤ c := by omega
  have e2 : (c : Int) ≤ 90 := by omega
  clear h1 h2
  go_enter Try.func33, Try.ntmps33
  go_wp2_with fail
  go_ret
  exact ⟨rfl, rfl⟩

theorem bit_any (w : World) (c b : Nat) (h1 : 65 ≤ c) (h2 : c ≤ 90) (hb : 2 ^ (c - 65) = b) : Calls Try.prog 34 #[.int .u8 (c : Int)] w fun e w' => e = .returned (.int .u32 (b : Int)) ∧ w' = w := by
  have e1 : (65 : Int) ≤ c := by omega
  have e2 : (c : Int) ≤ 90 := by omega
  obtain ⟨d, hd⟩ : ∃ d : Nat, c = d + 65 := ⟨c - 65, by omega⟩
  have hd2 : (c : Int) - 65 = d := by omega
  have hd3 : IntKind.u8.wrap (c - 65) = (d : Int) := by rw [hd2, IntKind.wrap_u8]; omega
  have hd4 : (0 : Int) ≤ d := by omega
  have hd25 : d < 26 := by omega
  rw [show c - 65 = d by omega] at hb
  have hB := hid (show (2 : Int) ^ d % 4294967296 = (b : Int) by
    have h3 : ((2 : Int) ^ d) = ((2 ^ d : Nat) : Int) := by simp
    have h4 : 2 ^ d < 2 ^ 26 := Nat.pow_lt_pow_right (by omega) hd25
    rw [h3, hb]
    omega)
  clear hd hb h1 h2
  go_enter Try.func34, Try.ntmps34
  go_wp2_with fail
  go_ret
  exact ⟨by rw [← hB.out]; rfl, rfl⟩

set_option maxRecDepth 100000 in
set_option maxHeartbeats 2000000 in
theorem gcheck_ok (w : World) (A : Option Addr) (c : Nat) (R : List (Nat × ByteArray)) (h : RL w w.heap.size A R) (hR : ∀ r ∈ R, ROk r) (hl : R.length ≤ 10) :
    Calls Try.prog 31 #[.slice A R.length c] w fun e w' => e = .returned .nilIface ∧ Below w.heap.size w w' := by
  have H := hid h
  have HR := hid hR
  have HN := hid name_any
  have hl' : (R.length : Int) ≤ 10 := by omega
  clear h hR
  go_enter Try.func31, Try.ntmps31
  go_wp2_with fail
  go_loopw [11] (fun i wr => ∃ k : Nat, k ≤ R.length ∧ i = .int .i64 k ∧ Hid (Below w.heap.size w wr)) (fun i _ => R.length - (intOf i).toNat)
  case atStart => exact ⟨0, by omega, rfl, hid (Below.refl _ _)⟩
  case round =>
    obtain ⟨k, hk, rfl, hb⟩ := hrel
    by_cases hlt : k < R.length
    · have hlt' : (k : Int) < R.length := by omega
      obtain ⟨r, hr⟩ : ∃ r, R[k]? = some r := ⟨_, List.getElem?_eq_getElem hlt⟩
      have hok := HR.out r (List.mem_of_getElem? hr)
      obtain ⟨g, o, hA, hg, hcl⟩ := (H.out.below hb.out) (by intro e; simp [e] at hlt)
      obtain ⟨q0, q1⟩ := hcl k r hr
      obtain ⟨n, s⟩ := r
      simp only at q0 q1
      subst hA
      clear hcl hr
      obtain ⟨o1, o2, o3⟩ := hok
      simp only at o1 o2 o3
      have hbs := hb.out.size
      have hba := hid (fun o => (hb.out.alloc hbs o))
      clear hb
      rcases o3 with ⟨z1, z2, z3⟩ | ⟨z1, z2, z3, z4, z5⟩
      · have hz : (s.size : Int) = 1 := by omega
        have hz' : 0 < s.size := by omega
        have hz2 : (97 : Int) ≤ bt s 0 := by omega
        have hz3 : (bt s 0 : Int) ≤ 122 := by omega
        go_wp2_with (go_at_call 33; refine (HN.out _ _ (by omega) (by omega)).mono ?_; rintro e w1 ⟨rfl, rfl⟩)
        go_roundw
        case rel => exact ⟨k + 1, by omega, by go_num, hid (hba.out _)⟩
        case measure => simp [intOf]; omega
      · have hz : (s.size : Int) = 2 := by omega
        have hz' : 0 < s.size := by omega
        have hz'' : 1 < s.size := by omega
        go_wp2_with (go_at_call 33; refine (HN.out _ _ (by omega) (by omega)).mono ?_; rintro e w1 ⟨rfl, rfl⟩)
        go_roundw
        case rel => exact ⟨k + 1, by omega, by go_num, hid (hba.out _)⟩
        case measure => simp [intOf]; omega
    · have hlt' : ¬ (k : Int) < R.length := by omega
      go_wp2_with fail
      go_ret
      exact ⟨rfl, hb.out⟩
end Go.Proofs.Ythdckapielbonaa
