/- letterbecktop.TopGrammar returns true at every text: the walk. -/
import Derived.Test.YthdckapielbonaaGramTop
namespace Go.Proofs.Ythdckapielbonaa
set_option linter.unusedVariables false
set_option linter.unusedSimpArgs false
open Go.RowKit Go.Deep

attribute [local go_sem] get_bt

def r0cells : Array Value := #[.int .u8 83, .string ⟨#[65, 66]⟩, .int .u8 83, .string ⟨#[65, 67]⟩, .int .u8 67, .string ⟨#[83, 66]⟩, .int .u8 83, .string ⟨#[83, 83]⟩, .int .u8 65, .string ⟨#[97]⟩, .int .u8 66, .string ⟨#[98]⟩]

theorem rules_new (w : World) : RL (w.alloc (.cells r0cells 41)) (w.alloc (.cells r0cells 41)).heap.size (some ⟨w.heap.size, 0, none⟩) R0 := fun _ => by
  refine ⟨w.heap.size, 0, rfl, by simp, fun j r hr => ?_⟩
  have hc := fun i => cell_of_row (w.alloc (.cells r0cells 41)) w.heap.size i r0cells 41 (0, 0) (heap_alloc_new w _)
  rw [hc, hc]
  match j, hr with
  | 0, hr => obtain rfl : (83, ⟨#[65, 66]⟩) = r := by simpa [R0] using hr
             exact ⟨rfl, rfl⟩
  | 1, hr => obtain rfl : (83, ⟨#[65, 67]⟩) = r := by simpa [R0] using hr
             exact ⟨rfl, rfl⟩
  | 2, hr => obtain rfl : (67, ⟨#[83, 66]⟩) = r := by simpa [R0] using hr
             exact ⟨rfl, rfl⟩
  | 3, hr => obtain rfl : (83, ⟨#[83, 83]⟩) = r := by simpa [R0] using hr
             exact ⟨rfl, rfl⟩
  | 4, hr => obtain rfl : (65, ⟨#[97]⟩) = r := by simpa [R0] using hr
             exact ⟨rfl, rfl⟩
  | 5, hr => obtain rfl : (66, ⟨#[98]⟩) = r := by simpa [R0] using hr
             exact ⟨rfl, rfl⟩
  | j + 6, hr => simp [R0] at hr

set_option maxRecDepth 100000 in
set_option maxHeartbeats 1000000 in
theorem walk_topGrammar (a0 : ByteArray) (w0 : a0.size ≤ maxLen) (z0 : a0.size ≤ 140737488355328) (W : World) :
    Calls Try.prog 8 #[.string a0] W fun e w' => e = .returned (.bool true) ∧ Below W.heap.size W w' := by
  have HG := hid ghas_ab
  have HD := hid dcheck_any
  have HF := hid (show IsAB ⟨#[97, 97, 98, 98]⟩ 4 from by unfold IsAB; decide)
  have HT := hid (show true = decide (1 ≤ 4 ∧ Bal (bt ⟨#[97, 97, 98, 98]⟩) 0 4) from by decide)
  have HR := hid (rules_new W)
  have HB0 := hid ((Below.refl W.heap.size W).alloc (Nat.le_refl _) (.cells r0cells 41))
  go_enter Try.func8, Try.ntmps8
  go_wp2_with fail
  obtain ⟨W1, hW1⟩ : ∃ W1, W.alloc (.cells r0cells 41) = W1 := ⟨_, rfl⟩
  unfold r0cells at hW1 HR HB0
  rw [hW1] at HR HB0 ⊢
  clear hW1
  refine (HG.out W1 _ 6 HR.out ⟨#[97, 97, 98, 98]⟩ (by decide) HF.out true HT.out).mono ?_
  rintro e w1 ⟨rfl, hb1⟩
  have HB1 := hid (HB0.out.trans (hb1.mono HB0.out.size))
  have HR1 := hid ((HR.out.below hb1).mono hb1.size)
  clear HR HB0 HF HT hb1
  go_wp2_with fail
  go_loopw [6, 7] (fun o i wr => wr = w1 ∧ ∃ (k : Nat), k ≤ a0.size ∧ i = .int .i64 (k : Nat) ∧ o = .string (brk a0 k) ∧ Hid (IsAB a0 k)) (fun _ i _ => a0.size - (intOf i).toNat)
  case atStart => exact ⟨rfl, 0, by omega, rfl, rfl, hid (fun k hk => absurd hk (Nat.not_lt_zero _))⟩
  case round =>
    obtain ⟨rfl, k, hk, rfl, rfl, hab⟩ := hrel
    by_cases hlt : k < a0.size
    · have hlt' : (k : Int) < a0.size := by omega
      have hz := brk_size a0 k
      by_cases ha : bt a0 k = 97
      · have e1 : ((bt a0 k : Int) == 97) = true := by rw [ha]; rfl
        have hS := hid (brk_a ha)
        have hab2 := hid (show IsAB a0 (k + 1) from fun j hj => by
          by_cases e : j = k
          · rw [e]; exact .inl ha
          · exact hab.out j (by omega))
        clear ha
        obtain ⟨o, ho⟩ : ∃ o, brk a0 k = o := ⟨_, rfl⟩
        rw [ho] at hS hz ⊢
        clear ho
        go_wp2_with fail
        go_roundw
        case rel => exact ⟨trivial, k + 1, by omega, by go_num, by rw [hS.out], hab2⟩
        case measure => simp [intOf]; omega
      · have e1 : ((bt a0 k : Int) == 97) = false := by rw [beq_eq_false_iff_ne]; omega
        by_cases hb : bt a0 k = 98
        · have e2 : ((bt a0 k : Int) == 98) = true := by rw [hb]; rfl
          have hS := hid (brk_b ha)
          have hab2 := hid (show IsAB a0 (k + 1) from fun j hj => by
            by_cases e : j = k
            · rw [e]; exact .inr hb
            · exact hab.out j (by omega))
          clear ha hb
          obtain ⟨o, ho⟩ : ∃ o, brk a0 k = o := ⟨_, rfl⟩
          rw [ho] at hS hz ⊢
          clear ho
          go_wp2_with fail
          go_roundw
          case rel => exact ⟨trivial, k + 1, by omega, by go_num, by rw [hS.out], hab2⟩
          case measure => simp [intOf]; omega
        · have e2 : ((bt a0 k : Int) == 98) = false := by rw [beq_eq_false_iff_ne]; omega
          clear ha hb
          go_wp2_with fail
          go_ret
          exact ⟨rfl, HB1.out⟩
    · have hlt' : ¬ (k : Int) < a0.size := by omega
      have hke : k = a0.size := by omega
      subst hke
      by_cases h16 : a0.size ≤ 16
      · have h16' : ¬ (16 : Int) < a0.size := by omega
        by_cases hbal : 1 ≤ a0.size ∧ Bal (bt a0) 0 a0.size
        · have Hb := hid (show true = decide (1 ≤ a0.size ∧ Bal (bt a0) 0 a0.size) from by simp [hbal])
          have hem := emp_false (s := a0) hbal.1
          have HDD := hid (fun w => (HD.out w (bt a0) (brk a0 a0.size) (by rw [brk_size]; exact h16) (fun i hi => brk_bt _ _ _ (by rw [brk_size] at hi; exact hi))).mono fun e w' h => show e = .returned .nilIface ∧ Below w.heap.size w w' from by
            rw [brk_size] at h
            rcases h with ⟨h1 | h1, h2⟩
            · exact ⟨h1.2, h2⟩
            · exact absurd hbal.2 h1.1)
          clear hbal HD
          go_wp2_with fail
          refine (HG.out _ _ 6 HR1.out a0 (by omega) hab.out true Hb.out).mono ?_
          rintro e w2 ⟨rfl, hb2⟩
          go_wp2_with fail
          refine (HDD.out _).mono ?_
          rintro e w3 ⟨rfl, hb3⟩
          go_wp2_with fail
          go_ret
          exact ⟨rfl, (HB1.out.trans (hb2.mono HB1.out.size)).trans (hb3.mono (Nat.le_trans HB1.out.size hb2.size))⟩
        · have Hb := hid (show false = decide (1 ≤ a0.size ∧ Bal (bt a0) 0 a0.size) from by simp only [hbal, decide_false])
          by_cases h0 : a0.size = 0
          · have hem := emp_true h0
            clear hbal HD
            go_wp2_with fail
            refine (HG.out _ _ 6 HR1.out a0 (by omega) hab.out false Hb.out).mono ?_
            rintro e w2 ⟨rfl, hb2⟩
            go_wp2_with fail
            go_ret
            exact ⟨rfl, HB1.out.trans (hb2.mono HB1.out.size)⟩
          · have hem := emp_false (s := a0) (by omega)
            have HDD := hid (fun w => (HD.out w (bt a0) (brk a0 a0.size) (by rw [brk_size]; exact h16) (fun i hi => brk_bt _ _ _ (by rw [brk_size] at hi; exact hi))).mono fun e w' h => show e = .returned (errv 7) ∧ Below w.heap.size w w' from by
              rw [brk_size] at h
              rcases h with ⟨h1 | h1, h2⟩
              · exact absurd ⟨by omega, h1.1⟩ hbal
              · exact ⟨h1.2, h2⟩)
            clear hbal HD
            go_wp2_with fail
            refine (HG.out _ _ 6 HR1.out a0 (by omega) hab.out false Hb.out).mono ?_
            rintro e w2 ⟨rfl, hb2⟩
            go_wp2_with fail
            refine (HDD.out _).mono ?_
            rintro e w3 ⟨rfl, hb3⟩
            go_wp2_with fail
            go_ret
            exact ⟨rfl, (HB1.out.trans (hb2.mono HB1.out.size)).trans (hb3.mono (Nat.le_trans HB1.out.size hb2.size))⟩
      · have h16' : (16 : Int) < a0.size := by omega
        go_wp2_with fail
        go_ret
        exact ⟨rfl, HB1.out⟩
end Go.Proofs.Ythdckapielbonaa
