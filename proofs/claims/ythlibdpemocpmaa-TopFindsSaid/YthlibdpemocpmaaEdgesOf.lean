/- edges.Of: for a text of at most 24 bytes the longest border of each prefix; else nil and ErrFull. -/
import Derived.Test.YthlibdpemocpmaaLong
import Derived.Test.YthlibdpemocpmaaStr
namespace Go.Proofs.Ythlibdpemocpmaa
set_option linter.unusedVariables false
set_option linter.unusedSimpArgs false
open Go.RowKit

attribute [local go_sem] get_bt

/-- core.Long(24, s) at the place of its call: the one text lies in a new block. -/
theorem long1_ok (w : World) (s : ByteArray) (hs : s.size ≤ 24) (b c : Nat) (hc : w.cell? ⟨b, 0, none⟩ = some (.string s)) :
    Calls Try.prog 33 #[.int .i64 24, .slice (some ⟨b, 0, none⟩) 1 c] w fun e w' => e = .returned .nilIface ∧ w = w' :=
  long_ok w _ c [s] 24 (b + 1) (fun _ => ⟨b, 0, rfl, by omega, fun i u hu => by
    match i, hu with
    | 0, hu => simp at hu; subst hu; exact hc⟩) (by simp) (by decide) (fun i hi => by
    match i, hi with
    | 0, _ => show (s.size : Int) ≤ 24; omega)

theorem long1_bad (w : World) (s : ByteArray) (hs : 24 < s.size) (hm : s.size ≤ maxLen) (b c : Nat) (hc : w.cell? ⟨b, 0, none⟩ = some (.string s)) :
    Calls Try.prog 33 #[.int .i64 24, .slice (some ⟨b, 0, none⟩) 1 c] w fun e w' => e = .returned (errv 4) ∧ w = w' :=
  long_bad w _ c [s] 24 (b + 1) (fun _ => ⟨b, 0, rfl, by omega, fun i u hu => by
    match i, hu with
    | 0, hu => simp at hu; subst hu; exact hc⟩) (by simp) (by decide) 0 (by simp) (by show (24 : Int) < (s.size : Int); omega) (fun i hi => by
    match i, hi with
    | 0, _ => show s.size ≤ _; unfold maxLen at hm; exact hm)

set_option maxHeartbeats 400000 in
theorem edgesOf_bad (w : World) (s : ByteArray) (hs : 24 < s.size) (hm : s.size ≤ maxLen) :
    Calls Try.prog 41 #[.string s] w fun e w' => e = .returned (.tuple #[.slice none 0 0, errv 4]) ∧ Below w.heap.size w w' := by
  go_enter Try.func41, Try.ntmps41
  go_wp2_with (go_at_call 33; refine (long1_bad _ s hs hm _ _ (by simp)).mono ?_; rintro e w' ⟨rfl, rfl⟩)
  go_ret2
  exact ⟨rfl, (Below.refl _ _).alloc (Nat.le_refl _) _⟩

theorem edges_round {w wr : World} {g : Nat} {s : ByteArray} {j : Nat} {x : Int} (hlt : j + 1 < s.size) (HG : Hid (w.heap.size + 1 = g))
    (ho : Own wr g (.slice (some ⟨g, 0, none⟩) s.size s.size) (edgeTo (bt s) s.size (j + 1))) (hb : Below w.heap.size w wr) (hx : x = fail (bt s) (j + 1 + 1)) (m : Nat) :
    Own ((wr.drewN m).setCell ⟨g, j + 1, none⟩ (.int .i64 x)) g (.slice (some ⟨g, 0, none⟩) s.size s.size) (edgeTo (bt s) s.size (j + 1 + 1)) ∧
      Below w.heap.size w ((wr.drewN m).setCell ⟨g, j + 1, none⟩ (.int .i64 x)) := by
  subst hx
  have := HG.out
  exact ⟨by rw [← edgeTo_set _ _ _ hlt]; exact (ho.drewN m).set _ _, (below_dn hb m).setCell (p := ⟨g, j + 1, none⟩) (by simp; omega) _⟩

set_option maxHeartbeats 400000 in
theorem edgesOf_ok (w : World) (s : ByteArray) (hs : s.size ≤ 24) :
    Calls Try.prog 41 #[.string s] w (RetInts w (edgesOf (bt s) s.size)) := by
  go_enter Try.func41, Try.ntmps41
  go_wp2_with (first
    | (go_at_call 33; refine (long1_ok _ s hs _ _ (by simp)).mono ?_; rintro e w' ⟨rfl, rfl⟩)
    | (at_make; refine wp_make_int _ rfl _ _ rfl (w.heap.size + 1) s.size (w.heap.size + 1) rfl rfl (by omega) (by simp) (by simp) ?_; intro w1 hown hg hsz))
  have hb0 : Below w.heap.size w w1 := ((Below.refl _ _).alloc (Nat.le_refl _) _).trans ((Below.refl _ _).grown hg (by simp) (fun k hk => by cases hk))
  rw [edgeTo_one (bt s)] at hown
  clear hg
  obtain ⟨g, hG, HG⟩ : ∃ g, w.heap.size + 1 = g ∧ Hid (w.heap.size + 1 = g) := ⟨_, rfl, rfl⟩
  rw [hG] at hown hsz
  rw [hG]
  clear hG
  go_loopw [6] (fun i wr => ∃ j : Nat, (j = 0 ∨ j + 1 ≤ s.size) ∧ i = .int .i64 ((j : Int) + 1) ∧ Own wr g (.slice (some ⟨g, 0, none⟩) s.size s.size) (edgeTo (bt s) s.size (j + 1)) ∧ Below w.heap.size w wr) (fun i _ => s.size - (intOf i).toNat)
  case atStart => exact ⟨0, .inl rfl, rfl, hown, hb0⟩
  case round =>
    obtain ⟨j, hj, rfl, ho, hb⟩ := hrel
    by_cases hlt : j + 1 < s.size
    · have hlt' : (j : Int) + 1 < s.size := by omega
      have q := ho.cellAt (edgeTo_get (bt s) s.size (j + 1) j (by omega) (by omega))
      go_wp2
      go_loopw [7] (fun t w' => ∃ q m : Nat, q ≤ j ∧ t = .int .i64 q ∧ Hid (Cand (bt s) (j + 1) q) ∧ w' = wr.drewN m) (fun t _ => (intOf t).toNat)
      case atStart => exact ⟨fail (bt s) (j + 1), 0, by have := fail_lt (f := bt s) (n := j + 1) (by omega); omega, rfl, hid (cand_start (by omega)), rfl⟩
      case round =>
        obtain ⟨q, m, hq, rfl, hcand, rfl⟩ := hrel
        have qc : wr.cell? ⟨g, j + 1, none⟩ = some (.int .i64 0) := ho.cellAt (edgeTo_get0 (bt s) s.size (j + 1) hlt)
        have qf : wr.frozen? ⟨g, j + 1, none⟩ = false := ho.frozenAt _
        have hq' : (q : Int) < s.size := by omega
        have hq2 : q < s.size := by omega
        by_cases heq : bt s q = bt s (j + 1)
        · have Heq := hid heq
          have e1 : ((bt s q : Int) == bt s (j + 1)) = true := by simp [heq]
          have e2 : ((bt s q : Int) != bt s (j + 1)) = false := by simp [heq]
          clear heq
          have hx := cand_hit hcand.out Heq.out
          have Hx := hid hx
          clear hx
          by_cases hpos : 0 < q
          all_goals
            go_wp2
            go_quiet (fail)
            go_wp2
            go_quiet (fail)
            go_wp2
            go_roundw
            case rel =>
              have R := edges_round hlt HG ho hb (x := (q : Int) + 1) (by have := Hx.out; omega)
              exact ⟨j + 1, .inr (by omega), by go_num, (R _).1, (R _).2⟩
            case measure => simp [intOf]; omega
        · have e1 : ((bt s q : Int) == bt s (j + 1)) = false := by simp; omega
          have e2 : ((bt s q : Int) != bt s (j + 1)) = true := by simp; omega
          have Hne := hid heq
          clear heq
          by_cases hpos : 0 < q
          · have qq : wr.cell? ⟨g, q - 1, none⟩ = some (.int .i64 (fail (bt s) q)) := by
              have := ho.cellAt (edgeTo_get (bt s) s.size (j + 1) (q - 1) (by omega) (by omega))
              rwa [show q - 1 + 1 = q from by omega] at this
            have hf := fail_lt (f := bt s) hpos
            go_wp2
            go_quiet (fail)
            go_wp2
            go_roundw
            case rel => exact ⟨fail (bt s) q, _, by omega, rfl, hid (cand_step hcand.out hpos Hne.out), rfl⟩
            case measure => simp [intOf]; omega
          · go_wp2
            go_quiet (fail)
            go_wp2
            go_quiet (fail)
            go_wp2
            go_roundw
            case rel =>
              have R := edges_round hlt HG ho hb (x := (q : Int)) (by
                obtain rfl : q = 0 := by omega
                have := cand_miss hcand.out Hne.out
                omega)
              exact ⟨j + 1, .inr (by omega), by go_num, (R _).1, (R _).2⟩
            case measure => simp [intOf]; omega
    · go_wp2
      go_ret2
      rw [edgeTo_all _ _ _ (by omega)] at ho
      exact ⟨some ⟨g, 0, none⟩, s.size, by simp, by
        have := HG.out
        have h2 := ho.mono (base' := w.heap.size) (by omega)
        simpa using h2, hb⟩
end Go.Proofs.Ythlibdpemocpmaa
