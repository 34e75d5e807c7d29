/- find.Check, find.All: where a word stands in a text. -/
import Derived.Test.YthlibdpemocpmaaLong2
import Derived.Test.YthlibdpemocpmaaStrs
import Derived.Test.YthlibdpemocpmaaFindPlain
namespace Go.Proofs.Ythlibdpemocpmaa
set_option linter.unusedVariables false
set_option linter.unusedSimpArgs false
open Go.RowKit

attribute [local go_sem] get_bt

set_option maxHeartbeats 400000 in
theorem fcheck_ok (w : World) (t s : ByteArray) (ht : t.size ≤ 24) (hs : s.size ≤ 24) (hpos : 0 < s.size) :
    Calls Try.prog 40 #[.string t, .string s] w fun e w' => e = .returned .nilIface ∧ Below w.heap.size w w' := by
  have hemp := emp_false hpos
  go_enter Try.func40, Try.ntmps40
  go_wp2_with (go_at_call 33; refine (long2_ok _ t s ht hs).mono ?_; rintro e w' ⟨rfl, rfl⟩)
  go_ret
  exact ⟨rfl, (Below.refl _ _).alloc (Nat.le_refl _) _⟩

set_option maxHeartbeats 400000 in
theorem fcheck_none (w : World) (t s : ByteArray) (ht : t.size ≤ 24) (hs : s.size = 0) :
    Calls Try.prog 40 #[.string t, .string s] w fun e w' => e = .returned (errv 5) ∧ Below w.heap.size w w' := by
  have hemp := emp_true hs
  have hs' : s.size ≤ 24 := by omega
  clear hs
  go_enter Try.func40, Try.ntmps40
  go_wp2_with (go_at_call 33; refine (long2_ok _ t s ht hs').mono ?_; rintro e w' ⟨rfl, rfl⟩)
  go_ret
  exact ⟨rfl, (Below.refl _ _).alloc (Nat.le_refl _) _⟩

set_option maxHeartbeats 400000 in
theorem fcheck_bad (w : World) (t s : ByteArray) (h : 24 < t.size ∨ 24 < s.size) (ht : t.size ≤ maxLen) (hs : s.size ≤ maxLen) :
    Calls Try.prog 40 #[.string t, .string s] w fun e w' => e = .returned (errv 4) ∧ Below w.heap.size w w' := by
  have H := hid h
  clear h
  go_enter Try.func40, Try.ntmps40
  go_wp2_with (go_at_call 33; refine (long2_bad _ t s H.out ht hs).mono ?_; rintro e w' ⟨rfl, rfl⟩)
  go_ret
  exact ⟨rfl, (Below.refl _ _).alloc (Nat.le_refl _) _⟩

set_option maxHeartbeats 400000 in
theorem findAll_err (w : World) (t s : ByteArray) (x : Int) (h : Hid (∀ w, Calls Try.prog 40 #[.string t, .string s] w fun e w' => e = .returned (errv x) ∧ Below w.heap.size w w')) :
    Calls Try.prog 23 #[.string t, .string s] w fun e w' => e = .returned (.tuple #[.slice none 0 0, errv x]) ∧ Below w.heap.size w w' := by
  go_enter Try.func23, Try.ntmps23
  go_wp2_with fail
  refine (h.out _).mono ?_
  rintro e w' ⟨rfl, hb⟩
  go_wp2
  go_ret2
  exact ⟨rfl, hb⟩

set_option maxRecDepth 100000 in
set_option maxHeartbeats 1000000 in
theorem findAll_ok (w : World) (t s : ByteArray) (ht : t.size ≤ 24) (hs : s.size ≤ 24) (hpos : 0 < s.size) :
    Calls Try.prog 23 #[.string t, .string s] w (RetInts w (posI (bt s) s.size (bt t) t.size)) := by
  go_enter Try.func23, Try.ntmps23
  go_wp2_with fail
  refine (fcheck_ok _ t s ht hs hpos).mono ?_
  rintro e w0 ⟨rfl, hb0⟩
  go_wp2_with fail
  refine (edgesOf_ok _ s hs).mono ?_
  rintro e w1 ⟨A, c, rfl, ho1, hb1⟩
  go_wp2_with fail
  have HB := bch hb0 hb1
  have hsl := (ho1.slB w1.heap.size (Nat.le_refl _))
  clear hb0 hb1 ho1
  obtain ⟨g, o, hA, hg, hc⟩ := hsl (ints_ne (by rw [edgesOf_len]; exact hpos))
  subst hA
  have hcell : Hid (∀ wr q, Below w1.heap.size w1 wr → 0 < q → q ≤ s.size → wr.cell? ⟨g, o + (q - 1), none⟩ = some (.int .i64 (fail (bt s) q))) := fun wr q h h1 h2 =>
    (h.cell (p := ⟨g, o + (q - 1), none⟩) hg).trans (hc _ _ (ints_get' (edgesOf_get (bt s) s.size q h1 h2)))
  clear hc hsl
  go_loopw [9, 10, 28] (fun v x i wr => ∃ m q : Nat, m ≤ t.size ∧ q ≤ s.size ∧ i = .int .i64 m ∧ x = .int .i64 q ∧ Hid (kst (bt s) (bt t) s.size m = q) ∧ Own wr w1.heap.size v (posI (bt s) s.size (bt t) m) ∧ Below w1.heap.size w1 wr) (fun _ _ i _ => t.size - (intOf i).toNat)
  case atStart => exact ⟨0, 0, Nat.zero_le _, Nat.zero_le _, rfl, rfl, kst_zero _ _ _, Own.nil _ _, Below.refl _ _⟩
  case round =>
    obtain ⟨m, q0, hm, hq0, rfl, rfl, hk0, ho, hb⟩ := hrel
    have hlen := pos_len (bt s) s.size (bt t) m
    have hwr := hb.size
    have Hpos := hid hpos
    by_cases hlt : m < t.size
    · go_wp2_with fail
      go_loopw [10] (fun x w' => ∃ q u : Nat, q ≤ s.size ∧ x = .int .i64 q ∧ Hid (KCand (bt s) (bt t) s.size m q) ∧ w' = wr.drewN u) (fun x _ => (intOf x).toNat)
      case atStart => exact ⟨q0, 0, hq0, rfl, hid (hk0.out ▸ kcand_start _ _ _ _), rfl⟩
      case round =>
        clear hk0 hq0
        obtain ⟨q, u, hq, rfl, hcand, rfl⟩ := hrel
        have hstep : 0 < q → (q = s.size ∨ bt s q ≠ bt t m) → Hid (KCand (bt s) (bt t) s.size m (fail (bt s) q)) := fun h1 h2 => kcand_step hcand.out h1 h2
        have hqf : 0 < q → fail (bt s) q < q ∧ wr.cell? ⟨g, o + (q - 1), none⟩ = some (.int .i64 (fail (bt s) q)) := fun h => ⟨fail_lt h, hcell.out _ _ hb h hq⟩
        by_cases hqn : q = s.size
        · have hq1 : 0 < q := by omega
          obtain ⟨hf, qc⟩ := hqf hq1
          have hst := hstep hq1 (.inl hqn)
          have e1 : ((q : Int) == s.size) = true := by rw [beq_iff_eq]; omega
          clear hstep hqn hqf
          generalize fail (bt s) q = r at hf qc hst
          go_wp2
          go_quiet (fail)
          go_wp2
          go_roundw
          case rel => exact ⟨r, _, by omega, rfl, hst, rfl⟩
          case measure => simp [intOf]; omega
        · have e1 : ((q : Int) == s.size) = false := by rw [beq_eq_false_iff_ne]; omega
          have hq2 : q < s.size := by omega
          have hq3 : (q : Int) < s.size := by omega
          clear hqn
          by_cases heq : bt s q = bt t m
          · have Hx := hid (kcand_hit hcand.out hq2 heq)
            have e2 : ((bt s q : Int) == bt t m) = true := by simp [heq]
            have e3 : ((bt s q : Int) != bt t m) = false := by simp [heq]
            clear heq hstep hqf
            by_cases hfull : q + 1 = s.size
            · have e4 : ((q : Int) + 1 == s.size) = true := by rw [beq_iff_eq]; omega
              have hnew := hid (posI_hit (f := bt s) (t := bt t) (n := s.size) (m := m) Hpos.out (by rw [Hx.out, hfull]))
              have hq4 : (m : Int) - s.size + 1 = (m : Int) - ((q : Int) + 1) + 1 := by omega
              clear hfull
              have HQ4 := hid hq4
              clear hq4
              by_cases hq1 : 0 < q
              all_goals
                go_wp2
                go_quiet (fail)
                go_wp2
                go_quiet (fail)
                go_wp2_with (first
                  | (at_builtin; go_must (refine wp_append_int _ rfl _ _ rfl w1.heap.size _ _ rfl ((ho.drewN _).alloc _) _ _ ((m : Int) - ((q : Int) + 1) + 1) rfl (new_one _ _ _ _) (by rw [posI_len]; omega) (by first | omega | (simp; omega) | (simp [World.drewN]; omega)) ?_); intro v' w2 ho2 hg2; have hb2 : Below w1.heap.size w1 w2 := ((below_dn hb _).alloc hwr _).grown hg2 (by first | omega | (simp; omega) | (simp [World.drewN]; omega)) (fun k hk => (ho.lt k hk).1)))
                go_roundw
                case rel => exact ⟨m + 1, q + 1, by omega, by omega, by go_num, by go_num, Hx, by rw [hnew.out, HQ4.out]; exact ho2, hb2⟩
                case measure => simp [intOf]; omega
            · have e4 : ((q : Int) + 1 == s.size) = false := by rw [beq_eq_false_iff_ne]; omega
              have hnew := hid (posI_miss (f := bt s) (t := bt t) (n := s.size) (m := m) Hpos.out (by rw [Hx.out]; exact hfull))
              clear hfull
              by_cases hq1 : 0 < q
              all_goals
                go_wp2
                go_quiet (fail)
                go_wp2
                go_quiet (fail)
                go_wp2
                go_roundw
                case rel => exact ⟨m + 1, q + 1, by omega, by omega, by go_num, by go_num, Hx, by rw [hnew.out]; exact ho.drewN _, below_dn hb _⟩
                case measure => simp [intOf]; omega
          · have e2 : ((bt s q : Int) == bt t m) = false := by simp; omega
            have e3 : ((bt s q : Int) != bt t m) = true := by simp; omega
            by_cases hq1 : 0 < q
            · obtain ⟨hf, qc⟩ := hqf hq1
              have hst := hstep hq1 (.inr heq)
              clear hstep heq hqf
              generalize fail (bt s) q = r at hf qc hst
              go_wp2
              go_quiet (fail)
              go_wp2
              go_roundw
              case rel => exact ⟨r, _, by omega, rfl, hst, rfl⟩
              case measure => simp [intOf]; omega
            · obtain rfl : q = 0 := by omega
              have Hx := hid (kcand_miss hcand.out Hpos.out heq)
              have hnew := hid (posI_miss (f := bt s) (t := bt t) (n := s.size) (m := m) Hpos.out (by rw [Hx.out]; omega))
              clear hstep heq hqf
              have e5 : ((0 : Int) == s.size) = false := e1
              go_wp2
              go_quiet (fail)
              go_wp2
              go_quiet (fail)
              go_wp2
              go_roundw
              case rel => exact ⟨m + 1, 0, by omega, by omega, by go_num, by go_num, Hx, by rw [hnew.out]; exact ho.drewN _, below_dn hb _⟩
              case measure => simp [intOf]; omega
    · have hmt : m = t.size := by omega
      rw [hmt] at ho
      clear hmt
      obtain ⟨A', c', hv⟩ := ho.shape
      subst hv
      go_wp2
      go_ret2
      exact ⟨A', c', by simp, by have := ho.mono (base' := w.heap.size) HB.size; simpa using this, bch HB hb⟩
end Go.Proofs.Ythlibdpemocpmaa
