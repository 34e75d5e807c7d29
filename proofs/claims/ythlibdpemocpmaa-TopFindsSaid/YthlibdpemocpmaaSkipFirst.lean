/- skip.First: where a word stands first, and how often it was laid; letterbecklaw1.skipFact. -/
import Derived.Test.YthlibdpemocpmaaSkip
namespace Go.Proofs.Ythlibdpemocpmaa
set_option linter.unusedVariables false
set_option linter.unusedSimpArgs false
open Go.RowKit Go.Maps

attribute [local go_sem] get_bt

theorem at_extract {s t : ByteArray} {a : Nat} (h : a + s.size ≤ t.size) : At (bt s) s.size (bt t) t.size a ↔ t.extract a (a + s.size) = s := by
  have hz : (t.extract a (a + s.size)).size = s.size := by simp; omega
  constructor
  · rintro ⟨h1, h2⟩
    exact ext_bt hz fun j hj => by rw [bt_extract _ _ _ _ (by omega)]; exact (h2 j (by omega)).symm
  · intro e
    refine ⟨h, fun j hj => ?_⟩
    rw [← bt_extract t a (a + s.size) j (by omega), e]

set_option maxHeartbeats 400000 in
theorem skipFirst_err (w : World) (t s : ByteArray) (x : Int) (h : Hid (∀ w, Calls Try.prog 40 #[.string t, .string s] w fun e w' => e = .returned (errv x) ∧ Below w.heap.size w w')) :
    Calls Try.prog 42 #[.string t, .string s] w fun e w' => e = .returned (.tuple #[.int .i64 0, .int .i64 0, errv x]) ∧ Below w.heap.size w w' := by
  go_enter Try.func42, Try.ntmps42
  go_wp2_with fail
  refine (h.out _).mono ?_
  rintro e w' ⟨rfl, hb⟩
  go_wp2
  go_ret3
  exact ⟨rfl, hb⟩

set_option maxRecDepth 100000 in
set_option maxHeartbeats 1000000 in
theorem skipFirst_ok (w : World) (t s : ByteArray) (ht : t.size ≤ 24) (hs : s.size ≤ 24) (hpos : 0 < s.size) (p : Int) (q : Nat) (hr : Hid (firstOf (bt s) s.size (bt t) t.size = (p, q))) :
    Calls Try.prog 42 #[.string t, .string s] w fun e w' => e = .returned (.tuple #[.int .i64 p, .int .i64 q, .nilIface]) ∧ Below w.heap.size w w' := by
  have Hlt := hid (fun k => bt_lt t k)
  go_enter Try.func42, Try.ntmps42
  go_wp2_with fail
  refine (fcheck_ok _ t s ht hs hpos).mono ?_
  rintro e w1 ⟨rfl, hb1⟩
  go_wp2_with fail
  refine (leaps_any _ s hs hpos).mono ?_
  rintro e w2 ⟨g, rfl, hg, hL, hb2⟩
  have HL := hid hL
  have HB := hid (bch hb1 hb2)
  clear hL hg hb1 hb2
  go_wp2_with fail
  have Hcl := hid (fun n c (hc : c < 256) => leapOf_any (w2.drewN n) s g c hs hc (HL.out : LeapsIn (w2.drewN n) s g))
  go_loopw [4, 5] (fun a c wr => ∃ x y u : Nat, x ≤ 48 ∧ x + y ≤ 48 ∧ y ≤ x ∧ a = .int .i64 x ∧ c = .int .i64 y ∧ wr = w2.drewN u ∧ Hid (p = (laid (bt s) s.size (bt t) t.size (t.size + 1) x).1 ∧ q = y + (laid (bt s) s.size (bt t) t.size (t.size + 1) x).2)) (fun a _ _ => 48 - (intOf a).toNat)
  case atStart => exact ⟨0, 0, 0, by omega, by omega, by omega, rfl, rfl, rfl, by have := hr.out; unfold firstOf at this; rw [this]; exact ⟨rfl, by simp⟩⟩
  case round =>
    obtain ⟨x, y, u, hx, hxy, hyx, rfl, rfl, rfl, hst⟩ := hrel
    by_cases hin : x + s.size ≤ t.size
    · have hin' : (x : Int) + s.size ≤ t.size := by omega
      by_cases hA : At (bt s) s.size (bt t) t.size x
      · have hfin := hst.out
        rw [laid_hit hA] at hfin
        obtain ⟨h1, h2⟩ := hfin
        simp only at h1 h2
        have e1 := eq_true' ((at_extract hin).1 hA)
        have hq : q = y + 1 := h2
        clear hA hst h2 hr
        subst h1 hq
        go_wp2
        go_ret3
        exact ⟨rfl, below_dn HB.out _⟩
      · have e1 := eq_false' (fun h => hA ((at_extract hin).2 h))
        have hfin := hst.out
        rw [laid_miss hin hA, laid_more hpos t.size _ (t.size + 1) (by omega) (by omega)] at hfin
        have Hfin := hid hfin
        have hlp := leapV_pos (f := bt s) (n := s.size) (c := bt t (x + s.size - 1)) hpos
        have hle := leapV_le (bt s) s.size (bt t (x + s.size - 1))
        obtain ⟨P, hP, hPn⟩ : ∃ P : Nat, (x : Int) + s.size - 1 = P ∧ P = x + s.size - 1 := ⟨x + s.size - 1, by omega, rfl⟩
        rw [← hPn] at hlp hle Hfin
        have hP2 : P < t.size := by omega
        have hcl := Hcl.out
        have Hc := hid (fun n => Hcl.out n (bt t P) (Hlt.out P))
        clear hfin hA hPn hcl
        generalize leapV (bt s) s.size (bt t P) = V at *
        go_wp2_with fail
        refine (Hc.out _).mono ?_
        rintro e w5 ⟨rfl, rfl⟩
        go_wp2
        go_roundw
        case rel => exact ⟨x + V, y + 1, _, by omega, by omega, by omega, by go_num, by go_num, rfl, hid ⟨Hfin.out.1, by have := Hfin.out.2; omega⟩⟩
        case measure => simp [intOf]; omega
    · have hin' : ¬ (x : Int) + s.size ≤ t.size := by omega
      have hfin := hst.out
      rw [laid_out hin] at hfin
      obtain ⟨h1, h2⟩ := hfin
      simp only at h1 h2
      have hq : q = y := by omega
      clear hst h2 hr
      subst h1 hq
      go_wp2
      go_ret3
      exact ⟨rfl, below_dn HB.out _⟩

end Go.Proofs.Ythlibdpemocpmaa
