/- letterbeckref1.Edges and Last: all borders of a text, and the last of a list. -/
import Derived.Test.YtknecfgacnknlaaDoorTold
import Derived.Test.YtknecfgacnknlaaDoorStrs
namespace Go.Proofs.YtknecfgacnknlaaDoor
set_option linter.unusedVariables false
set_option linter.unusedSimpArgs false
open Go.RowKit

theorem bdr_extract {s : ByteArray} {k : Nat} (hk : k < s.size) : Bdr (bt s) s.size k ↔ s.extract 0 k = s.extract (s.size - k) s.size := by
  have h1 : (s.extract 0 k).size = k := by simp; omega
  have h2 : (s.extract (s.size - k) s.size).size = k := by simp; omega
  constructor
  · rintro ⟨_, h⟩
    refine ext_bt (by omega) fun j hj => ?_
    rw [bt_extract _ _ _ _ (by omega), bt_extract _ _ _ _ (by omega), Nat.zero_add]
    exact h j (by omega)
  · intro e
    refine ⟨hk, fun j hj => ?_⟩
    have := bt_extract s 0 k j (by omega)
    rw [Nat.zero_add] at this
    rw [← this, e, bt_extract _ _ _ _ (by omega)]

theorem edgesAll_last {f : Nat → Nat} {n : Nat} : (edgesAll f n).getLastD 0 = (fail f n : Int) := by
  by_cases h : 0 < fail f n
  · rw [edgesAll_chain h, List.getLastD_concat]
  · rw [edgesAll_zero (by omega)]
    simp; omega

set_option maxHeartbeats 400000 in
theorem last_any (w : World) (A : Option Addr) (c n : Nat) (l : List Int) (B : Nat) (h : Sl w B A (ints l)) (hn : l.length = n) (hl : n ≤ 1000) :
    Calls Tryd.prog 14 #[.slice A n c] w fun e w' => e = .returned (.int .i64 (l.getLastD 0)) ∧ w = w' := by
  by_cases h0 : l.length = 0
  · have e : l = [] := List.eq_nil_of_length_eq_zero h0
    subst e
    have hn0 : n = 0 := hn.symm
    subst hn0
    go_enter Tryd.func14, Tryd.ntmps14
    go_wp2
    go_ret
    exact ⟨rfl, rfl⟩
  · obtain ⟨g, o, hA, hg, hc⟩ := h (ints_ne (by omega))
    obtain ⟨x, hx⟩ : ∃ x, l[n - 1]? = some x := ⟨_, List.getElem?_eq_getElem (by omega)⟩
    have q := hc _ _ (ints_get' hx)
    have hl2 : l.getLastD 0 = x := by
      rw [List.getLastD_eq_getLast?, List.getLast?_eq_getElem?, hn, hx]; rfl
    rw [hl2]
    subst hA
    have e1 : ((n : Int) == 0) = false := by rw [beq_eq_false_iff_ne]; omega
    obtain ⟨p, hp, hpn⟩ : ∃ p : Nat, (n : Int) - 1 = p ∧ p = n - 1 := ⟨n - 1, by omega, rfl⟩
    rw [← hpn] at q
    have hp2 : (p : Int) < n := by omega
    have hp3 : p < n := by omega
    clear hc hx hpn h h0 hn hl2
    go_enter Tryd.func14, Tryd.ntmps14
    go_wp2
    go_ret
    exact ⟨rfl, rfl⟩

set_option maxRecDepth 100000 in
set_option maxHeartbeats 1000000 in
theorem edgesRef_any (w : World) (s : ByteArray) (hs : s.size ≤ 24) :
    Calls Tryd.prog 15 #[.string s] w (RetL w (edgesAll (bt s) s.size)) := by
  go_enter Tryd.func15, Tryd.ntmps15
  go_wp2_with fail
  go_loopw [3, 4] (fun v t wr => ∃ m : Nat, 0 < m ∧ (m ≤ s.size ∨ m = 1) ∧ t = .int .i64 m ∧ Own wr w.heap.size v (edgesLow (bt s) s.size m) ∧ Below w.heap.size w wr) (fun _ t _ => 25 - (intOf t).toNat)
  case atStart => exact ⟨1, by omega, .inr rfl, rfl, by rw [edgesLow_one]; exact Own.nil _ _, Below.refl _ _⟩
  case round =>
    obtain ⟨m, hm, hms, rfl, ho, hb⟩ := hrel
    have hlen := edgesLow_len (bt s) s.size m
    have hwr := hb.size
    by_cases hlt : m < s.size
    · obtain ⟨P, hP, hPn⟩ : ∃ P : Nat, (s.size : Int) - m = P ∧ P = s.size - m := ⟨s.size - m, by omega, rfl⟩
      have hP2 : P ≤ s.size := by omega
      by_cases hf : Bdr (bt s) s.size m
      · have hstep := hid (edgesLow_hit hm hf)
        have e1 := (bdr_extract hlt).1 hf
        rw [← hPn] at e1
        have e2 := eq_true' e1
        clear hf e1 hPn
        go_wp2
        go_quiet (fail)
        go_wp2_with (first
          | (at_builtin; refine wp_append_int _ rfl _ _ rfl w.heap.size _ _ rfl ((ho.drewN _).alloc _) _ _ (m : Int) rfl (new_one _ _ _ _) (by omega) (by first | omega | (simp; omega) | (simp [World.drewN]; omega)) ?_; intro v' w2 ho2 hg2; have hb2 : Below w.heap.size w w2 := ((below_dn hb _).alloc hwr _).grown hg2 (by first | omega | (simp; omega) | (simp [World.drewN]; omega)) (fun k hk => (ho.lt k hk).1)))
        go_roundw
        case rel => exact ⟨m + 1, by omega, .inl (by omega), by go_num, by rw [hstep.out]; exact ho2, hb2⟩
        case measure => simp [intOf]; omega
      · have hstep := hid (edgesLow_miss (m := m) hf)
        have e1 : ¬ s.extract 0 m = s.extract (s.size - m) s.size := fun h => hf ((bdr_extract hlt).2 h)
        rw [← hPn] at e1
        have e2 := eq_false' e1
        clear hf e1 hPn
        go_wp2
        go_quiet (fail)
        go_wp2
        go_roundw
        case rel => exact ⟨m + 1, by omega, .inl (by omega), by go_num, by rw [hstep.out]; exact ho.drewN _, below_dn hb _⟩
        case measure => simp [intOf]; omega
    · have hend := edgesLow_all (f := bt s) (n := s.size) (m := m) (by omega)
      rw [hend] at ho
      obtain ⟨A', c', hv⟩ := ho.shape
      subst hv
      go_wp2
      go_ret
      exact ⟨A', c', rfl, ho, hb⟩
end Go.Proofs.YtknecfgacnknlaaDoor
