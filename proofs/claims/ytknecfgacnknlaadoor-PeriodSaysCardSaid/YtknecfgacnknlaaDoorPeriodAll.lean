/- period.All: all periods of a text, rising; period.Has: is a number one? -/
import Derived.Test.YtknecfgacnknlaaDoorEdgesAll
import Derived.Test.YtknecfgacnknlaaDoorStrs
namespace Go.Proofs.YtknecfgacnknlaaDoor
set_option linter.unusedVariables false
set_option linter.unusedSimpArgs false
open Go.RowKit

set_option maxHeartbeats 400000 in
theorem periodAll_bad (w : World) (s : ByteArray) (hs : 24 < s.size) (hm : s.size ≤ maxLen) :
    Calls Tryd.prog 24 #[.string s] w fun e w' => e = .returned (.tuple #[.slice none 0 0, errv 4]) ∧ Below w.heap.size w w' := by
  go_enter Tryd.func24, Tryd.ntmps24
  go_wp2_with fail
  refine (edgesAll_bad _ s hs hm).mono ?_
  rintro e w' ⟨rfl, hb⟩
  go_wp2
  go_ret2
  exact ⟨rfl, hb⟩

set_option maxHeartbeats 400000 in
theorem periodAll_none (w : World) (s : ByteArray) (hs : s.size = 0) :
    Calls Tryd.prog 24 #[.string s] w (RetInts w []) := by
  have he : edgesAll (bt s) s.size = [] := by rw [hs]; rfl
  have hl := emp_true hs
  go_enter Tryd.func24, Tryd.ntmps24
  go_wp2_with fail
  have hc := edgesAll_ok w s (by omega)
  rw [he] at hc
  refine hc.mono ?_
  rintro e w1 ⟨A, c, rfl, ho1, hb1⟩
  go_wp2
  go_ret2
  exact ⟨none, 0, rfl, Own.nil _ _, hb1⟩

/-- What period.All has gathered when the places from j on are done. -/
def plTo (L : List Int) (n j : Nat) : List Int := ((L.drop j).reverse).map fun x => (n : Int) - x

theorem plTo_start (L : List Int) (n : Nat) : plTo L n L.length = [] := by simp [plTo]
theorem plTo_step (L : List Int) (n j : Nat) (x : Int) (hj : 0 < j) (hx : L[j - 1]? = some x) : plTo L n (j - 1) = plTo L n j ++ [(n : Int) - x] := by
  obtain ⟨h1, h2⟩ := List.getElem?_eq_some_iff.1 hx
  unfold plTo
  rw [← List.getElem_cons_drop h1, show j - 1 + 1 = j from by omega, h2]
  simp
theorem plTo_len (L : List Int) (n j : Nat) : (plTo L n j).length ≤ L.length := by simp [plTo]
theorem plTo_end (f : Nat → Nat) (n : Nat) : plTo (edgesAll f n) n 0 ++ [(n : Int)] = perList f n := by simp [plTo, perList]
theorem edgesAll_bd {f : Nat → Nat} {n j : Nat} {x : Int} (h : (edgesAll f n)[j]? = some x) : 0 < x ∧ x < n := by
  obtain ⟨k, rfl, h1, h2⟩ := mem_edgesAll.1 (List.mem_of_getElem? h)
  have := h2.1
  omega

set_option maxHeartbeats 400000 in
theorem periodAll_ok (w : World) (s : ByteArray) (hs : s.size ≤ 24) (hpos : 0 < s.size) :
    Calls Tryd.prog 24 #[.string s] w (RetInts w (perList (bt s) s.size)) := by
  have hemp := emp_false hpos
  have hlen := edgesAll_len (bt s) s.size
  have hbd : Hid (∀ (j : Nat) (x : Int), (edgesAll (bt s) s.size)[j]? = some x → 0 < x ∧ x < (s.size : Int)) := fun j x h => edgesAll_bd h
  have hend := hid (plTo_end (bt s) s.size)
  obtain ⟨L, hL⟩ : ∃ L, edgesAll (bt s) s.size = L := ⟨_, rfl⟩
  have hcon := edgesAll_ok w s hs
  rw [hL] at hcon hlen hbd hend
  have Hcon := hid hcon
  clear hL hcon
  go_enter Tryd.func24, Tryd.ntmps24
  go_wp2_with fail
  refine Hcon.out.mono ?_
  rintro e w1 ⟨A, c, rfl, ho1, hb1⟩
  go_wp2_with fail
  have hsl := ho1.sl
  have hw1 := hb1.size
  go_loopw [6, 7] (fun v t wr => ∃ j : Nat, j ≤ L.length ∧ t = .int .i64 ((j : Int) - 1) ∧ Own wr w1.heap.size v (plTo L s.size j) ∧ Below w1.heap.size w1 wr) (fun _ t _ => (intOf t + 1).toNat)
  case atStart => exact ⟨L.length, Nat.le_refl _, rfl, by rw [plTo_start]; exact Own.nil _ _, Below.refl _ _⟩
  case round =>
    obtain ⟨j, hj, rfl, ho, hb⟩ := hrel
    have hlen2 := plTo_len L s.size j
    have hwr := hb.size
    by_cases hpj : 0 < j
    · obtain ⟨g, o, hA, hg, hc⟩ := hsl (ints_ne (by omega))
      subst hA
      obtain ⟨x, hx⟩ : ∃ x, L[j - 1]? = some x := ⟨_, List.getElem?_eq_getElem (by omega)⟩
      have hxb := hbd.out _ _ hx
      have q1 : wr.cell? ⟨g, o + (j - 1), none⟩ = some (.int .i64 x) := (hb.cell (p := ⟨g, o + (j - 1), none⟩) hg).trans (hc _ _ (ints_get' hx))
      have hstep := hid (plTo_step L s.size j x hpj hx)
      clear hc hx
      go_wp2_with (first
        | (at_builtin; refine wp_append_int _ rfl _ _ rfl w1.heap.size _ _ rfl (ho.alloc _) _ _ ((s.size : Int) - x) rfl (by simp) (by omega) (by simp; omega) ?_; intro v' w2 ho2 hg2; have hb2 : Below w1.heap.size w1 w2 := (hb.alloc hwr _).grown hg2 (by simp; omega) (fun k hk => (ho.lt k hk).1)))
      go_roundw
      case rel => exact ⟨j - 1, by omega, by congr 1; omega, by rw [hstep.out]; exact ho2, hb2⟩
      case measure => simp [intOf]; omega
    · have hj0 : j = 0 := by omega
      rw [hj0] at ho
      clear hj0
      go_wp2_with (first
        | (at_builtin; refine wp_append_int _ rfl _ _ rfl w1.heap.size _ _ rfl (ho.alloc _) _ _ (s.size : Int) rfl (by simp) (by have := plTo_len L s.size 0; omega) (by simp; omega) ?_; intro v' w2 ho2 hg2; have hb2 : Below w1.heap.size w1 w2 := (hb.alloc hwr _).grown hg2 (by simp; omega) (fun k hk => (ho.lt k hk).1)))
      go_ret2
      rw [hend.out] at ho2
      obtain ⟨A', c', hv⟩ := ho2.shape
      exact ⟨A', c', by rw [← hv]; rfl, hv ▸ ho2.mono hw1, bch hb1 hb2⟩

set_option maxHeartbeats 400000 in
theorem periodHas_bad (w : World) (s : ByteArray) (k : Int) (hs : 24 < s.size) (hm : s.size ≤ maxLen) :
    Calls Tryd.prog 25 #[.string s, .int .i64 k] w fun e w' => e = .returned (.tuple #[.bool false, errv 4]) ∧ Below w.heap.size w w' := by
  go_enter Tryd.func25, Tryd.ntmps25
  go_wp2_with fail
  refine (periodAll_bad _ s hs hm).mono ?_
  rintro e w' ⟨rfl, hb⟩
  go_wp2
  go_ret2
  exact ⟨rfl, hb⟩

/-- period.Has from a list of all periods. -/
theorem periodHas_at (w : World) (s : ByteArray) (k : Int) (l : List Int) (hl : l.length ≤ 1000) (hc : Hid (Calls Tryd.prog 24 #[.string s] w (RetInts w l))) (b : Bool) (hb : Hid (decide (k ∈ l) = b)) :
    Calls Tryd.prog 25 #[.string s, .int .i64 k] w fun e w' => e = .returned (.tuple #[.bool b, .nilIface]) ∧ Below w.heap.size w w' := by
  go_enter Tryd.func25, Tryd.ntmps25
  go_wp2_with fail
  refine hc.out.mono ?_
  rintro e w1 ⟨A, c, rfl, ho1, hb1⟩
  go_wp2_with fail
  have hsl := ho1.sl
  go_loop [20] (fun t => ∃ j : Nat, j ≤ l.length ∧ t = .int .i64 j ∧ Hid (∀ i x, i < j → l[i]? = some x → x ≠ k)) (fun t => l.length - (intOf t).toNat)
  case atStart => exact ⟨0, Nat.zero_le _, rfl, hid fun i x hi => by omega⟩
  case round =>
    obtain ⟨j, hj, rfl, hno⟩ := hrel
    by_cases hlt : j < l.length
    · obtain ⟨g, o, hA, hg, hc⟩ := hsl (ints_ne (by omega))
      subst hA
      obtain ⟨x, hx⟩ : ∃ x, l[j]? = some x := ⟨_, List.getElem?_eq_getElem hlt⟩
      have q1 := hc _ _ (ints_get' hx)
      have Hx := hid hx
      clear hc hx
      by_cases he : x = k
      · have e1 : (x == k) = true := by simp [he]
        have He := hid he
        clear he
        go_wp2
        go_ret2
        refine ⟨?_, hb1⟩
        have : k ∈ l := He.out ▸ List.mem_of_getElem? Hx.out
        rw [← hb.out, decide_eq_true this]
        rfl
      · have e1 : (x == k) = false := by simp [he]
        have He := hid he
        clear he
        go_wp2
        go_round
        case rel =>
          refine ⟨j + 1, hlt, by go_num, hid fun i y hi hy => ?_⟩
          by_cases e : i = j
          · subst e
            rw [Hx.out] at hy
            cases hy
            exact He.out
          · exact hno.out i y (by omega) hy
        case measure => simp [intOf]; omega
    · go_wp2
      go_ret2
      refine ⟨?_, hb1⟩
      have : ¬ k ∈ l := fun h => by
        obtain ⟨i, hi⟩ := List.getElem?_of_mem h
        have := (List.getElem?_eq_some_iff.1 hi).1
        exact hno.out i k (by omega) hi rfl
      rw [← hb.out, decide_eq_false this]
      rfl
end Go.Proofs.YtknecfgacnknlaaDoor
