/- letterbecksame.Turned: a list turned. -/
import Derived.Test.YthdckapielbonaaBase
namespace Go.Proofs.Ythdckapielbonaa
set_option linter.unusedVariables false
set_option linter.unusedSimpArgs false
open Go.RowKit

theorem rev_take_succ (l : List Int) (k : Nat) (h : k < l.length) (x : Int) (hx : l[l.length - 1 - k]? = some x) : l.reverse.take k ++ [x] = l.reverse.take (k + 1) := by
  have e : l.reverse[k]? = some x := by rw [List.getElem?_reverse h]; exact hx
  rw [List.take_add_one, e]; rfl

set_option maxHeartbeats 400000 in
theorem turned_any (w : World) (A : Option Addr) (c n : Nat) (l : List Int) (B : Nat) (h : Sl w B A (ints l)) (hB : B ≤ w.heap.size) (hn : l.length = n) (hl : n ≤ 1000) :
    Calls Try.prog 14 #[.slice A n c] w fun e w' => ∃ A' c', e = .returned (.slice A' n c') ∧ Own w' w.heap.size (.slice A' n c') l.reverse ∧ Below w.heap.size w w' := by
  subst hn
  go_enter Try.func14, Try.ntmps14
  go_wp2
  go_loopw [3, 4] (fun v i wr => ∃ k : Nat, k ≤ l.length ∧ i = .int .i64 ((l.length : Int) - 1 - k) ∧ Own wr w.heap.size v (l.reverse.take k) ∧ Below w.heap.size w wr) (fun _ i _ => (intOf i + 1).toNat)
  case atStart => exact ⟨0, Nat.zero_le _, by go_num, Own.nil _ _, Below.refl _ _⟩
  case round =>
    obtain ⟨k, hk, rfl, ho, hb⟩ := hrel
    by_cases hlt : k < l.length
    · obtain ⟨g, o, hA, hg, hc⟩ := h (ints_ne (by omega))
      obtain ⟨P, hP, hPn⟩ : ∃ P : Nat, (l.length : Int) - 1 - k = P ∧ P = l.length - 1 - k := ⟨l.length - 1 - k, by omega, rfl⟩
      have hPl : P < l.length := by omega
      have hx : l[P]? = some l[P] := List.getElem?_eq_getElem hPl
      have q0 := hc P _ (ints_get' hx)
      have q1 : wr.cell? ⟨g, o + P, none⟩ = some (.int .i64 l[P]) := (hb.cell (p := ⟨g, o + P, none⟩) (by simp; omega)).trans q0
      have hst := hid (rev_take_succ l k hlt l[P] (by rw [← hPn]; exact hx))
      have hln : (l.reverse.take k).length ≤ 1000 := by simp; omega
      have hwr := hb.size
      generalize l[P] = x at q1 hst
      subst hA
      clear hc q0 hx hPn
      rw [hP]
      go_wp2_with (at_builtin; refine wp_append_int _ rfl _ _ rfl w.heap.size _ _ rfl (ho.alloc _) _ _ x rfl (by simp) (by omega) (by simp; omega) ?_; intro v' w2 ho2 hg2; have hb2 : Below w.heap.size w w2 := (hb.alloc hwr _).grown hg2 (by simp; omega) (fun k hk => (ho.lt k hk).1))
      go_roundw
      case rel => exact ⟨k + 1, by omega, by go_num, by rw [← hst.out]; exact ho2, hb2⟩
      case measure => simp [intOf] <;> omega
    · have e : k = l.length := by omega
      subst e
      have hd : decide (0 ≤ (l.length : Int) - 1 - l.length) = false := by simp; omega
      obtain ⟨Z, hZ, hZ1, hZ2⟩ : ∃ Z : Int, (l.length : Int) - 1 - l.length = Z ∧ Z < 0 ∧ -2 ≤ Z := ⟨_, rfl, by omega, by omega⟩
      have hd : decide (0 ≤ Z) = false := by simp; omega
      have e2 : l.reverse.take l.length = l.reverse := by rw [List.take_of_length_le (by simp)]
      rw [e2] at ho
      rw [hZ]
      obtain ⟨A', c', hv⟩ := ho.shape
      subst hv
      go_wp2
      go_ret
      exact ⟨A', c', by simp, by simpa using ho, hb⟩
end Go.Proofs.Ythdckapielbonaa
