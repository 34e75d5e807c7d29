/- letterbecklaw1.EdgesTurned returns true at every text: the walk. -/
import Derived.Test.YtocbkapoibddaaaEdgesFact
import Derived.Test.YtocbkapoibddaaaIn
import Derived.Test.YtocbkapoibddaaaBack
namespace Go.Proofs.Ytocbkapoibddaaa
set_option linter.unusedVariables false
set_option linter.unusedSimpArgs false
open Go.RowKit

set_option maxHeartbeats 400000 in
theorem walk_edgesTurned (a0 : ByteArray) (w0 : a0.size ≤ maxLen) (W : World) :
    Calls Try.prog 6 #[.string a0] W fun e w' => e = .returned (.bool true) ∧ Below W.heap.size W w' := by
  have hbs := back_size a0
  have hbs' : (back a0).size ≤ a0.size := by omega
  by_cases hs : a0.size ≤ 24
  · have he : edgesAll (bt (back a0)) (back a0).size = edgesAll (bt a0) a0.size := by
      rw [hbs]
      exact edgesAll_back fun j hj => back_bt a0 j hj
    have hlen := edgesAll_len (bt a0) a0.size
    generalize hL : edgesAll (bt a0) a0.size = L at he hlen
    have hd : decide ((a0.size : Int) ≤ 24) = true := by simp; omega
    have He := hid he
    have HL := hid hL
    clear he hL hbs
    go_enter Try.func6, Try.ntmps6
    go_wp2_with fail
    refine (edgesFact_true _).mono ?_
    rintro e w1 ⟨rfl, hb1⟩
    go_wp2_with fail
    refine (edgesAll_at _ a0 hs _ HL.out).mono ?_
    rintro e w2 ⟨A2, c2, rfl, ho2, hb2⟩
    go_wp2_with fail
    refine (back_any _ a0 w0).mono ?_
    rintro e w3 ⟨rfl, rfl⟩
    go_wp2_with fail
    refine (edgesAll_at _ _ (by omega) _ He.out).mono ?_
    rintro e w3 ⟨A3, c3, rfl, ho3, hb3⟩
    go_wp2_with fail
    have hB := hb3.size
    have hi := fun q => ints_in w3 A2 A3 c2 c3 _ _ L L w3.heap.size q ((ho2.below hb3).slB _ (Nat.le_refl _)) (ho3.slB _ (Nat.le_refl _)) rfl rfl (by omega) (by omega) true (by simp)
    have Hi := hid hi
    clear hi
    go_quiet ((go_at_call 17; exact Hi.out _))
    go_wp2
    go_ret
    exact ⟨rfl, bch hb1 (bch hb2 (below_dn hb3 _))⟩
  · have Hbs := hid hbs
    clear hbs
    have hw : (back a0).size ≤ maxLen := Nat.le_trans hbs' w0
    have hd : decide ((a0.size : Int) ≤ 24) = false := by simp; omega
    go_enter Try.func6, Try.ntmps6
    go_wp2_with fail
    refine (edgesFact_true _).mono ?_
    rintro e w1 ⟨rfl, hb1⟩
    go_wp2_with fail
    refine (edgesAll_bad _ a0 (by omega) w0).mono ?_
    rintro e w2 ⟨rfl, hb2⟩
    go_wp2_with fail
    refine (back_any _ a0 w0).mono ?_
    rintro e w3 ⟨rfl, rfl⟩
    go_wp2_with fail
    refine (edgesAll_bad _ _ (by have := Hbs.out; omega) hw).mono ?_
    rintro e w3 ⟨rfl, hb3⟩
    go_wp2_with fail
    have hi := fun q => ints_in w3 none none 0 0 0 0 [] [] 0 q Sl.nil Sl.nil rfl rfl (by decide) (by decide) true (by decide)
    have Hi := hid hi
    clear hi
    go_quiet ((go_at_call 17; exact Hi.out _))
    go_wp2
    go_ret
    exact ⟨rfl, bch hb1 (bch hb2 (below_dn hb3 _))⟩
end Go.Proofs.Ytocbkapoibddaaa
