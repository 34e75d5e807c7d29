/- letterbecklaw1.EdgesChain returns true at every text: the walk. -/
import Derived.Test.YtocbkapoibddaaaEdgesFact
import Derived.Test.YtocbkapoibddaaaIn
namespace Go.Proofs.Ytocbkapoibddaaa
set_option linter.unusedVariables false
set_option linter.unusedSimpArgs false
open Go.RowKit

set_option maxHeartbeats 400000 in
theorem walk_edgesChain (a0 : ByteArray) (w0 : a0.size ≤ maxLen) (W : World) :
    Calls Try.prog 4 #[.string a0] W fun e w' => e = .returned (.bool true) ∧ Below W.heap.size W w' := by
  by_cases hs : a0.size ≤ 24
  · by_cases hf : fail (bt a0) a0.size = 0
    · go_enter Try.func4, Try.ntmps4
      go_wp2_with fail
      refine (edgesFact_true _).mono ?_
      rintro e w1 ⟨rfl, hb1⟩
      go_wp2_with fail
      refine (edgesAll_at _ a0 hs [] (edgesAll_zero hf)).mono ?_
      rintro e w2 ⟨A2, c2, rfl, ho2, hb2⟩
      go_wp2
      go_ret
      exact ⟨rfl, bch hb1 hb2⟩
    · obtain ⟨q, hq⟩ : ∃ q, q = fail (bt a0) a0.size := ⟨_, rfl⟩
      have hpos : 0 < fail (bt a0) a0.size := by omega
      have hn : 0 < a0.size := by
        rcases Nat.eq_zero_or_pos a0.size with h0 | h0
        · rw [h0] at hf; simp [fail, lastSuch] at hf
        · exact h0
      have hlt := fail_lt (f := bt a0) hn
      have hch := edgesAll_chain hpos
      rw [← hq] at hpos hlt hch
      have hlen := edgesAll_len (bt a0) q
      have he : edgesAll (bt (a0.extract 0 q)) (a0.extract 0 q).size = edgesAll (bt a0) q := by
        have hsz : (a0.extract 0 q).size = q := by simp; omega
        rw [hsz]
        exact edgesAll_congr fun j hj => by rw [bt_extract _ _ _ _ (by omega), Nat.zero_add]
      have hsz2 : (a0.extract 0 q).size ≤ 24 := by simp; omega
      generalize edgesAll (bt a0) q = L at hch hlen he
      have Hch := hid hch
      have He := hid he
      clear hf hq hch he
      go_enter Try.func4, Try.ntmps4
      go_wp2_with fail
      refine (edgesFact_true _).mono ?_
      rintro e w1 ⟨rfl, hb1⟩
      go_wp2_with fail
      refine (edgesAll_at _ a0 hs _ Hch.out).mono ?_
      rintro e w2 ⟨A2, c2, rfl, ho2, hb2⟩
      have hcap : L.length + 1 ≤ c2 := by have := ho2.cap.1; simpa using this
      have hcap2 := ho2.cap.2
      obtain ⟨g, o, hA, hg, hc⟩ := (ho2.slB w2.heap.size (Nat.le_refl _)) (ints_ne (by simp))
      subst hA
      have qc := hc L.length _ (ints_get' (l := L ++ [(q : Int)]) (x := q) (by simp))
      clear hc
      go_wp2_with fail
      refine (in_true _ _ _ _ (by omega) (by omega)).mono ?_
      rintro e w3 ⟨rfl, rfl⟩
      go_wp2_with fail
      refine (edgesAll_at _ _ hsz2 _ He.out).mono ?_
      rintro e w3 ⟨A3, c3, rfl, ho3, hb3⟩
      go_wp2_with fail
      have hB := hb3.size
      have hpre : Sl w3 w3.heap.size (some ⟨g, o, none⟩) (ints L) := by
        have h1 := ((ho2.slB w2.heap.size (Nat.le_refl _)).below hb3).mono hB
        have h2 := h1.take (k := L.length)
        rwa [ints_app, List.take_append_of_le_length (by simp), List.take_of_length_le (by simp)] at h2
      refine (ints_eq _ A3 _ c3 _ _ _ L L w3.heap.size (ho3.slB _ (Nat.le_refl _)) hpre rfl rfl (by omega) (by omega) true (by simp)).mono ?_
      rintro e w4 ⟨rfl, hb4⟩
      go_wp2
      go_ret
      exact ⟨rfl, bch hb1 (bch hb2 (bch hb3 hb4))⟩
  · go_enter Try.func4, Try.ntmps4
    go_wp2_with fail
    refine (edgesFact_true _).mono ?_
    rintro e w1 ⟨rfl, hb1⟩
    go_wp2_with fail
    refine (edgesAll_bad _ a0 (by omega) w0).mono ?_
    rintro e w2 ⟨rfl, hb2⟩
    go_wp2
    go_ret
    exact ⟨rfl, bch hb1 hb2⟩
end Go.Proofs.Ytocbkapoibddaaa
