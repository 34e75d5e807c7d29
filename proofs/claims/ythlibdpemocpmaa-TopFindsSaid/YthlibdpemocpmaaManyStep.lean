/- many.step: from a node by a byte. -/
import Derived.Test.YthlibdpemocpmaaManyOps
import Derived.Deep.DeepMust
namespace Go.Proofs.Ythlibdpemocpmaa
set_option linter.unusedVariables false
set_option linter.unusedSimpArgs false
open Go.RowKit Go.Maps

theorem child_of {ps : List (List Nat)} {q : List Nat} (hin : q ∈ ps) {c : Nat} : childN ps (ps.idxOf q) c = if q ++ [c] ∈ ps then some (ps.idxOf (q ++ [c])) else none := by
  unfold childN
  rw [idx_getD hin]

/-- How long the path of a node is. -/
def pathLen (ps : List (List Nat)) (v : Value) : Nat := (ps.getD (intOf v).toNat []).length

set_option maxRecDepth 100000 in
set_option maxHeartbeats 2000000 in
theorem step_any (w : World) (B g cap : Nat) (ps : List (List Nat)) (mb fl : Nat → Nat) (en : Nat → Value) (el : Nat → List Int) (hM : Mac w B g cap ps mb fl en el) (hC : Clo ps) (hroot : ps.idxOf [] = 0) (hlen : ps.length < 1000)
    (L : Nat) (hfl : ∀ q ∈ ps, q.length ≤ L → q ≠ [] → fl (ps.idxOf q) = ps.idxOf (failP ps q)) (q0 : List Nat) (hq0 : q0 ∈ ps) (hL0 : q0.length ≤ L) (c : Nat) (hc : c < 256) :
    Calls Try.prog 35 #[.slice (some ⟨g, 0, none⟩) ps.length cap, .int .i64 (ps.idxOf q0), .int .u8 (c : Int)] w fun e w' => e = .returned (.int .i64 (ps.idxOf (lsuf ps (q0 ++ [c])))) ∧ ∃ m, w' = w.drewN m := by
  have HM := hid hM
  have HF := hid hfl
  have HC := hid hC
  clear hM hfl hC
  go_enter Try.func35, Try.ntmps35
  go_wp2_with fail
  go_loopw [1] (fun a wr => ∃ (q : List Nat) (u : Nat), Hid (q ∈ ps) ∧ q.length ≤ L ∧ a = .int .i64 (ps.idxOf q) ∧ wr = w.drewN u ∧ Hid (lsuf ps (q ++ [c]) = lsuf ps (q0 ++ [c]))) (fun a _ => pathLen ps a)
  case atStart => exact ⟨q0, 0, hq0, hL0, rfl, rfl, rfl⟩
  case round =>
    clear hq0 hL0
    obtain ⟨q, u, hq, hqL, rfl, rfl, hE⟩ := hrel
    have hJ := List.idxOf_lt_length_of_mem hq.out
    have c0 : (w.drewN u).cell? _ = _ := HM.out.cell0 hJ
    have c1 : (w.drewN u).cell? _ = _ := HM.out.cell1 hJ
    have hP : IMap (w.drewN u) _ _ _ := HM.out.maps _ hJ
    have hpl := hid (show pathLen ps (.int .i64 (ps.idxOf q)) = q.length by
      unfold pathLen
      have : (intOf (.int .i64 (ps.idxOf q : Int))).toNat = ps.idxOf q := by simp [intOf]
      rw [this, idx_getD hq.out])
    by_cases hmem : q ++ [c] ∈ ps
    · have hF : childN ps (ps.idxOf q) c = some (ps.idxOf (q ++ [c])) := by rw [child_of hq.out, if_pos hmem]
      have hR := hE.out
      rw [lsuf_of_mem hmem] at hR
      have HR := hid hR
      obtain ⟨Y, hY⟩ : ∃ Y, ps.idxOf (q ++ [c]) = Y := ⟨_, rfl⟩
      have HYe := hid hY
      rw [hY] at hF
      clear hR hmem hY hpl
      generalize ps.idxOf q = J at *
      have hJ' : (J : Int) < ps.length := by omega
      go_wp2_with (first
        | (at_lookup; go_must (refine wp_look_hit _ rfl _ _ rfl (mb J) _ _ rfl hP c hc rfl _ hF ?_))
        | fail)
      go_ret
      exact ⟨by rw [← HR.out, HYe.out]; rfl, _, rfl⟩
    · have hF : childN ps (ps.idxOf q) c = none := by rw [child_of hq.out, if_neg hmem]
      by_cases he : q = []
      · subst he
        have hR := hE.out
        rw [List.nil_append] at hR hmem
        rw [go_root hmem] at hR
        have HR := hid hR
        rw [hroot] at hF c0 c1 hP hJ ⊢
        have hN0 : (0 : Int) < ps.length := by omega
        clear hR hmem hpl
        go_wp2_with (first
          | (at_lookup; go_must (refine wp_look_miss _ rfl _ _ rfl (mb 0) _ _ rfl hP c hc rfl hF ?_))
          | fail)
        go_ret
        exact ⟨by rw [← HR.out, hroot]; rfl, _, rfl⟩
      · have hfq := HF.out q hq.out hqL he
        have hne0 : ps.idxOf q ≠ 0 := fun h0 => he (by
          have h1 := idx_getD hq.out
          have h2 := idx_getD HC.out.1
          rw [h0] at h1
          rw [hroot] at h2
          rw [← h1, h2])
        have hfl2 := failP_len (ps := ps) he
        have hfm := failP_mem HC.out q
        have HE2 := hid (show lsuf ps (failP ps q ++ [c]) = lsuf ps (q0 ++ [c]) by rw [← go_fail HC.out he hmem]; exact hE.out)
        rw [hfq] at c1
        have hpl2 := hid (show pathLen ps (.int .i64 (ps.idxOf (failP ps q))) = (failP ps q).length by
          unfold pathLen
          have : (intOf (.int .i64 (ps.idxOf (failP ps q) : Int))).toNat = ps.idxOf (failP ps q) := by simp [intOf]
          rw [this, idx_getD hfm])
        have Hfm := hid hfm
        have hz : ((ps.idxOf q : Int) == 0) = false := by simp; omega
        obtain ⟨F, hFe⟩ : ∃ F, ps.idxOf (failP ps q) = F := ⟨_, rfl⟩
        have HFe := hid hFe
        rw [hFe] at c1
        obtain ⟨J, hJe⟩ : ∃ J, ps.idxOf q = J := ⟨_, rfl⟩
        rw [hJe] at hz c0 c1 hP hJ hF hpl ⊢
        have hJ' : (J : Int) < ps.length := by omega
        have hpm : (failP ps q).length ≤ L := by omega
        have hplt := hid hfl2
        clear hmem hfq hne0 hfl2 hfm hFe hJe he
        go_wp2_with (first
          | (at_lookup; go_must (refine wp_look_miss _ rfl _ _ rfl (mb J) _ _ rfl hP c hc rfl hF ?_))
          | fail)
        go_roundw
        case rel => exact ⟨failP ps q, _, Hfm, hpm, by rw [HFe.out], rfl, HE2⟩
        case measure => rw [hpl.out, ← HFe.out, hpl2.out]; exact hplt.out
end Go.Proofs.Ythlibdpemocpmaa
