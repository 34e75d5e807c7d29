/- An argument of type []string, opened. -/
import Derived.Test.YtknecfgacnknlaaDoorTrieGrow
import Derived.ProofKit
import Derived.SliceStrings
import Derived.OpenShut
namespace Go.Proofs.YtknecfgacnknlaaDoor
set_option linter.unusedVariables false
set_option linter.unusedSimpArgs false
open Go.ChangeShapes Go.WideShapes Go.ChangeAt Go.RowKit

theorem laidOut : laidOutB Tryd.prog = true := by kernel_rfl
theorem cells_string : Tryd.prog.cellsOf 9 = 1 := by kernel_rfl

set_option maxRecDepth 100000 in
theorem open_words {H : Type} {enc : TypeId × Value → H} {W : World} {base : Nat} {v : Value} {d : DataW H} {ps : List MemPlace} (hok : Value.okWide Tryd.prog W .any base 56 v)
    (h : DataW.Trod enc Tryd.prog W 0 (fun _ => true) true 56 v d ps) (hlt : ∀ x ∈ ps, x.block < W.heap.size) :
    ∃ (A : Option Addr) (c : Nat) (ws : List ByteArray), v = .slice A ws.length c ∧ ws.length ≤ c ∧ Sl W W.heap.size A (ws.map Value.string) ∧ ∀ k, k < ws.length → (wat ws k).size ≤ maxLen := by
  obtain ⟨a0, len, cap, rfl⟩ := okWide_slice Tryd.underlying56 hok
  obtain ⟨fuel, hf⟩ := h
  rcases open_strings Tryd.underlying56 Tryd.underlying9 cells_string hf with ⟨hcs, hx⟩ | ⟨a, len', cap', ss, hcs, _, hl, hm, hz, hx, hcell, hws⟩
  · simp [Value.cells] at hcs
    obtain ⟨rfl, rfl, rfl⟩ := hcs
    exact ⟨none, 0, [], rfl, Nat.le_refl _, Sl.nil, fun k hk => absurd hk (Nat.not_lt_zero _)⟩
  · simp [Value.cells] at hcs
    obtain ⟨rfl, rfl, rfl⟩ := hcs
    simp only [Prod.mk.injEq] at hx
    obtain ⟨rfl, rfl⟩ := hx
    simp only [if_true] at hz
    have hlen : (ss.take len).length = len := by simp; omega
    refine ⟨some a, cap, ss.take len, by rw [hlen], by rw [hlen]; exact hl, fun hne => ?_, fun k hk => ?_⟩
    · have hpos : 0 < len := by
        rcases Nat.eq_zero_or_pos len with h0 | h0
        · subst h0; simp at hne
        · exact h0
      obtain ⟨b, off, spot⟩ := a
      have hspot : spot = none := by simpa [Addr.add] using World.cell?_spot (hcell 0 (by omega))
      subst hspot
      refine ⟨b, off, rfl, hlt (.cell b off) (MemPlace.mem_row.2 ⟨0, by omega, by simp⟩), fun i u hu => ?_⟩
      have hi : i < (ss.take len).length := by
        have := (List.getElem?_eq_some_iff.1 hu).1
        simpa using this
      have hc := hcell i (by omega)
      rw [add_plain] at hc
      rw [hc]
      rw [hlen] at hi
      have hi2 : i < ss.length := by omega
      simp [hi, hi2] at hu
      rw [← hu]
      simp [hi2]
    · rw [hlen] at hk
      have hk2 : k < ss.length := by omega
      have e : wat (ss.take len) k = ss[k] := by simp [wat, hk, hk2]
      rw [e]
      exact hws _ (List.getElem_mem hk2)
end Go.Proofs.YtknecfgacnknlaaDoor
