/- What an operation does to the machine in memory. -/
import Derived.Test.YthlibdpemocpmaaManyMem
namespace Go.Proofs.Ythlibdpemocpmaa
set_option linter.unusedVariables false
set_option linter.unusedSimpArgs false
open Go.RowKit Go.Maps

section
variable {ps : List (List Nat)} {q : List Nat}
theorem getD_app {j : Nat} (hj : j < ps.length) : (ps ++ [q]).getD j [] = ps.getD j [] := by
  simp [List.getElem?_append_left, hj]
theorem getD_app_last : (ps ++ [q]).getD ps.length [] = q := by simp
theorem getD_mem {j : Nat} (hj : j < ps.length) : ps.getD j [] ∈ ps := by
  simp [hj]
theorem idx_app {r : List Nat} (h : r ∈ ps) : (ps ++ [q]).idxOf r = ps.idxOf r := by
  rw [List.idxOf_append, if_pos h]
theorem idx_app_last (h : ¬ q ∈ ps) : (ps ++ [q]).idxOf q = ps.length := by
  rw [List.idxOf_append, if_neg h]; simp
theorem idx_getD {r : List Nat} (h : r ∈ ps) : ps.getD (ps.idxOf r) [] = r := by
  have := List.idxOf_lt_length_of_mem h
  simp [this]
theorem getD_idx (hN : ps.Nodup) {j : Nat} (hj : j < ps.length) : ps.idxOf (ps.getD j []) = j := by
  have h1 : ps.getD j [] = ps[j] := by simp [hj]
  rw [h1]
  exact hN.idxOf_getElem j hj
theorem getD_inj (hN : ps.Nodup) {i j : Nat} (hi : i < ps.length) (hj : j < ps.length) (h : ps.getD i [] = ps.getD j []) : i = j := by
  rw [← getD_idx hN hi, h, getD_idx hN hj]
end

theorem child_app {ps : List (List Nat)} (hN : ps.Nodup) {p : List Nat} {c j0 : Nat} (hj0 : j0 < ps.length) (hp : ps.getD j0 [] = p) (hn : ¬ p ++ [c] ∈ ps) {j z : Nat} (hj : j < ps.length) :
    childN (ps ++ [p ++ [c]]) j z = if j = j0 ∧ z = c then some ps.length else childN ps j z := by
  unfold childN
  rw [getD_app hj]
  by_cases e : j = j0 ∧ z = c
  · obtain ⟨rfl, rfl⟩ := e
    rw [hp, if_pos (show p ++ [z] ∈ ps ++ [p ++ [z]] by simp), if_pos (show j = j ∧ z = z from ⟨rfl, rfl⟩), idx_app_last hn]
  · rw [if_neg e]
    have hne : ps.getD j [] ++ [z] ≠ p ++ [c] := fun h => e (by
      obtain ⟨h1, h2⟩ := List.append_inj' h rfl
      refine ⟨getD_inj hN hj hj0 (h1.trans hp.symm), by simpa using h2⟩)
    by_cases h : ps.getD j [] ++ [z] ∈ ps
    · rw [if_pos h, if_pos (List.mem_append_left _ h), idx_app h]
    · rw [if_neg h, if_neg (by rw [List.mem_append, List.mem_singleton]; exact fun h2 => h2.elim h hne)]
theorem child_last {ps : List (List Nat)} (hC : Clo ps) {q : List Nat} (hn : ¬ q ∈ ps) {z : Nat} : childN (ps ++ [q]) ps.length z = none := by
  unfold childN
  rw [getD_app_last, if_neg]
  rw [List.mem_append, List.mem_singleton]
  rintro (h | h)
  · exact hn (hC.2 _ _ h)
  · have := congrArg List.length h; simp at this

section
variable {w w' : World} {B g cap : Nat} {ps : List (List Nat)} {mb fl : Nat → Nat} {en : Nat → Value} {el : Nat → List Int}

theorem Mac.ne_gm (h : Mac w B g cap ps mb fl en el) {j : Nat} (hj : j < ps.length) : mb j ≠ g := fun e => by
  obtain ⟨es, clock, h1⟩ := (h.maps j hj).isMap
  exact own_ne h.row h1 (fun _ _ _ e => by cases e) (by rw [e]; rfl)
theorem Mac.ne_em (h : Mac w B g cap ps mb fl en el) {i j : Nat} (hi : i < ps.length) (hj : j < ps.length) : (en i).ownBlock ≠ some (mb j) := by
  obtain ⟨es, clock, h1⟩ := (h.maps j hj).isMap
  exact own_ne (h.ends i hi) h1 (fun _ _ _ e => by cases e)

/-- A node more. -/
theorem Mac.node {w1 w4 : World} {g' cap' : Nat} (h : Mac w B g cap ps mb fl en el) (hN : ps.Nodup) (hC : Clo ps) {p : List Nat} {c j0 : Nat} (hj0 : j0 < ps.length) (hp : ps.getD j0 [] = p) (hn : ¬ p ++ [c] ∈ ps)
    (hg1 : w.grownBy w1 (some (mb j0))) (hP : IMap w1 (mb j0) (ps.length + 1) (fun z => if z = c then some ps.length else childN ps j0 z))
    (hr : w4.ownsRow B 67 3 (.slice (some ⟨g', 0, none⟩) (ps.length + 1) cap') (ps.length + 1) (stCells ps.length mb fl en ++ [.map (some w1.heap.size), .int .i64 ((0 : Nat) : Int), .slice none 0 0]))
    (hg4 : ((w1.alloc (.map #[] 0)).alloc (.cells #[.map (some w1.heap.size), .int .i64 0, .slice none 0 0] 67)).grownBy w4 (some g)) (hg' : g' = g ∨ w1.heap.size ≤ g') :
    Mac w4 B g' cap' (ps ++ [p ++ [c]]) (fun k => if k = ps.length then w1.heap.size else mb k) (fun k => if k = ps.length then 0 else fl k) (fun k => if k = ps.length then .slice none 0 0 else en k) (fun k => if k = ps.length then [] else el k) := by
  have hs := hg1.size
  have hB := h.gB
  have hlen : (ps ++ [p ++ [c]]).length = ps.length + 1 := by simp
  have hs3 : ((w1.alloc (.map #[] 0)).alloc (.cells #[.map (some w1.heap.size), .int .i64 0, .slice none 0 0] 67)).heap.size = w1.heap.size + 2 := by simp
  have hs4 := hg4.size
  rw [hs3] at hs4
  have h14 : ∀ k, k < w1.heap.size → k ≠ g → w4.heap[k]? = w1.heap[k]? := fun k hk hne =>
    (hg4.block k (by rw [hs3]; omega) (by intro e; injection e with e; exact hne e)).trans ((Go.Deep.blk_alloc_lt _ _ _ (by simp; omega)).trans (Go.Deep.blk_alloc_lt _ _ _ hk))
  have h04 : ∀ k, k < w.heap.size → k ≠ g → k ≠ mb j0 → w4.heap[k]? = w.heap[k]? := fun k hk h1 h2 =>
    (h14 k (by omega) h1).trans (hg1.block k hk (by intro e; injection e with e; exact h2 e))
  have hmlt : ∀ j, j < ps.length → mb j < w.heap.size := fun j hj => (h.maps j hj).lt
  have hcase : ∀ j, j < (ps ++ [p ++ [c]]).length → (j < ps.length ∧ ¬ j = ps.length) ∨ j = ps.length := fun j hj => by rw [hlen] at hj; omega
  refine ⟨?_, fun j hj => ?_, fun j hj => ?_, fun i hi j hj e => ?_, fun j hj => ?_, fun i hi j hj hij => ?_, fun j hj => ?_, fun j hj he => ?_⟩
  · rw [hlen, ← stCells_app]
    exact hr
  · rw [hlen]
    rcases hcase j hj with ⟨h1, h2⟩ | h1
    · rw [if_neg h2]
      by_cases e : j = j0
      · subst e
        refine (hP.kept (h14 _ (by have := hmlt j h1; omega) (h.ne_gm h1))).congr fun z hz => ?_
        rw [child_app hN hj0 hp hn h1]
        by_cases e2 : z = c
        · rw [if_pos e2, if_pos ⟨rfl, e2⟩]
        · rw [if_neg e2, if_neg (fun h => e2 h.2)]
      · refine (((h.maps j h1).kept (h04 _ (hmlt j h1) (h.ne_gm h1) (fun e2 => e (h.minj j h1 j0 hj0 e2)))).mono (Nat.le_succ _)).congr fun z hz => ?_
        rw [child_app hN hj0 hp hn h1, if_neg (fun h => e h.1)]
    · subst h1
      rw [if_pos rfl]
      have hm : IMap w4 w1.heap.size 0 (fun _ => none) := (IMap.made w1).kept
        ((hg4.block _ (by rw [hs3]; omega) (by intro e; injection e with e; omega)).trans (Go.Deep.blk_alloc_lt _ _ _ (by simp)))
      refine (hm.mono (Nat.zero_le _)).congr fun z hz => ?_
      rw [child_last hC hn]
  · rcases hcase j hj with ⟨h1, h2⟩ | h1
    · rw [if_neg h2]; exact h.mlo j h1
    · rw [if_pos h1]; omega
  · rcases hcase i hi with ⟨h1, h2⟩ | h1 <;> rcases hcase j hj with ⟨h3, h4⟩ | h3
    · rw [if_neg h2, if_neg h4] at e; exact h.minj i h1 j h3 e
    · rw [if_neg h2, if_pos h3] at e; have := hmlt i h1; omega
    · rw [if_pos h1, if_neg h4] at e; have := hmlt j h3; omega
    · rw [h1, h3]
  · rcases hcase j hj with ⟨h1, h2⟩ | h1
    · rw [if_neg h2, if_neg h2]
      have k1 : Own w1 B (en j) (el j) := World.ownsRow.kept (h.ends j h1) hg1 (.inr (h.ne_em h1 hj0))
      have k3 := (k1.alloc (.map #[] 0)).alloc (.cells #[.map (some w1.heap.size), .int .i64 0, .slice none 0 0] 67)
      exact World.ownsRow.kept k3 hg4 (.inr (h.disv j h1))
    · rw [if_pos h1, if_pos h1]; exact Own.nil _ _
  · rcases hcase i hi with ⟨h1, h2⟩ | h1 <;> rcases hcase j hj with ⟨h3, h4⟩ | h3
    · rw [if_neg h2, if_neg h4]; exact h.dis i h1 j h3 hij
    · rw [if_neg h2, if_pos h3]; exact fun k h5 h6 => by cases h6
    · rw [if_pos h1, if_neg h4]; exact Disj.nil _
    · omega
  · rcases hcase j hj with ⟨h1, h2⟩ | h1
    · rw [if_neg h2]
      rcases hg' with e | e
      · rw [e]; exact h.disv j h1
      · intro e2
        have := ((h.ends j h1).lt g' e2).2
        omega
    · rw [if_pos h1]; intro e; cases e
  · rcases hcase j hj with ⟨h1, h2⟩ | h1
    · rw [if_neg h2] at he ⊢; exact h.nil j h1 he
    · rw [if_pos h1]

/-- The list of a node grows. -/
theorem Mac.setEnds {w2 : World} {v2 : Value} {l' : List Int} (h : Mac w B g cap ps mb fl en el) {j : Nat} (hj : j < ps.length)
    (hg : w.grownBy w2 (en j).ownBlock) (ho : Own w2 B v2 l') (hv : v2.ownBlock = (en j).ownBlock ∨ ∃ k, w.heap.size ≤ k ∧ v2.ownBlock = some k) (hnil : l' = [] → v2 = .slice none 0 0) :
    Mac (w2.setCell ⟨g, j * 3 + 2, none⟩ v2) B g cap ps mb fl (fun k => if k = j then v2 else en k) (fun k => if k = j then l' else el k) := by
  have hB := h.gB
  have hvg : v2.ownBlock ≠ some g := by
    rcases hv with e | ⟨k, h1, e⟩
    · rw [e]; exact h.disv j hj
    · rw [e]; intro e2; injection e2 with e2; omega
  have hst := World.ownsRow.stored (h.row.kept hg (.inr (fun e => h.disv j hj e.symm))) (j * 3 + 2) v2
  refine ⟨?_, fun i hi => ?_, h.mlo, h.minj, fun i hi => ?_, fun i hi k hk hik => ?_, fun i hi => ?_, fun i hi he => ?_⟩
  · rw [← stCells_set2]; exact hst.1
  · refine (h.maps i hi).kept ((Go.Deep.blk_setCell_other _ _ _ _ (h.ne_gm hi)).trans (hg.block _ (h.maps i hi).lt (fun e => h.ne_em hj hi e.symm)))
  · by_cases e : i = j
    · subst e
      rw [if_pos rfl, if_pos rfl]
      exact World.ownsRow.kept ho hst.2 (.inr hvg)
    · rw [if_neg e, if_neg e]
      have k1 : Own w2 B (en i) (el i) := World.ownsRow.kept (h.ends i hi) hg (by
        cases e2 : (en i).ownBlock with
        | none => exact .inl rfl
        | some b => exact .inr fun e3 => h.dis i hi j hj e b e2 e3.symm)
      exact World.ownsRow.kept k1 hst.2 (.inr (h.disv i hi))
  · have hnew : ∀ i, i < ps.length → ¬ i = j → Disj v2 (en i) := fun i hi e b h1 h2 => by
      rcases hv with e2 | ⟨k, h3, e2⟩
      · rw [e2] at h1; exact h.dis j hj i hi (fun e3 => e e3.symm) b h1 h2
      · rw [e2] at h1; injection h1 with h1
        have := ((h.ends i hi).lt b h2).2
        omega
    by_cases e1 : i = j
    · by_cases e2 : k = j
      · omega
      · rw [if_pos e1, if_neg e2]; exact hnew k hk e2
    · by_cases e2 : k = j
      · rw [if_neg e1, if_pos e2]; exact (hnew i hi e1).symm
      · rw [if_neg e1, if_neg e2]; exact h.dis i hi k hk hik
  · by_cases e : i = j
    · rw [if_pos e]; exact hvg
    · rw [if_neg e]; exact h.disv i hi
  · by_cases e : i = j
    · rw [if_pos e] at he ⊢; exact hnil he
    · rw [if_neg e] at he ⊢; exact h.nil i hi he

/-- Where a node goes back to. -/
theorem Mac.setFail (h : Mac w B g cap ps mb fl en el) (j x : Nat) : Mac (w.setCell ⟨g, j * 3 + 1, none⟩ (.int .i64 (x : Int))) B g cap ps mb (fun k => if k = j then x else fl k) en el := by
  have hst := World.ownsRow.stored h.row (j * 3 + 1) (.int .i64 (x : Int))
  refine ⟨?_, fun i hi => ?_, h.mlo, h.minj, fun i hi => ?_, h.dis, h.disv, h.nil⟩
  · rw [← stCells_set1]; exact hst.1
  · exact (h.maps i hi).kept (Go.Deep.blk_setCell_other _ _ _ _ (h.ne_gm hi))
  · exact World.ownsRow.kept (h.ends i hi) hst.2 (.inr (h.disv i hi))

theorem Mac.congr {fl' : Nat → Nat} {en' : Nat → Value} {el' : Nat → List Int} (h : Mac w B g cap ps mb fl en el) (hf : ∀ j, j < ps.length → fl j = fl' j) (he : ∀ j, j < ps.length → en j = en' j) (hl : ∀ j, j < ps.length → el j = el' j) : Mac w B g cap ps mb fl' en' el' := by
  refine ⟨?_, h.maps, h.mlo, h.minj, fun j hj => by rw [← he j hj, ← hl j hj]; exact h.ends j hj, fun i hi j hj hij => by rw [← he i hi, ← he j hj]; exact h.dis i hi j hj hij, fun j hj => by rw [← he j hj]; exact h.disv j hj, fun j hj h0 => by rw [← he j hj]; exact h.nil j hj ((hl j hj).trans h0)⟩
  have e : stCells ps.length mb fl en = stCells ps.length mb fl' en' := by
    unfold stCells
    refine List.map_congr_left fun k hk => ?_
    have hk' : k < ps.length * 3 := List.mem_range.1 hk
    unfold stCell
    rw [hf _ (by omega), he _ (by omega)]
  rw [← e]
  exact h.row
end
end Go.Proofs.Ythlibdpemocpmaa
