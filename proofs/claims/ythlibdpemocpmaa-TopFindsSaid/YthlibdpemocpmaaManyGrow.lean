/- many.machine, the first half: the beginnings of the words as states. -/
import Derived.Test.YthlibdpemocpmaaManyOps
import Derived.Test.YthlibdpemocpmaaTrieFns
import Derived.Deep.AppendLies
import Derived.Deep.DeepMust
namespace Go.Proofs.Ythlibdpemocpmaa
set_option linter.unusedVariables false
set_option linter.unusedSimpArgs false
open Go.RowKit Go.Maps Go.Lib

/-- The lists while the words are laid. -/
def elW (wd : List Nat → Int) (ps : List (List Nat)) (j : Nat) : List Int := ownW wd (ps.getD j [])

structure MG (w wr : World) (ws : List ByteArray) (k g cap : Nat) (mb : Nat → Nat) (en : Nat → Value) : Prop where
  mac : Mac wr w.heap.size g cap (nodesTo ws k) mb (fun _ => 0) en (elW (wdTo ws k) (nodesTo ws k))
  below : Below w.heap.size w wr

structure MI (w wr : World) (ws : List ByteArray) (k : Nat) (s : ByteArray) (cb m g cap : Nat) (mb : Nat → Nat) (en : Nat → Value) : Prop where
  mac : Mac wr w.heap.size g cap (addTo (nodesTo ws k) s m) mb (fun _ => 0) en (elW (wdTo ws k) (addTo (nodesTo ws k) s m))
  below : Below w.heap.size w wr
  bytes : BytesAt wr cb s
  hcb : cb < wr.heap.size
  hgc : g ≠ cb

theorem mg_start (w : World) (ws : List ByteArray) : MG w ((w.alloc (.map #[] 0)).alloc (.cells #[.map (some w.heap.size), .int .i64 0, .slice none 0 0] 67)) ws 0 (w.heap.size + 1) 1 (fun _ => w.heap.size) (fun _ => .slice none 0 0) := by
  have hs : (w.alloc (.map #[] 0)).heap.size = w.heap.size + 1 := by simp
  have hnew := Go.Deep.blk_alloc_new (w.alloc (.map #[] 0)) (.cells #[.map (some w.heap.size), .int .i64 0, .slice none 0 0] 67)
  rw [hs] at hnew
  refine ⟨⟨⟨rfl, .inr ⟨w.heap.size + 1, 1, _, rfl, by omega, hnew, Nat.le_refl _, by decide, rfl, rfl⟩⟩, fun j hj => ?_, fun _ _ => Nat.le_refl _, fun i hi j hj _ => ?_, fun j hj => ?_, fun i hi j hj hij => Disj.nil _, fun j hj e => (by cases e), fun _ _ _ => rfl⟩, ((Below.refl _ _).alloc (Nat.le_refl _) _).alloc (by simp) _⟩
  · refine (((IMap.made w).kept (w' := (w.alloc (.map #[] 0)).alloc _) (Go.Deep.blk_alloc_lt _ _ _ (by rw [hs]; omega))).mono (Nat.zero_le _)).congr fun c hc => ?_
    unfold childN
    rw [if_neg]
    simp [nodesTo]
  · simp [nodesTo] at hi hj; omega
  · have : elW (wdTo ws 0) (nodesTo ws 0) j = [] := by unfold elW ownW wdTo; simp
    rw [this]
    exact Own.nil _ _

section
variable {w wr wr' : World} {ws : List ByteArray} {k m cb g cap : Nat} {s : ByteArray} {mb : Nat → Nat} {en : Nat → Value}

theorem mi_start (h : MG w wr ws k g cap mb en) (s : ByteArray) : MI w (bytesWorld wr 5 s) ws k s wr.heap.size 0 g cap mb en := by
  have hb := bytes_below wr s
  have hg := h.mac.gB.2
  exact ⟨h.mac.below hb, h.below.trans (hb.mono h.below.size), bytes_at wr s, by rw [bytesWorld_size]; omega, by omega⟩

theorem MI.hit (h : MI w wr ws k s cb m g cap mb en) (hm : pfx s (m + 1) ∈ addTo (nodesTo ws k) s m) : MI w wr ws k s cb (m + 1) g cap mb en :=
  ⟨by rw [addTo_hit hm]; exact h.mac, h.below, h.bytes, h.hcb, h.hgc⟩

theorem addTo_in (ws : List ByteArray) (k : Nat) (s : ByteArray) (m : Nat) : pfx s m ∈ addTo (nodesTo ws k) s m := addTo_pfx (clo_nodes ws k) (Nat.le_refl m)
theorem addTo_nd (ws : List ByteArray) (k : Nat) (s : ByteArray) (m : Nat) : (addTo (nodesTo ws k) s m).Nodup := addTo_nodup (nodesTo_nodup ws k) m

theorem MI.miss {w1 : World} {g' cap' : Nat} (h : MI w wr ws k s cb m g cap mb en) (hm : ¬ pfx s (m + 1) ∈ addTo (nodesTo ws k) s m) (hms : m < s.size)
    (hg1 : wr.grownBy w1 (some (mb ((addTo (nodesTo ws k) s m).idxOf (pfx s m)))))
    (hP : IMap w1 (mb ((addTo (nodesTo ws k) s m).idxOf (pfx s m))) ((addTo (nodesTo ws k) s m).length + 1) (fun z => if z = bt s m then some (addTo (nodesTo ws k) s m).length else childN (addTo (nodesTo ws k) s m) ((addTo (nodesTo ws k) s m).idxOf (pfx s m)) z))
    (hr : wr'.ownsRow w.heap.size 67 3 (.slice (some ⟨g', 0, none⟩) ((addTo (nodesTo ws k) s m).length + 1) cap') ((addTo (nodesTo ws k) s m).length + 1) (stCells (addTo (nodesTo ws k) s m).length mb (fun _ => 0) en ++ [.map (some w1.heap.size), .int .i64 ((0 : Nat) : Int), .slice none 0 0]))
    (hg4 : ((w1.alloc (.map #[] 0)).alloc (.cells #[.map (some w1.heap.size), .int .i64 0, .slice none 0 0] 67)).grownBy wr' (some g)) (hg' : g' = g ∨ w1.heap.size ≤ g') :
    MI w wr' ws k s cb (m + 1) g' cap' (fun j => if j = (addTo (nodesTo ws k) s m).length then w1.heap.size else mb j) (fun j => if j = (addTo (nodesTo ws k) s m).length then .slice none 0 0 else en j) := by
  have hin := addTo_in ws k s m
  have hj0 := List.idxOf_lt_length_of_mem hin
  rw [pfx_succ] at hm
  have hM := h.mac.node (addTo_nd ws k s m) (clo_add (clo_nodes ws k) m) hj0 (idx_getD hin) hm hg1 hP hr hg4 hg'
  have hwd : wdTo ws k (pfx s m ++ [bt s m]) = -1 := wd_new (by simp) fun h2 => hm (addTo_mem.2 (.inl h2))
  have hB := h.mac.gB
  have hmb := (h.mac.maps _ hj0).isMap
  have hlo := h.mac.mlo _ hj0
  have hs := hg1.size
  have hs3 : ((w1.alloc (.map #[] 0)).alloc (.cells #[.map (some w1.heap.size), .int .i64 0, .slice none 0 0] 67)).heap.size = w1.heap.size + 2 := by simp
  have hs4 := hg4.size
  rw [hs3] at hs4
  have hold : ∀ j, j < wr.heap.size → j ≠ g → j ≠ mb ((addTo (nodesTo ws k) s m).idxOf (pfx s m)) → wr'.heap[j]? = wr.heap[j]? := fun j hj h1 h2 =>
    (hg4.block j (by rw [hs3]; omega) (by intro e; injection e with e; exact h1 e)).trans ((Go.Deep.blk_alloc_lt _ _ _ (by simp; omega)).trans ((Go.Deep.blk_alloc_lt _ _ _ (by omega)).trans
      (hg1.block j hj (by intro e; injection e with e; exact h2 e))))
  have hbs := h.below.size
  have hcbm : cb ≠ mb ((addTo (nodesTo ws k) s m).idxOf (pfx s m)) := fun e => by
    obtain ⟨es, clock, h1⟩ := hmb
    have hb := h.bytes m hms
    rw [e] at hb
    simp [World.cell?, h1] at hb
  refine ⟨?_, ⟨hg4.os.trans (hg1.os.trans h.below.os), hg4.tape.trans (hg1.tape.trans h.below.tape), hg4.output.trans (hg1.output.trans h.below.output), by omega, fun j hj => (hold j (by omega) (by omega) (by omega)).trans (h.below.block j hj)⟩, fun j hj => ?_, Nat.lt_of_lt_of_le h.hcb (by omega), ?_⟩
  · rw [addTo_miss (by rw [pfx_succ]; exact hm), pfx_succ]
    refine hM.congr (fun j hj => by split <;> rfl) (fun _ _ => rfl) fun j hj => ?_
    rw [List.length_append, List.length_singleton] at hj
    unfold elW
    by_cases e : j = (addTo (nodesTo ws k) s m).length
    · subst e
      rw [if_pos rfl, getD_app_last]
      unfold ownW
      rw [hwd, if_neg (by decide)]
    · rw [if_neg e, getD_app (by omega)]
  · exact (World.cell?_of_block (a := ⟨cb, j, none⟩) (hold cb h.hcb (fun e => h.hgc e.symm) hcbm)).trans (h.bytes j hj)
  · rcases hg' with e | e
    · rw [e]; exact h.hgc
    · have := h.hcb; omega

theorem MI.done {w2 : World} {v2 : Value} (h : MI w wr ws k s cb s.size g cap mb en) (hs : s = wat ws k) (hk : k < ws.length) (hD : Dist ws)
    (hg : wr.grownBy w2 (en ((addTo (nodesTo ws k) s s.size).idxOf (wordP s))).ownBlock) (ho : Own w2 w.heap.size v2 [(k : Int)])
    (hv : v2.ownBlock = (en ((addTo (nodesTo ws k) s s.size).idxOf (wordP s))).ownBlock ∨ ∃ j, wr.heap.size ≤ j ∧ v2.ownBlock = some j) :
    MG w (w2.setCell ⟨g, (addTo (nodesTo ws k) s s.size).idxOf (wordP s) * 3 + 2, none⟩ v2) ws (k + 1) g cap mb (fun j => if j = (addTo (nodesTo ws k) s s.size).idxOf (wordP s) then v2 else en j) := by
  have hin : wordP s ∈ addTo (nodesTo ws k) s s.size := addTo_in ws k s s.size
  have hj0 := List.idxOf_lt_length_of_mem hin
  have hM := h.mac.setEnds hj0 hg ho hv (fun e => by cases e)
  have hB := h.mac.gB
  have hbs := h.below.size
  have he := h.mac.ends _ hj0
  subst hs
  refine ⟨?_, ?_⟩
  · show Mac _ _ g cap (addTo (nodesTo ws k) (wat ws k) (wat ws k).size) mb (fun _ => 0) _ (elW (wdTo ws (k + 1)) (addTo (nodesTo ws k) (wat ws k) (wat ws k).size))
    refine hM.congr (fun _ _ => rfl) (fun _ _ => rfl) fun j hj => ?_
    unfold elW
    have hwd : ∀ p, wdTo ws (k + 1) p = if p = wordP (wat ws k) then (k : Int) else wdTo ws k p := fun p => rfl
    by_cases e : j = (addTo (nodesTo ws k) (wat ws k) (wat ws k).size).idxOf (wordP (wat ws k))
    · rw [if_pos e, e, show (addTo (nodesTo ws k) (wat ws k) (wat ws k).size).getD ((addTo (nodesTo ws k) (wat ws k) (wat ws k).size).idxOf (wordP (wat ws k))) [] = wordP (wat ws k) from idx_getD hin]
      unfold ownW
      rw [hwd, if_pos rfl, if_pos (by omega)]
    · rw [if_neg e]
      have hne : (addTo (nodesTo ws k) (wat ws k) (wat ws k).size).getD j [] ≠ wordP (wat ws k) := fun e2 => e (by rw [← e2, getD_idx (addTo_nd _ _ _ _) hj])
      unfold ownW
      rw [hwd, if_neg hne]
  · refine h.below.trans ⟨hg.os, hg.tape, hg.output, by simpa using hg.size, fun j hj => ?_⟩
    refine (Go.Deep.blk_setCell_other _ _ _ _ (by show j ≠ g; omega)).trans (hg.block j (by omega) fun e => ?_)
    have := (he.lt j e.symm).1
    omega
theorem own_none {ws : List ByteArray} {k : Nat} (hk : k < ws.length) (hD : Dist ws) : ownW (wdTo ws k) (wordP (wat ws k)) = [] := by
  unfold ownW
  rcases wdTo_spec (ws := ws) (p := wordP (wat ws k)) (i := k) with ⟨h1, _⟩ | ⟨m, h1, h2, h3⟩
  · rw [h1, if_neg (by decide)]
  · exact absurd (wordP_inj h3).symm (hD m k h1 hk)
end

theorem addTo_ext (L : List (List Nat)) (s : ByteArray) : ∀ k, ∃ t, addTo L s k = L ++ t
  | 0 => ⟨[], by simp [addTo]⟩
  | k + 1 => by
    obtain ⟨t, ht⟩ := addTo_ext L s k
    by_cases h : pfx s (k + 1) ∈ addTo L s k
    · exact ⟨t, by rw [addTo_hit h, ht]⟩
    · exact ⟨t ++ [pfx s (k + 1)], by rw [addTo_miss h, ht, List.append_assoc]⟩
theorem nodes_root (ws : List ByteArray) : ∀ k, ∃ t, nodesTo ws k = [] :: t
  | 0 => ⟨[], rfl⟩
  | k + 1 => by
    obtain ⟨t, ht⟩ := nodes_root ws k
    obtain ⟨u, hu⟩ := addTo_ext (nodesTo ws k) (wat ws k) (wat ws k).size
    exact ⟨t ++ u, by rw [nodesTo, hu, ht]; rfl⟩
theorem root_idx (ws : List ByteArray) (k : Nat) : (nodesTo ws k).idxOf [] = 0 := by
  obtain ⟨t, ht⟩ := nodes_root ws k
  rw [ht, List.idxOf_cons_self]

theorem child_hit {ps : List (List Nat)} {s : ByteArray} {m : Nat} (hin : pfx s m ∈ ps) (h : pfx s (m + 1) ∈ ps) : childN ps (ps.idxOf (pfx s m)) (bt s m) = some (ps.idxOf (pfx s (m + 1))) := by
  unfold childN
  rw [idx_getD hin, ← pfx_succ, if_pos h]
theorem child_miss {ps : List (List Nat)} {s : ByteArray} {m : Nat} (hin : pfx s m ∈ ps) (h : ¬ pfx s (m + 1) ∈ ps) : childN ps (ps.idxOf (pfx s m)) (bt s m) = none := by
  unfold childN
  rw [idx_getD hin, ← pfx_succ, if_neg h]
theorem new_three (w : World) (x y z : Value) (t : TypeId) : ∀ j u, ([x, y, z] : List Value)[j]? = some u → (w.alloc (.cells #[x, y, z] t)).cell? ((⟨w.heap.size, 0, none⟩ : Addr).add j) = some u :=
  fun j u hu => World.news_of_block (Go.Deep.blk_alloc_new w (.cells #[x, y, z] t)) j u hu

end Go.Proofs.Ythlibdpemocpmaa
