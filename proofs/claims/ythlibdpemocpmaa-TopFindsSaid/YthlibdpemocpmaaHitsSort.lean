/- The hits in memory, and their sorting. -/
import Derived.Test.YthlibdpemocpmaaHitsCmp
import Derived.Test.YthlibdpemocpmaaShelfSort
import Derived.Test.YthlibdpemocpmaaOwnAt
namespace Go.Proofs.Ythlibdpemocpmaa
set_option linter.unusedVariables false
set_option linter.unusedSimpArgs false
open Go.RowKit Go.Sort Go.Shelf Go.Lib

def hitCell (l : List (Int × Int)) (t : Nat) : Value := .int .i64 (if t % 2 = 0 then (l.getD (t / 2) (0, 0)).1 else (l.getD (t / 2) (0, 0)).2)
def hcells (l : List (Int × Int)) : List Value := (List.range (l.length * 2)).map (hitCell l)
def encH (x : Int × Int) : List Value := [.int .i64 x.1, .int .i64 x.2]

theorem hcells_len (l : List (Int × Int)) : (hcells l).length = l.length * 2 := by simp [hcells]
theorem hcells_app (l : List (Int × Int)) (x : Int × Int) : hcells l ++ [.int .i64 x.1, .int .i64 x.2] = hcells (l ++ [x]) := by
  unfold hcells
  rw [List.length_append, List.length_singleton, show (l.length + 1) * 2 = l.length * 2 + 2 by omega, List.range_add, List.map_append]
  congr 1
  · refine List.map_congr_left fun t ht => ?_
    have ht' : t < l.length * 2 := List.mem_range.1 ht
    unfold hitCell
    rw [show (l ++ [x]).getD (t / 2) (0, 0) = l.getD (t / 2) (0, 0) by
      rw [List.getD_eq_getElem?_getD, List.getD_eq_getElem?_getD, List.getElem?_append_left (by omega)]]
  · have h0 : (l.length * 2) % 2 = 0 := by omega
    have h1 : (l.length * 2 + 1) % 2 = 1 := by omega
    have d0 : (l.length * 2) / 2 = l.length := by omega
    have d1 : (l.length * 2 + 1) / 2 = l.length := by omega
    simp [List.range_succ, hitCell, h0, h1, d0, d1]

def OwnH (w : World) (base : Nat) (v : Value) (l : List (Int × Int)) : Prop := w.ownsRow base 43 2 v l.length (hcells l)
theorem OwnH.nil (w : World) (base : Nat) : OwnH w base (.slice none 0 0) [] := World.ownsRow_nil _ _ _ _

/-- The hits, to be read. -/
def HL (w : World) (base : Nat) (v : Value) (l : List (Int × Int)) : Prop :=
  ∃ A c, v = .slice A l.length c ∧ (l ≠ [] → ∃ b, A = some ⟨b, 0, none⟩ ∧ base ≤ b ∧ b < w.heap.size ∧ ∀ j x, l[j]? = some x → w.cell? ⟨b, j * 2, none⟩ = some (.int .i64 x.1) ∧ w.cell? ⟨b, j * 2 + 1, none⟩ = some (.int .i64 x.2))

theorem HL.below {w w' : World} {base : Nat} {v : Value} {l : List (Int × Int)} (h : HL w base v l) (hb : Below w.heap.size w w') : HL w' base v l := by
  obtain ⟨A, c, rfl, h1⟩ := h
  refine ⟨A, c, rfl, fun hne => ?_⟩
  obtain ⟨b, h2, h3, h4, h5⟩ := h1 hne
  have e := hb.block b h4
  exact ⟨b, h2, h3, Nat.lt_of_lt_of_le h4 hb.size, fun j x hx => ⟨(World.cell?_of_block (a := ⟨b, j * 2, none⟩) e).trans (h5 j x hx).1, (World.cell?_of_block (a := ⟨b, j * 2 + 1, none⟩) e).trans (h5 j x hx).2⟩⟩
theorem HL.mono {w : World} {base base' : Nat} {v : Value} {l : List (Int × Int)} (h : HL w base v l) (hb : base' ≤ base) : HL w base' v l := by
  obtain ⟨A, c, rfl, h1⟩ := h
  refine ⟨A, c, rfl, fun hne => ?_⟩
  obtain ⟨b, h2, h3, h4⟩ := h1 hne
  exact ⟨b, h2, by omega, h4⟩

theorem ownH_holds {w : World} {base : Nat} {v : Value} {l : List (Int × Int)} (h : OwnH w base v l) (hl : l ≠ []) : ∃ b cap, v = .slice (some ⟨b, 0, none⟩) l.length cap ∧ base ≤ b ∧ b < w.heap.size ∧ HoldsK encH 2 w b 0 l.toArray := by
  have hlen : 0 < l.length := List.length_pos_iff.2 hl
  rcases h.2 with ⟨_, h0⟩ | ⟨b, cap, cur, rfl, h1, hg, h2, h3, h4, h5⟩
  · omega
  · refine ⟨b, cap, rfl, h1, (Array.getElem?_eq_some_iff.1 hg).1, fun t ht => ?_⟩
    have ht2 : t < l.length * 2 := by simpa using ht
    have h6 : w.cell? ⟨b, t, none⟩ = (hcells l)[t]? := World.ownsRow.cellAt h t ht2
    rw [Nat.zero_add, h6, get_flatK _ _ _ _ (by simpa using ht2)]
    refine ⟨?_, World.ownsRow.frozenAt h t⟩
    unfold hcells
    rw [List.getElem?_map, List.getElem?_range ht2]
    show some (hitCell l t) = _
    congr 1
    have hd : t / 2 < l.length := by omega
    have e : l.toArray[t / 2]! = l.getD (t / 2) (0, 0) := by
      rw [getElem!_pos l.toArray (t / 2) (by simpa using hd)]
      simp [hd]
    rw [e]
    unfold hitCell encH
    rcases Nat.mod_two_eq_zero_or_one t with h7 | h7
    · rw [if_pos h7, h7]; rfl
    · rw [if_neg (by omega), h7]; rfl

theorem below_sorted {w : World} {base b n : Nat} {d : Array (Int × Int)} {os : Array Obj} (h : base ≤ b) (hb : base ≤ w.heap.size) : Below base w (sortWorldK encH 2 w b 0 n d os) := by
  unfold sortWorldK putRowK
  refine ⟨rfl, rfl, rfl, by rw [size_grow, size_putRow]; exact Nat.le_add_right _ _, fun k hk => ?_⟩
  rw [heap_grow_old _ _ (by rw [size_putRow]; show k < w.heap.size; omega)]
  show (w.heap.modify b _)[k]? = w.heap[k]?
  rw [Array.getElem?_modify, if_neg (by omega)]

theorem lt_cmpI (x y : Int) : (cmpI x y < 0 ↔ x < y) ∧ (cmpI x y = 0 ↔ x = y) := by
  unfold cmpI
  by_cases h1 : x < y
  · rw [if_pos h1]; omega
  · rw [if_neg h1]
    by_cases h2 : y < x
    · rw [if_pos h2]; omega
    · rw [if_neg h2]; omega
theorem lt_cmpH (x y : Int × Int) : cmpH x y < 0 ↔ LtH x y := by
  unfold cmpH LtH
  have h1 := lt_cmpI x.1 y.1
  have h2 := lt_cmpI x.2 y.2
  by_cases h : cmpI x.1 y.1 ≠ 0
  · rw [if_pos h]; omega
  · rw [if_neg h]; omega
instance (x y : Int × Int) : Decidable (LtH x y) := by unfold LtH; exact inferInstance
theorem ltOf_cmpH (x y : Int × Int) : ltOf cmpH x y = decide (LtH x y) := by
  unfold ltOf
  rw [decide_eq_decide]
  exact lt_cmpH x y
theorem swo_cmpH : SWO (ltOf cmpH) where
  irrefl x := by rw [ltOf_cmpH]; simpa using lth_irrefl x
  trans x y z h1 h2 := by
    rw [ltOf_cmpH] at *
    simp only [decide_eq_true_eq] at *
    unfold LtH at *; omega
  ntrans x y z h1 h2 := by
    rw [ltOf_cmpH] at *
    simp only [decide_eq_false_iff_not] at *
    unfold LtH at *; omega

/-- slices.SortFunc with many.All's closure: what was there, in order. -/
theorem sort_any (w : World) (base : Nat) (v : Value) (l : List (Int × Int)) (ho : OwnH w base v l) (hb : base ≤ w.heap.size) (hlen : l.length < 1000000) :
    Calls Try.prog 36 #[v, .func (.func 37) #[] #[]] w fun e w' => e = .returned (.tuple #[]) ∧ ∃ l', l'.Perm l ∧ (l'.Pairwise fun x y => ¬ LtH y x) ∧ HL w' base v l' ∧ Below base w w' := by
  by_cases hl : l = []
  · subst hl
    obtain ⟨A, c, rfl⟩ : ∃ A c, v = .slice A 0 c := by
      rcases ho.2 with ⟨h, _⟩ | ⟨g, cap, cur, h, _⟩
      · exact ⟨_, _, h⟩
      · exact ⟨_, _, h⟩
    refine (AnyF.slices_SortFunc_none Try.sortHit A c _ w).mono ?_
    rintro e w' ⟨rfl, rfl⟩
    exact ⟨rfl, [], List.Perm.refl _, List.Pairwise.nil, ⟨A, c, rfl, fun h => absurd rfl h⟩, Below.refl _ _⟩
  · obtain ⟨b, cap, rfl, h1, h2, h3⟩ := ownH_holds ho hl
    have eg : ∀ args w, (callFunc 37 args).run Try.prog w = .ok (.enter 37 args) w := enters_of Try.func37 (by kernel_rfl) rfl
    have hcmp : CmpLays Try.prog 37 #[] encH 2 cmpH b 0 l.toArray.size w := fun _ _ _ _ x y => closure_any x y _
    refine (AnyQ.slices_SortFunc_total Try.sortHit 2 Try.isAgg43 Try.sizeOf43 encH (fun _ => rfl) (fun x v hv => by simp [encH] at hv; rcases hv with rfl | rfl <;> rfl) cmpH swo_cmpH 37 #[] b 0 cap l.toArray w eg hcmp h3 h2 (by simp; omega) (fun x y hx hy => by
      rw [ltOf_cmpH] at hx hy
      exact lth_total (of_decide_eq_false hx) (of_decide_eq_false hy))).mono ?_
    rintro e w' ⟨rfl, n, os, rfl⟩
    obtain ⟨l', hl'⟩ : ∃ l', (l.mergeSort fun x y => !(ltOf cmpH) y x) = l' := ⟨_, rfl⟩
    have hp : l'.Perm l := by rw [← hl']; exact List.mergeSort_perm _ _
    have hlen' : l'.length = l.length := hp.length_eq
    have hw : l'.Pairwise fun x y => ¬ LtH y x := by
      rw [← hl']
      refine (List.pairwise_mergeSort (fun x y z h1 h2 => ?_) (fun x y => ?_) l).imp fun {x y} h => ?_
      · rw [ltOf_cmpH] at *
        simp only [Bool.not_eq_true', decide_eq_false_iff_not] at *
        unfold LtH at *; omega
      · rw [ltOf_cmpH, ltOf_cmpH]
        simp only [Bool.or_eq_true, Bool.not_eq_true', decide_eq_false_iff_not]
        unfold LtH; omega
      · rw [ltOf_cmpH] at h
        simpa using h
    refine ⟨rfl, l', hp, hw, ?_, below_sorted h1 hb⟩
    show HL (sortWorldK encH 2 w b 0 n ((l.mergeSort fun x y => !(ltOf cmpH) y x).toArray) os) base _ l'
    rw [hl']
    have hH : HoldsK encH 2 (sortWorldK encH 2 w b 0 n l'.toArray os) b 0 l'.toArray := by
      unfold sortWorldK
      refine holdsK_grow encH 2 _ os b 0 _ ?_ (holdsK_putRowK encH 2 (Go.Sort.ahead w n) b 0 l.toArray l'.toArray (holdsK_ahead encH 2 w n b 0 _ h3) (by simp [hlen']))
      unfold putRowK
      rw [size_putRow]; exact h2
    refine ⟨_, cap, by rw [hlen'], fun _ => ⟨b, rfl, h1, ?_, fun j x hx => ?_⟩⟩
    · have := (below_sorted (n := n) (d := l'.toArray) (os := os) h1 hb).size
      omega
    · have hj := (List.getElem?_eq_some_iff.1 hx).1
      have e : l'.toArray[j]! = x := by
        rw [getElem!_pos l'.toArray j (by simpa using hj)]
        simpa using (List.getElem?_eq_some_iff.1 hx).2
      have c0 := (hH.cell (i := j) (c := 0) (by simpa using hj) (by omega)).1
      have c1 := (hH.cell (i := j) (c := 1) (by simpa using hj) (by omega)).1
      rw [e] at c0 c1
      rw [Nat.zero_add] at c0 c1
      exact ⟨c0, c1⟩
end Go.Proofs.Ythlibdpemocpmaa
