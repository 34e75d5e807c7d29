/- slices.SortFunc over the places, by suffix.Order's second closure. -/
import Derived.Test.YthlibdpemocpmaaSuffMem
namespace Go.Proofs.Ythlibdpemocpmaa
set_option linter.unusedVariables false
set_option linter.unusedSimpArgs false
open Go.RowKit Go.Sort Go.Shelf Go.Lib

def fi (l : List (Fin 24)) : List Int := l.map fun x => (x.val : Int)
def encF (x : Fin 24) : Value := .int .i64 (x.val : Int)
theorem fi_len (l : List (Fin 24)) : (fi l).length = l.length := by simp [fi]

theorem heap_sorted {w : World} {b m : Nat} {d : Array (Fin 24)} {os : Array Obj} {cur : Array Value} {t : TypeId} {fr : Nat × Nat} (h : w.heap[b]? = some (.cells cur t fr)) :
    (sortWorld encF w b 0 m d os).heap[b]? = some (.cells (putCells encF 0 d cur) t fr) := by
  have hlt := (Array.getElem?_eq_some_iff.1 h).1
  unfold sortWorld
  rw [heap_grow_old _ _ (by rw [size_putRow]; exact hlt)]
  show (w.heap.modify b _)[b]? = _
  rw [Array.getElem?_modify, if_pos rfl, h]
  rfl

theorem grown_sorted (w : World) (b m : Nat) (d : Array (Fin 24)) (os : Array Obj) : w.grownBy (sortWorld encF w b 0 m d os) (some b) := by
  unfold sortWorld
  refine ⟨rfl, rfl, rfl, by rw [size_grow, size_putRow]; exact Nat.le_add_right _ _, fun k hk hne => ?_⟩
  rw [heap_grow_old _ _ (by rw [size_putRow]; show k < w.heap.size; omega)]
  show (w.heap.modify b _)[k]? = w.heap[k]?
  rw [Array.getElem?_modify, if_neg (fun e => hne (by rw [e]))]

theorem own_parts {w : World} {base b n cap : Nat} {l : List Int} (h : Own w base (.slice (some ⟨b, 0, none⟩) n cap) l) : n = l.length ∧ ∃ cur : Array Value, base ≤ b ∧ w.heap[b]? = some (.cells cur 3 (0, 0)) ∧ l.length ≤ cap ∧ cap ≤ maxLen ∧ cur.size = cap ∧ cur.toList.take l.length = ints l := by
  rcases h.2 with ⟨h0, _⟩ | ⟨g, cap', cur, h0, h1, h2, h3, h4, h5, h6⟩
  · cases h0
  · cases h0
    refine ⟨rfl, cur, h1, h2, h3, h4, by rw [h5, Nat.mul_one], ?_⟩
    rw [Nat.mul_one] at h6
    exact h6
theorem own_mk {w : World} {base b n cap : Nat} {l : List Int} {cur : Array Value} (h0 : n = l.length) (h1 : base ≤ b) (h2 : w.heap[b]? = some (.cells cur 3 (0, 0))) (h3 : l.length ≤ cap) (h4 : cap ≤ maxLen) (h5 : cur.size = cap) (h6 : cur.toList.take l.length = ints l) :
    Own w base (.slice (some ⟨b, 0, none⟩) n cap) l := by
  subst h0
  exact ⟨by rw [ints_len, Nat.mul_one], .inr ⟨b, cap, cur, rfl, h1, h2, h3, h4, by rw [h5, Nat.mul_one], by rw [Nat.mul_one]; exact h6⟩⟩

theorem own_sorted {w : World} {base b n cap m : Nat} {l : List Int} {d : Array (Fin 24)} {os : Array Obj} (h : Own w base (.slice (some ⟨b, 0, none⟩) n cap) l) (hd : d.size = l.length) :
    Own (sortWorld encF w b 0 m d os) base (.slice (some ⟨b, 0, none⟩) n cap) (fi d.toList) := by
  obtain ⟨h0, cur, h1, h2, h3, h4, h5, h6⟩ := own_parts h
  have hlen : (fi d.toList).length = l.length := by rw [fi_len]; simpa using hd
  refine own_mk (by rw [hlen]; exact h0) h1 (heap_sorted h2) (by omega) h4 (by unfold putCells; rw [Array.size_mapIdx]; exact h5) ?_
  refine List.ext_getElem? fun j => ?_
  by_cases hj : j < (fi d.toList).length
  · have hjd : j < d.size := by omega
    have hjc : j < cur.size := by omega
    rw [List.getElem?_take, if_pos hj, Array.getElem?_toList]
    unfold putCells
    rw [Array.getElem?_mapIdx, Array.getElem?_eq_getElem hjc]
    show some (if 0 ≤ j ∧ j < 0 + d.size then encF d[j - 0]! else cur[j]) = _
    rw [if_pos ⟨Nat.zero_le _, by omega⟩, Nat.sub_zero, getElem!_pos d j hjd]
    unfold ints fi encF
    simp [hjd]
  · rw [List.getElem?_eq_none (by rw [List.length_take]; omega), List.getElem?_eq_none (by rw [ints_len]; omega)]

theorem LessAt.kept {w w' : World} {ba bk br g n c k b : Nat} {rk : List Int} (h : LessAt w ba bk br g n c k rk) (hg : w.grownBy w' (some b)) (n1 : ba ≠ b) (n2 : bk ≠ b) (n3 : br ≠ b) (n4 : g ≠ b) : LessAt w' ba bk br g n c k rk where
  ba := (hg.cell_far ⟨ba, 0, none⟩ (World.block_lt_of_cell? w _ h.ba) (fun e => n1 (by injection e))).trans h.ba
  bk := (hg.cell_far ⟨bk, 0, none⟩ (World.block_lt_of_cell? w _ h.bk) (fun e => n2 (by injection e))).trans h.bk
  br := (hg.cell_far ⟨br, 0, none⟩ (World.block_lt_of_cell? w _ h.br) (fun e => n3 (by injection e))).trans h.br
  len := h.len
  ints := fun j x hx => (hg.cell_far ⟨g, j, none⟩ (World.block_lt_of_cell? w _ (h.ints j x hx)) (fun e => n4 (by injection e))).trans (h.ints j x hx)

theorem sort2 (w : World) (base b cap : Nat) (l : List (Fin 24)) (ba bk br g n c k : Nat) (rk : List Int) (ho : Own w base (.slice (some ⟨b, 0, none⟩) l.length cap) (fi l)) (hL : LessAt w ba bk br g n c k rk) (hk : k ≤ 100) (hl : l.length ≤ 24)
    (n1 : ba ≠ b) (n2 : bk ≠ b) (n3 : br ≠ b) (n4 : g ≠ b) :
    Calls Try.prog 46 #[.slice (some ⟨b, 0, none⟩) l.length cap, .func (.func 45) #[] #[.pointer (some ⟨ba, 0, none⟩), .pointer (some ⟨bk, 0, none⟩)]] w fun e w' =>
      e = .returned (.tuple #[]) ∧ ∃ l', l'.Perm l ∧ Own w' base (.slice (some ⟨b, 0, none⟩) l.length cap) (fi l') ∧ w.grownBy w' (some b) := by
  have eg : ∀ args w, (callFunc 45 args).run Try.prog w = .ok (.enter 45 args) w := enters_of Try.func45 (by kernel_rfl) rfl
  have hcmp : CmpLays1 Try.prog 45 #[.pointer (some ⟨ba, 0, none⟩), .pointer (some ⟨bk, 0, none⟩)] encF (fun x y : Fin 24 => cmpR rk (k / 2) x.val y.val) b 0 l.toArray.size w := fun m os dk _ x y =>
    less_any _ ba bk br g n c k rk (hL.kept (grown_sorted w b m dk os) n1 n2 n3 n4) hk x.val y.val (by omega) (by omega)
  obtain ⟨_, cur, _, hcur, _, _, _, htake⟩ := own_parts ho
  have hH : Holds encF w b 0 l.toArray := fun j hj => by
    have hj' : j < l.length := by simpa using hj
    refine ⟨?_, Own.frozenAt ho _⟩
    rw [Nat.zero_add, Own.cellAt ho (j := j) (x := (l[j].val : Int)) (by simp [fi, hj'])]
    unfold encF
    rw [getElem!_pos l.toArray j hj]
    simp
  refine (Any.slices_SortFunc Try.sortInt encF (fun _ => rfl) _ (swo_cmpR rk (k / 2)) 45 _ b 0 cap l.toArray w eg hcmp hH (Array.getElem?_eq_some_iff.1 hcur).1 (by simp; omega)).mono ?_
  rintro e w' ⟨rfl, d', m, os, ⟨hsz, _, hp⟩, _, rfl⟩
  have hsz' : d'.size = l.length := by simpa using hsz
  have e1 : d'.extract 0 l.toArray.size = d' := by rw [← hsz]; exact Array.extract_size
  rw [e1, Array.extract_size] at hp
  exact ⟨rfl, d'.toList, hp, own_sorted ho (by rw [fi_len]; exact hsz'), grown_sorted _ _ _ _ _⟩

/-- Nothing to be sorted. -/
theorem sort2_none (w : World) (A : Option Addr) (c : Nat) (fv : Value) : Calls Try.prog 46 #[.slice A 0 c, fv] w fun e w' => e = .returned (.tuple #[]) ∧ w' = w :=
  AnyF.slices_SortFunc_none { Try.sortInt with } A c fv w
end Go.Proofs.Ythlibdpemocpmaa
