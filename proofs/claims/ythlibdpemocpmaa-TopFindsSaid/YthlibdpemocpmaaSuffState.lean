/- suffix.Order: what lies in memory behind its first loop. -/
import Derived.Test.YthlibdpemocpmaaSuffSort
namespace Go.Proofs.Ythlibdpemocpmaa
set_option linter.unusedVariables false
set_option linter.unusedSimpArgs false
open Go.RowKit Go.Sort Go.Shelf Go.Lib

structure SMem (w wr : World) (s : ByteArray) (base N Bo Br Ba Bk D k : Nat) (vo vr : Value) (l : List (Fin 24)) (rk : List Int) : Prop where
  bO : Boxed wr Bo 28 vo
  bR : Boxed wr Br 28 vr
  bS : Boxed wr N 9 (.string s)
  bA : Boxed wr Ba 78 (.func (.func 44) #[] #[.pointer (some ⟨Br, 0, none⟩)])
  bK : Boxed wr Bk 3 (.int .i64 (k : Int))
  dD : wr.heap[D]? = some (.deferred (some []))
  oO : Own wr base vo (fi l)
  oR : Own wr base vr rk
  dj : Disj vo vr
  kO : vo.ownBlock ≠ some Bk
  kR : vr.ownBlock ≠ some Bk
  bel : Below w.heap.size w wr
  hb : base ≤ wr.heap.size
  hp : (l.map Fin.val).Perm (List.range s.size)
  hr : rk.length = s.size

section
variable {w wr w' : World} {s : ByteArray} {base N Bo Br Ba Bk D k r : Nat} {vo vr : Value} {l l' : List (Fin 24)} {rk : List Int}

/-- Block r is none of those. -/
structure Free (w : World) (N Bo Br Ba Bk D : Nat) (vo vr : Value) (r : Nat) : Prop where
  n1 : r ≠ Bo
  n2 : r ≠ Br
  n3 : r ≠ N
  n4 : r ≠ Ba
  n5 : r ≠ Bk
  n6 : r ≠ D
  n7 : vo.ownBlock ≠ some r
  n8 : vr.ownBlock ≠ some r
  n9 : w.heap.size ≤ r

theorem SMem.free (h : SMem w wr s base N Bo Br Ba Bk D k vo vr l rk) (hr : wr.heap.size ≤ r) : Free w N Bo Br Ba Bk D vo vr r := by
  have h1 := h.bO.lt
  have h2 := h.bR.lt
  have h3 := h.bS.lt
  have h4 := h.bA.lt
  have h5 := h.bK.lt
  have h6 := (Array.getElem?_eq_some_iff.1 h.dD).1
  have h9 := h.bel.size
  exact ⟨by omega, by omega, by omega, by omega, by omega, by omega, fun e => by have := (h.oO.lt r e).2; omega, fun e => by have := (h.oR.lt r e).2; omega, by omega⟩

theorem own_kept {v : Value} {L : List Int} {row : Option Nat} (h : Own wr base v L) (hg : wr.grownBy w' row) (hne : ∀ r, row = some r → v.ownBlock ≠ some r) : Own w' base v L := by
  refine World.ownsRow.kept h hg ?_
  cases e : v.ownBlock with
  | none => exact .inl rfl
  | some j => exact .inr fun e2 => hne j e2.symm e

theorem SMem.kept (h : SMem w wr s base N Bo Br Ba Bk D k vo vr l rk) {row : Option Nat} (hg : wr.grownBy w' row) (hf : ∀ r, row = some r → Free w N Bo Br Ba Bk D vo vr r) : SMem w w' s base N Bo Br Ba Bk D k vo vr l rk where
  bO := h.bO.kept hg fun e => (hf _ e.symm).n1 rfl
  bR := h.bR.kept hg fun e => (hf _ e.symm).n2 rfl
  bS := h.bS.kept hg fun e => (hf _ e.symm).n3 rfl
  bA := h.bA.kept hg fun e => (hf _ e.symm).n4 rfl
  bK := h.bK.kept hg fun e => (hf _ e.symm).n5 rfl
  dD := (hg.block D (Array.getElem?_eq_some_iff.1 h.dD).1 fun e => (hf _ e.symm).n6 rfl).trans h.dD
  oO := own_kept h.oO hg fun r e => (hf r e).n7
  oR := own_kept h.oR hg fun r e => (hf r e).n8
  dj := h.dj
  kO := h.kO
  kR := h.kR
  bel := h.bel.grown hg h.bel.size fun r e => (hf r e).n9
  hb := Nat.le_trans h.hb hg.size
  hp := h.hp
  hr := h.hr

theorem SMem.still (h : SMem w wr s base N Bo Br Ba Bk D k vo vr l rk) (hg : wr.grownBy w' none) : SMem w w' s base N Bo Br Ba Bk D k vo vr l rk := h.kept hg fun r e => by cases e

theorem SMem.alloc (h : SMem w wr s base N Bo Br Ba Bk D k vo vr l rk) (o : Obj) : SMem w (wr.alloc o) s base N Bo Br Ba Bk D k vo vr l rk := h.still (World.grownBy_alloc wr o none)

theorem deferred_not_own {v : Value} {L : List Int} (h : wr.heap[D]? = some (.deferred (some []))) (ho : Own wr base v L) : v.ownBlock ≠ some D := by
  intro e
  rcases ho.2 with ⟨e3, _⟩ | ⟨g, cap, cur, e3, _, hgb, _⟩
  · rw [e3] at e; cases e
  · rw [e3] at e
    obtain rfl : g = D := by simpa [Value.ownBlock] using e
    rw [h] at hgb; cases hgb

theorem box_not_own {B : Nat} {t : TypeId} {u v : Value} {L : List Int} (hb : Boxed wr B t u) (ht : t ≠ 3) (ho : Own wr base v L) : v.ownBlock ≠ some B := fun e => hb.not_row ht ho e.symm

theorem box_ne {B B' : Nat} {t t' : TypeId} {u u' : Value} (h : Boxed wr B t u) (h' : Boxed wr B' t' u') (ht : t ≠ t') : B ≠ B' := by
  rintro rfl
  have h1 : wr.heap[B]? = some (.cells #[u] t (0, 0)) := h
  have h2 : wr.heap[B]? = some (.cells #[u'] t' (0, 0)) := h'
  rw [h1] at h2
  injection h2 with h2
  injection h2 with _ h3
  exact ht h3

theorem box_not_deferred {B : Nat} {t : TypeId} {u : Value} (h : Boxed wr B t u) (hD : wr.heap[D]? = some (.deferred (some []))) : D ≠ B := by
  rintro rfl
  have h1 : wr.heap[D]? = some (.cells #[u] t (0, 0)) := h
  rw [h1] at hD
  cases hD

/-- The places have been sorted. -/
theorem SMem.sorted (h : SMem w wr s base N Bo Br Ba Bk D k vo vr l rk) (hg : wr.grownBy w' vo.ownBlock) (ho : Own w' base vo (fi l')) (hp : l'.Perm l) (hw : w.heap.size ≤ base) : SMem w w' s base N Bo Br Ba Bk D k vo vr l' rk where
  bO := h.bO.kept hg fun e => box_not_own h.bO (by decide) h.oO e.symm
  bR := h.bR.kept hg fun e => box_not_own h.bR (by decide) h.oO e.symm
  bS := h.bS.kept hg fun e => box_not_own h.bS (by decide) h.oO e.symm
  bA := h.bA.kept hg fun e => box_not_own h.bA (by decide) h.oO e.symm
  bK := h.bK.kept hg fun e => h.kO e.symm
  dD := (hg.block D (Array.getElem?_eq_some_iff.1 h.dD).1 fun e => deferred_not_own h.dD h.oO e.symm).trans h.dD
  oO := ho
  oR := own_kept h.oR hg fun r e e2 => h.dj r e e2
  dj := h.dj
  kO := h.kO
  kR := h.kR
  bel := h.bel.grown hg h.bel.size fun r e => by have := (h.oO.lt r e).1; omega
  hb := Nat.le_trans h.hb hg.size
  hp := (hp.map Fin.val).trans h.hp
  hr := h.hr

/-- rank = next. -/
theorem SMem.setR (h : SMem w wr s base N Bo Br Ba Bk D k vo vr l rk) {vn : Value} {ln : List Int} (ho : Own wr base vn ln) (hd : Disj vo vn) (hk : vn.ownBlock ≠ some Bk) (hn : ln.length = s.size) (hw : w.heap.size ≤ Br) (hne : Bo ≠ Br) : SMem w (wr.setCell ⟨Br, 0, none⟩ vn) s base N Bo Br Ba Bk D k vo vn l ln where
  bO := h.bO.kept (grownBy_setCell' _ _ _) fun e => by injection e with e; exact hne e
  bR := h.bR.set vn
  bS := h.bS.kept (grownBy_setCell' _ _ _) fun e => by injection e with e; exact box_ne h.bS h.bR (by decide) e
  bA := h.bA.kept (grownBy_setCell' _ _ _) fun e => by injection e with e; exact box_ne h.bA h.bR (by decide) e
  bK := h.bK.kept (grownBy_setCell' _ _ _) fun e => by injection e with e; exact box_ne h.bK h.bR (by decide) e
  dD := ((grownBy_setCell' wr Br vn).block D (Array.getElem?_eq_some_iff.1 h.dD).1 fun e => by injection e with e; exact box_not_deferred h.bR h.dD e).trans h.dD
  oO := own_kept h.oO (grownBy_setCell' _ _ _) fun r e => by injection e with e; rw [← e]; exact box_not_own h.bR (by decide) h.oO
  oR := own_kept ho (grownBy_setCell' _ _ _) fun r e => by injection e with e; rw [← e]; exact box_not_own h.bR (by decide) ho
  dj := hd
  kO := h.kO
  kR := hk
  bel := h.bel.setCell (p := ⟨Br, 0, none⟩) hw _
  hb := by simpa using h.hb
  hp := h.hp
  hr := hn

/-- k turns. -/
theorem SMem.setK (h : SMem w wr s base N Bo Br Ba Bk D k vo vr l rk) (k' : Nat) (x : Int) (hx : x = k') (hw : w.heap.size ≤ Bk) : SMem w (wr.setCell ⟨Bk, 0, none⟩ (.int .i64 x)) s base N Bo Br Ba Bk D k' vo vr l rk where
  bO := h.bO.kept (grownBy_setCell' _ _ _) fun e => by injection e with e; exact box_ne h.bO h.bK (by decide) e
  bR := h.bR.kept (grownBy_setCell' _ _ _) fun e => by injection e with e; exact box_ne h.bR h.bK (by decide) e
  bS := h.bS.kept (grownBy_setCell' _ _ _) fun e => by injection e with e; exact box_ne h.bS h.bK (by decide) e
  bA := h.bA.kept (grownBy_setCell' _ _ _) fun e => by injection e with e; exact box_ne h.bA h.bK (by decide) e
  bK := by rw [hx]; exact h.bK.set _
  dD := ((grownBy_setCell' wr Bk _).block D (Array.getElem?_eq_some_iff.1 h.dD).1 fun e => by injection e with e; exact box_not_deferred h.bK h.dD e).trans h.dD
  oO := own_kept h.oO (grownBy_setCell' _ _ _) fun r e => by injection e with e; rw [← e]; exact h.kO
  oR := own_kept h.oR (grownBy_setCell' _ _ _) fun r e => by injection e with e; rw [← e]; exact h.kR
  dj := h.dj
  kO := h.kO
  kR := h.kR
  bel := h.bel.setCell (p := ⟨Bk, 0, none⟩) hw _
  hb := by simpa using h.hb
  hp := h.hp
  hr := h.hr

/-- A new k. -/
theorem SMem.newK (h : SMem w wr s base N Bo Br Ba Bk D k vo vr l rk) : SMem w ((wr.alloc (.cells #[.int .i64 0] 3)).setCell ⟨wr.heap.size, 0, none⟩ (.int .i64 (k : Int))) s base N Bo Br Ba wr.heap.size D k vo vr l rk := by
  have ha := h.alloc (.cells #[.int .i64 0] 3)
  have h1 : SMem w (wr.alloc (.cells #[.int .i64 0] 3)) s base N Bo Br Ba wr.heap.size D 0 vo vr l rk :=
    ⟨ha.bO, ha.bR, ha.bS, ha.bA, Boxed.new wr _ _, ha.dD, ha.oO, ha.oR, ha.dj, fun e => by have := (h.oO.lt _ e).2; omega, fun e => by have := (h.oR.lt _ e).2; omega, ha.bel, ha.hb, ha.hp, ha.hr⟩
  exact h1.setK k _ rfl h.bel.size

theorem SMem.newK' (h : SMem w wr s base N Bo Br Ba Bk D k vo vr l rk) (k' : Nat) (x : Int) (hx : x = k') : SMem w (wr.alloc (.cells #[.int .i64 x] 3)) s base N Bo Br Ba wr.heap.size D k' vo vr l rk := by
  subst hx
  have ha := h.alloc (.cells #[.int .i64 (k' : Int)] 3)
  exact ⟨ha.bO, ha.bR, ha.bS, ha.bA, Boxed.new wr _ _, ha.dD, ha.oO, ha.oR, ha.dj, fun e => by have := (h.oO.lt _ e).2; omega, fun e => by have := (h.oR.lt _ e).2; omega, ha.bel, ha.hb, ha.hp, ha.hr⟩

/-- The end: the mark is taken off. -/
theorem SMem.end (h : SMem w wr s base N Bo Br Ba Bk D k vo vr l rk) {A : Option Addr} {c : Nat} (hv : vo = .slice A s.size c) (hw : w.heap.size ≤ D) :
    Sl (wr.putObj D (.deferred none)) (wr.putObj D (.deferred none)).heap.size A (ints (fi l)) ∧ (fi l).Perm ((List.range s.size).map fun i : Nat => (i : Int)) ∧ Below w.heap.size w (wr.putObj D (.deferred none)) := by
  have hg := grownBy_putObj' wr D (.deferred none)
  have ho := own_kept h.oO hg fun r e => by injection e with e; rw [← e]; exact deferred_not_own h.dD h.oO
  refine ⟨?_, ?_, h.bel.grown hg h.bel.size fun r e => by injection e with e; omega⟩
  · have hl : s.size = (fi l).length := by
      have e := h.hp.length_eq
      rw [List.length_map, List.length_range] at e
      rw [fi_len, e]
    rw [hv, hl] at ho
    exact ho.sl
  · have e : fi l = (l.map Fin.val).map fun i : Nat => (i : Int) := by unfold fi; rw [List.map_map]; rfl
    rw [e]
    exact h.hp.map _

theorem grown_drew_set (wr : World) (g j : Nat) (v : Value) : wr.grownBy (wr.drew.setCell ⟨g, j, none⟩ v) (some g) :=
  let h := grown_set wr.drew g j v
  ⟨h.os, h.tape, h.output, h.size, h.block⟩

theorem grown_grow2 (wr : World) (q : Nat) (os : Array Obj) : wr.grownBy (grow (wr.drew.drewN q) os) none :=
  ⟨rfl, rfl, rfl, by rw [size_grow]; exact Nat.le_add_right _ _, fun k hk _ => heap_grow_old _ _ hk⟩

theorem grown_grow (wr : World) (q : Nat) (os : Array Obj) : wr.grownBy (grow (wr.drewN q) os) none :=
  ⟨rfl, rfl, rfl, by rw [size_grow]; exact Nat.le_add_right _ _, fun k hk _ => heap_grow_old _ _ hk⟩

/-- The closures read this. -/
theorem SMem.less (h : SMem w wr s base N Bo Br Ba Bk D k vo vr l rk) {g n c : Nat} (hv : vr = .slice (some ⟨g, 0, none⟩) n c) : LessAt wr Ba Bk Br g n c k rk where
  ba := h.bA.cell
  bk := h.bK.cell
  br := by rw [← hv]; exact h.bR.cell
  len := by have := h.oR; rw [hv] at this; exact (own_parts this).1.symm
  ints := fun j x hx => by have := h.oR; rw [hv] at this; exact Own.cellAt this hx

/-- A list with something in it lies in a block of its own. -/
theorem own_form {v : Value} {L : List Int} (h : Own wr base v L) (hn : 0 < L.length) : ∃ g c, v = .slice (some ⟨g, 0, none⟩) L.length c := by
  rcases h.2 with ⟨_, h0⟩ | ⟨g, cap, cur, rfl, _⟩
  · omega
  · exact ⟨g, cap, rfl⟩

theorem SMem.len (h : SMem w wr s base N Bo Br Ba Bk D k vo vr l rk) : l.length = s.size := by
  have := h.hp.length_eq; simpa using this

/-- What stands at place i of the order. -/
theorem SMem.at (h : SMem w wr s base N Bo Br Ba Bk D k vo vr l rk) {i : Nat} (hi : i < s.size) : ∃ p : Nat, (fi l)[i]? = some (p : Int) ∧ p < s.size := by
  have hi' : i < l.length := by rw [h.len]; exact hi
  refine ⟨l[i].val, by simp [fi, hi'], ?_⟩
  have hm : l[i].val ∈ l.map Fin.val := List.mem_map_of_mem (List.getElem_mem hi')
  exact List.mem_range.1 (h.hp.mem_iff.1 hm)

theorem SMem.apart (h : SMem w wr s base N Bo Br Ba Bk D k vo vr l rk) {i j p q : Nat} (hi : (fi l)[i]? = some (p : Int)) (hj : (fi l)[j]? = some (q : Int)) (hne : i ≠ j) : p ≠ q := by
  rintro rfl
  have hnd : (l.map Fin.val).Nodup := h.hp.nodup_iff.2 List.nodup_range
  have e : ∀ {i : Nat}, (fi l)[i]? = some (p : Int) → (l.map Fin.val)[i]? = some p := fun {i} hh => by
    unfold fi at hh
    rw [List.getElem?_map] at hh ⊢
    cases e : l[i]? with
    | none => rw [e] at hh; simp at hh
    | some x =>
      rw [e] at hh
      have h2 : (x.val : Int) = p := by simpa using hh
      show some x.val = some p
      rw [show x.val = p by omega]
  have h1 := e hi
  have h2 := e hj
  obtain ⟨l1, e1⟩ := List.getElem?_eq_some_iff.1 h1
  obtain ⟨l2, e2⟩ := List.getElem?_eq_some_iff.1 h2
  exact hne ((List.getElem_inj hnd).1 (e1.trans e2.symm))

theorem SMem.sort (h : SMem w wr s base N Bo Br Ba Bk D k vo vr l rk) (hk : k ≤ 100) (hs : s.size ≤ 24) (hw : w.heap.size ≤ base) :
    Calls Try.prog 46 #[vo, .func (.func 45) #[] #[.pointer (some ⟨Ba, 0, none⟩), .pointer (some ⟨Bk, 0, none⟩)]] wr fun e w' =>
      e = .returned (.tuple #[]) ∧ ∃ l', SMem w w' s base N Bo Br Ba Bk D k vo vr l' rk := by
  by_cases hn : s.size = 0
  · obtain ⟨A, c, e⟩ := h.oO.shape
    have hl : (fi l).length = 0 := by rw [fi_len, h.len]; exact hn
    rw [hl] at e
    rw [e]
    refine (sort2_none wr A c _).mono ?_
    rintro e1 w1 ⟨rfl, rfl⟩
    exact ⟨rfl, l, by rw [← e]; exact h⟩
  · obtain ⟨g, c, e⟩ := own_form h.oR (by rw [h.hr]; omega)
    obtain ⟨go, co, eo⟩ := own_form h.oO (by rw [fi_len, h.len]; omega)
    have hL := h.less e
    have ho := h.oO
    have hob : vo.ownBlock = some go := by rw [eo]; rfl
    have hrb : vr.ownBlock = some g := by rw [e]; rfl
    rw [eo, fi_len] at ho
    have hs2 := sort2 wr base go co l Ba Bk Br g _ c k rk ho hL hk (by rw [h.len]; exact hs)
      (fun e2 => box_not_own h.bA (by decide) h.oO (by rw [hob, e2])) (fun e2 => h.kO (by rw [hob, e2])) (fun e2 => box_not_own h.bR (by decide) h.oO (by rw [hob, e2])) (fun e2 => h.dj go hob (by rw [hrb, e2]))
    rw [← fi_len, ← eo] at hs2
    refine hs2.mono ?_
    rintro e1 w1 ⟨rfl, l', hp, ho', hg⟩
    refine ⟨rfl, l', h.sorted (by rw [hob]; exact hg) ho' hp hw⟩
end
end Go.Proofs.Ythlibdpemocpmaa
