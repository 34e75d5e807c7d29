/- The search by breadth; a queue that is resliced; appending nothing. -/
import Derived.Test.YthlibdpemocpmaaManyOps
import Derived.Deep.AppendSrc
import Derived.ArgAppend
namespace Go
set_option linter.unusedVariables false
/-- 'append(v, nil...)': nothing turns. -/
theorem run_append_nilsrc {P : Program} (w : World) (base : Nat) (t ty e : TypeId) (i : TypeInfo) (size : Nat) (ht : P.underlying t = some (.slice e)) (hi : P.info? e = some i) (hsize : i.size = size)
    (v : Value) (n : Nat) (xs : List Value) (hown : w.ownsRow base e size v n xs) : (Builtin.append_ #[t, t] ty #[v, .slice none 0 0]).run P w = .ok v w := by
  rcases hown.2 with ⟨rfl, rfl⟩ | ⟨g, cap, cur, rfl, _, hg, hnc, hcm, hcs, htk⟩
  · have h1 := run_firstCells_none (P := P) w i.size 0 0 0
    simp [Builtin.append_, run_underlying ht, sizeOf, typeInfo, hi, Builtin.lenOf, h1]
  · have := run_append_room_src (P := P) w t t ty e i ht hi g 0 n cap (.slice none 0 0) 0 [] (Src.ofNil w ht 0) hnc (fun j hj => absurd hj (Nat.not_lt_zero _)) (fun j hj => absurd hj (Nat.not_lt_zero _))
    simpa [World.setCells] using this

theorem step_append_nilsrc {P : Program} (w : World) {ops : Array Oper} {o : Oper} {a : Act} {K : Act → World → Prop} {Q : Exit → Act → World → Prop} {E : Prop} (hgd : o.guard = none) (s x : Operand) (t : TypeId)
    (ho : o.op = .call { callee := .builtin .append, args := #[s, x], argTypes := #[t, t] })
    (base : Nat) (e : TypeId) (i : TypeInfo) (size : Nat) (ht : P.underlying t = some (.slice e)) (hi : P.info? e = some i) (hsize : i.size = size)
    (v : Value) (n : Nat) (xs : List Value) (hs : a.eval s = v) (hown : w.ownsRow base e size v n xs) (hx : a.eval x = .slice none 0 0) (h : K (a.put o.dst v) w) :
    if Region.wanted o (yielded ops a.tmps) = true then Oper.wp P o a w K Q else E := by
  have hw : Region.wanted o (yielded ops a.tmps) = true := by simp [Region.wanted, hgd]
  rw [if_pos hw]
  have hr := run_append_nilsrc (P := P) w base t o.type e i size ht hi hsize v n xs hown
  unfold Oper.wp execOp
  simp only [ho, resolve, invoke, builtin, Sem.run_bind, Sem.run_pure, Result.andThen_ok, List.map_toArray, List.map_cons, List.map_nil, hs, hx, hr]
  exact h
end Go
namespace Go.Proofs.Ythlibdpemocpmaa
set_option linter.unusedVariables false
set_option linter.unusedSimpArgs false
open Go.RowKit Go.Maps

/-! ### The order of the search -/
/-- qs: what has been put into the queue; h of it have been worked off; the parents stand before place k. -/
structure Bfs (ps qs : List (List Nat)) (h k : Nat) : Prop where
  head : qs[0]? = some []
  sub : ∀ q ∈ qs, q ∈ ps
  nd : qs.Nodup
  dep : qs.Pairwise fun a b => a.length ≤ b.length
  par : ∀ p c, p ++ [c] ∈ qs → ∃ i, i < k ∧ qs[i]? = some p
  done : ∀ i, i < h → ∀ p, qs[i]? = some p → ∀ c, p ++ [c] ∈ ps → p ++ [c] ∈ qs

section
variable {ps qs : List (List Nat)} {h k : Nat} {p : List Nat}

theorem bfs_start (hC : Clo ps) : Bfs ps [[]] 0 0 :=
  ⟨rfl, fun q hq => by rw [List.mem_singleton] at hq; subst hq; exact hC.1, by simp, by simp, fun p c hp => by simp at hp, fun i hi => by omega⟩

theorem nd_idx (hn : qs.Nodup) {i j : Nat} {q : List Nat} (hi : qs[i]? = some q) (hj : qs[j]? = some q) : i = j := by
  obtain ⟨h1, h2⟩ := List.getElem?_eq_some_iff.1 hi
  obtain ⟨h3, h4⟩ := List.getElem?_eq_some_iff.1 hj
  rcases Nat.lt_trichotomy i j with e | e | e
  · exact absurd (h2.trans h4.symm) (List.pairwise_iff_getElem.1 hn i j h1 h3 e)
  · exact e
  · exact absurd (h4.trans h2.symm) (List.pairwise_iff_getElem.1 hn j i h3 h1 e)

theorem Bfs.begin (hB : Bfs ps qs h h) (hp : qs[h]? = some p) : Bfs ps qs h (h + 1) ∧ ∀ c, ¬ p ++ [c] ∈ qs :=
  ⟨⟨hB.head, hB.sub, hB.nd, hB.dep, fun p c hc => by obtain ⟨i, h1, h2⟩ := hB.par p c hc; exact ⟨i, by omega, h2⟩, hB.done⟩, fun c hc => by
    obtain ⟨i, h1, h2⟩ := hB.par p c hc
    have := nd_idx hB.nd h2 hp
    omega⟩

theorem Bfs.level (hB : Bfs ps qs h k) (hC : Clo ps) (hp : qs[h]? = some p) : ∀ (n : Nat) (q : List Nat), q.length = n → q ∈ ps → q.length ≤ p.length → q ∈ qs
  | 0, q, hn, hq, hl => by
    have : q = [] := List.eq_nil_of_length_eq_zero hn
    subst this
    exact List.mem_of_getElem? hB.head
  | n + 1, q, hn, hq, hl => by
    have hne : q ≠ [] := fun e => by subst e; simp at hn
    have e := List.dropLast_concat_getLast hne
    rw [← e] at hq ⊢
    have hr := hC.2 _ _ hq
    have hlr : q.dropLast.length = n := by simp [hn]
    have hm := Bfs.level hB hC hp n _ hlr hr (by omega)
    obtain ⟨i, hi⟩ := List.getElem?_of_mem hm
    have hih : i < h := by
      rcases Nat.lt_trichotomy i h with h1 | h1 | h1
      · exact h1
      · subst h1
        rw [hp] at hi
        injection hi with hi
        rw [hi] at hl; omega
      · obtain ⟨h2, h3⟩ := List.getElem?_eq_some_iff.1 hi
        obtain ⟨h4, h5⟩ := List.getElem?_eq_some_iff.1 hp
        have := List.pairwise_iff_getElem.1 hB.dep h i h4 h2 h1
        rw [h3, h5] at this
        omega
    exact hB.done i hih _ hi _ hq

theorem Bfs.add (hB : Bfs ps qs h (h + 1)) (hp : qs[h]? = some p) {c : Nat} (hc : p ++ [c] ∈ ps) (hn : ¬ p ++ [c] ∈ qs) : Bfs ps (qs ++ [p ++ [c]]) h (h + 1) := by
  obtain ⟨hh, _⟩ := List.getElem?_eq_some_iff.1 hp
  have hlen : ∀ a ∈ qs, a.length ≤ p.length + 1 := fun a ha => by
    by_cases e : a = []
    · subst e; simp
    · have e2 := List.dropLast_concat_getLast e
      rw [← e2] at ha
      obtain ⟨i, h1, h2⟩ := hB.par _ _ ha
      obtain ⟨h3, h4⟩ := List.getElem?_eq_some_iff.1 h2
      obtain ⟨h5, h6⟩ := List.getElem?_eq_some_iff.1 hp
      have h7 : a.dropLast.length ≤ p.length := by
        by_cases e3 : i = h
        · subst e3; rw [h4] at h6; rw [h6]; exact Nat.le_refl _
        · have := List.pairwise_iff_getElem.1 hB.dep i h h3 h5 (by omega)
          rw [h4, h6] at this
          exact this
      simp at h7; omega
  refine ⟨?_, fun q hq => ?_, ?_, ?_, fun p' c' hq => ?_, fun i hi p' hp' c' hc' => ?_⟩
  · rw [List.getElem?_append_left (by omega)]; exact hB.head
  · rcases List.mem_append.1 hq with h1 | h1
    · exact hB.sub q h1
    · rw [List.mem_singleton] at h1; subst h1; exact hc
  · rw [List.nodup_append]
    exact ⟨hB.nd, by simp, fun a ha b hb => by rw [List.mem_singleton] at hb; rintro rfl; exact hn (hb ▸ ha)⟩
  · rw [List.pairwise_append]
    exact ⟨hB.dep, by simp, fun a ha b hb => by
      rw [List.mem_singleton] at hb
      subst hb
      have := hlen a ha
      simp; omega⟩
  · rcases List.mem_append.1 hq with h1 | h1
    · obtain ⟨i, h2, h3⟩ := hB.par p' c' h1
      exact ⟨i, h2, by rw [List.getElem?_append_left (List.getElem?_eq_some_iff.1 h3).1]; exact h3⟩
    · rw [List.mem_singleton] at h1
      obtain ⟨h2, _⟩ := List.append_inj' h1 rfl
      subst h2
      exact ⟨h, by omega, by rw [List.getElem?_append_left hh]; exact hp⟩
  · rw [List.getElem?_append_left (by omega)] at hp'
    exact List.mem_append_left _ (hB.done i hi p' hp' c' hc')

theorem Bfs.next (hB : Bfs ps qs h (h + 1)) (hp : qs[h]? = some p) (hall : ∀ c, p ++ [c] ∈ ps → p ++ [c] ∈ qs) : Bfs ps qs (h + 1) (h + 1) :=
  ⟨hB.head, hB.sub, hB.nd, hB.dep, hB.par, fun i hi p' hp' c hc => by
    by_cases e : i = h
    · subst e
      rw [hp] at hp'
      injection hp' with hp'
      subst hp'
      exact hall c hc
    · exact hB.done i (by omega) p' hp' c hc⟩

theorem Bfs.final (hB : Bfs ps qs qs.length k) (hC : Clo ps) : ∀ (n : Nat) (q : List Nat), q.length = n → q ∈ ps → q ∈ qs
  | 0, q, hn, hq => by
    have : q = [] := List.eq_nil_of_length_eq_zero hn
    subst this
    exact List.mem_of_getElem? hB.head
  | n + 1, q, hn, hq => by
    have hne : q ≠ [] := fun e => by subst e; simp at hn
    have e := List.dropLast_concat_getLast hne
    rw [← e] at hq ⊢
    have hm := Bfs.final hB hC n _ (by simp [hn]) (hC.2 _ _ hq)
    obtain ⟨i, hi⟩ := List.getElem?_of_mem hm
    exact hB.done i (List.getElem?_eq_some_iff.1 hi).1 _ hi _ hq
theorem Bfs.len (hB : Bfs ps qs h k) : qs.length ≤ ps.length := hB.nd.length_le_of_subset hB.sub
end

/-! ### The queue in memory -/
def QAt (w : World) (B : Nat) (v : Value) (l : List Int) : Prop :=
  ∃ g off cap cur, v = .slice (some ⟨g, off, none⟩) l.length cap ∧ B ≤ g ∧ w.heap[g]? = some (.cells cur 3 (0, 0)) ∧ l.length ≤ cap ∧ off + cap ≤ cur.size ∧ ∀ i x, l[i]? = some x → cur[off + i]? = some (.int .i64 x)

section
variable {w w' : World} {B : Nat} {v : Value} {l : List Int}
theorem QAt.kept {row : Option Nat} (h : QAt w B v l) (hg : w.grownBy w' row) (hne : v.ownBlock ≠ row) : QAt w' B v l := by
  obtain ⟨g, off, cap, cur, rfl, h1, h2, h3⟩ := h
  exact ⟨g, off, cap, cur, rfl, h1, (hg.block g (Array.getElem?_eq_some_iff.1 h2).1 hne).trans h2, h3⟩
theorem QAt.below (h : QAt w B v l) (hb : Below w.heap.size w w') : QAt w' B v l := by
  obtain ⟨g, off, cap, cur, rfl, h1, h2, h3⟩ := h
  exact ⟨g, off, cap, cur, rfl, h1, (hb.block g (Array.getElem?_eq_some_iff.1 h2).1).trans h2, h3⟩
theorem QAt.ne (h : QAt w B v l) {b : Nat} {o : Obj} (hb : w.heap[b]? = some o) (ho : ∀ cs t f, o ≠ .cells cs t f) : v.ownBlock ≠ some b := by
  obtain ⟨g, off, cap, cur, rfl, h1, h2, h3⟩ := h
  intro e
  injection e with e
  have e : g = b := e
  rw [e, hb] at h2
  injection h2 with h2
  exact ho _ _ _ h2
theorem QAt.lt (h : QAt w B v l) : ∀ k, v.ownBlock = some k → B ≤ k ∧ k < w.heap.size := by
  obtain ⟨g, off, cap, cur, rfl, h1, h2, h3⟩ := h
  intro k e
  injection e with e
  have e : g = k := e
  subst e
  exact ⟨h1, (Array.getElem?_eq_some_iff.1 h2).1⟩
theorem q_start (w : World) (x : Int) (B : Nat) (hB : B ≤ w.heap.size) : QAt (w.alloc (.cells #[.int .i64 x] 3)) B (.slice (some ⟨w.heap.size, 0, none⟩) 1 1) [x] :=
  ⟨w.heap.size, 0, 1, _, rfl, hB, Go.Deep.blk_alloc_new w _, Nat.le_refl _, Nat.le_refl _, fun i y hy => by
    match i, hy with
    | 0, hy => simp at hy; subst hy; rfl⟩
theorem q_tail {x : Int} {g off n cap : Nat} (h : QAt w B (.slice (some ⟨g, off, none⟩) n cap) (x :: l)) : n = l.length + 1 ∧ w.cell? ⟨g, off, none⟩ = some (.int .i64 x) ∧ l.length + 1 ≤ cap ∧
    QAt w B (if cap = 1 then .slice (some ⟨g, off, none⟩) l.length (cap - 1) else .slice (some ⟨g, off + 1, none⟩) l.length (cap - 1)) l := by
  obtain ⟨g', off', cap', cur, hv, h1, h2, h3, h4, h5⟩ := h
  injection hv with e1 e2 e3
  injection e1 with e1
  injection e1 with e1 e4
  subst e1 e4 e3
  have hl : (x :: l).length = l.length + 1 := rfl
  rw [hl] at h3 e2
  refine ⟨e2, ?_, h3, ?_⟩
  · rw [cell_of_row w g off cur 3 (0, 0) h2]
    exact h5 0 x rfl
  · by_cases e : cap = 1
    · rw [if_pos e]
      have hl0 : l.length = 0 := by omega
      exact ⟨g, off, cap - 1, cur, rfl, h1, h2, by omega, by omega, fun i y hy => by
        have := (List.getElem?_eq_some_iff.1 hy).1; omega⟩
    · rw [if_neg e]
      exact ⟨g, off + 1, cap - 1, cur, rfl, h1, h2, by omega, by omega, fun i y hy => by
        have := h5 (i + 1) y (by simpa using hy)
        rw [← this]; congr 1; omega⟩
end

section
variable {ops : Array Oper} {rest : List Oper} {o : Oper} {a : Act} {Q : Exit → Act → World → Prop} (w : World)
theorem wp_append_q (hg : o.guard = none) (s x : Operand) (ho : o.op = .call { callee := .builtin .append, args := #[s, x], argTypes := #[28, 28] })
    (B : Nat) (v : Value) (l : List Int) (hs : a.eval s = v) (hown : QAt w B v l) (b c : Nat) (y : Int) (hx : a.eval x = .slice (some ⟨b, 0, none⟩) 1 c)
    (hc : w.cell? ⟨b, 0, none⟩ = some (.int .i64 y)) (hlen : l.length ≤ 1000000) (hB : B ≤ w.heap.size)
    (h : ∀ v' w', QAt w' B v' (l ++ [y]) → w.grownBy w' v.ownBlock → (v'.ownBlock = v.ownBlock ∨ ∃ k, w.heap.size ≤ k ∧ v'.ownBlock = some k) → wpList Try.prog ops Q rest (a.put o.dst v') w') : wpList Try.prog ops Q (o :: rest) a w := by
  obtain ⟨i0, hi, hz0, hz1, hz2⟩ := info_parts info_int
  obtain ⟨g, off, cap, cur, rfl, h1, h2, h3, h4, h5⟩ := hown
  have hcell : ∀ j, w.cell? ⟨g, j, none⟩ = cur[j]? := fun j => cell_of_row w g j cur 3 (0, 0) h2
  have hlast : (l ++ [y]).length = l.length + 1 := by simp
  refine wpList_append_arg w hg s x 28 ho 3 i0 (.int .i64 0) 1 8 Try.underlying28 hi hz0 hz1 hz2 rfl (by decide) g off l.length cap (ints l) hs (by simp) (fun j u hj => ?_) ⟨b, 0, none⟩ 1 c [.int .i64 y] hx rfl
    (fun j u hj => by
      match j, hj with
      | 0, hj => simp at hj; subst hj; simpa [Addr.add] using hc) (fun u hu => by simp at hu; subst hu; rfl) (fun hr j hj => ?_) (by unfold maxLen; omega) (by omega) (fun hr => ?_) (fun hr v' w' ho' hg' => ?_)
  · have hj2 : j < l.length := by have := (List.getElem?_eq_some_iff.1 hj).1; simpa using this
    rw [hcell]
    simp [ints, hj2] at hj
    rw [← hj]
    exact h5 j _ (List.getElem?_eq_getElem hj2)
  · have hj0 : j = 0 := by simp at hj; omega
    subst hj0
    rw [hcell]
    exact ⟨by simp; omega, frozen_of_row w g _ cur 3 h2⟩
  · rw [show w.setCells g (off + l.length * 1) [.int .i64 y] = w.setCell ⟨g, off + l.length, none⟩ (.int .i64 y) from by simp [World.setCells]]
    refine h _ _ ⟨g, off, cap, cur.setIfInBounds (off + l.length) (.int .i64 y), by rw [hlast], h1, heap_setCell_same w g _ cur 3 _ h2, by rw [hlast]; omega, by simpa using h4, fun i z hz => ?_⟩ (grown_set w g _ _) (.inl rfl)
    by_cases e : i < l.length
    · rw [List.getElem?_append_left e] at hz
      rw [Array.getElem?_setIfInBounds_ne (by omega)]
      exact h5 i z hz
    · have hi : i = l.length := by have := (List.getElem?_eq_some_iff.1 hz).1; simp at this; omega
      subst hi
      simp at hz
      subst hz
      rw [Array.getElem?_setIfInBounds_self_of_lt (by omega)]
  · obtain ⟨g', cap', cur', hv', hb', hg2, hn', hm', hs', htk⟩ : ∃ g' cap' cur', v' = .slice (some ⟨g', 0, none⟩) (l.length + 1) cap' ∧ w.heap.size ≤ g' ∧ w'.heap[g']? = some (.cells cur' 3 (0, 0)) ∧ l.length + 1 ≤ cap' ∧ cap' ≤ maxLen ∧ cur'.size = cap' * 1 ∧ cur'.toList.take ((l.length + 1) * 1) = ints l ++ [.int .i64 y] := by
      rcases ho'.2 with ⟨_, h0⟩ | ⟨g', cap', cur', e1, e2, e3, e4, e5, e6, e7⟩
      · omega
      · exact ⟨g', cap', cur', e1, e2, e3, e4, e5, e6, e7⟩
    subst hv'
    refine h _ _ ⟨g', 0, cap', cur', by rw [hlast], by omega, hg2, by rw [hlast]; omega, by omega, fun i z hz => ?_⟩ ⟨hg'.os, hg'.tape, hg'.output, hg'.size, fun k hk _ => hg'.block k hk (by simp)⟩ (.inr ⟨g', hb', rfl⟩)
    have hi : i < l.length + 1 := by have := (List.getElem?_eq_some_iff.1 hz).1; simpa using this
    rw [Nat.zero_add, ← Array.getElem?_toList]
    have e1 : cur'.toList[i]? = (cur'.toList.take ((l.length + 1) * 1))[i]? := by rw [List.getElem?_take, if_pos (by omega)]
    rw [e1, htk, show ints l ++ [Value.int .i64 y] = ints (l ++ [y]) from by rw [ints_app]; rfl]
    exact ints_get' hz
end
end Go.Proofs.Ythlibdpemocpmaa
