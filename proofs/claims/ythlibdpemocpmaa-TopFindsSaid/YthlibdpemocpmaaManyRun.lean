/- The search by breadth in memory: what each operation keeps. -/
import Derived.Test.YthlibdpemocpmaaManyGrow
import Derived.Test.YthlibdpemocpmaaManyBfs
import Derived.Test.YthlibdpemocpmaaManyStep
namespace Go.Proofs.Ythlibdpemocpmaa
set_option linter.unusedVariables false
set_option linter.unusedSimpArgs false
open Go.RowKit Go.Maps

theorem own_cells {w : World} {base : Nat} {e : TypeId} {size n : Nat} {v : Value} {xs : List Value} {k : Nat} (h : w.ownsRow base e size v n xs) (hk : v.ownBlock = some k) : ∃ cs t f, w.heap[k]? = some (.cells cs t f) := by
  rcases h.2 with ⟨rfl, _⟩ | ⟨g, cap, cur, rfl, _, hg, _⟩
  · cases hk
  · injection hk with hk
    have hk : g = k := hk
    subst hk
    exact ⟨_, _, _, hg⟩
theorem QAt.cells {w : World} {B : Nat} {v : Value} {l : List Int} {k : Nat} (h : QAt w B v l) (hk : v.ownBlock = some k) : ∃ cs t f, w.heap[k]? = some (.cells cs t f) := by
  obtain ⟨g, off, cap, cur, rfl, h1, h2, h3⟩ := h
  injection hk with hk
  have hk : g = k := hk
  subst hk
  exact ⟨_, _, _, h2⟩

theorem IRange.row {w w' : World} {b r n cnt : Nat} {F : Nat → Option Nat} {left : Nat → Bool} {row : Option Nat} (h : IRange w b r n F left cnt) (hg : w.grownBy w' row) (hrow : ∀ k, row = some k → ∃ cs t f, w.heap[k]? = some (.cells cs t f)) : IRange w' b r n F left cnt := by
  refine h.kept hg (fun e => ?_) (fun e => ?_)
  · obtain ⟨cs, t, f, h1⟩ := hrow b e.symm
    obtain ⟨es, clock, h2⟩ := h.map.isMap
    rw [h1] at h2; injection h2 with h2; cases h2
  · obtain ⟨cs, t, f, h1⟩ := hrow r e.symm
    obtain ⟨o, h2, h3⟩ := h.notCells
    rw [h1] at h2; injection h2 with h2; exact h3 _ _ _ h2.symm
theorem IRange.notMap {w : World} {b r n cnt : Nat} {F : Nat → Option Nat} {left : Nat → Bool} (h : IRange w b r n F left cnt) : ∃ o, w.heap[r]? = some o ∧ ∀ es c, o ≠ .map es c := by
  obtain ⟨D, l, ⟨es, clock, since, seen, c0, _, _, _, _, hr, _⟩, h4⟩ := h
  exact ⟨_, hr, fun es c e => by cases e⟩

section
variable {w w' wr : World} {B g cap : Nat} {ps : List (List Nat)} {mb fl : Nat → Nat} {en : Nat → Value} {el : Nat → List Int} {row : Option Nat}
theorem Mac.keptRow (h : Mac w B g cap ps mb fl en el) (hg : w.grownBy w' row) (h1 : row ≠ some g) (h2 : ∀ j, j < ps.length → row ≠ some (mb j)) (h3 : ∀ j, j < ps.length → (en j).ownBlock = none ∨ (en j).ownBlock ≠ row) : Mac w' B g cap ps mb fl en el :=
  ⟨h.row.kept hg (.inr (fun e => h1 e.symm)), fun j hj => (h.maps j hj).kept (hg.block _ (h.maps j hj).lt (fun e => h2 j hj e.symm)), h.mlo, h.minj, fun j hj => World.ownsRow.kept (h.ends j hj) hg (h3 j hj), h.dis, h.disv, h.nil⟩
theorem Mac.gcells (h : Mac w B g cap ps mb fl en el) : ∃ cs t f, w.heap[g]? = some (.cells cs t f) := own_cells h.row rfl
end

/-- The machine, and the queue. -/
structure MQ (w wr : World) (ps : List (List Nat)) (g cap : Nat) (mb fl : Nat → Nat) (en : Nat → Value) (el : Nat → List Int) (todo : Value) (tl : List Int) : Prop where
  mac : Mac wr w.heap.size g cap ps mb fl en el
  below : Below w.heap.size w wr
  q : QAt wr w.heap.size todo tl
  qg : todo.ownBlock ≠ some g
  qe : ∀ j, j < ps.length → Disj todo (en j)

/-- Iterators go on. -/
def ItK (w w' : World) : Prop := ∀ b r n F left cnt, IRange w b r n F left cnt → IRange w' b r n F left cnt

section
variable {w wr wr' : World} {g cap : Nat} {ps : List (List Nat)} {mb fl fl' : Nat → Nat} {en : Nat → Value} {el el' : Nat → List Int} {todo v' : Value} {tl : List Int} {j : Nat}

theorem MQ.drewN (h : MQ w wr ps g cap mb fl en el todo tl) (m : Nat) : MQ w (wr.drewN m) ps g cap mb fl en el todo tl := ⟨⟨h.mac.row, h.mac.maps, h.mac.mlo, h.mac.minj, h.mac.ends, h.mac.dis, h.mac.disv, h.mac.nil⟩, below_dn h.below m, h.q, h.qg, h.qe⟩
theorem MQ.drew (h : MQ w wr ps g cap mb fl en el todo tl) : MQ w wr.drew ps g cap mb fl en el todo tl := ⟨⟨h.mac.row, h.mac.maps, h.mac.mlo, h.mac.minj, h.mac.ends, h.mac.dis, h.mac.disv, h.mac.nil⟩, h.below.drew, h.q, h.qg, h.qe⟩
theorem ItK.drew (wr : World) : ItK wr wr.drew := fun b r n F left cnt h => h
theorem ItK.drewN (wr : World) (m : Nat) : ItK wr (wr.drewN m) := fun b r n F left cnt h => h
theorem ItK.trans {w w' w'' : World} (h : ItK w w') (k : ItK w' w'') : ItK w w'' := fun b r n F left cnt x => k b r n F left cnt (h b r n F left cnt x)

theorem MQ.congr (h : MQ w wr ps g cap mb fl en el todo tl) (h1 : ∀ j, j < ps.length → fl j = fl' j) (h2 : ∀ j, j < ps.length → el j = el' j) : MQ w wr ps g cap mb fl' en el' todo tl :=
  ⟨h.mac.congr h1 (fun _ _ => rfl) h2, h.below, h.q, h.qg, h.qe⟩

theorem MQ.fail (h : MQ w wr ps g cap mb fl en el todo tl) (j x : Nat) : MQ w (wr.setCell ⟨g, j * 3 + 1, none⟩ (.int .i64 (x : Int))) ps g cap mb (fun k => if k = j then x else fl k) en el todo tl ∧ ItK wr (wr.setCell ⟨g, j * 3 + 1, none⟩ (.int .i64 (x : Int))) := by
  have hs := grown_set wr g (j * 3 + 1) (.int .i64 (x : Int))
  have hB := h.mac.gB
  refine ⟨⟨h.mac.setFail j x, h.below.trans ⟨hs.os, hs.tape, hs.output, hs.size, fun k hk => hs.block k (by have := h.below.size; omega) (by intro e; injection e with e; omega)⟩, h.q.kept hs h.qg, h.qg, h.qe⟩, fun b r n F left cnt hI => ?_⟩
  exact hI.row hs fun k e => by injection e with e; subst e; exact h.mac.gcells

theorem MQ.ends {w2 : World} {v2 : Value} {l' : List Int} (h : MQ w wr ps g cap mb fl en el todo tl) (hj : j < ps.length)
    (hg : wr.grownBy w2 (en j).ownBlock) (ho : Own w2 w.heap.size v2 l') (hv : v2.ownBlock = (en j).ownBlock ∨ ∃ k, wr.heap.size ≤ k ∧ v2.ownBlock = some k) (hnil : l' = [] → v2 = .slice none 0 0) :
    MQ w (w2.setCell ⟨g, j * 3 + 2, none⟩ v2) ps g cap mb fl (fun k => if k = j then v2 else en k) (fun k => if k = j then l' else el k) todo tl ∧ ItK wr (w2.setCell ⟨g, j * 3 + 2, none⟩ v2) := by
  have hs := grown_set w2 g (j * 3 + 2) v2
  have hB := h.mac.gB
  have hbs := h.below.size
  have hgs := hg.size
  have hel := (h.mac.ends j hj).lt
  have hqe : todo.ownBlock ≠ (en j).ownBlock := fun e => by
    obtain ⟨tg, off, tc, cur, rfl, _⟩ := h.q
    exact h.qe j hj tg rfl e.symm
  have q2 := h.q.kept hg hqe
  have hg2 : w2.heap[g]? = wr.heap[g]? := hg.block g hB.2 (fun e => h.mac.disv j hj e.symm)
  refine ⟨⟨h.mac.setEnds hj hg ho hv hnil, ?_, q2.kept hs h.qg, h.qg, fun k hk => ?_⟩, fun b r n F left cnt hI => ?_⟩
  · refine h.below.trans ⟨hs.os.trans hg.os, hs.tape.trans hg.tape, hs.output.trans hg.output, Nat.le_trans hgs hs.size, fun k hk => ?_⟩
    refine (hs.block k (by omega) (by intro e; injection e with e; omega)).trans (hg.block k (by omega) fun e => ?_)
    have := (hel k e.symm).1; omega
  · by_cases e : k = j
    · rw [if_pos e]
      intro b h1 h2
      rcases hv with e2 | ⟨m, h3, e2⟩
      · rw [e2] at h2; exact hqe (h1.trans h2.symm)
      · rw [e2] at h2; injection h2 with h2
        have := (h.q.lt b h1).2
        omega
    · rw [if_neg e]; exact h.qe k hk
  · refine (hI.row hg fun k e => own_cells (h.mac.ends j hj) e).row hs fun k e => ?_
    injection e with e
    subst e
    rw [hg2]
    exact h.mac.gcells

theorem MQ.push {x y : Int} (h : MQ w wr ps g cap mb fl en el todo tl) (hg : (wr.alloc (.cells #[.int .i64 x] 3)).grownBy wr' todo.ownBlock) (hq : QAt wr' w.heap.size v' (tl ++ [y]))
    (hv : v'.ownBlock = todo.ownBlock ∨ ∃ k, (wr.alloc (.cells #[.int .i64 x] 3)).heap.size ≤ k ∧ v'.ownBlock = some k) : MQ w wr' ps g cap mb fl en el v' (tl ++ [y]) ∧ ItK wr wr' := by
  have hs : (wr.alloc (.cells #[.int .i64 x] 3)).heap.size = wr.heap.size + 1 := by simp
  have hB := h.mac.gB
  have hbs := h.below.size
  have hgr : wr.grownBy wr' todo.ownBlock := ⟨hg.os, hg.tape, hg.output, by have := hg.size; omega, fun k hk hne => (hg.block k (by omega) hne).trans (Go.Deep.blk_alloc_lt _ _ _ hk)⟩
  refine ⟨⟨h.mac.keptRow hgr h.qg (fun j hj e => ?_) (fun j hj => ?_), ?_, hq, fun e => ?_, fun j hj b h1 h2 => ?_⟩, fun b r n F left cnt hI => hI.row hgr fun k e => h.q.cells e⟩
  · obtain ⟨cs, t, f, h1⟩ := h.q.cells e
    obtain ⟨es, clock, h2⟩ := (h.mac.maps j hj).isMap
    rw [h1] at h2; injection h2 with h2; cases h2
  · cases e : (en j).ownBlock with
    | none => exact .inl rfl
    | some b => exact .inr fun e2 => h.qe j hj b e2.symm e
  · exact h.below.trans ⟨hgr.os, hgr.tape, hgr.output, hgr.size, fun k hk => hgr.block k (by omega) fun e => by have := (h.q.lt k e.symm).1; omega⟩
  · rcases hv with e2 | ⟨k, h1, e2⟩
    · rw [e2] at e; exact h.qg e
    · rw [e2] at e; injection e with e; omega
  · rcases hv with e2 | ⟨k, h3, e2⟩
    · rw [e2] at h1; exact h.qe j hj b h1 h2
    · rw [e2] at h1; injection h1 with h1
      have := ((h.mac.ends j hj).lt b h2).2
      omega

theorem MQ.iter {b r n cnt : Nat} {F : Nat → Option Nat} {left : Nat → Bool} (h : MQ w wr ps g cap mb fl en el todo tl) (hI : IRange wr b r n F left cnt) (hr : w.heap.size ≤ r) (hg : wr.grownBy wr' (some r)) : MQ w wr' ps g cap mb fl en el todo tl := by
  have hbs := h.below.size
  obtain ⟨o, h1, h2⟩ := hI.notCells
  obtain ⟨o', h1', h2'⟩ := hI.notMap
  have hnc : ∀ k, some r = some k → ¬ ∃ cs t f, wr.heap[k]? = some (.cells cs t f) := fun k e => by
    injection e with e; subst e
    rintro ⟨cs, t, f, h3⟩
    rw [h1] at h3; injection h3 with h3; exact h2 _ _ _ h3
  refine ⟨h.mac.keptRow hg (fun e => hnc g e h.mac.gcells) (fun j hj e => ?_) (fun j hj => ?_), h.below.trans ⟨hg.os, hg.tape, hg.output, hg.size, fun k hk => hg.block k (by omega) (by intro e; injection e with e; omega)⟩, h.q.kept hg (fun e => ?_), h.qg, h.qe⟩
  · injection e with e
    obtain ⟨es, clock, h3⟩ := (h.mac.maps j hj).isMap
    rw [← e, h1'] at h3; injection h3 with h3; exact h2' _ _ h3
  · cases e : (en j).ownBlock with
    | none => exact .inl rfl
    | some b => exact .inr fun e2 => hnc b e2.symm (own_cells (h.mac.ends j hj) e)
  · exact hnc r rfl (h.q.cells e)

theorem MQ.more (h : MQ w wr ps g cap mb fl en el todo tl) (hb : Below wr.heap.size wr wr') : MQ w wr' ps g cap mb fl en el todo tl :=
  ⟨h.mac.below hb, bch h.below hb, h.q.below hb, h.qg, h.qe⟩
theorem MQ.requeue (h : MQ w wr ps g cap mb fl en el todo tl) {tl' : List Int} (hq : QAt wr w.heap.size v' tl') (hb : v'.ownBlock = todo.ownBlock) : MQ w wr ps g cap mb fl en el v' tl' :=
  ⟨h.mac, h.below, hq, by rw [hb]; exact h.qg, fun j hj b h1 h2 => h.qe j hj b (hb ▸ h1) h2⟩
end

/-! ### What stands in the row while the search goes -/
def flB (ps qs : List (List Nat)) (j : Nat) : Nat := if ps.getD j [] ∈ qs then ps.idxOf (failP ps (ps.getD j [])) else 0
def elB (wd : List Nat → Int) (ps qs : List (List Nat)) (j : Nat) : List Int := if ps.getD j [] ∈ qs then endS wd (ps.getD j []) else ownW wd (ps.getD j [])
def flF (ps : List (List Nat)) (j : Nat) : Nat := ps.idxOf (failP ps (ps.getD j []))
def elF (wd : List Nat → Int) (ps : List (List Nat)) (j : Nat) : List Int := endS wd (ps.getD j [])
/-- The queue's numbers. -/
def qI (ps qs : List (List Nat)) (h : Nat) : List Int := (qs.drop h).map fun q => (ps.idxOf q : Int)

section
variable {ps qs : List (List Nat)} {wd : List Nat → Int} {h k c : Nat} {p q : List Nat}
theorem flB_start (hroot : ps.idxOf [] = 0) (j : Nat) : flB ps [[]] j = 0 := by
  unfold flB
  split
  · rename_i h
    rw [List.mem_singleton] at h
    rw [h, failP_nil, hroot]
  · rfl
theorem elB_start (h0 : wd [] < 0) (j : Nat) : elB wd ps [[]] j = elW wd ps j := by
  unfold elB elW
  split
  · rename_i h
    rw [List.mem_singleton] at h
    rw [h, endS, ownW, if_neg (by omega)]
  · rfl
theorem flB_in (hq : q ∈ ps) (h : q ∈ qs) : flB ps qs (ps.idxOf q) = ps.idxOf (failP ps q) := by
  unfold flB; rw [idx_getD hq, if_pos h]
theorem flB_out (hq : q ∈ ps) (h : ¬ q ∈ qs) : flB ps qs (ps.idxOf q) = 0 := by
  unfold flB; rw [idx_getD hq, if_neg h]
theorem elB_in (hq : q ∈ ps) (h : q ∈ qs) : elB wd ps qs (ps.idxOf q) = endS wd q := by
  unfold elB; rw [idx_getD hq, if_pos h]
theorem elB_out (hq : q ∈ ps) (h : ¬ q ∈ qs) : elB wd ps qs (ps.idxOf q) = ownW wd q := by
  unfold elB; rw [idx_getD hq, if_neg h]
theorem flB_add (hN : ps.Nodup) (hq : q ∈ ps) {j : Nat} (hj : j < ps.length) : (if j = ps.idxOf q then ps.idxOf (failP ps q) else flB ps qs j) = flB ps (qs ++ [q]) j := by
  by_cases e : j = ps.idxOf q
  · rw [if_pos e, e, flB_in hq (by simp)]
  · rw [if_neg e]
    unfold flB
    have hne : ps.getD j [] ≠ q := fun e2 => e (by rw [← e2, getD_idx hN hj])
    by_cases h : ps.getD j [] ∈ qs
    · rw [if_pos h, if_pos (List.mem_append_left _ h)]
    · rw [if_neg h, if_neg (by rw [List.mem_append, List.mem_singleton]; exact fun h2 => h2.elim h hne)]
theorem elB_add (hN : ps.Nodup) (hq : q ∈ ps) {j : Nat} (hj : j < ps.length) : (if j = ps.idxOf q then endS wd q else elB wd ps qs j) = elB wd ps (qs ++ [q]) j := by
  by_cases e : j = ps.idxOf q
  · rw [if_pos e, e, elB_in hq (by simp)]
  · rw [if_neg e]
    unfold elB
    have hne : ps.getD j [] ≠ q := fun e2 => e (by rw [← e2, getD_idx hN hj])
    by_cases h : ps.getD j [] ∈ qs
    · rw [if_pos h, if_pos (List.mem_append_left _ h)]
    · rw [if_neg h, if_neg (by rw [List.mem_append, List.mem_singleton]; exact fun h2 => h2.elim h hne)]
theorem flB_all (h : ∀ q ∈ ps, q ∈ qs) {j : Nat} (hj : j < ps.length) : flB ps qs j = flF ps j := by
  unfold flB flF
  rw [if_pos (h _ (getD_mem hj))]
theorem elB_all (h : ∀ q ∈ ps, q ∈ qs) {j : Nat} (hj : j < ps.length) : elB wd ps qs j = elF wd ps j := by
  unfold elB elF
  rw [if_pos (h _ (getD_mem hj))]
theorem qI_len : (qI ps qs h).length = qs.length - h := by simp [qI]
theorem qI_head (hp : qs[h]? = some p) : qI ps qs h = (ps.idxOf p : Int) :: qI ps qs (h + 1) := by
  obtain ⟨h1, h2⟩ := List.getElem?_eq_some_iff.1 hp
  unfold qI
  rw [List.drop_eq_getElem_cons h1, h2]; rfl
theorem qI_add (hh : h ≤ qs.length) : qI ps (qs ++ [q]) h = qI ps qs h ++ [(ps.idxOf q : Int)] := by
  unfold qI
  rw [List.drop_append_of_le_length hh]; simp

/-- A step from where the parent goes back to. -/
theorem Bfs.fails (hB : Bfs ps qs h (h + 1)) (hC : Clo ps) (hp : qs[h]? = some p) : ∀ q, q ∈ ps → q.length ≤ p.length → flB ps qs (ps.idxOf q) = ps.idxOf (failP ps q) := fun q hq hl => flB_in hq (hB.level hC hp _ q rfl hq hl)
end

theorem step_at {w wr : World} {ps qs : List (List Nat)} {g cap : Nat} {mb : Nat → Nat} {en : Nat → Value} {el : Nat → List Int} {todo : Value} {tl : List Int} {h : Nat} {p : List Nat} {c : Nat}
    (hM : MQ w wr ps g cap mb (flB ps qs) en el todo tl) (hC : Clo ps) (hroot : ps.idxOf [] = 0) (hlen : ps.length < 1000) (hB : Bfs ps qs h (h + 1)) (hp : qs[h]? = some p) (hp0 : p ≠ []) (hc : c < 256) :
    Calls Try.prog 35 #[.slice (some ⟨g, 0, none⟩) ps.length cap, .int .i64 (ps.idxOf (failP ps p)), .int .u8 (c : Int)] wr fun e w' => e = .returned (.int .i64 (ps.idxOf (failP ps (p ++ [c])))) ∧ ∃ m, w' = wr.drewN m := by
  have h1 := step_any wr w.heap.size g cap ps mb (flB ps qs) en el hM.mac hC hroot hlen (failP ps p).length (fun q hq hl _ => hB.fails hC hp q hq (by have := failP_len (ps := ps) hp0; omega)) (failP ps p) (failP_mem hC p) (Nat.le_refl _) c hc
  rw [fail_child hC hp0]
  exact h1

theorem mq_add {w wr : World} {ps qs : List (List Nat)} {wd : List Nat → Int} {q : List Nat} {g cap : Nat} {mb : Nat → Nat} {en : Nat → Value} {todo : Value} {tl : List Int} {Y F : Nat} {lY lF : List Int} (hN : ps.Nodup) (hq : q ∈ ps)
    (hY : ps.idxOf q = Y) (hF : ps.idxOf (failP ps q) = F) (hE : lY ++ lF = endS wd q)
    (h : MQ w wr ps g cap mb (fun k => if k = Y then F else flB ps qs k) en (fun k => if k = Y then lY ++ lF else elB wd ps qs k) todo tl) : MQ w wr ps g cap mb (flB ps (qs ++ [q])) en (elB wd ps (qs ++ [q])) todo tl := by
  subst hY hF
  rw [hE] at h
  exact h.congr (fun j hj => flB_add hN hq hj) (fun j hj => elB_add hN hq hj)

/-- A list that is not empty: where it lies. -/
theorem own_place {w : World} {B : Nat} {v : Value} {l : List Int} (h : Own w B v l) (hl : l ≠ []) : ∃ b cap, v = .slice (some ⟨b, 0, none⟩) l.length cap ∧ ∀ (m j : Nat) (u : Value), (ints l)[j]? = some u → (w.drewN m).cell? ((⟨b, 0, none⟩ : Addr).add j) = some u := by
  rcases h.2 with ⟨_, h0⟩ | ⟨b, cap, cur, rfl, h1, hg, h2, h3, h4, h5⟩
  · exact absurd (List.eq_nil_of_length_eq_zero h0) hl
  · refine ⟨b, cap, rfl, fun m j u hu => ?_⟩
    have hj : j < l.length := by have := (List.getElem?_eq_some_iff.1 hu).1; simpa using this
    have h6 : w.cell? ⟨b, j, none⟩ = (ints l)[j]? := World.ownsRow.cellAt h j (by omega)
    show w.cell? _ = _
    rw [← hu, ← h6]
    congr 1
    unfold Addr.add
    simp
    exact fun e => e.symm
theorem endS_ne {wd : List Nat → Int} {q : List Nat} (h : endS wd q ≠ []) : 0 < (endS wd q).length := List.length_pos_iff.2 h
end Go.Proofs.Ythlibdpemocpmaa
