/- letterbeckref1.Sorted. -/
import Derived.Test.YtknecfgacnknlaaDoorOrdN
import Derived.Deep.OwnRows
namespace Go.Proofs.YtknecfgacnknlaaDoor
set_option linter.unusedVariables false
set_option linter.unusedSimpArgs false
open Go.RowKit Go.Deep

theorem bef_trans {f g h : Nat → Nat} {p q r : Nat} (h1 : Bef f p g q) (h2 : Bef g q h r) : Bef f p h r := by
  rcases h1 with ⟨l, a1, a2, a3, a4⟩ | ⟨a1, a2⟩ <;> rcases h2 with ⟨m, b1, b2, b3, b4⟩ | ⟨b1, b2⟩
  · rcases Nat.lt_trichotomy l m with e | e | e
    · exact .inl ⟨l, a1, by omega, fun j hj => (a3 j hj).trans (b3 j (by omega)), by have := b3 l e; omega⟩
    · subst e; exact .inl ⟨l, a1, b2, fun j hj => (a3 j hj).trans (b3 j hj), by omega⟩
    · exact .inl ⟨m, by omega, b2, fun j hj => (a3 j (by omega)).trans (b3 j hj), by have := a3 m e; omega⟩
  · exact .inl ⟨l, a1, by omega, fun j hj => (a3 j hj).trans (b2 j (by omega)), by have := b2 l a2; omega⟩
  · by_cases e : m < p
    · exact .inl ⟨m, e, b2, fun j hj => (a2 j (by omega)).trans (b3 j hj), by have := a2 m e; omega⟩
    · exact .inr ⟨by omega, fun j hj => (a2 j hj).trans (b3 j (by omega))⟩
  · exact .inr ⟨by omega, fun j hj => (a2 j hj).trans (b2 j (by omega))⟩
theorem bef_asymm {f g : Nat → Nat} {p q : Nat} (h1 : Bef f p g q) (h2 : Bef g q f p) : False := bef_irrefl (bef_trans h1 h2)
theorem bef_total {a b : ByteArray} (hne : a ≠ b) : Bef (bt a) a.size (bt b) b.size ∨ Bef (bt b) b.size (bt a) a.size := by
  have key : ∀ n, n ≤ a.size → n ≤ b.size → (∀ j, j < n → bt a j = bt b j) ∨ ∃ l, l < a.size ∧ l < b.size ∧ (∀ j, j < l → bt a j = bt b j) ∧ bt a l ≠ bt b l := by
    intro n
    induction n with
    | zero => intro _ _; exact .inl fun j hj => by omega
    | succ n ih =>
      intro h1 h2
      rcases ih (by omega) (by omega) with h | h
      · by_cases e : bt a n = bt b n
        · exact .inl fun j hj => by
            by_cases e2 : j = n
            · subst e2; exact e
            · exact h j (by omega)
        · exact .inr ⟨n, by omega, by omega, h, e⟩
      · exact .inr h
  rcases Nat.lt_trichotomy a.size b.size with h | h | h
  · rcases key a.size (Nat.le_refl _) (by omega) with h1 | ⟨l, h1, h2, h3, h4⟩
    · exact .inl (.inr ⟨h, h1⟩)
    · rcases Nat.lt_or_ge (bt a l) (bt b l) with h5 | h5
      · exact .inl (.inl ⟨l, h1, h2, h3, h5⟩)
      · exact .inr (.inl ⟨l, h2, h1, fun j hj => (h3 j hj).symm, by omega⟩)
  · rcases key a.size (Nat.le_refl _) (by omega) with h1 | ⟨l, h1, h2, h3, h4⟩
    · exact absurd (ext_bt h h1) hne
    · rcases Nat.lt_or_ge (bt a l) (bt b l) with h5 | h5
      · exact .inl (.inl ⟨l, h1, h2, h3, h5⟩)
      · exact .inr (.inl ⟨l, h2, h1, fun j hj => (h3 j hj).symm, by omega⟩)
  · rcases key b.size (by omega) (Nat.le_refl _) with h1 | ⟨l, h1, h2, h3, h4⟩
    · exact .inr (.inr ⟨h, fun j hj => (h1 j hj).symm⟩)
    · rcases Nat.lt_or_ge (bt a l) (bt b l) with h5 | h5
      · exact .inl (.inl ⟨l, h1, h2, h3, h5⟩)
      · exact .inr (.inl ⟨l, h2, h1, fun j hj => (h3 j hj).symm, by omega⟩)

/-- Is word m among the first k of the order? -/
def Used (ws : List ByteArray) (k m : Nat) : Prop := ∃ j, j < k ∧ ordN ws j = m
/-- The least of the first i words that are not used yet. -/
def BestU (ws : List ByteArray) (k i : Nat) (x : Int) : Prop :=
  (x = -1 ∧ ∀ m, m < i → Used ws k m) ∨ ∃ b : Nat, b < i ∧ x = b ∧ ¬ Used ws k b ∧ ∀ m, m < i → ¬ Used ws k m → m = b ∨ Bef (bt (wat ws b)) (wat ws b).size (bt (wat ws m)) (wat ws m).size

section
variable {ws : List ByteArray} {k i : Nat} {x : Int}
theorem bestu_skip (h : BestU ws k i x) (hu : Used ws k i) : BestU ws k (i + 1) x := by
  rcases h with ⟨h1, h2⟩ | ⟨b, h1, h2, h3, h4⟩
  · refine .inl ⟨h1, fun m hm => ?_⟩
    by_cases e : m = i
    · subst e; exact hu
    · exact h2 m (by omega)
  · refine .inr ⟨b, by omega, h2, h3, fun m hm hn => ?_⟩
    by_cases e : m = i
    · subst e; exact absurd hu hn
    · exact h4 m (by omega) hn
theorem bestu_first (h : BestU ws k i (-1)) (hu : ¬ Used ws k i) : BestU ws k (i + 1) i := by
  rcases h with ⟨h1, h2⟩ | ⟨b, h1, h2, h3, h4⟩
  · refine .inr ⟨i, by omega, rfl, hu, fun m hm hn => ?_⟩
    by_cases e : m = i
    · exact .inl e
    · exact absurd (h2 m (by omega)) hn
  · omega
theorem bestu_take {b : Nat} (h : BestU ws k i b) (hu : ¬ Used ws k i) (hb : Bef (bt (wat ws i)) (wat ws i).size (bt (wat ws b)) (wat ws b).size) : BestU ws k (i + 1) i := by
  rcases h with ⟨h1, h2⟩ | ⟨c, h1, h2, h3, h4⟩
  · omega
  · obtain rfl : b = c := by omega
    refine .inr ⟨i, by omega, rfl, hu, fun m hm hn => ?_⟩
    by_cases e : m = i
    · exact .inl e
    · rcases h4 m (by omega) hn with h5 | h5
      · subst h5; exact .inr hb
      · exact .inr (bef_trans hb h5)
theorem bestu_keep {b : Nat} (h : BestU ws k i b) (hne : wat ws i ≠ wat ws b) (hb : ¬ Bef (bt (wat ws i)) (wat ws i).size (bt (wat ws b)) (wat ws b).size) : BestU ws k (i + 1) b := by
  rcases h with ⟨h1, h2⟩ | ⟨c, h1, h2, h3, h4⟩
  · omega
  · obtain rfl : b = c := by omega
    refine .inr ⟨b, by omega, rfl, h3, fun m hm hn => ?_⟩
    by_cases e : m = i
    · subst e
      rcases bef_total hne with h5 | h5
      · exact absurd h5 hb
      · exact .inr h5
    · exact h4 m (by omega) hn
theorem bestu_lo (h : BestU ws k i x) : x = -1 ∨ ∃ b : Nat, b < i ∧ x = b := by
  rcases h with ⟨h1, _⟩ | ⟨b, h1, h2, _⟩
  · exact .inl h1
  · exact .inr ⟨b, h1, h2⟩
theorem bestu_end (hW : WAll ws) (hk : k < ws.length) (h : BestU ws k ws.length x) : x = ordN ws k := by
  have hunused : ¬ Used ws k (ordN ws k) := fun ⟨j, h1, h2⟩ => by
    have := ordN_bef hW h1 hk
    rw [h2] at this
    exact bef_irrefl this
  obtain ⟨_, hlt⟩ := ordN_get hW hk
  rcases h with ⟨h1, h2⟩ | ⟨b, h1, h2, h3, h4⟩
  · exact absurd (h2 _ hlt) hunused
  · rcases h4 _ hlt hunused with h5 | h5
    · rw [h2, h5]
    · exfalso
      have h6 : (b : Int) ∈ ordW ws := (ordW_mem (wall_dist hW) (wall_size hW)).2 ⟨b, h1, rfl⟩
      obtain ⟨j, hj, h7⟩ := List.getElem_of_mem h6
      have hl := ordW_len (wall_dist hW) (wall_size hW)
      have hj' : j < ws.length := by omega
      have h8 := (ordN_get hW hj').1
      rw [List.getElem?_eq_getElem hj, h7] at h8
      injection h8 with h8
      have h9 : b = ordN ws j := by omega
      rcases Nat.lt_trichotomy j k with h10 | h10 | h10
      · exact h3 ⟨j, h10, h9.symm⟩
      · subst h10; rw [h9] at h5; exact bef_irrefl h5
      · have := ordN_bef hW h10 hj'
        rw [h9] at h5
        exact bef_asymm this h5
end

theorem info_bool : (Tryd.prog.info? 4).map (fun i => (i.zero, i.size, i.bytes)) = some (some (.bool false), 1, 1) := by kernel_rfl

noncomputable def usedB (ws : List ByteArray) (k i : Nat) : Bool := (List.range k).any fun j => ordN ws j == i
theorem usedB_iff {ws : List ByteArray} {k i : Nat} : usedB ws k i = true ↔ Used ws k i := by simp [usedB, Used]
theorem usedB_step {ws : List ByteArray} {k i : Nat} : usedB ws (k + 1) i = if i = ordN ws k then true else usedB ws k i := by
  have h1 : usedB ws (k + 1) i = (usedB ws k i || ordN ws k == i) := by simp [usedB, List.range_succ]
  rw [h1]
  by_cases e : i = ordN ws k
  · subst e; simp
  · have e2 : (ordN ws k == i) = false := by simpa using fun h => e h.symm
    rw [e2, if_neg e]; simp

/-- What the loop keeps. -/
structure SortSt (w wr : World) (ws : List ByteArray) (k : Nat) (v : Value) : Prop where
  own : Own wr (w.heap.size + 1) v ((ordW ws).take k)
  row : wr.rowIs w.heap.size 4 ws.length (fun i => .bool (usedB ws k i))
  below : Below w.heap.size w wr
  size : w.heap.size + 1 ≤ wr.heap.size

theorem sort_start (w : World) (ws : List ByteArray) : SortSt w (w.alloc (.cells (madeCells #[.bool false] ws.length) 4)) ws 0 (.slice none 0 0) :=
  ⟨by rw [List.take_zero]; exact Own.nil _ _, (World.rowIs_made w _ ws.length 4).congr fun j hj => by simp [usedB], (Below.refl _ _).alloc (Nat.le_refl _) _, by simp⟩

theorem sort_own {w wr : World} {ws : List ByteArray} {k : Nat} {v : Value} (h : SortSt w wr ws k v) (u b : Nat) (o : Obj) : Own (((wr.drewN u).setCell ⟨w.heap.size, b, none⟩ (.bool true)).alloc o) (w.heap.size + 1) v ((ordW ws).take k) := by
  have h1 : Own ((wr.drewN u).setCell ⟨w.heap.size, b, none⟩ (.bool true)) (w.heap.size + 1) v ((ordW ws).take k) := World.ownsRow.kept (h.own.drewN u) (grown_set _ _ _ _) (by
    cases e : v.ownBlock with
    | none => exact .inl rfl
    | some g => exact .inr fun e2 => by injection e2 with e2; have := (h.own.lt g e).1; omega)
  exact h1.alloc o

theorem sort_step {w wr w4 : World} {ws : List ByteArray} {k b u : Nat} {v v4 : Value} (h : SortSt w wr ws k v) (hW : WAll ws) (hk : k < ws.length) (hb : b = ordN ws k)
    (ho : Own w4 (w.heap.size + 1) v4 ((ordW ws).take k ++ [(b : Int)])) (hg : (((wr.drewN u).setCell ⟨w.heap.size, b, none⟩ (.bool true)).alloc (.cells #[.int .i64 (b : Int)] 3)).grownBy w4 v.ownBlock) : SortSt w w4 ws (k + 1) v4 := by
  have hs := h.size
  have hsz := hg.size
  have hs2 : (((wr.drewN u).setCell ⟨w.heap.size, b, none⟩ (.bool true)).alloc (.cells #[.int .i64 (b : Int)] 3)).heap.size = wr.heap.size + 1 := by simp
  rw [hs2] at hsz
  have hold : ∀ j, j < wr.heap.size → j < w.heap.size + 1 → w4.heap[j]? = ((wr.drewN u).setCell ⟨w.heap.size, b, none⟩ (.bool true)).heap[j]? := fun j hj hj2 =>
    (hg.block j (by rw [hs2]; omega) (fun e => by have := (h.own.lt j e.symm).1; omega)).trans (Go.Deep.blk_alloc_lt _ _ _ (by simpa using hj))
  refine ⟨?_, ?_, ⟨hg.os.trans h.below.os, hg.tape.trans h.below.tape, hg.output.trans h.below.output, by omega, fun j hj => ?_⟩, by omega⟩
  · have e := (ordN_get hW hk).1
    obtain ⟨h2, h3⟩ := List.getElem?_eq_some_iff.1 e
    rw [List.take_succ_eq_append_getElem h2, h3, ← hb]
    exact ho
  · refine (((show (wr.drewN u).rowIs w.heap.size 4 ws.length (fun i => .bool (usedB ws k i)) from h.row).set b (.bool true)).of_block (hold w.heap.size (by omega) (by omega))).congr fun i hi => ?_
    show (if i = b then Value.bool true else Value.bool (usedB ws k i)) = Value.bool (usedB ws (k + 1) i)
    rw [usedB_step, hb]
    split <;> rfl
  · exact (hold j (by omega) (by omega)).trans ((Go.Deep.blk_setCell_other _ _ _ _ (by show j ≠ w.heap.size; omega)).trans (h.below.block j hj))

set_option maxRecDepth 100000 in
set_option maxHeartbeats 2000000 in
theorem sortedRef_any (w : World) (A : Option Addr) (c : Nat) (ws : List ByteArray) (h : Sl w w.heap.size A (ws.map Value.string)) (hW : WAll ws) :
    Calls Tryd.prog 53 #[.slice A ws.length c] w (fun e w' => ∃ A' c', e = .returned (.slice A' ws.length c') ∧ Own w' w.heap.size (.slice A' ws.length c') (ordW ws) ∧ Below w.heap.size w w') := by
  have hmk := run_make_row' (P := Tryd.prog) 84 4 (.bool false) 1 Tryd.underlying84 info_bool rfl .i64 .i64 ws.length (by have := hW.1; omega) (by have := hW.1; omega)
  have H0 := hid (sort_start w ws)
  have HZ := hid (wall_size hW)
  have hl6 := hW.1
  have hl := hid (ordW_len (wall_dist hW) (wall_size hW))
  have HE := hid (fun k x (hk : k < ws.length) (h : BestU ws k ws.length x) => bestu_end hW hk h)
  have HGt := hid (fun k (hk : k < ws.length) => (ordN_get hW hk).2)
  have HD := hid (wall_dist hW)
  have HSt := hid (fun wr k b u v v4 w4 (h : SortSt w wr ws k v) (hk : k < ws.length) (hb : b = ordN ws k) ho hg => sort_step (u := u) (v4 := v4) (w4 := w4) h hW hk hb ho hg)
  clear hW
  go_enter Tryd.func53, Tryd.ntmps53
  go_wp2_with fail
  clear hmk
  obtain ⟨N, hN, HN⟩ : ∃ N, w.heap.size = N ∧ Hid (w.heap.size = N) := ⟨_, rfl, rfl⟩
  rw [hN]
  go_loopw [3, 5] (fun v i wr => ∃ k : Nat, k ≤ ws.length ∧ i = .int .i64 k ∧ Hid (SortSt w wr ws k v)) (fun _ i _ => ws.length - (intOf i).toNat)
  case atStart => exact ⟨0, by omega, rfl, H0⟩
  case round =>
    clear H0
    obtain ⟨k, hk, rfl, hS⟩ := hrel
    by_cases hlt : k < ws.length
    · have hlt' : (k : Int) < ws.length := by omega
      obtain ⟨g, o, hA, hg, hcell⟩ := (h.below hS.out.below) (by intro e; simp at e; simp [e] at hlt)
      have HC := hid (fun u m (hm : m < ws.length) => (show (wr.drewN u).cell? ⟨g, o + m, none⟩ = some (.string (wat ws m)) from hcell m _ (wat_get hm)))
      have HU := hid (fun u m (hm : m < ws.length) => (show (wr.drewN u).cell? ⟨N, m, none⟩ = some (.bool (usedB ws k m)) by rw [← hN]; exact hS.out.row.cell hm))
      have HFr := hid (fun u m => (show (wr.drewN u).frozen? ⟨N, m, none⟩ = false by rw [← hN]; exact hS.out.row.frozen m))
      subst hA
      clear hcell
      go_wp2_with fail
      go_loopw [6, 7] (fun b i w2 => ∃ (m u : Nat) (x : Int), m ≤ ws.length ∧ b = .int .i64 x ∧ i = .int .i64 m ∧ w2 = wr.drewN u ∧ Hid (BestU ws k m x)) (fun _ i _ => ws.length - (intOf i).toNat)
      case atStart => exact ⟨0, 0, -1, by omega, rfl, rfl, rfl, .inl ⟨rfl, fun m hm => by omega⟩⟩
      case round =>
        obtain ⟨i, u, x, hi, rfl, rfl, rfl, hBs⟩ := hrel
        by_cases hin : i < ws.length
        · have hin' : (i : Int) < ws.length := by omega
          have qu := HU.out u i hin
          have ri := HC.out u i hin
          have hsz := HZ.out i hin
          obtain ⟨s, hs, Hs⟩ : ∃ s, wat ws i = s ∧ Hid (wat ws i = s) := ⟨_, rfl, rfl⟩
          rw [hs] at ri hsz
          obtain ⟨y, hy, Hy⟩ : ∃ y, usedB ws k i = y ∧ Hid (usedB ws k i = y) := ⟨_, rfl, rfl⟩
          rw [hy] at qu
          obtain ⟨wv, hwv, Hwv⟩ : ∃ wv, wr.drewN u = wv ∧ Hid (wr.drewN u = wv) := ⟨_, rfl, rfl⟩
          rw [hwv] at qu ri ⊢
          rcases y with _ | _
          · have hnu : ¬ Used ws k i := fun h => by rw [usedB_iff.2 h] at hy; cases hy
            have Hnu := hid hnu
            clear hs hy hnu
            rcases bestu_lo hBs.out with hx | ⟨b, hb, hx⟩
            · subst hx
              have Hn := hid (bestu_first hBs.out Hnu.out)
              clear hwv
              go_wp2_with fail
              go_quiet (fail)
              go_wp2_with fail
              go_roundw
              case rel => exact ⟨i + 1, _, i, by omega, rfl, by go_num, by rw [← Hwv.out]; exact World.drewN_drewN _ _ _, Hn⟩
              case measure => simp [intOf]; omega
            · subst hx
              have hb2 : b < ws.length := by omega
              have hb2' : (b : Int) < ws.length := by omega
              have hb0 : decide ((b : Int) < 0) = false := by simp
              have rb := HC.out u b hb2
              have hzb := HZ.out b hb2
              rw [hwv] at rb
              have hne : wat ws i ≠ wat ws b := fun e => by have := dist_eq HD.out hin hb2 e; omega
              obtain ⟨t, ht, Ht⟩ : ∃ t, wat ws b = t ∧ Hid (wat ws b = t) := ⟨_, rfl, rfl⟩
              rw [ht] at rb hzb
              have Hne := hid hne
              clear hwv ht hne
              rcases Classical.em (Bef (bt s) s.size (bt t) t.size) with hB | hB
              · have hcb := hid (fun w q => before_in w q s t (by omega) (by omega) true ⟨fun _ => hB, fun _ => rfl⟩)
                have Hn := hid (bestu_take hBs.out Hnu.out (by rw [Hs.out, Ht.out]; exact hB))
                clear hB
                go_wp2_with fail
                go_quiet ((go_at_call 69; exact hcb.out _ _))
                go_wp2_with fail
                go_roundw
                case rel => exact ⟨i + 1, _, i, by omega, rfl, by go_num, by rw [← Hwv.out]; exact World.drewN_drewN _ _ _, Hn⟩
                case measure => simp [intOf]; omega
              · have hcb := hid (fun w q => before_in w q s t (by omega) (by omega) false ⟨fun h => absurd h (by decide), fun h => absurd h hB⟩)
                have Hn := hid (bestu_keep hBs.out Hne.out (by rw [Hs.out, Ht.out]; exact hB))
                clear hB
                go_wp2_with fail
                go_quiet ((go_at_call 69; exact hcb.out _ _))
                go_wp2_with fail
                go_roundw
                case rel => exact ⟨i + 1, _, b, by omega, rfl, by go_num, by rw [← Hwv.out]; exact World.drewN_drewN _ _ _, Hn⟩
                case measure => simp [intOf]; omega
          · have Hn := hid (bestu_skip hBs.out (usedB_iff.1 hy))
            clear hs hy hwv
            go_wp2_with fail
            go_quiet (fail)
            go_wp2_with fail
            go_roundw
            case rel => exact ⟨i + 1, _, x, by omega, rfl, by go_num, by rw [← Hwv.out]; exact World.drewN_drewN _ _ _, Hn⟩
            case measure => simp [intOf]; omega
        · have hin' : ¬ (i : Int) < ws.length := by omega
          have hie : i = ws.length := by omega
          have hx := HE.out k x hlt (by have := hBs.out; rw [hie] at this; exact this)
          have hbn := HGt.out k hlt
          obtain ⟨b, hb, Hb⟩ : ∃ b, ordN ws k = b ∧ Hid (b = ordN ws k) := ⟨_, rfl, rfl⟩
          rw [hb] at hx hbn
          subst hx
          have qu := HU.out u b hbn
          have qf := HFr.out u b
          have hbn' : (b : Int) < ws.length := by omega
          have hlt2 : ((ordW ws).take k).length ≤ 6 := by simp; omega
          have hN' := hN
          have hoA := sort_own hS.out u b (.cells #[.int .i64 (b : Int)] 3)
          have hsz1 := hS.out.size
          have hnew : (((wr.drewN u).setCell ⟨N, b, none⟩ (.bool true)).alloc (.cells #[.int .i64 (b : Int)] 3)).cell? ⟨wr.heap.size, 0, none⟩ = some (.int .i64 (b : Int)) := by
            have := new_one0 ((wr.drewN u).setCell ⟨N, b, none⟩ (.bool true)) (.int .i64 (b : Int)) 3
            rwa [show ((wr.drewN u).setCell ⟨N, b, none⟩ (.bool true)).heap.size = wr.heap.size from by simp] at this
          have hbs : N + 1 ≤ (((wr.drewN u).setCell ⟨N, b, none⟩ (.bool true)).alloc (.cells #[.int .i64 (b : Int)] 3)).heap.size := by simp; omega
          have HStk := hid (fun v4 w4 => HSt.out wr k b u _ v4 w4 hS.out hlt Hb.out)
          rw [hN] at hoA
          clear hie hb hBs
          go_wp2_with (first
            | (at_builtin; go_must (refine wp_append_int _ rfl _ _ rfl (N + 1) _ _ rfl hoA _ _ (b : Int) rfl hnew (by omega) hbs ?_); intro v4 w4 ho4 hg4)
            | fail)
          go_roundw
          case rel => exact ⟨k + 1, by omega, by go_num, hid (HStk.out v4 w4 (by rw [HN.out]; exact ho4) (by rw [HN.out]; exact hg4))⟩
          case measure => simp [intOf]; omega
    · have hlt' : ¬ (k : Int) < ws.length := by omega
      have hke : k = ws.length := by omega
      have ho := hS.out.own
      rw [hke, List.take_of_length_le (by rw [hl.out]; omega)] at ho
      obtain ⟨A1, c1, hv⟩ := ho.shape
      rw [hl.out] at hv
      subst hv
      have hB := hS.out.below
      have ho2 : Own wr w.heap.size _ _ := Own.mono ho (Nat.le_succ _)
      rw [hN] at ho2 hB
      clear hke ho hS
      go_wp2_with fail
      go_ret
      exact ⟨A1, c1, rfl, ho2, hB⟩
end Go.Proofs.YtknecfgacnknlaaDoor
