/- The table of gram.names and the rules, in memory. -/
import Derived.Test.YthdckapielbonaaGramPlain
import Derived.Test.YthdckapielbonaaCommon
import Derived.Test.YthdckapielbonaaStrs
namespace Go.Proofs.Ythdckapielbonaa
set_option linter.unusedVariables false
set_option linter.unusedSimpArgs false
open Go.RowKit Go.Deep

theorem info_u32 : (Try.prog.info? 57).map (fun i => (i.zero, i.size, i.bytes)) = some (some (.int .u32 0), 1, 4) := by kernel_rfl
theorem info_urow : (Try.prog.info? 58).map (fun i => (i.zero, i.size, i.bytes)) = some (some (.slice none 0 0), 1, 24) := by kernel_rfl

/-- The rules, to be read. -/
def RL (w : World) (B : Nat) (A : Option Addr) (R : List (Nat × ByteArray)) : Prop :=
  R ≠ [] → ∃ g o, A = some ⟨g, o, none⟩ ∧ g < B ∧ ∀ j r, R[j]? = some r → w.cell? ⟨g, o + j * 2, none⟩ = some (.int .u8 (r.1 : Int)) ∧ w.cell? ⟨g, o + j * 2 + 1, none⟩ = some (.string r.2)

theorem RL.mono {w : World} {B B' : Nat} {A : Option Addr} {R : List (Nat × ByteArray)} (h : RL w B A R) (hB : B ≤ B') : RL w B' A R := fun hn =>
  let ⟨g, o, e, hg, hc⟩ := h hn
  ⟨g, o, e, by omega, hc⟩
theorem RL.kept {w w' : World} {B : Nat} {A : Option Addr} {R : List (Nat × ByteArray)} (h : RL w B A R) (hb : ∀ k, k < B → w'.heap[k]? = w.heap[k]?) : RL w' B A R := fun hn =>
  let ⟨g, o, e, hg, hc⟩ := h hn
  ⟨g, o, e, hg, fun j r hr => ⟨(World.cell?_of_block (a := ⟨g, o + j * 2, none⟩) (hb g hg)).trans (hc j r hr).1, (World.cell?_of_block (a := ⟨g, o + j * 2 + 1, none⟩) (hb g hg)).trans (hc j r hr).2⟩⟩
theorem RL.below {w w' : World} {B : Nat} {A : Option Addr} {R : List (Nat × ByteArray)} (h : RL w B A R) (hb : Below B w w') : RL w' B A R := h.kept fun k hk => hb.block k hk

/-- What is no fault of a rule. -/
def ROk (r : Nat × ByteArray) : Prop := 65 ≤ r.1 ∧ r.1 ≤ 90 ∧ ((r.2.size = 1 ∧ 97 ≤ bt r.2 0 ∧ bt r.2 0 ≤ 122) ∨ (r.2.size = 2 ∧ 65 ≤ bt r.2 0 ∧ bt r.2 0 ≤ 90 ∧ 65 ≤ bt r.2 1 ∧ bt r.2 1 ≤ 90))

/-- The row of rows, c of them made. -/
def gtop (L c : Nat) (mb : Nat → Nat) : Nat → Value := fun j => if j < c then .slice (some ⟨mb j, 0, none⟩) (L - j + 1) (L - j + 1) else .slice none 0 0
def grow1 (G : Nat → Nat → Nat) (i : Nat) : Nat → Value := fun m => .int .u32 (G i m : Int)

structure GTab (w wr : World) (L c : Nat) (G : Nat → Nat → Nat) (mb : Nat → Nat) : Prop where
  since : w.Since w.heap.size wr
  top : wr.rowIs w.heap.size 58 L (gtop L c mb)
  rows : ∀ i, i < c → wr.rowIs (mb i) 57 (L - i + 1) (grow1 G i)
  lo : ∀ i, i < c → w.heap.size < mb i
  inj : ∀ i j, i < c → j < c → mb i = mb j → i = j

section
variable {w wr : World} {L c i m : Nat} {G G' : Nat → Nat → Nat} {mb : Nat → Nat}

theorem GTab.hi (h : GTab w wr L c G mb) (hi : i < c) : mb i < wr.heap.size := (h.rows i hi).lt
theorem GTab.sz (h : GTab w wr L c G mb) : w.heap.size < wr.heap.size := h.top.lt

theorem GTab.dn (h : GTab w wr L c G mb) (u : Nat) : GTab w (wr.drewN u) L c G mb :=
  ⟨⟨h.since.os, h.since.tape, h.since.output, h.since.size, h.since.block⟩, h.top, h.rows, h.lo, h.inj⟩

theorem GTab.alloc (h : GTab w wr L c G mb) (o : Obj) : GTab w (wr.alloc o) L c G mb :=
  ⟨h.since.alloc (Nat.le_of_lt h.sz) o, h.top.alloc o, fun i hi => (h.rows i hi).alloc o, h.lo, h.inj⟩

theorem GTab.congr (h : GTab w wr L c G mb) (e : ∀ i m, i < c → m ≤ L - i → G i m = G' i m) : GTab w wr L c G' mb :=
  ⟨h.since, h.top, fun i hi => (h.rows i hi).congr fun m hm => by unfold grow1; rw [e i m hi (by omega)], h.lo, h.inj⟩

theorem gtab_start (w : World) (L : Nat) (G : Nat → Nat → Nat) (mb : Nat → Nat) : GTab w (w.alloc (.cells (madeCells #[.slice none 0 0] L) 58)) L 0 G mb :=
  ⟨(World.Since.refl _ _).alloc (Nat.le_refl _) _, (World.rowIs_made w _ L 58).congr (fun j hj => by unfold gtop; rw [if_neg (by omega)]), fun i hi => absurd hi (Nat.not_lt_zero _), fun i hi => absurd hi (Nat.not_lt_zero _), fun i j hi => absurd hi (Nat.not_lt_zero _)⟩

/-- The blocks of the rows, one more. -/
def ext1 (mb : Nat → Nat) (c b : Nat) : Nat → Nat := fun j => if j = c then b else mb j
theorem ext1_self (mb : Nat → Nat) (c b : Nat) : ext1 mb c b c = b := if_pos rfl
theorem ext1_ne (mb : Nat → Nat) {c b j : Nat} (h : j ≠ c) : ext1 mb c b j = mb j := if_neg h

/-- One row more. -/
theorem GTab.row (h : GTab w wr L c G mb) (hc : c < L) (h0 : ∀ m, m ≤ L - c → G c m = 0) :
    GTab w ((wr.alloc (.cells (madeCells #[.int .u32 0] (L - c + 1)) 57)).setCell ⟨w.heap.size, c, none⟩ (.slice (some ⟨wr.heap.size, 0, none⟩) (L - c + 1) (L - c + 1))) L (c + 1) G (ext1 mb c wr.heap.size) := by
  have hs := h.sz
  have hnew := World.rowIs_made wr (.int .u32 0) (L - c + 1) 57
  refine ⟨(h.since.alloc (by omega) _).setCell (Nat.le_refl _) _, ((h.top.alloc _).set c _).congr fun j hj => ?_, fun i hi => ?_, fun i hi => ?_, fun i j hi hj e => ?_⟩
  · unfold gtop
    by_cases e : j = c
    · subst e; rw [if_pos rfl, if_pos (by omega), ext1_self]
    · rw [if_neg e, ext1_ne _ e]
      by_cases h2 : j < c
      · rw [if_pos h2, if_pos (by omega)]
      · rw [if_neg h2, if_neg (by omega)]
  · by_cases e : i = c
    · subst e
      rw [ext1_self]
      exact (hnew.setOther (by show wr.heap.size ≠ w.heap.size; omega) _).congr fun m hm => by unfold grow1; rw [h0 m (by omega)]; rfl
    · rw [ext1_ne _ e]
      have hl := h.lo i (by omega)
      exact ((h.rows i (by omega)).alloc _).setOther (by show mb i ≠ w.heap.size; omega) _
  · by_cases e : i = c
    · rw [e, ext1_self]; exact hs
    · rw [ext1_ne _ e]; exact h.lo i (by omega)
  · by_cases e1 : i = c
    · by_cases e2 : j = c
      · omega
      · rw [e1, ext1_self, ext1_ne _ e2] at e
        have := h.hi (i := j) (by omega)
        omega
    · by_cases e2 : j = c
      · rw [e2, ext1_self, ext1_ne _ e1] at e
        have := h.hi (i := i) (by omega)
        omega
      · rw [ext1_ne _ e1, ext1_ne _ e2] at e
        exact h.inj i j (by omega) (by omega) e

theorem GTab.cellT (h : GTab w wr L c G mb) (hi : i < c) (hc : c ≤ L) : wr.cell? ⟨w.heap.size, i, none⟩ = some (.slice (some ⟨mb i, 0, none⟩) (L - i + 1) (L - i + 1)) := by
  rw [h.top.cell (show i < L by omega)]
  unfold gtop
  rw [if_pos hi]
theorem GTab.frozenT (h : GTab w wr L c G mb) (i : Nat) : wr.frozen? ⟨w.heap.size, i, none⟩ = false := h.top.frozen i
theorem GTab.cell (h : GTab w wr L c G mb) (hi : i < c) (hm : m ≤ L - i) : wr.cell? ⟨mb i, m, none⟩ = some (.int .u32 (G i m : Int)) := (h.rows i hi).cell (by omega)
theorem GTab.frozen (h : GTab w wr L c G mb) (hi : i < c) (m : Nat) : wr.frozen? ⟨mb i, m, none⟩ = false := (h.rows i hi).frozen m

/-- A store into the table. -/
theorem GTab.put (h : GTab w wr L c G mb) (hi : i < c) (x : Int) (y : Nat) (hx : x = y) (hm : G' i m = y) (he : ∀ i' m', i' < c → m' ≤ L - i' → ¬ (i' = i ∧ m' = m) → G' i' m' = G i' m') :
    GTab w (wr.setCell ⟨mb i, m, none⟩ (.int .u32 x)) L c G' mb := by
  subst hx
  have hl := h.lo i hi
  refine ⟨h.since.setCell (by show w.heap.size ≤ mb i; omega) _, h.top.setOther (by show w.heap.size ≠ mb i; omega) _, fun j hj => ?_, h.lo, h.inj⟩
  by_cases e : j = i
  · subst e
    refine ((h.rows j hj).set m _).congr fun k hk => ?_
    unfold grow1
    by_cases e2 : k = m
    · subst e2; rw [if_pos rfl, hm]
    · rw [if_neg e2, he j k hj (by omega) (by omega)]
  · refine ((h.rows j hj).setOther (by show mb j ≠ mb i; exact fun e2 => e (h.inj _ _ hj hi e2)) _).congr fun k hk => ?_
    unfold grow1
    rw [he j k hj (by omega) (by omega)]

theorem GTab.below (h : GTab w wr L c G mb) : Below w.heap.size w wr := ⟨h.since.os, h.since.tape, h.since.output, h.since.size, h.since.block⟩
end

/-- The table while the parts of length n are told, from place i on, place i holding x. -/
def gst (V : Nat → Nat → Nat) (n i x : Nat) : Nat → Nat → Nat := fun i' m => if (1 ≤ m ∧ m < n) ∨ (m = n ∧ i' < i) then V i' m else if m = n ∧ i' = i then x else 0

theorem gst_at (V : Nat → Nat → Nat) (n i x : Nat) : gst V n i x i n = x := by
  unfold gst; rw [if_neg (by omega), if_pos ⟨rfl, rfl⟩]
theorem gst_old (V : Nat → Nat → Nat) (n i x : Nat) {i' m : Nat} (h1 : 1 ≤ m) (h2 : m < n) : gst V n i x i' m = V i' m := by
  unfold gst; rw [if_pos (.inl ⟨h1, h2⟩)]
theorem gst_other (V : Nat → Nat → Nat) (n i x y : Nat) {i' m : Nat} (h : ¬ (i' = i ∧ m = n)) : gst V n i x i' m = gst V n i y i' m := by
  unfold gst
  rw [if_neg (c := m = n ∧ i' = i) (by omega), if_neg (c := m = n ∧ i' = i) (by omega)]
theorem gst_next (V : Nat → Nat → Nat) (n i : Nat) : gst V n i (V i n) = gst V n (i + 1) 0 := by
  funext i' m
  unfold gst
  by_cases h : m = n ∧ i' = i
  · obtain ⟨rfl, rfl⟩ := h
    rw [if_neg (by omega), if_pos ⟨rfl, rfl⟩, if_pos (by omega)]
  · by_cases h1 : (1 ≤ m ∧ m < n) ∨ (m = n ∧ i' < i)
    · rw [if_pos h1, if_pos (by omega)]
    · rw [if_neg h1, if_neg h, if_neg (by omega)]
      split <;> rfl
theorem gst_line (V : Nat → Nat → Nat) (n k : Nat) {L i m : Nat} (hn : 1 ≤ n) (hk : L < k + n) (hm : m ≤ L - i) (hi : i < L) : gst V n k 0 i m = gst V (n + 1) 0 0 i m := by
  unfold gst
  by_cases h : (1 ≤ m ∧ m < n) ∨ (m = n ∧ i < k)
  · rw [if_pos h, if_pos (by omega)]
  · rw [if_neg h, if_neg (c := 1 ≤ m ∧ m < n + 1 ∨ m = n + 1 ∧ i < 0) (by omega)]
    split <;> split <;> rfl

theorem GTab.to {w wr : World} {L c n i x y : Nat} {V : Nat → Nat → Nat} {mb : Nat → Nat} (h : GTab w wr L c (gst V n i x) mb) (hi : i < c) (z : Int) (hz : z = y) : GTab w (wr.setCell ⟨mb i, n, none⟩ (.int .u32 z)) L c (gst V n i y) mb :=
  h.put hi z y hz (gst_at V n i y) fun i' m' _ _ hne => gst_other V n i y x hne

theorem con2_lt {x y : Nat} {r : Nat × ByteArray} (h : ROk r) : con2 x y r < 2 ^ 26 := by
  unfold con2
  split
  · exact Nat.pow_lt_pow_right (by omega) (by have := h.2.1; omega)
  · exact Nat.two_pow_pos _
theorem con1_lt {s : ByteArray} {i : Nat} {r : Nat × ByteArray} (h : ROk r) : con1 s i r < 2 ^ 26 := by
  unfold con1
  split
  · exact Nat.pow_lt_pow_right (by omega) (by have := h.2.1; omega)
  · exact Nat.two_pow_pos _
theorem foldR_lt (x y : Nat) : ∀ (R : List (Nat × ByteArray)) (a : Nat), (∀ r ∈ R, ROk r) → a < 2 ^ 26 → foldR x y a R < 2 ^ 26
  | [], a, _, h => h
  | r :: R, a, hR, h => foldR_lt x y R (a ||| con2 x y r) (fun r h => hR r (List.mem_cons_of_mem _ h)) (Nat.or_lt_two_pow h (con2_lt (hR r (by simp))))
theorem fold1_lt (s : ByteArray) (i : Nat) (R : List (Nat × ByteArray)) (hR : ∀ r ∈ R, ROk r) : fold1 s i R < 2 ^ 26 := by
  unfold fold1
  suffices h : ∀ (R : List (Nat × ByteArray)) (a : Nat), (∀ r ∈ R, ROk r) → a < 2 ^ 26 → R.foldl (fun a r => a ||| con1 s i r) a < 2 ^ 26 from h R 0 hR (Nat.two_pow_pos _)
  intro R
  induction R with
  | nil => intro a _ h; exact h
  | cons r R ih => intro a hR h; exact ih _ (fun r h => hR r (List.mem_cons_of_mem _ h)) (Nat.or_lt_two_pow h (con1_lt (hR r (by simp))))
theorem fold2_lt (R : List (Nat × ByteArray)) (V : Nat → Nat → Nat) (i n : Nat) (hR : ∀ r ∈ R, ROk r) : ∀ m, fold2 R V i n m < 2 ^ 26
  | 0 => Nat.two_pow_pos _
  | m + 1 => by rw [fold2_succ]; exact foldR_lt _ _ R _ hR (fold2_lt R V i n hR m)

theorem take_snoc {α : Type} {l : List α} {k : Nat} {x : α} (h : l[k]? = some x) : l.take (k + 1) = l.take k ++ [x] := by rw [List.take_add_one, h]; rfl
end Go.Proofs.Ythdckapielbonaa
