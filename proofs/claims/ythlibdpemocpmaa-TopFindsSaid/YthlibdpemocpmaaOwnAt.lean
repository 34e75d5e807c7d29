/- append onto a slice of ints of the call's own, with where the new slice lies: for walks that keep several slices at once. -/
import Derived.Test.YthlibdpemocpmaaLong2
import Derived.Maps.AppendAt
namespace Go.Proofs.Ythlibdpemocpmaa
set_option linter.unusedVariables false
set_option linter.unusedSimpArgs false
open Go.RowKit

/-- v grew out of v0 since the world w0: nothing but v0's own block and new blocks have turned; v lies in v0's block or in a new one. -/
def Grew (w0 : World) (v0 : Value) (w : World) (v : Value) : Prop :=
  w0.grownBy w v0.ownBlock ∧ (v.ownBlock = v0.ownBlock ∨ ∃ k, v.ownBlock = some k ∧ w0.heap.size ≤ k)

theorem Grew.refl (w : World) (v : Value) : Grew w v w v := ⟨⟨rfl, rfl, rfl, Nat.le_refl _, fun _ _ _ => rfl⟩, .inl rfl⟩

theorem Grew.step {w0 w w' : World} {v0 v v' : Value} (h : Grew w0 v0 w v) (n : Nat) (o : Obj) (hg : ((w.drewN n).alloc o).grownBy w' v.ownBlock) (hl : v'.ownBlock = v.ownBlock ∨ v'.ownBlock = some ((w.drewN n).alloc o).heap.size) : Grew w0 v0 w' v' := by
  obtain ⟨h1, h2⟩ := h
  have ha0 := World.grownBy_alloc (w.drewN n) o none
  have ha : w.grownBy ((w.drewN n).alloc o) none := ⟨ha0.os, ha0.tape, ha0.output, ha0.size, ha0.block⟩
  have hs := h1.size
  have hs2 := ha.size
  refine ⟨⟨hg.os.trans (ha.os.trans h1.os), hg.tape.trans (ha.tape.trans h1.tape), hg.output.trans (ha.output.trans h1.output), Nat.le_trans hs (Nat.le_trans hs2 hg.size), fun k hk hne => ?_⟩, ?_⟩
  · refine (hg.block k (by omega) ?_).trans ((ha.block k (by omega) (by simp)).trans (h1.block k hk hne))
    rcases h2 with h2 | ⟨j, h2, h3⟩
    · rw [h2]; exact hne
    · rw [h2]; intro e; injection e with e; omega
  · rcases hl with hl | hl
    · rcases h2 with h2 | ⟨j, h2, h3⟩
      · exact .inl (hl.trans h2)
      · exact .inr ⟨j, hl.trans h2, h3⟩
    · exact .inr ⟨_, hl, by omega⟩

theorem Grew.below {w0 w : World} {v0 v : Value} {B : Nat} (h : Grew w0 v0 w v) (hB : B ≤ w0.heap.size) (hv : ∀ k, v0.ownBlock = some k → B ≤ k) : Below B w0 w :=
  ⟨h.1.os, h.1.tape, h.1.output, h.1.size, fun k hk => h.1.block k (by omega) fun e => by have := hv k e.symm; omega⟩

theorem Sl.grew {w0 w : World} {v0 v : Value} {B : Nat} {A : Option Addr} {xs : List Value} (h : Sl w0 B A xs) (hg : Grew w0 v0 w v) (hB : B ≤ w0.heap.size) (hne : ∀ g o, A = some ⟨g, o, none⟩ → some g ≠ v0.ownBlock) : Sl w B A xs := by
  intro hn
  obtain ⟨g, o, e, hlt, hc⟩ := h hn
  refine ⟨g, o, e, hlt, fun i u hu => ?_⟩
  rw [← hc i u hu]
  exact World.cell?_of_block (w := w0) (w' := w) (a := ⟨g, o + i, none⟩) (hg.1.block g (by omega) (hne g o e))

theorem own_block {A : Option Addr} {n c g o : Nat} (h : A = some ⟨g, o, none⟩) : (Value.slice A n c).ownBlock = some g := by subst h; rfl

section
variable {ops : Array Oper} {rest : List Oper} {o : Oper} {a : Act} {Q : Exit → Act → World → Prop} (w : World)

theorem wp_append_int_at (hg : o.guard = none) (s x : Operand) (ho : o.op = .call { callee := .builtin .append, args := #[s, x], argTypes := #[28, 28] })
    (base : Nat) (v : Value) (l : List Int) (hs : a.eval s = v) (hown : Own w base v l) (b c : Nat) (y : Int) (hx : a.eval x = .slice (some ⟨b, 0, none⟩) 1 c)
    (hc : w.cell? ⟨b, 0, none⟩ = some (.int .i64 y)) (hlen : l.length ≤ 1000000) (hbase : base ≤ w.heap.size)
    (h : ∀ v' w', Own w' base v' (l ++ [y]) → w.grownBy w' v.ownBlock → (v'.ownBlock = v.ownBlock ∨ v'.ownBlock = some w.heap.size) → wpList Try.prog ops Q rest (a.put o.dst v') w') : wpList Try.prog ops Q (o :: rest) a w := by
  obtain ⟨i0, hi, hz0, hz1, hz2⟩ := info_parts info_int
  refine wpList_append_own_at w hg s x _ ho base 3 i0 (.int .i64 0) 1 8 Try.underlying28 hi hz0 hz1 hz2 rfl (by decide) v l.length (ints l) hs hown ⟨b, 0, none⟩ 1 c [.int .i64 y] hx rfl ?_ ?_ ?_ ?_ hbase ?_
  · intro j u hj
    match j, hj with
    | 0, hj => simp at hj; subst hj; simpa [Addr.add] using hc
  · intro u hu; simp at hu; subst hu; rfl
  · unfold maxLen; omega
  · omega
  · intro v' w' h1 h2 _ h4
    exact h v' w' (by
      have e : (l ++ [y]).length = l.length + 1 := by simp
      unfold Own; rw [e, ints_app]; exact h1) h2 h4
end

/-- Two slices that do not lie in one block. -/
def Disj (v v' : Value) : Prop := ∀ k, v.ownBlock = some k → v'.ownBlock ≠ some k

theorem Disj.nil (v' : Value) : Disj (.slice none 0 0) v' := fun k h => by cases h
theorem Disj.symm {v v' : Value} (h : Disj v v') : Disj v' v := fun k h1 h2 => h k h2 h1

/-- The one is appended to, the other one stays. -/
theorem Disj.step {w w' : World} {B : Nat} {v v2 v' : Value} {l' : List Int} (hd : Disj v v') (ho : Own w B v' l') (n : Nat) (o : Obj) (hg : ((w.drewN n).alloc o).grownBy w' v.ownBlock) (hat : v2.ownBlock = v.ownBlock ∨ v2.ownBlock = some ((w.drewN n).alloc o).heap.size) :
    Own w' B v' l' ∧ Disj v2 v' := by
  have ho1 : Own ((w.drewN n).alloc o) B v' l' := (ho.drewN n).alloc o
  refine ⟨World.ownsRow.kept ho1 hg ?_, fun k h1 h2 => ?_⟩
  · cases e : v'.ownBlock with
    | none => exact .inl rfl
    | some k => exact .inr fun h => hd k h.symm e
  · rcases hat with h | h
    · exact hd k (h ▸ h1) h2
    · have h3 : k = ((w.drewN n).alloc o).heap.size := by rw [h] at h1; injection h1 with h1; exact h1.symm
      have := (ho.lt k h2).2
      have h4 := (World.grownBy_alloc (w.drewN n) o none).size
      have h5 : w.heap.size ≤ ((w.drewN n).alloc o).heap.size := h4
      omega
end Go.Proofs.Ythlibdpemocpmaa
