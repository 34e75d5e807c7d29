/- letterbecklaw1.added: a list with a text, if it is not in it. -/
import Derived.Test.YthdckapielbonaaStrs
namespace Go.Proofs.Ythdckapielbonaa
set_option linter.unusedVariables false
set_option linter.unusedSimpArgs false
open Go.RowKit

def strs (l : List ByteArray) : List Value := l.map Value.string

theorem strs_get' {l : List ByteArray} {i : Nat} {x : ByteArray} (h : l[i]? = some x) : (strs l)[i]? = some (.string x) := by simp [strs, h]
@[simp] theorem strs_len (l : List ByteArray) : (strs l).length = l.length := by simp [strs]
theorem strs_app (l l' : List ByteArray) : strs (l ++ l') = strs l ++ strs l' := by simp [strs]
theorem strs_ne {l : List ByteArray} (h : 0 < l.length) : strs l ≠ [] := fun e => by
  have := congrArg List.length e
  simp only [strs_len, List.length_nil] at this
  omega

theorem info_str : (Try.prog.info? 9).map (fun i => (i.zero, i.size, i.bytes)) = some (some (.string ByteArray.empty), 1, 16) := by kernel_rfl

/-- The slice value v, of a row of the call's own from block `base` on, holds the texts l. -/
def OwnS (w : World) (base : Nat) (v : Value) (l : List ByteArray) : Prop := w.ownsRow base 9 1 v l.length (strs l)

section
variable {w w' : World} {base base' : Nat} {v : Value} {l : List ByteArray}

theorem OwnS.nil (w : World) (base : Nat) : OwnS w base (.slice none 0 0) [] := World.ownsRow_nil _ _ _ _

theorem OwnS.shape (h : OwnS w base v l) : ∃ A c, v = .slice A l.length c := by
  rcases h.2 with ⟨e, h0⟩ | ⟨g, cap, cur, hv, _⟩
  · exact ⟨none, 0, by rw [e, h0]⟩
  · exact ⟨_, _, hv⟩

theorem OwnS.sl {A : Option Addr} {n c : Nat} (h : OwnS w base (.slice A n c) l) : Sl w w.heap.size A (strs l) := by
  obtain ⟨A', c', e⟩ := h.shape
  injection e with e1 e2 e3
  subst e2
  exact Sl.of_own h

theorem OwnS.below (h : OwnS w base v l) (hb : Below w.heap.size w w') : OwnS w' base v l := by
  obtain ⟨h1, h2⟩ := h
  refine ⟨h1, ?_⟩
  rcases h2 with h2 | ⟨g, cap, cur, hv, hg, hh, r⟩
  · exact .inl h2
  · exact .inr ⟨g, cap, cur, hv, hg, (hb.block g (Array.getElem?_eq_some_iff.1 hh).1).trans hh, r⟩

theorem OwnS.alloc (h : OwnS w base v l) (o : Obj) : OwnS (w.alloc o) base v l := h.below ((Below.refl _ _).alloc (Nat.le_refl _) o)
theorem OwnS.drewN (h : OwnS w base v l) (n : Nat) : OwnS (w.drewN n) base v l := h
end

/-- append(out, y), y one text in a new block of one cell. -/
theorem wp_append_str {ops : Array Oper} {rest : List Oper} {o : Oper} {a : Act} {Q : Exit → Act → World → Prop} (w : World)
    (hg : o.guard = none) (s x : Operand) (ho : o.op = .call { callee := .builtin .append, args := #[s, x], argTypes := #[36, 36] })
    (base : Nat) (v : Value) (l : List ByteArray) (hs : a.eval s = v) (hown : OwnS w base v l) (b c : Nat) (y : ByteArray) (hx : a.eval x = .slice (some ⟨b, 0, none⟩) 1 c)
    (hc : w.cell? ⟨b, 0, none⟩ = some (.string y)) (hlen : l.length ≤ 1000000) (hbase : base ≤ w.heap.size)
    (h : ∀ v' w', OwnS w' base v' (l ++ [y]) → w.grownBy w' v.ownBlock → wpList Try.prog ops Q rest (a.put o.dst v') w') : wpList Try.prog ops Q (o :: rest) a w := by
  obtain ⟨i0, hi, hz0, hz1, hz2⟩ := info_parts info_str
  refine wpList_append_own w hg s x _ ho base 9 i0 (.string ByteArray.empty) 1 16 Try.underlying36 hi hz0 hz1 hz2 rfl (by decide) v l.length (strs l) hs hown ⟨b, 0, none⟩ 1 c [.string y] hx rfl ?_ ?_ ?_ ?_ hbase ?_
  · intro j u hj
    match j, hj with
    | 0, hj => simp at hj; subst hj; simpa [Addr.add] using hc
  · intro u hu; simp at hu; subst hu; rfl
  · unfold maxLen; omega
  · omega
  · intro v' w' h1 h2 _
    exact h v' w' (by
      have e : (l ++ [y]).length = l.length + 1 := by simp
      unfold OwnS; rw [e, strs_app]; exact h1) h2

set_option maxHeartbeats 400000 in
theorem added_any (w : World) (base : Nat) (v : Value) (l : List ByteArray) (y : ByteArray) (ho : OwnS w base v l) (hl : l.length ≤ 1000) (hbase : base ≤ w.heap.size) (r : List ByteArray) (hr : (y ∈ l ∧ r = l) ∨ (¬ y ∈ l ∧ r = l ++ [y])) :
    Calls Try.prog 18 #[v, .string y] w fun e w' => Hid (∃ v', e = .returned v' ∧ OwnS w' base v' r ∧ Below base w w') := by
  obtain ⟨A, c, hv⟩ := ho.shape
  subst hv
  have hsl := ho.sl
  have Hr := hid hr
  clear hr
  go_enter Try.func18, Try.ntmps18
  go_wp2
  go_loop [5] (fun i => ∃ k : Nat, k ≤ l.length ∧ i = .int .i64 k ∧ Hid (∀ j x, j < k → l[j]? = some x → x ≠ y)) (fun i => l.length - (intOf i).toNat)
  case atStart => exact ⟨0, Nat.zero_le _, rfl, hid fun j x hj => by omega⟩
  case round =>
    obtain ⟨k, hk, rfl, hno⟩ := hrel
    by_cases hlt : k < l.length
    · obtain ⟨g, o, hA, hg, hc⟩ := hsl (strs_ne (by omega))
      obtain ⟨x, hx⟩ : ∃ x, l[k]? = some x := ⟨_, List.getElem?_eq_getElem hlt⟩
      have q := hc k _ (strs_get' hx)
      subst hA
      have Hx := hid hx
      clear hc hx
      by_cases he : x = y
      · have hin := hid (he ▸ List.mem_of_getElem? Hx.out : y ∈ l)
        have e1 := eq_true' he
        clear he
        go_wp2
        go_ret
        exact ⟨_, rfl, by rcases Hr.out with ⟨_, h⟩ | ⟨h, _⟩; exact h ▸ ho; exact absurd hin.out h, Below.refl _ _⟩
      · have e1 := eq_false' he
        have He := hid he
        clear he
        go_wp2
        go_round
        case rel =>
          refine ⟨k + 1, hlt, by go_num, hid fun j z hj hz => ?_⟩
          by_cases e : j = k
          · subst e
            rw [Hx.out] at hz
            cases hz
            exact He.out
          · exact hno.out j z (by omega) hz
        case measure => simp [intOf]; omega
    · have hnin : Hid (¬ y ∈ l) := fun h => by
        obtain ⟨i, hi⟩ := List.getElem?_of_mem h
        exact hno.out i y (by have := (List.getElem?_eq_some_iff.1 hi).1; omega) hi rfl
      go_wp2_with (first
        | (at_builtin; refine wp_append_str _ rfl _ _ rfl base _ _ rfl (ho.alloc _) _ _ y rfl (by simp) (by omega) (by simp; omega) ?_; intro v' w2 ho2 hg2; have hb2 : Below base w w2 := ((Below.refl _ _).alloc hbase _).grown hg2 (by simp; omega) (fun k hk => (ho.lt k hk).1)))
      go_ret
      exact ⟨_, rfl, by rcases Hr.out with ⟨h, _⟩ | ⟨_, h⟩; exact absurd h hnin.out; exact h ▸ ho2, hb2⟩
end Go.Proofs.Ythdckapielbonaa
