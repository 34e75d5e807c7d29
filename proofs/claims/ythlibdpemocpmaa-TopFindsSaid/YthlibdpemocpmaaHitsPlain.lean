/- Plain words on the hits of words in a text: as the machine tells them, and in order. No program is in sight here. -/
import Derived.Test.YthlibdpemocpmaaManyPlain
import Derived.Test.YthlibdpemocpmaaTrieFns
import Derived.Test.YthlibdpemocpmaaFindPlain
namespace Go.Proofs.Ythlibdpemocpmaa
set_option linter.unusedVariables false
set_option linter.unusedSimpArgs false
set_option linter.unusedSectionVars false

/-- Word k stands in the text at a. -/
def Hit (ws : List ByteArray) (s : ByteArray) (a k : Nat) : Prop := At (bt (wat ws k)) (wat ws k).size (bt s) s.size a
instance (ws : List ByteArray) (s : ByteArray) (a k : Nat) : Decidable (Hit ws s a k) := by unfold Hit; exact inferInstance

/-- The hits at one place, by word. -/
def hitsAt (ws : List ByteArray) (s : ByteArray) (n a : Nat) : List (Int × Int) := ((List.range n).filter fun k => decide (Hit ws s a k)).map fun k : Nat => ((a : Int), (k : Int))
/-- All hits, by place, then by word. -/
def hitsTo (ws : List ByteArray) (s : ByteArray) (i : Nat) : List (Int × Int) := (List.range i).flatMap fun a => hitsAt ws s ws.length a
def hitsL (ws : List ByteArray) (s : ByteArray) : List (Int × Int) := hitsTo ws s s.size

/-- The hits as the machine tells them. -/
def rawAt (wd : List Nat → Int) (ws : List ByteArray) (s : ByteArray) (a : Nat) (l : List Int) : List (Int × Int) := l.map fun x => ((a : Int) + 1 - (wat ws x.toNat).size, x)
def rawTo (wd : List Nat → Int) (ws : List ByteArray) (s : ByteArray) (i : Nat) : List (Int × Int) := (List.range i).flatMap fun a => rawAt wd ws s a (endS wd (pfx s (a + 1)))

def LtH (x y : Int × Int) : Prop := x.1 < y.1 ∨ (x.1 = y.1 ∧ x.2 < y.2)
theorem lth_irrefl (x : Int × Int) : ¬ LtH x x := by unfold LtH; omega
theorem lth_asymm {x y : Int × Int} (h : LtH x y) (h' : LtH y x) : False := by unfold LtH at *; omega
theorem lth_total {x y : Int × Int} (h : ¬ LtH x y) (h' : ¬ LtH y x) : x = y := by
  unfold LtH at *
  exact Prod.ext (by omega) (by omega)

/-- Two lists in the same strict order with the same members are one. -/
theorem strict_unique {α : Type} {R : α → α → Prop} (hi : ∀ x, ¬ R x x) (ha : ∀ x y, R x y → R y x → False) : ∀ {l l' : List α}, l.Pairwise R → l'.Pairwise R → (∀ x, x ∈ l ↔ x ∈ l') → l = l'
  | [], [], _, _, _ => rfl
  | [], b :: l', _, _, h => absurd ((h b).2 (by simp)) (by simp)
  | a :: l, [], _, _, h => absurd ((h a).1 (by simp)) (by simp)
  | a :: l, b :: l', h1, h2, h => by
    rw [List.pairwise_cons] at h1 h2
    have e : a = b := by
      rcases List.mem_cons.1 ((h a).1 (by simp)) with e | e
      · exact e
      · rcases List.mem_cons.1 ((h b).2 (by simp)) with e2 | e2
        · exact e2.symm
        · exact (ha _ _ (h2.1 _ e) (h1.1 _ e2)).elim
    subst e
    rw [strict_unique hi ha h1.2 h2.2 fun x => ?_]
    constructor
    · intro hx
      rcases List.mem_cons.1 ((h x).1 (List.mem_cons_of_mem _ hx)) with e | e
      · subst e; exact (hi _ (h1.1 _ hx)).elim
      · exact e
    · intro hx
      rcases List.mem_cons.1 ((h x).2 (List.mem_cons_of_mem _ hx)) with e | e
      · subst e; exact (hi _ (h2.1 _ hx)).elim
      · exact e

theorem pfx_get {s : ByteArray} {k j : Nat} (h : j < k) : (pfx s k)[j]? = some (bt s j) := by
  unfold pfx
  rw [List.getElem?_map, List.getElem?_range h]; rfl
theorem suffix_pfx {s : ByteArray} {p : List Nat} {k : Nat} : p <:+ pfx s k ↔ p.length ≤ k ∧ ∀ j, j < p.length → p[j]? = some (bt s (k - p.length + j)) := by
  rw [List.suffix_iff_eq_drop, pfx_len]
  constructor
  · intro h
    have hl : p.length ≤ k := by
      have := congrArg List.length h
      simp at this; omega
    refine ⟨hl, fun j hj => ?_⟩
    have h2 : p[j]? = ((pfx s k).drop (k - p.length))[j]? := congrArg (fun l : List Nat => l[j]?) h
    rw [h2, List.getElem?_drop, pfx_get (by omega)]
  · rintro ⟨hl, h⟩
    apply List.ext_getElem?
    intro j
    by_cases hj : j < p.length
    · rw [h j hj, List.getElem?_drop, pfx_get (by omega)]
    · rw [List.getElem?_eq_none (by omega), List.getElem?_eq_none (by rw [List.length_drop, pfx_len]; omega)]
theorem word_suffix {s w : ByteArray} {k : Nat} : wordP w <:+ pfx s k ↔ w.size ≤ k ∧ ∀ j, j < w.size → bt w j = bt s (k - w.size + j) := by
  rw [suffix_pfx, wordP, pfx_len]
  refine and_congr_right fun _ => forall_congr' fun j => ?_
  constructor
  · intro h hj
    have := h hj
    simp [pfx, hj] at this
    exact this
  · intro h hj
    simp [pfx, hj]
    exact h hj

section
variable {ws : List ByteArray} {s : ByteArray} (hW : WAll ws)
include hW
theorem hit_pos {k : Nat} (hk : k < ws.length) : 0 < (wat ws k).size := (hW.2 k hk).1

theorem raw_mem {i : Nat} (hi : i ≤ s.size) {y x : Int} : (y, x) ∈ rawTo (wdTo ws ws.length) ws s i ↔ ∃ a m : Nat, a < i ∧ m < ws.length ∧ x = m ∧ y = (a : Int) + 1 - (wat ws m).size ∧ (wat ws m).size ≤ a + 1 ∧ ∀ j, j < (wat ws m).size → bt (wat ws m) j = bt s (a + 1 - (wat ws m).size + j) := by
  have hD := wall_dist hW
  unfold rawTo rawAt
  rw [List.mem_flatMap]
  constructor
  · rintro ⟨a, ha, hx⟩
    rw [List.mem_map] at hx
    obtain ⟨z, hz, e⟩ := hx
    injection e with e1 e2
    subst e2
    obtain ⟨r, h1, h2, h3, h4⟩ := ends_mem.1 hz
    obtain ⟨m, hm, h5, h6⟩ := (wd_word hD (p := r)).1 h3
    subst h4
    rw [h5] at e1 ⊢
    subst h6
    obtain ⟨h7, h8⟩ := word_suffix.1 h1
    exact ⟨a, m, List.mem_range.1 ha, hm, rfl, by rw [← e1]; simp, h7, h8⟩
  · rintro ⟨a, m, ha, hm, rfl, rfl, h7, h8⟩
    refine ⟨a, List.mem_range.2 ha, ?_⟩
    rw [List.mem_map]
    have hwd := (wd_word hD (p := wordP (wat ws m))).2 m hm rfl
    refine ⟨m, ends_mem.2 ⟨wordP (wat ws m), word_suffix.2 ⟨h7, h8⟩, fun e => ?_, by rw [hwd]; omega, hwd.symm⟩, by simp⟩
    have h9 := congrArg List.length e
    have := hit_pos hW hm
    rw [wordP, pfx_len, List.length_nil] at h9
    omega

theorem hits_mem {y x : Int} : (y, x) ∈ hitsL ws s ↔ ∃ a m : Nat, a < s.size ∧ m < ws.length ∧ x = m ∧ y = a ∧ Hit ws s a m := by
  unfold hitsL hitsTo hitsAt
  rw [List.mem_flatMap]
  constructor
  · rintro ⟨a, ha, hx⟩
    rw [List.mem_map] at hx
    obtain ⟨m, hm, e⟩ := hx
    rw [List.mem_filter, List.mem_range, decide_eq_true_eq] at hm
    injection e with e1 e2
    exact ⟨a, m, List.mem_range.1 ha, hm.1, e2.symm, e1.symm, hm.2⟩
  · rintro ⟨a, m, ha, hm, rfl, rfl, h⟩
    refine ⟨a, List.mem_range.2 ha, ?_⟩
    rw [List.mem_map]
    exact ⟨m, by rw [List.mem_filter, List.mem_range, decide_eq_true_eq]; exact ⟨hm, h⟩, rfl⟩

theorem raw_hits (z : Int × Int) : z ∈ rawTo (wdTo ws ws.length) ws s s.size ↔ z ∈ hitsL ws s := by
  obtain ⟨y, x⟩ := z
  rw [raw_mem hW (Nat.le_refl _), hits_mem hW]
  constructor
  · rintro ⟨a, m, ha, hm, rfl, rfl, h1, h2⟩
    have := hit_pos hW hm
    exact ⟨a + 1 - (wat ws m).size, m, by omega, hm, rfl, by omega, by omega, h2⟩
  · rintro ⟨a, m, ha, hm, rfl, rfl, h1, h2⟩
    have := hit_pos hW hm
    exact ⟨a + (wat ws m).size - 1, m, by omega, hm, rfl, by omega, by omega, fun j hj => by rw [h2 j hj]; congr 1; omega⟩

theorem endS_nodup : ∀ q : List Nat, (endS (wdTo ws ws.length) q).Nodup
  | [] => List.Pairwise.nil
  | c :: p => by
    have hD := wall_dist hW
    rw [endS, ownW]
    split
    · rename_i h0
      rw [List.singleton_append, List.nodup_cons]
      refine ⟨fun h => ?_, endS_nodup p⟩
      obtain ⟨r, h1, h2, h3, h4⟩ := ends_mem.1 h
      obtain ⟨m, hm, h5, h6⟩ := (wd_word hD (p := r)).1 h3
      obtain ⟨m', hm', h5', h6'⟩ := (wd_word hD (p := c :: p)).1 h0
      have : m = m' := by omega
      subst this
      have h7 : r = c :: p := h6.trans h6'.symm
      have h8 := h1.length_le
      rw [h7] at h8
      simp at h8; omega
    · rw [List.nil_append]; exact endS_nodup p

theorem raw_nodup : (rawTo (wdTo ws ws.length) ws s s.size).Nodup := by
  unfold rawTo rawAt
  rw [List.Nodup, List.pairwise_flatMap]
  refine ⟨fun a ha => ?_, ?_⟩
  · rw [List.pairwise_map]
    exact (endS_nodup hW _).imp fun {x y} h e => h (by injection e)
  · refine List.pairwise_lt_range.imp fun {a b} hab x hx y hy e => ?_
    rw [List.mem_map] at hx hy
    obtain ⟨u, _, rfl⟩ := hx
    obtain ⟨v, _, rfl⟩ := hy
    injection e with e1 e2
    subst e2
    omega

theorem hits_pair : (hitsL ws s).Pairwise LtH := by
  unfold hitsL hitsTo hitsAt
  rw [List.pairwise_flatMap]
  refine ⟨fun a ha => ?_, ?_⟩
  · rw [List.pairwise_map]
    exact (List.Pairwise.filter _ List.pairwise_lt_range).imp fun {x y} h => Or.inr ⟨rfl, (by show (x : Int) < y; omega)⟩
  · refine List.pairwise_lt_range.imp fun {a b} hab x hx y hy => ?_
    rw [List.mem_map] at hx hy
    obtain ⟨u, _, rfl⟩ := hx
    obtain ⟨v, _, rfl⟩ := hy
    exact Or.inl (by show (a : Int) < b; omega)

/-- What comes out of the sorting is the hits in order. -/
theorem sorted_hits {l : List (Int × Int)} (hp : l.Perm (rawTo (wdTo ws ws.length) ws s s.size)) (hs : l.Pairwise fun x y => ¬ LtH y x) : l = hitsL ws s := by
  have hn : l.Nodup := hp.nodup_iff.2 (raw_nodup hW)
  refine strict_unique lth_irrefl (fun x y => lth_asymm) ((hs.and hn).imp fun {x y} h => ?_) (hits_pair hW) fun x => hp.mem_iff.trans (raw_hits hW x)
  exact Classical.byContradiction fun h2 => h.2 (lth_total h2 h.1)

theorem raw_len {i : Nat} (h8 : ∀ k, k < ws.length → (wat ws k).size ≤ 8) : (rawTo (wdTo ws ws.length) ws s i).length ≤ i * 100 := by
  unfold rawTo rawAt
  induction i with
  | zero => simp
  | succ i ih =>
    rw [List.range_succ, List.flatMap_append, List.length_append]
    rw [List.flatMap_singleton, List.length_map]
    have h1 : (endS (wdTo ws ws.length) (pfx s (i + 1))).length ≤ ws.length := by
      have hD := wall_dist hW
      have h2 : ∀ x ∈ endS (wdTo ws ws.length) (pfx s (i + 1)), x ∈ (List.range ws.length).map fun m : Nat => (m : Int) := fun x hx => by
        obtain ⟨r, _, _, h3, h4⟩ := ends_mem.1 hx
        obtain ⟨m, hm, h5, _⟩ := (wd_word hD (p := r)).1 h3
        rw [List.mem_map]
        exact ⟨m, List.mem_range.2 hm, by rw [h4, h5]⟩
      have := (endS_nodup hW (pfx s (i + 1))).length_le_of_subset h2
      simpa using this
    have := hW.1
    omega
end
end Go.Proofs.Ythlibdpemocpmaa
