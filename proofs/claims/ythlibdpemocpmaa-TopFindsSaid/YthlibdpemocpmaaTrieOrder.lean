/- trie.Order: the walk over the nodes by a closure that calls itself. -/
import Derived.Test.YthlibdpemocpmaaTrieSize
import Derived.Deep.AppendLies
import Derived.Deep.RegionLaw
namespace Go.Proofs.Ythlibdpemocpmaa
set_option linter.unusedVariables false
set_option linter.unusedSimpArgs false
open Go.RowKit Go.Maps

/-- What the nodes from p on tell, in order. -/
def ordL (ps : List (List Nat)) (wd : List Nat → Int) : Nat → List Nat → List Int
  | 0, _ => []
  | d + 1, p => (if 0 ≤ wd p then [wd p] else []) ++ (List.range 256).flatMap fun c => if p ++ [c] ∈ ps then ordL ps wd d (p ++ [c]) else []

/-- The same, of the children below k. -/
def ordTo (ps : List (List Nat)) (wd : List Nat → Int) (d : Nat) (p : List Nat) (k : Nat) : List Int := (List.range k).flatMap fun c => if p ++ [c] ∈ ps then ordL ps wd d (p ++ [c]) else []

theorem ordTo_hit {ps : List (List Nat)} {wd : List Nat → Int} {d k : Nat} {p : List Nat} (h : p ++ [k] ∈ ps) : ordTo ps wd d p (k + 1) = ordTo ps wd d p k ++ ordL ps wd d (p ++ [k]) := by
  simp [ordTo, List.range_succ, h]
theorem ordTo_miss {ps : List (List Nat)} {wd : List Nat → Int} {d k : Nat} {p : List Nat} (h : ¬ p ++ [k] ∈ ps) : ordTo ps wd d p (k + 1) = ordTo ps wd d p k := by
  simp [ordTo, List.range_succ, h]

/-- The closure. -/
def walkFn (bo bw : Nat) : Value := .func (.func 32) #[] #[.pointer (some ⟨bo, 0, none⟩), .pointer (some ⟨bw, 0, none⟩)]

/-- The list that the closure fills, and the closure's own variable. -/
structure OutSt (w : World) (bo bw base : Nat) (l : List Int) : Prop where
  out : ∃ v, w.cell? ⟨bo, 0, none⟩ = some v ∧ Own w base v l
  fr : w.frozen? ⟨bo, 0, none⟩ = false
  fn : w.cell? ⟨bw, 0, none⟩ = some (walkFn bo bw)
  hb : base ≤ w.heap.size
  h1 : bo < base
  h2 : bw < base
  ne : bo ≠ bw

/-- Nothing below base has turned but block bo. -/
structure ButOut (w w' : World) (bo base : Nat) : Prop where
  os : w'.os = w.os
  tape : w'.tape = w.tape
  output : w'.output = w.output
  size : w.heap.size ≤ w'.heap.size
  block : ∀ k, k < base → k ≠ bo → w'.heap[k]? = w.heap[k]?

theorem ButOut.refl (w : World) (bo base : Nat) : ButOut w w bo base := ⟨rfl, rfl, rfl, Nat.le_refl _, fun _ _ _ => rfl⟩
theorem ButOut.trans {w w' w'' : World} {bo base : Nat} (h : ButOut w w' bo base) (k : ButOut w' w'' bo base) : ButOut w w'' bo base :=
  ⟨k.os.trans h.os, k.tape.trans h.tape, k.output.trans h.output, Nat.le_trans h.size k.size, fun j h1 h2 => (k.block j h1 h2).trans (h.block j h1 h2)⟩

section
variable {w w' : World} {B E bo bw base : Nat} {ps : List (List Nat)} {mb : List Nat → Nat} {wd : List Nat → Int}
theorem TrieAt.but (h : TrieAt w B E ps mb wd) (hk : ButOut w w' bo base) (hB : bo < B) (hE : E ≤ base) : TrieAt w' B E ps mb wd := h.kept fun k h1 h2 => hk.block k (by omega) (by omega)
end

/-- One word more: the append and the store. -/
theorem out_step {w w2 : World} {bo bw base : Nat} {l : List Int} {x : Int} {v v2 : Value} (h : OutSt w bo bw base l) (hv : w.cell? ⟨bo, 0, none⟩ = some v) (ho : Own w base v l)
    (ho2 : Own w2 base v2 (l ++ [x])) (hg : (w.alloc (.cells #[.int .i64 x] 3)).grownBy w2 v.ownBlock) :
    OutSt (w2.setCell ⟨bo, 0, none⟩ v2) bo bw base (l ++ [x]) ∧ ButOut w (w2.setCell ⟨bo, 0, none⟩ v2) bo base := by
  have hb := h.hb
  have h1 := h.h1
  have h2 := h.h2
  have hs : (w.alloc (.cells #[.int .i64 x] 3)).heap.size = w.heap.size + 1 := by simp
  have hsz := hg.size
  rw [hs] at hsz
  have hold : ∀ k, k < base → w2.heap[k]? = w.heap[k]? := fun k hk =>
    (hg.block k (by omega) (fun e => by have := (ho.lt k e.symm).1; omega)).trans (Go.Deep.blk_alloc_lt _ _ _ (by omega))
  have hc2 : w2.cell? ⟨bo, 0, none⟩ = some v := (World.cell?_of_block (a := ⟨bo, 0, none⟩) (hold bo h1)).trans hv
  refine ⟨⟨⟨v2, World.cell?_setCell_same _ _ _ hc2, ?_⟩, ?_, ?_, by simp; omega, h1, h2, h.ne⟩, ⟨hg.os, hg.tape, hg.output, by simp; omega, fun k hk hne => (Go.Deep.blk_setCell_other _ _ _ _ hne).trans (hold k hk)⟩⟩
  · exact World.ownsRow.kept ho2 (grown_set w2 bo 0 v2) (by
      cases e : v2.ownBlock with
      | none => exact .inl rfl
      | some k => exact .inr fun e2 => by injection e2 with e2; have := (ho2.lt k e).1; omega)
  · rw [World.frozen?_setCell]
    exact (World.frozen?_of_block (a := ⟨bo, 0, none⟩) (hold bo h1)).trans h.fr
  · rw [World.cell?_setCell_other _ _ _ _ (by intro e; injection e with e; exact h.ne e)]
    exact (World.cell?_of_block (a := ⟨bw, 0, none⟩) (hold bw h2)).trans h.fn

theorem out_pre {w w2 : World} {bo bw base : Nat} {l : List Int} {x : Int} {v : Value} (h : OutSt w bo bw base l) (hv : w.cell? ⟨bo, 0, none⟩ = some v) (ho : Own w base v l)
    (hg : (w.alloc (.cells #[.int .i64 x] 3)).grownBy w2 v.ownBlock) : w2.cell? ⟨bo, 0, none⟩ = some v ∧ w2.frozen? ⟨bo, 0, none⟩ = false := by
  have hb := h.hb
  have h1 := h.h1
  have hold : w2.heap[bo]? = w.heap[bo]? := 
    (hg.block bo (by simp; omega) (fun e => by have := (ho.lt bo e.symm).1; omega)).trans (Go.Deep.blk_alloc_lt _ _ _ (by omega))
  exact ⟨(World.cell?_of_block (a := ⟨bo, 0, none⟩) hold).trans hv, (World.frozen?_of_block (a := ⟨bo, 0, none⟩) hold).trans h.fr⟩

theorem ordTo_mono {ps : List (List Nat)} {wd : List Nat → Int} {d : Nat} {p : List Nat} {k m : Nat} (h : k ≤ m) : (ordTo ps wd d p k).length ≤ (ordTo ps wd d p m).length := by
  obtain ⟨j, rfl⟩ := Nat.exists_eq_add_of_le h
  simp [ordTo, List.range_add]

theorem new_one0 (w : World) (x : Value) (t : TypeId) : (w.alloc (.cells #[x] t)).cell? ⟨w.heap.size, 0, none⟩ = some x := by
  simp [cell_of_row (w.alloc (.cells #[x] t)) w.heap.size 0 #[x] t (0, 0) (heap_alloc_new w _)]

theorem u8_wrap {k : Nat} (h : k < 256) : IntKind.u8.wrap (k : Int) = k := by
  rw [IntKind.wrap_u8]; omega

set_option maxRecDepth 100000 in
set_option maxHeartbeats 2000000 in
theorem order_any : ∀ (d : Nat) (w : World) (l : List Int) (B E bo bw base : Nat) (ps : List (List Nat)) (mb : List Nat → Nat) (wd : List Nat → Int) (hT : TrieAt w B E ps mb wd) (hO : OutSt w bo bw base l) (hE : E ≤ base) (hB : bo < B)
    (p : List Nat) (hp : p ∈ ps) (hd : ∀ q ∈ ps, q.length < p.length + d) (hl : l.length + (ordL ps wd d p).length ≤ 1000),
    Calls Try.prog 32 #[.pointer (some ⟨mb p + 1, 0, none⟩), .pointer (some ⟨bo, 0, none⟩), .pointer (some ⟨bw, 0, none⟩)] w fun e w' => e = .returned (.tuple #[]) ∧ OutSt w' bo bw base (l ++ ordL ps wd d p) ∧ ButOut w w' bo base
  | 0, w, l, B, E, bo, bw, base, ps, mb, wd, hT, hO, hE, hB, p, hp, hd, hl => by have := hd p hp; omega
  | d + 1, w, l, B, E, bo, bw, base, ps, mb, wd, hT, hO, hE, hB, p, hp, hd, hl => by
    have IH := hid (fun w l hT hO q hq hd hl => order_any d w l B E bo bw base ps mb wd hT hO hE hB q hq hd hl)
    have c1 := hT.cell1 p hp
    obtain ⟨x, hx⟩ : ∃ x, wd p = x := ⟨_, rfl⟩
    rw [hx] at c1
    have HX := hid hx
    clear hx
    go_enter Try.func32, Try.ntmps32
    have HHd := hid hd
    have HHp := hid hp
    rcases Classical.em (0 ≤ x) with hx0 | hx0
    case' inl =>
      go_wp2_with fail
      obtain ⟨v, hv0, ho0⟩ := hO.out
      have hO1 : OutSt w.drew bo bw base l := ⟨hO.out, hO.fr, hO.fn, hO.hb, hO.h1, hO.h2, hO.ne⟩
      have hv : w.drew.cell? ⟨bo, 0, none⟩ = some v := hv0
      have ho : Own w.drew base v l := ho0
      have hbw := hO.hb
      have hbo : bo < w.heap.size := Nat.lt_of_lt_of_le hO.h1 hO.hb
      have hvA : (w.alloc (.cells #[.int .i64 x] 3)).cell? ⟨bo, 0, none⟩ = some v := (World.cell?_of_block (a := ⟨bo, 0, none⟩) (Go.Deep.blk_alloc_lt _ _ _ hbo)).trans hv0
      have hoA : Own (w.alloc (.cells #[.int .i64 x] 3)).drew base v l := ho0.alloc _
      obtain ⟨i0, hi, hz0, hz1, hz2⟩ := info_parts info_int
      have hnews : ∀ j u, ([Value.int .i64 x] : List Value)[j]? = some u → (w.alloc (.cells #[.int .i64 x] 3)).drew.cell? ((⟨w.heap.size, 0, none⟩ : Addr).add j) = some u := fun j u hu => by
        match j, hu with
        | 0, hu => simp at hu; subst hu; exact new_one0 w (.int .i64 x) 3
      go_region_law (refine step_append_lies _ rfl (.tmp 11) (.tmp 16) 28 rfl base 3 i0 (.int .i64 0) 1 8 Try.underlying28 hi hz0 hz1 hz2 rfl (by decide) v l.length (ints l) (by simp [Act.eval, Act.put]) hoA ⟨w.heap.size, 0, none⟩ 1 1 [.int .i64 x] (by simp [Act.eval, Act.put]) rfl hnews (fun u hu => by simp at hu; subst hu; rfl) (by omega) (by unfold maxLen; omega) (by omega) (by simp; omega) _ rfl ?_; intro g4 c4 w4 ho4' hg4' hat4 hlt4; have hg4 : (w.drew.alloc (.cells #[.int .i64 x] 3)).grownBy w4 v.ownBlock := ⟨hg4'.os, hg4'.tape, hg4'.output, hg4'.size, hg4'.block⟩; have ho4 : Own w4 base (.slice (some ⟨g4, 0, none⟩) (l.length + 1) c4) (l ++ [x]) := (by unfold Own; rw [ints_app, List.length_append]; exact ho4'); obtain ⟨hc4, hf4⟩ := out_pre hO1 hv ho hg4; have hst := out_step hO1 hv ho ho4 hg4)
      all_goals
        go_wp2_with fail
        obtain ⟨Lh, hLh⟩ : ∃ Lh, l ++ [x] = Lh := ⟨_, rfl⟩
        have HS := hid (show OutSt (w4.setCell ⟨bo, 0, none⟩ (.slice (some ⟨g4, 0, none⟩) (l.length + 1) c4)) bo bw base Lh ∧ ButOut w (w4.setCell ⟨bo, 0, none⟩ (.slice (some ⟨g4, 0, none⟩) (l.length + 1) c4)) bo base from ⟨hLh ▸ hst.1, (show ButOut w w.drew bo base from ⟨rfl, rfl, rfl, Nat.le_refl _, fun _ _ _ => rfl⟩).trans hst.2⟩)
        have HL := hid (show Lh ++ ordTo ps wd d p 256 = l ++ ordL ps wd (d + 1) p by
          rw [← hLh, ordL, HX.out, if_pos hx0, List.append_assoc]; rfl)
        clear hst hc4 hf4 ho4 ho4' hg4 hg4' hat4 hlt4 hO1 hv hv0 ho ho0 c1 hLh hvA hoA hnews hbo hbw
    case' inr =>
      have HX0 := hid hx0
      go_wp2_with fail
      obtain ⟨Lh, hLh⟩ : ∃ Lh, l = Lh := ⟨_, rfl⟩
      have HS := hid (show OutSt w bo bw base Lh ∧ ButOut w w bo base from ⟨hLh ▸ hO, ButOut.refl _ _ _⟩)
      have HL := hid (show Lh ++ ordTo ps wd d p 256 = l ++ ordL ps wd (d + 1) p by
        rw [← hLh, ordL, HX.out, if_neg (by have := HX0.out; omega), List.nil_append]; rfl)
      clear hLh c1 HX0
    all_goals
      have HLl := hid (show (Lh ++ ordTo ps wd d p 256).length ≤ 1000 by rw [HL.out, List.length_append]; exact hl)
      have HT := hid hT
      clear hT hO hl hx0 HX hd hp
      go_loopw [18] (fun i wr => ∃ k : Nat, k ≤ 256 ∧ i = .int .i64 k ∧ Hid (OutSt wr bo bw base (Lh ++ ordTo ps wd d p k) ∧ ButOut w wr bo base)) (fun i _ => 256 - (intOf i).toNat)
      case atStart => exact ⟨0, by omega, rfl, by rw [show ordTo ps wd d p 0 = [] from rfl, List.append_nil]; exact HS⟩
      case round =>
        clear HS
        obtain ⟨k, hk, rfl, hS⟩ := hrel
        by_cases hlt : k < 256
        · have hlt' : (k : Int) < 256 := by omega
          have hT1 := HT.out.but hS.out.2 hB hE
          have c0 := hT1.cell0 p HHp.out
          have hP := hT1.maps p HHp.out
          have hfn := hS.out.1.fn
          unfold walkFn at hfn
          have hwr := u8_wrap hlt
          have hle := ordTo_mono (ps := ps) (wd := wd) (d := d) (p := p) (show k + 1 ≤ 256 from hlt)
          have hll := HLl.out
          rw [List.length_append] at hll
          by_cases hmem : p ++ [k] ∈ ps
          · have hF : (fun c => if p ++ [c] ∈ ps then some (mb (p ++ [c]) + 1) else none) k = some (mb (p ++ [k]) + 1) := if_pos hmem
            have hcall := hid (IH.out wr _ hT1 hS.out.1 (p ++ [k]) hmem (fun q hq => by have := HHd.out q hq; simp; omega) (by rw [ordTo_hit hmem, List.length_append] at hle; rw [List.length_append]; omega))
            rw [List.append_assoc, ← ordTo_hit hmem] at hcall
            have HS2 := hid hS.out.2
            clear hT1 hS hle hll hmem
            go_wp2_with (first
              | (at_lookup; go_must (refine wp_lookup_hit _ rfl _ _ rfl (mb p) _ _ rfl hP k hlt (by first | rfl | simp [hwr]) _ hF ?_))
              | fail)
            refine hcall.out.mono ?_
            rintro e w6 ⟨rfl, hO6, hB6⟩
            have HN := hid (show OutSt w6 bo bw base (Lh ++ ordTo ps wd d p (k + 1)) ∧ ButOut w w6 bo base from ⟨hO6, HS2.out.trans hB6⟩)
            clear hO6 hB6 hcall hP hF
            go_wp2_with fail
            go_roundw
            case rel => exact ⟨k + 1, by omega, by go_num, HN⟩
            case measure => simp [intOf]; omega
          · have hF : (fun c => if p ++ [c] ∈ ps then some (mb (p ++ [c]) + 1) else none) k = none := if_neg hmem
            have HN := hid (show OutSt wr bo bw base (Lh ++ ordTo ps wd d p (k + 1)) ∧ ButOut w wr bo base from by rw [ordTo_miss hmem]; exact hS.out)
            clear hT1 hS hle hll hmem
            go_wp2_with (first
              | (at_lookup; go_must (refine wp_lookup_miss _ rfl _ _ rfl (mb p) _ _ rfl hP k hlt (by first | rfl | simp [hwr]) hF ?_))
              | fail)
            go_roundw
            case rel => exact ⟨k + 1, by omega, by go_num, HN⟩
            case measure => simp [intOf]; omega
        · have hke : k = 256 := by omega
          have hS2 := hS.out
          rw [hke, HL.out] at hS2
          have HS2 := hid hS2
          have hlt' : ¬ (k : Int) < 256 := by omega
          clear hS2 hS hke
          go_wp2_with fail
          go_end0
          exact ⟨rfl, HS2.out⟩
end Go.Proofs.Ythlibdpemocpmaa
