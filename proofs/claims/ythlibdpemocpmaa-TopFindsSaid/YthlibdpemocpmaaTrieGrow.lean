/- trie.grow: the beginnings of the words, laid as nodes. -/
import Derived.Test.YthlibdpemocpmaaTrieMem
import Derived.Lib.ConvBytes
import Derived.Deep.DeepMust
namespace Go.Proofs.Ythlibdpemocpmaa
set_option linter.unusedVariables false
set_option linter.unusedSimpArgs false
open Go.RowKit Go.Maps Go.Lib

theorem wat_get {ws : List ByteArray} {k : Nat} (h : k < ws.length) : (ws.map Value.string)[k]? = some (.string (wat ws k)) := by
  simp [wat, h]

/-- The bytes of a text, in a row of their own. -/
def BytesAt (w : World) (b : Nat) (s : ByteArray) : Prop := ∀ j, j < s.size → w.cell? ⟨b, j, none⟩ = some (.int .u8 (bt s j : Int))

theorem bytes_at (w : World) (s : ByteArray) : BytesAt (bytesWorld w 5 s) w.heap.size s := fun j hj => bytesWorld_cell w 5 s j hj
theorem bytes_below (w : World) (s : ByteArray) : Below w.heap.size w (bytesWorld w 5 s) :=
  ⟨rfl, rfl, rfl, by rw [bytesWorld_size]; omega, fun k hk => bytesWorld_at_old w _ s k hk⟩

theorem addTo_le (L : List (List Nat)) (s : ByteArray) : ∀ k, (addTo L s k).length ≤ L.length + k
  | 0 => Nat.le_refl _
  | k + 1 => by
    have := addTo_le L s k
    rw [addTo]
    split
    · omega
    · simp; omega
theorem nodesTo_le {ws : List ByteArray} : ∀ {k : Nat}, (∀ i, i < k → (wat ws i).size ≤ 8) → (nodesTo ws k).length ≤ 1 + 8 * k
  | 0, _ => by simp [nodesTo]
  | k + 1, h => by
    have h1 := nodesTo_le (k := k) fun i hi => h i (by omega)
    have h2 := addTo_le (nodesTo ws k) (wat ws k) (wat ws k).size
    have h3 := h k (by omega)
    show (addTo (nodesTo ws k) (wat ws k) (wat ws k).size).length ≤ _
    omega

/-- What the loop over the words keeps. -/
structure GrowSt (w wr : World) (ws : List ByteArray) (k : Nat) (mb : List Nat → Nat) (E : Nat) : Prop where
  trie : TrieAt wr w.heap.size E (nodesTo ws k) mb (wdTo ws k)
  root : mb [] = w.heap.size
  hE : E ≤ wr.heap.size
  below : Below w.heap.size w wr

/-- What the loop over the bytes of a word keeps. -/
structure GrowIn (w wr : World) (ws : List ByteArray) (k : Nat) (s : ByteArray) (cb m : Nat) (mb : List Nat → Nat) (E : Nat) : Prop where
  trie : TrieAt wr w.heap.size E (addTo (nodesTo ws k) s m) mb (wdTo ws k)
  root : mb [] = w.heap.size
  hE : E ≤ wr.heap.size
  below : Below w.heap.size w wr
  bytes : BytesAt wr cb s
  hcb : cb < wr.heap.size

section
variable {w wr wr' : World} {ws : List ByteArray} {k m cb E : Nat} {s : ByteArray} {mb : List Nat → Nat}

theorem grow_in (h : GrowSt w wr ws k mb E) (s : ByteArray) : GrowIn w (bytesWorld wr 5 s) ws k s wr.heap.size 0 mb E := by
  have hb := bytes_below wr s
  exact ⟨h.trie.below h.hE hb, h.root, Nat.le_trans h.hE hb.size, h.below.trans (hb.mono h.below.size), bytes_at wr s, by rw [bytesWorld_size]; omega⟩

theorem GrowIn.hit (h : GrowIn w wr ws k s cb m mb E) (hm : pfx s (m + 1) ∈ addTo (nodesTo ws k) s m) : GrowIn w wr ws k s cb (m + 1) mb E :=
  ⟨by rw [addTo_hit hm]; exact h.trie, h.root, h.hE, h.below, h.bytes, h.hcb⟩

theorem GrowIn.pmap (h : GrowIn w wr ws k s cb m mb E) : PMap wr (mb (pfx s m)) (addTo (nodesTo ws k) s m).length (fun c => if pfx s m ++ [c] ∈ addTo (nodesTo ws k) s m then some (mb (pfx s m ++ [c]) + 1) else none) :=
  h.trie.maps _ (addTo_pfx (clo_nodes ws k) (Nat.le_refl _))
theorem GrowIn.cell0 (h : GrowIn w wr ws k s cb m mb E) : wr.cell? ⟨mb (pfx s m) + 1, 0, none⟩ = some (.map (some (mb (pfx s m)))) := h.trie.cell0 _ (addTo_pfx (clo_nodes ws k) (Nat.le_refl _))

theorem wd_new {q : List Nat} (hq : q ≠ []) (h : ¬ q ∈ nodesTo ws k) : wdTo ws k q = -1 := by
  rcases wdTo_spec (ws := ws) (p := q) (i := k) with ⟨h1, _⟩ | ⟨m, h1, h2, h3⟩
  · exact h1
  · refine absurd (nodesTo_mem.2 (.inr ⟨m, (wat ws m).size, h1, ?_, Nat.le_refl _, h3⟩)) h
    rcases Nat.eq_zero_or_pos (wat ws m).size with h4 | h4
    · rw [wordP, h4] at h3; exact absurd h3 hq
    · exact h4

theorem GrowIn.miss (h : GrowIn w wr ws k s cb m mb E) (hm : ¬ pfx s (m + 1) ∈ addTo (nodesTo ws k) s m) (hms : m < s.size)
    (hg : ((wr.alloc (.map #[] 0)).alloc (.cells #[.map (some wr.heap.size), .int .i64 (-1)] 58)).grownBy wr' (some (mb (pfx s m))))
    (hP : PMap wr' (mb (pfx s m)) ((addTo (nodesTo ws k) s m).length + 1) (fun z => if z = bt s m then some (wr.heap.size + 1) else if pfx s m ++ [z] ∈ addTo (nodesTo ws k) s m then some (mb (pfx s m ++ [z]) + 1) else none)) :
    GrowIn w wr' ws k s cb (m + 1) (fun q => if q = pfx s (m + 1) then wr.heap.size else mb q) (wr.heap.size + 2) := by
  have hin := addTo_pfx (L := nodesTo ws k) (s := s) (clo_nodes ws k) (Nat.le_refl m)
  have hwr : w.heap.size ≤ wr.heap.size := h.below.size
  rw [pfx_succ] at hm ⊢
  have hT := h.trie.node h.hE hwr (clo_add (clo_nodes ws k) m) hin hm hg hP (wd_new (by simp) fun h2 => hm (addTo_mem.2 (.inl h2)))
  have hlo := h.trie.lo _ hin
  have hhi := h.trie.hi _ hin
  obtain ⟨es, clock, hmap⟩ := (h.trie.maps _ hin).isMap
  have hsz := hg.size
  have hs2 : ((wr.alloc (.map #[] 0)).alloc (.cells #[.map (some wr.heap.size), .int .i64 (-1)] 58)).heap.size = wr.heap.size + 2 := by simp
  rw [hs2] at hsz
  have hold : ∀ j, j < wr.heap.size → j ≠ mb (pfx s m) → wr'.heap[j]? = wr.heap[j]? := fun j hj hne =>
    (hg.block j (by rw [hs2]; omega) (by intro e; injection e with e; exact hne e)).trans ((Go.Deep.blk_alloc_lt _ _ _ (by simp; omega)).trans (Go.Deep.blk_alloc_lt _ _ _ hj))
  refine ⟨by rw [addTo_miss (by rw [pfx_succ]; exact hm), pfx_succ]; exact hT, ?_, hsz, ?_, fun j hj => ?_, Nat.lt_of_lt_of_le h.hcb (by omega)⟩
  · rw [if_neg (by intro e; have := congrArg List.length e; simp at this)]
    exact h.root
  · refine h.below.trans ⟨hg.os, hg.tape, hg.output, by omega, fun j hj => hold j (by omega) (by omega)⟩
  · have hb := h.bytes j hj
    have hne : cb ≠ mb (pfx s m) := fun e => by
      rw [e] at hb
      simp [World.cell?, hmap] at hb
    exact (World.cell?_of_block (a := ⟨cb, j, none⟩) (hold cb h.hcb hne)).trans hb

theorem GrowIn.done (h : GrowIn w wr ws k s cb s.size mb E) (hs : s = wat ws k) : GrowSt w (wr.setCell ⟨mb (wordP s) + 1, 1, none⟩ (.int .i64 (k : Int))) ws (k + 1) mb E := by
  have hin := addTo_pfx (L := nodesTo ws k) (s := s) (clo_nodes ws k) (Nat.le_refl s.size)
  have hT := h.trie.setWord hin (k : Int)
  have hlo := h.trie.lo _ hin
  subst hs
  exact ⟨hT, h.root, by simpa using h.hE, h.below.trans ⟨rfl, rfl, rfl, by simp, fun j hj => Go.Deep.blk_setCell_other _ _ _ _ (by show j ≠ mb (pfx (wat ws k) (wat ws k).size) + 1; omega)⟩⟩
end

set_option maxRecDepth 100000 in
set_option maxHeartbeats 2000000 in
theorem grow_any (w : World) (A : Option Addr) (c : Nat) (ws : List ByteArray) (hl : ws.length ≤ 6) (hz : ∀ i, i < ws.length → (wat ws i).size ≤ 8) (hS : Sl w w.heap.size A (ws.map Value.string)) :
    Calls Try.prog 30 #[.slice A ws.length c] w fun e w' => ∃ mb E, e = .returned (.pointer (some ⟨w.heap.size + 1, 0, none⟩)) ∧ GrowSt w w' ws ws.length mb E := by
  have hmm := @run_makeMap Try.prog
  have H0 : GrowSt w ((w.alloc (.map #[] 0)).alloc (.cells #[.map (some w.heap.size), .int .i64 (-1)] 58)) ws 0 (fun _ => w.heap.size) (w.heap.size + 2) :=
    ⟨trie_root w, rfl, by simp, ((Below.refl _ _).alloc (Nat.le_refl _) _).alloc (by simp) _⟩
  have HZ := hid hz
  clear hz
  go_enter Try.func30, Try.ntmps30
  go_wp2_with fail
  go_loopw [14] (fun i wr => ∃ (k : Nat) (mb : List Nat → Nat) (E : Nat), k ≤ ws.length ∧ i = .int .i64 k ∧ Hid (GrowSt w wr ws k mb E)) (fun i _ => ws.length - (intOf i).toNat)
  case atStart => exact ⟨0, _, _, by omega, rfl, H0⟩
  case round =>
    clear H0
    obtain ⟨k, mb, E, hk, rfl, hG⟩ := hrel
    by_cases hlt : k < ws.length
    · obtain ⟨g, o, hA, hg, hc⟩ := hS (by intro e; simp at e; simp [e] at hlt)
      have q := (hG.out.below.cell (p := ⟨g, o + k, none⟩) hg).trans (hc k _ (wat_get hlt))
      have hs8 := HZ.out k hlt
      subst hA
      clear hc
      obtain ⟨s, hs, HSs⟩ : ∃ s, wat ws k = s ∧ Hid (s = wat ws k) := ⟨_, rfl, rfl⟩
      rw [hs] at q hs8
      clear hs
      have hconv := fun w' => Go.Lib.run_convert_string_bytes (P := Try.prog) w' 9 60 5 s Try.underlying9 Try.underlying60 Try.underlying5
      have HI := hid (grow_in hG.out s)
      have hroot := hG.out.root
      go_wp2_with fail
      generalize bytesWorld wr 5 s = wb at *
      generalize grownCap wr s.size 0 5 = gc at *
      obtain ⟨cb, hcb⟩ : ∃ cb, wr.heap.size = cb := ⟨_, rfl⟩
      rw [hcb] at HI ⊢
      clear hconv hG q
      go_loopw [23, 6] (fun j at' wi => ∃ (m : Nat) (mb : List Nat → Nat) (E : Nat), m ≤ s.size ∧ j = .int .i64 m ∧ at' = .pointer (some ⟨mb (pfx s m) + 1, 0, none⟩) ∧ Hid (GrowIn w wi ws k s cb m mb E)) (fun j _ _ => s.size - (intOf j).toNat)
      case atStart => exact ⟨0, mb, E, by omega, rfl, by rw [pfx_zero, hroot], HI⟩
      case round =>
        clear HI hroot hcb
        obtain ⟨m, mb, E, hm, rfl, rfl, hI⟩ := hrel
        by_cases hms : m < s.size
        · have hms' : (m : Int) < s.size := by omega
          have hb := hI.out.bytes m hms
          have c0 := hI.out.cell0
          have hP := hI.out.pmap
          have hc := bt_lt s m
          by_cases hmem : pfx s (m + 1) ∈ addTo (nodesTo ws k) s m
          · have Hn := hid (hI.out.hit hmem)
            have hF : (fun c => if pfx s m ++ [c] ∈ addTo (nodesTo ws k) s m then some (mb (pfx s m ++ [c]) + 1) else none) (bt s m) = some (mb (pfx s (m + 1)) + 1) := by
              rw [pfx_succ] at hmem ⊢
              exact if_pos hmem
            clear hI hmem
            go_wp2_with (first
              | (at_lookup; go_must (refine wp_lookup_hit _ rfl _ _ rfl (mb (pfx s m)) _ _ rfl hP (bt s m) hc rfl _ hF ?_))
              | fail)
            go_roundw
            case rel => exact ⟨m + 1, mb, E, by omega, by go_num, rfl, Hn⟩
            case measure => simp [intOf]; omega
          · have Hn := hid (fun w3 h1 h2 => hI.out.miss hmem hms (wr' := w3) h1 h2)
            have hF : (fun c => if pfx s m ++ [c] ∈ addTo (nodesTo ws k) s m then some (mb (pfx s m ++ [c]) + 1) else none) (bt s m) = none := by
              rw [pfx_succ] at hmem
              exact if_neg hmem
            have hlen : (addTo (nodesTo ws k) s m).length < 1000 := by
              have h1 := nodesTo_le (ws := ws) (k := k) fun i hi => HZ.out i (by omega)
              have h2 := addTo_le (nodesTo ws k) s m
              omega
            have hkept : PMap ((wr.alloc (.map #[] 0)).alloc (.cells #[.map (some wr.heap.size), .int .i64 (-1)] 58)) (mb (pfx s m)) (addTo (nodesTo ws k) s m).length (fun c => if pfx s m ++ [c] ∈ addTo (nodesTo ws k) s m then some (mb (pfx s m ++ [c]) + 1) else none) :=
              (hP.kept (Go.Deep.blk_alloc_lt _ _ _ hP.lt)).kept (Go.Deep.blk_alloc_lt _ _ _ (by simp; have := hP.lt; omega))
            have hne : (pfx s m) ≠ pfx s (m + 1) := fun e => by have := congrArg List.length e; simp at this
            have hF4 : (fun c => if pfx s m ++ [c] ∈ addTo (nodesTo ws k) s (m + 1) then some ((if pfx s m ++ [c] = pfx s (m + 1) then wr.heap.size else mb (pfx s m ++ [c])) + 1) else none) (bt s m) = some (wr.heap.size + 1) := by
              show (if pfx s m ++ [bt s m] ∈ addTo (nodesTo ws k) s (m + 1) then _ else _) = _
              rw [← pfx_succ, if_pos (addTo_pfx (clo_nodes ws k) (Nat.le_refl _)), if_pos rfl]
            have Hat := hid (pfx_succ s m)
            clear hI hmem
            go_wp2_with (first
              | (at_lookup; refine wp_lookup_miss _ rfl _ _ rfl (mb (pfx s m)) _ _ rfl hP (bt s m) hc rfl hF ?_)
              | (at_mapUpdate; go_must (refine wp_store_ptr _ rfl _ _ _ rfl (mb (pfx s m)) _ _ rfl hkept hlen (bt s m) hc rfl (wr.heap.size + 1) rfl ?_); intro w3 hP3 hg3; have hT3 := Hn.out w3 hg3 hP3; have c03 := hT3.trie.cell0 (pfx s m) (addTo_pfx (clo_nodes ws k) (Nat.le_succ m)); have hP4 := hT3.trie.maps (pfx s m) (addTo_pfx (clo_nodes ws k) (Nat.le_succ m)); simp only [if_neg hne] at c03 hP4)
              | (at_lookup; go_must (refine wp_lookup_hit _ rfl _ _ rfl (mb (pfx s m)) _ _ rfl hP4 (bt s m) hc rfl _ hF4 ?_))
              | fail)
            go_roundw
            case rel => exact ⟨m + 1, _, _, by omega, by go_num, by rw [if_pos rfl], hid hT3⟩
            case measure => simp [intOf]; omega
        · have hms' : ¬ (m : Int) < s.size := by omega
          have hme : m = s.size := by omega
          subst hme
          have hin := addTo_pfx (L := nodesTo ws k) (s := s) (clo_nodes ws k) (Nat.le_refl s.size)
          have c1 := hI.out.trie.cell1 _ hin
          have f1 := hI.out.trie.fr _ hin
          have Hn := hid (hI.out.done HSs.out)
          unfold wordP at Hn
          clear hI hin
          go_wp2_with fail
          go_roundw
          case rel => exact ⟨k + 1, mb, E, by omega, by go_num, Hn⟩
          case measure => simp [intOf]; omega
    · have hke : k = ws.length := by omega
      subst hke
      go_wp2_with fail
      go_ret
      exact ⟨mb, E, rfl, hG.out⟩
end Go.Proofs.Ythlibdpemocpmaa
