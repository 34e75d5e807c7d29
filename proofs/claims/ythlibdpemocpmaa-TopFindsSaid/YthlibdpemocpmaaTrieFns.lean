/- trie.Size, trie.Order. -/
import Derived.Test.YthlibdpemocpmaaTrieLaw
import Derived.Test.YthlibdpemocpmaaTrieCheck
import Derived.Laws.EntriesVeiled
import Derived.Deep.RegionWith
namespace Go.Proofs.Ythlibdpemocpmaa
set_option linter.unusedVariables false
set_option linter.unusedSimpArgs false
open Go.RowKit Go.Maps

theorem wall_dist {ws : List ByteArray} (h : WAll ws) : Dist ws := fun i j hij hj e => (h.2 j hj).2.2 ⟨i, hij, e⟩
theorem wall_size {ws : List ByteArray} (h : WAll ws) : ∀ i, i < ws.length → (wat ws i).size ≤ 8 := fun i hi => (h.2 i hi).2.1
theorem wall_nodes {ws : List ByteArray} (h : WAll ws) : (nodesTo ws ws.length).length < 1000 := by
  have h1 := nodesTo_le (ws := ws) (k := ws.length) (wall_size h)
  have := h.1
  omega

set_option maxHeartbeats 1000000 in
theorem trieSize_ok (w : World) (A : Option Addr) (c : Nat) (ws : List ByteArray) (h : Sl w w.heap.size A (ws.map Value.string)) (hc : ws.length ≤ c) (hW : WAll ws) :
    Calls Try.prog 11 #[.slice A ws.length c] w fun e w' => e = .returned (.tuple #[.int .i64 (nodesTo ws ws.length).length, .nilIface]) ∧ Below w.heap.size w w' := by
  have HC := hid (check_ok w A c ws h hc hW)
  have HG := hid (fun w1 (hb : Below w.heap.size w w1) => grow_any w1 A c ws hW.1 (wall_size hW) ((h.below hb).mono hb.size))
  have HS := hid (fun w1 w2 mb E (hG : GrowSt w1 w2 ws ws.length mb E) => by
    have := size_any 9 w2 w1.heap.size E _ mb _ hG.trie hG.hE (clo_nodes ws ws.length) (nodesTo_nodup ws _) (wall_nodes hW) nodes_bytes [] (nil_node _ _) (nodes_short (wall_size hW))
    rw [hG.root, cnt_root] at this
    exact this)
  clear h hW
  go_enter Try.func11, Try.ntmps11
  go_wp2_with fail
  refine HC.out.mono ?_
  rintro e w1 ⟨rfl, hb1⟩
  go_wp2_with fail
  refine (HG.out _ hb1).mono ?_
  rintro e w2 ⟨mb, E, rfl, hG⟩
  have hb2 := bch hb1 hG.below
  go_wp2_with fail
  refine (HS.out _ _ _ _ hG).mono ?_
  rintro e w3 ⟨rfl, hb3⟩
  have hb3 := bch hb2 hb3
  go_wp2_with fail
  go_ret2
  exact ⟨rfl, hb3⟩

set_option maxHeartbeats 400000 in
theorem trieSize_bad (w : World) (A : Option Addr) (c : Nat) (ws : List ByteArray) (h : Sl w w.heap.size A (ws.map Value.string)) (hc : ws.length ≤ c) (hz : ∀ k, k < ws.length → (wat ws k).size ≤ maxLen) (x : Int) (hW : WErr ws x) :
    Calls Try.prog 11 #[.slice A ws.length c] w fun e w' => e = .returned (.tuple #[.int .i64 0, errv x]) ∧ Below w.heap.size w w' := by
  have HC := hid (check_bad w A c ws h hc hz x hW)
  clear h hW hz
  go_enter Try.func11, Try.ntmps11
  go_wp2_with fail
  refine HC.out.mono ?_
  rintro e w1 ⟨rfl, hb1⟩
  go_wp2_with fail
  go_ret2
  exact ⟨rfl, hb1⟩

set_option maxHeartbeats 400000 in
theorem trieOrder_bad (w : World) (A : Option Addr) (c : Nat) (ws : List ByteArray) (h : Sl w w.heap.size A (ws.map Value.string)) (hc : ws.length ≤ c) (hz : ∀ k, k < ws.length → (wat ws k).size ≤ maxLen) (x : Int) (hW : WErr ws x) :
    Calls Try.prog 12 #[.slice A ws.length c] w fun e w' => e = .returned (.tuple #[.slice none 0 0, errv x]) ∧ Below w.heap.size w w' := by
  have HC := hid (check_bad w A c ws h hc hz x hW)
  clear h hW hz
  go_enter Try.func12, Try.ntmps12
  go_wp2_with fail
  refine HC.out.mono ?_
  rintro e w1 ⟨rfl, hb1⟩
  go_wp2_with fail
  go_ret2
  exact ⟨rfl, hb1⟩

/-- The two cells behind the call of grow. -/
theorem order_pre {w w1 w2 : World} {ws : List ByteArray} {mb : List Nat → Nat} {E bo : Nat} (h0 : w1.cell? ⟨bo, 0, none⟩ = some (.slice none 0 0)) (hf : w1.frozen? ⟨bo, 0, none⟩ = false)
    (h1 : w1.cell? ⟨bo + 1, 0, none⟩ = some (walkFn bo (bo + 1))) (hG : GrowSt w1 w2 ws ws.length mb E) : OutSt w2 bo (bo + 1) w2.heap.size [] := by
  have hb0 := World.block_lt_of_cell? w1 _ h0
  have hb1 := World.block_lt_of_cell? w1 _ h1
  have hs := hG.below.size
  exact ⟨⟨_, (hG.below.cell hb0).trans h0, Own.nil _ _⟩, (World.frozen?_of_block (a := ⟨bo, 0, none⟩) (hG.below.block bo hb0)).trans hf, (hG.below.cell hb1).trans h1, Nat.le_refl _, by have : bo < w1.heap.size := hb0; omega, by have : bo + 1 < w1.heap.size := hb1; omega, by omega⟩

set_option maxHeartbeats 1000000 in
theorem trieOrder_ok (w : World) (A : Option Addr) (c : Nat) (ws : List ByteArray) (h : Sl w w.heap.size A (ws.map Value.string)) (hc : ws.length ≤ c) (hW : WAll ws) :
    Calls Try.prog 12 #[.slice A ws.length c] w (RetInts w (ordW ws)) := by
  have HC := hid (check_ok w A c ws h hc hW)
  have HG := hid (fun w1 (hb : Below w.heap.size w w1) => grow_any w1 A c ws hW.1 (wall_size hW) ((h.below hb).mono hb.size))
  have HL := hid (ordW_len (wall_dist hW) (wall_size hW))
  have hl6 := hW.1
  have HS := hid (fun w1 w2 mb E bo (hG : GrowSt w1 w2 ws ws.length mb E) (h0 : w1.cell? ⟨bo, 0, none⟩ = some (.slice none 0 0)) (hf : w1.frozen? ⟨bo, 0, none⟩ = false) (h1 : w1.cell? ⟨bo + 1, 0, none⟩ = some (walkFn bo (bo + 1))) => by
    have := order_any 9 w2 [] w1.heap.size E bo (bo + 1) w2.heap.size _ mb _ hG.trie (order_pre (w := w1) h0 hf h1 hG) hG.hE (World.block_lt_of_cell? w1 _ h0) [] (nil_node _ _) (nodes_short (wall_size hW)) (by
      have := HL.out
      unfold ordW at this
      rw [this]; simp; omega)
    rw [hG.root, List.nil_append] at this
    exact this)
  clear h hW
  go_enter Try.func12, Try.ntmps12
  go_wp2_with fail
  refine HC.out.mono ?_
  rintro e w1 ⟨rfl, hb1⟩
  go_wp2_with fail
  obtain ⟨bo, hbo⟩ : ∃ bo, w1.heap.size = bo := ⟨_, rfl⟩
  have hbv : Below w.heap.size w ((w1.alloc (Obj.cells #[Value.slice none 0 0] 28)).alloc (Obj.cells #[walkFn bo (bo + 1)] 55)) := (hb1.alloc hb1.size _).alloc (by simp; have := hb1.size; omega) _
  have q0 : ((w1.alloc (Obj.cells #[Value.slice none 0 0] 28)).alloc (Obj.cells #[walkFn bo (bo + 1)] 55)).cell? ⟨bo, 0, none⟩ = some (.slice none 0 0) := by rw [← hbo]; go_simp
  have qf : ((w1.alloc (Obj.cells #[Value.slice none 0 0] 28)).alloc (Obj.cells #[walkFn bo (bo + 1)] 55)).frozen? ⟨bo, 0, none⟩ = false := by rw [← hbo]; go_simp
  have q1 : ((w1.alloc (Obj.cells #[Value.slice none 0 0] 28)).alloc (Obj.cells #[walkFn bo (bo + 1)] 55)).cell? ⟨bo + 1, 0, none⟩ = some (walkFn bo (bo + 1)) := by rw [← hbo]; go_simp
  have hwbo : w.heap.size ≤ bo := by rw [← hbo]; exact hb1.size
  rw [hbo]
  unfold walkFn at q0 qf q1 hbv
  generalize ((w1.alloc (Obj.cells #[Value.slice none 0 0] 28)).alloc (Obj.cells #[Value.func (Fn.func 32) #[] #[Value.pointer (some ⟨bo, 0, none⟩), Value.pointer (some ⟨bo + 1, 0, none⟩)]] 55)) = wv at *
  clear hb1 hbo
  go_region_law (first
    | (go_simp; go_at_call 30; refine (HG.out wv.drew (below_dn hbv 1)).mono ?_; rintro e w2 ⟨mb, E, rfl, hG⟩; have q12 : w2.cell? ⟨bo + 1, 0, none⟩ = _ := (hG.below.cell (p := ⟨bo + 1, 0, none⟩) (World.block_lt_of_cell? wv _ q1)).trans q1)
    | (go_simp; go_at_call 32; refine (HS.out wv.drew w2 mb E bo hG q0 qf q1).mono ?_; rintro e w4 ⟨rfl, hO4, hB4⟩; obtain ⟨v4, hv4, ho4⟩ := hO4.out; obtain ⟨A4, c4, hs4⟩ := ho4.shape; subst hs4))
  all_goals
    have hs2 := hG.below.size
    have hB : Below w.heap.size w w4 := hbv.trans ⟨hB4.os.trans hG.below.os, hB4.tape.trans hG.below.tape, hB4.output.trans hG.below.output, Nat.le_trans hG.below.size hB4.size, fun k hk =>
      (hB4.block k (Nat.lt_of_lt_of_le (Nat.lt_of_lt_of_le hk hbv.size) hs2) (by omega)).trans (hG.below.block k (Nat.lt_of_lt_of_le hk hbv.size))⟩
    have ho5 : Own w4 w.heap.size (.slice A4 (ordW ws).length c4) (ordW ws) := Own.mono ho4 (Nat.le_trans hbv.size hs2)
    clear hs2 hB4 hO4 hG ho4 q12 HS HG
    go_wp2_with fail
    go_ret2
    exact ⟨A4, c4, rfl, ho5, hB⟩
end Go.Proofs.Ythlibdpemocpmaa
