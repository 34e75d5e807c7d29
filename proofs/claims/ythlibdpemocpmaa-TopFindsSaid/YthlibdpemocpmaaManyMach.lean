/- many.machine: what it builds. -/
import Derived.Test.YthlibdpemocpmaaManyRun
import Derived.Deep.LoopGhost
import Derived.Deep.RegionLaw
namespace Go.Proofs.Ythlibdpemocpmaa
set_option linter.unusedVariables false
set_option linter.unusedSimpArgs false
open Go.RowKit Go.Maps Go.Lib

theorem wd_root {ws : List ByteArray} (hW : WAll ws) : wdTo ws ws.length [] < 0 := by
  rcases wdTo_spec (ws := ws) (p := []) (i := ws.length) with ⟨h1, _⟩ | ⟨m, h1, h2, h3⟩
  · omega
  · have h4 := (hW.2 m h1).1
    have := congrArg List.length h3
    simp [wordP] at this
    omega
theorem wd_nodes (ws : List ByteArray) : ∀ q, 0 ≤ wdTo ws ws.length q → q ∈ nodesTo ws ws.length := fun q hq => by
  by_cases e : q = []
  · subst e; exact (clo_nodes ws ws.length).1
  · exact Classical.byContradiction fun h => by
      rw [wd_new e h] at hq; omega

theorem mq_start {w wr : World} {ws : List ByteArray} {g cap : Nat} {mb : Nat → Nat} {en : Nat → Value} (hW : WAll ws) (h : MG w wr ws ws.length g cap mb en) :
    MQ w (wr.alloc (.cells #[.int .i64 0] 3)) (nodesTo ws ws.length) g cap mb (flB (nodesTo ws ws.length) [[]]) en (elB (wdTo ws ws.length) (nodesTo ws ws.length) [[]]) (.slice (some ⟨wr.heap.size, 0, none⟩) 1 1) (qI (nodesTo ws ws.length) [[]] 0) := by
  have hb : Below wr.heap.size wr (wr.alloc (.cells #[.int .i64 0] 3)) := (Below.refl _ _).alloc (Nat.le_refl _) _
  have hg := h.mac.gB.2
  have hq : qI (nodesTo ws ws.length) [[]] 0 = [(0 : Int)] := by simp [qI, root_idx]
  refine ⟨(h.mac.below hb).congr (fun j hj => (flB_start (root_idx ws ws.length) j).symm) (fun _ _ => rfl) (fun j hj => (elB_start (wd_root hW) j).symm), bch h.below hb, ?_, by intro e; injection e with e; have e : wr.heap.size = g := e; omega, fun j hj b h1 h2 => ?_⟩
  · rw [hq]; exact q_start wr 0 _ h.below.size
  · injection h1 with h1
    have h1 : wr.heap.size = b := h1
    have := ((h.mac.ends j hj).lt b h2).2
    omega

set_option maxRecDepth 100000 in
set_option maxHeartbeats 8000000 in
theorem machine_any (w : World) (A : Option Addr) (c : Nat) (ws : List ByteArray) (hW : WAll ws) (hS : Sl w w.heap.size A (ws.map Value.string)) :
    Calls Try.prog 34 #[.slice A ws.length c] w fun e w' => ∃ g cap mb en, e = .returned (.slice (some ⟨g, 0, none⟩) (nodesTo ws ws.length).length cap) ∧
      Mac w' w.heap.size g cap (nodesTo ws ws.length) mb (flF (nodesTo ws ws.length)) en (elF (wdTo ws ws.length) (nodesTo ws ws.length)) ∧ Below w.heap.size w w' := by
  have HwA := hid hW
  have hmm := @run_makeMap Try.prog
  have H0 := hid (mg_start w ws)
  have HZ := hid (wall_size hW)
  have hl6 := hW.1
  have HD := hid (wall_dist hW)
  obtain ⟨i0, hi, hz0, hz1, hz2⟩ := info_parts info_state
  clear hW
  go_enter Try.func34, Try.ntmps34
  go_wp2_with fail
  go_loopw [3, 20] (fun v i wr => ∃ (k g cap : Nat) (mb : Nat → Nat) (en : Nat → Value), k ≤ ws.length ∧ i = .int .i64 k ∧ v = .slice (some ⟨g, 0, none⟩) (nodesTo ws k).length cap ∧ Hid (MG w wr ws k g cap mb en)) (fun _ i _ => ws.length - (intOf i).toNat)
  case atStart => exact ⟨0, _, 1, _, _, by omega, rfl, rfl, H0⟩
  case round =>
    clear H0
    obtain ⟨k, g, cap, mb, en, hk, rfl, rfl, hG⟩ := hrel
    by_cases hlt : k < ws.length
    · obtain ⟨g1, o, hA, hg, hc⟩ := hS (by intro e; simp at e; simp [e] at hlt)
      have q := (hG.out.below.cell (p := ⟨g1, o + k, none⟩) hg).trans (hc k _ (wat_get hlt))
      have hs8 := HZ.out k hlt
      subst hA
      clear hc
      obtain ⟨s, hs, HSs⟩ : ∃ s, wat ws k = s ∧ Hid (s = wat ws k) := ⟨_, rfl, rfl⟩
      rw [hs] at q hs8
      clear hs
      have hconv := fun w' => Go.Lib.run_convert_string_bytes (P := Try.prog) w' 9 60 5 s Try.underlying9 Try.underlying60 Try.underlying5
      have HI := hid (mi_start hG.out s)
      have hroot : (nodesTo ws k).idxOf (pfx s 0) = 0 := root_idx ws k
      go_wp2_with fail
      generalize bytesWorld wr 5 s = wb at *
      generalize grownCap wr s.size 0 5 = gc at *
      obtain ⟨cb, hcb⟩ : ∃ cb, wr.heap.size = cb := ⟨_, rfl⟩
      rw [hcb] at HI ⊢
      clear hconv hG q
      go_loopw [3, 6, 28] (fun v at' j wi => ∃ (m g cap : Nat) (mb : Nat → Nat) (en : Nat → Value), m ≤ s.size ∧ j = .int .i64 m ∧ at' = .int .i64 ((addTo (nodesTo ws k) s m).idxOf (pfx s m)) ∧ v = .slice (some ⟨g, 0, none⟩) (addTo (nodesTo ws k) s m).length cap ∧ Hid (MI w wi ws k s cb m g cap mb en)) (fun _ _ j _ => s.size - (intOf j).toNat)
      case atStart => exact ⟨0, g, cap, mb, en, by omega, rfl, by rw [show addTo (nodesTo ws k) s 0 = nodesTo ws k from rfl, hroot]; rfl, rfl, HI⟩
      case round =>
        clear HI hroot hcb
        obtain ⟨m, g, cap, mb, en, hm, rfl, rfl, rfl, hI⟩ := hrel
        by_cases hms : m < s.size
        · have hms' : (m : Int) < s.size := by omega
          have hb := hI.out.bytes m hms
          have hin := addTo_in ws k s m
          have hJ := List.idxOf_lt_length_of_mem hin
          have c0 := hI.out.mac.cell0 hJ
          have hP := hI.out.mac.maps _ hJ
          have hbl := bt_lt s m
          have hlen : (addTo (nodesTo ws k) s m).length < 1000 := by
            have h1 := nodesTo_le (ws := ws) (k := k) fun i hi => HZ.out i (by omega)
            have h2 := addTo_le (nodesTo ws k) s m
            omega
          by_cases hmem : pfx s (m + 1) ∈ addTo (nodesTo ws k) s m
          · have Hn := hid (hI.out.hit hmem)
            have hF := child_hit hin hmem
            have Hah := hid (addTo_hit hmem)
            obtain ⟨N, hN⟩ : ∃ N, (addTo (nodesTo ws k) s m).length = N := ⟨_, rfl⟩
            obtain ⟨J, hJe⟩ : ∃ J, (addTo (nodesTo ws k) s m).idxOf (pfx s m) = J := ⟨_, rfl⟩
            obtain ⟨Y, hY, HY⟩ : ∃ Y, (addTo (nodesTo ws k) s m).idxOf (pfx s (m + 1)) = Y ∧ Hid ((addTo (nodesTo ws k) s m).idxOf (pfx s (m + 1)) = Y) := ⟨_, rfl, rfl⟩
            have HN := hid hN
            rw [hY, hJe] at hF
            rw [hN, hJe] at hJ hP
            rw [hJe] at c0
            rw [hN, hJe]
            rw [hN] at hlen
            have hJ' : (J : Int) < N := by omega
            clear hI hmem hin hN hJe hY
            go_wp2_with (first
              | (at_lookup; go_must (refine wp_look_hit _ rfl _ _ rfl (mb J) _ _ rfl hP (bt s m) hbl rfl _ hF ?_))
              | fail)
            go_roundw
            case rel => exact ⟨m + 1, g, cap, mb, en, by omega, by go_num, by rw [Hah.out, HY.out], by rw [Hah.out, HN.out], Hn⟩
            case measure => simp [intOf]; omega
          · have hF := child_miss hin hmem
            have Hn := hid (fun w1 w4 g' cap' h1 h2 h3 h4 h5 => hI.out.miss (w1 := w1) (wr' := w4) (g' := g') (cap' := cap') hmem hms h1 h2 h3 h4 h5)
            have Hix := hid (show (addTo (nodesTo ws k) s (m + 1)).idxOf (pfx s (m + 1)) = (addTo (nodesTo ws k) s m).length by rw [addTo_miss hmem, idx_app_last hmem])
            have Hln := hid (show (addTo (nodesTo ws k) s (m + 1)).length = (addTo (nodesTo ws k) s m).length + 1 by rw [addTo_miss hmem]; simp)
            have hrow := hI.out.mac.row
            have hgm := hI.out.mac.ne_gm hJ
            have hgB := hI.out.mac.gB
            have hbw := hI.out.below.size
            obtain ⟨N, hN⟩ : ∃ N, (addTo (nodesTo ws k) s m).length = N := ⟨_, rfl⟩
            obtain ⟨J, hJe⟩ : ∃ J, (addTo (nodesTo ws k) s m).idxOf (pfx s m) = J := ⟨_, rfl⟩
            have HN := hid hN
            have HJ := hid hJe
            rw [hJe] at hF hgm
            rw [hN, hJe] at hJ hP
            rw [hJe] at c0
            rw [hN] at hrow
            rw [hN, hJe]
            rw [hN] at hlen
            have hJ' : (J : Int) < N := by omega
            have hrow1 := hid (fun w1 (h : wr.grownBy w1 (some (mb J))) => (show w1.ownsRow _ _ _ _ _ _ from World.ownsRow.kept hrow h (.inr (by intro e; injection e with e; exact hgm e.symm))))
            clear hI hmem hin hN hJe hrow hgm
            go_wp2_with (first
              | (at_lookup; go_must (refine wp_look_miss _ rfl _ _ rfl (mb J) _ _ rfl hP (bt s m) hbl rfl hF ?_))
              | (at_mapUpdate; go_must (refine wp_store_int _ rfl _ _ _ rfl (mb J) _ _ rfl hP hlen (bt s m) hbl rfl N hlen rfl ?_); intro w3 hP3 hg3; have hr3 := ((hrow1.out w3 hg3).alloc (.map #[] 0)).alloc (.cells #[.map (some w3.heap.size), .int .i64 0, .slice none 0 0] 67); have hs3 := hg3.size; have hnw := new_three (w3.alloc (.map #[] 0)) (.map (some w3.heap.size)) (.int .i64 0) (.slice none 0 0) 67; have hs3' : (w3.alloc (.map #[] 0)).heap.size = w3.heap.size + 1 := by simp)
              | (at_builtin; refine wpList_append_lies _ rfl _ _ 62 rfl w.heap.size 67 i0 _ 3 40 Try.underlying62 hi hz0 hz1 hz2 rfl (by decide) (.slice (some ⟨g, 0, none⟩) N cap) N _ rfl hr3 ⟨w3.heap.size + 1, 0, none⟩ 1 1 [.map (some w3.heap.size), .int .i64 0, .slice none 0 0] rfl rfl (by rw [← hs3']; exact hnw) (fun u hu => by simp at hu; rcases hu with rfl | rfl | rfl <;> rfl) (by omega) (by unfold maxLen; omega) (by omega) (by simp; omega) _ rfl ?_; intro g4 cap4 w4 ho4 hg4 hat4 hlt4)
              | fail)
            go_roundw
            case rel => exact ⟨m + 1, g4, cap4, _, _, by omega, by go_num, by rw [Hix.out, HN.out], by rw [Hln.out, HN.out], hid (Hn.out w3 w4 g4 cap4 (by rw [HJ.out]; exact hg3) (by rw [HJ.out, HN.out]; exact hP3) (by rw [HN.out]; exact ho4) hg4 (hat4.elim (fun e => .inl (by injection e with e; exact e.symm)) (fun e => .inr (by rw [e]; simp; omega))))⟩
            case measure => simp [intOf]; omega
        · have hms' : ¬ (m : Int) < s.size := by omega
          have hme : m = s.size := by omega
          subst hme
          have hin : wordP s ∈ addTo (nodesTo ws k) s s.size := addTo_in ws k s s.size
          have hJ := List.idxOf_lt_length_of_mem hin
          have c2 := hI.out.mac.cell2 hJ
          have f2 := hI.out.mac.fr ((addTo (nodesTo ws k) s s.size).idxOf (wordP s) * 3 + 2)
          have ho := hI.out.mac.ends _ hJ
          have hel : elW (wdTo ws k) (addTo (nodesTo ws k) s s.size) ((addTo (nodesTo ws k) s s.size).idxOf (wordP s)) = [] := by
            unfold elW
            rw [idx_getD hin, HSs.out]
            exact own_none hlt HD.out
          rw [hel] at ho
          have hdv := hI.out.mac.disv _ hJ
          have hgB := hI.out.mac.gB
          have hbw := hI.out.below.size
          have Hn := hid (fun w2 v2 h1 h2 h3 => hI.out.done (w2 := w2) (v2 := v2) HSs.out hlt HD.out h1 h2 h3)
          have hLn := hid (show (addTo (nodesTo ws k) s s.size).length = (nodesTo ws (k + 1)).length by rw [nodesTo, ← HSs.out])
          have hwP : pfx s s.size = wordP s := rfl
          rw [hwP]
          obtain ⟨N, hN⟩ : ∃ N, (addTo (nodesTo ws k) s s.size).length = N := ⟨_, rfl⟩
          obtain ⟨J, hJe⟩ : ∃ J, (addTo (nodesTo ws k) s s.size).idxOf (wordP s) = J := ⟨_, rfl⟩
          have HN := hid hN
          have HJ := hid hJe
          rw [hJe] at c2 f2 ho hdv
          rw [hN, hJe] at hJ
          rw [hN, hJe]
          have hJ' : (J : Int) < N := by omega
          obtain ⟨vJ, hvJ⟩ : ∃ vJ, en J = vJ := ⟨_, rfl⟩
          have HvJ := hid hvJ
          rw [hvJ] at c2 ho hdv
          clear hI hin hN hJe hel hwP hvJ
          have hk6 : (k : Int) < 6 := by omega
          go_wp2_with (first
            | (at_builtin; refine wp_append_int_at _ rfl _ _ rfl w.heap.size vJ [] rfl (ho.alloc _) _ _ (k : Int) rfl (new_one0 _ _ _) (by simp) (by simp; omega) ?_; intro v4 w4 ho4 hg4 hat4; obtain ⟨A4, c4, rfl⟩ := ho4.shape; have hold : w4.heap[g]? = wr.heap[g]? := (hg4.block g (by simp; omega) (fun e => hdv e.symm)).trans (Go.Deep.blk_alloc_lt _ _ _ hgB.2); have hc4 : w4.cell? ⟨g, J * 3 + 2, none⟩ = some vJ := (World.cell?_of_block (a := ⟨g, J * 3 + 2, none⟩) hold).trans c2; have hf4 : w4.frozen? ⟨g, J * 3 + 2, none⟩ = false := (World.frozen?_of_block (a := ⟨g, J * 3 + 2, none⟩) hold).trans f2)
            | fail)
          have hgw : wr.grownBy w4 vJ.ownBlock := ⟨hg4.os, hg4.tape, hg4.output, Nat.le_trans (by simp) hg4.size, fun i hi hne => (hg4.block i (by simp; omega) hne).trans (Go.Deep.blk_alloc_lt _ _ _ hi)⟩
          go_roundw
          case rel =>
            have hfin := Hn.out w4 (.slice A4 1 c4) (by rw [HJ.out, HvJ.out]; exact hgw) ho4 (by rw [HJ.out, HvJ.out]; exact hat4.elim .inl (fun e => .inr ⟨_, by simp, e⟩))
            rw [HJ.out] at hfin
            exact ⟨k + 1, g, cap, mb, _, by omega, by go_num, by rw [← hLn.out, HN.out], hid hfin⟩
          case measure => simp [intOf]; omega
    · have hke : k = ws.length := by omega
      subst hke
      have HM0 := hid (mq_start HwA.out hG.out)
      have hgB := hG.out.mac.gB
      obtain ⟨ps, hps, HPS⟩ : ∃ ps, nodesTo ws ws.length = ps ∧ Hid (nodesTo ws ws.length = ps) := ⟨_, rfl, rfl⟩
      obtain ⟨wd, hwd, HWE⟩ : ∃ wd, wdTo ws ws.length = wd ∧ Hid (wdTo ws ws.length = wd) := ⟨_, rfl, rfl⟩
      have HC := hid (clo_nodes ws ws.length)
      have HN := hid (nodesTo_nodup ws ws.length)
      have HR := hid (root_idx ws ws.length)
      have HWD := hid (wd_nodes ws)
      have H8 := hid (fun (q : List Nat) hq => (show q.length < 9 by simpa using nodes_short (ws := ws) (fun i hi => HZ.out i hi) q hq))
      have H256 := hid (nodes_bytes (ws := ws) (n := ws.length))
      have hlen : (nodesTo ws ws.length).length < 1000 := by
        have h1 := nodesTo_le (ws := ws) (k := ws.length) fun i hi => HZ.out i hi
        omega
      rw [hps] at HC HN HR HWD H256 H8 hlen
      rw [hps, hwd] at HM0
      rw [hps]
      rw [hwd] at HWD
      clear hG hps hwd hS hmm HZ hl6 HD hi hz0 hz1 hz2 HwA hlt hk
      go_wp2_with fail
      generalize hw1 : wr.alloc (.cells #[.int .i64 0] 3) = w1 at *
      obtain ⟨tg0, htg0⟩ : ∃ tg0, wr.heap.size = tg0 := ⟨_, rfl⟩
      rw [htg0] at HM0 ⊢
      clear hw1 htg0 hgB
      go_loopg [11] ps.length (fun m todo wr => ∃ (qs : List (List Nat)) (h tg off tn tcap : Nat) (en : Nat → Value), todo = .slice (some ⟨tg, off, none⟩) tn tcap ∧ tn + h = qs.length ∧ ps.length ≤ m + h ∧ qs.length ≤ ps.length ∧ Hid (Bfs ps qs h h) ∧ Hid (MQ w wr ps g cap mb (flB ps qs) en (elB wd ps qs) todo (qI ps qs h)))
      case atStart => exact ⟨[[]], 0, tg0, 0, 1, 1, en, rfl, rfl, by omega, (bfs_start HC.out).len, hid (bfs_start HC.out), HM0⟩
      case round =>
        clear HM0
        obtain ⟨qs, h, tg, off, tn, tcap, en, rfl, htn, hm, hql, hB, hM⟩ := hrel
        by_cases hlt : 0 < tn
        · obtain ⟨p, hp⟩ : ∃ p, qs[h]? = some p := ⟨_, List.getElem?_eq_getElem (by omega)⟩
          have hpm : p ∈ ps := hB.out.sub p (List.mem_of_getElem? hp)
          have HPm := hid hpm
          have hJ := List.idxOf_lt_length_of_mem hpm
          have hqh := hM.out.q
          rw [qI_head hp] at hqh
          have hc0 := (q_tail hqh).2.1
          have c0 := hM.out.mac.cell0 hJ
          have hP := hM.out.mac.maps _ hJ
          have hbs := hM.out.below.size
          have HB := hid (hB.out.begin hp)
          have Hp := hid hp
          obtain ⟨J, hJe⟩ : ∃ J, ps.idxOf p = J := ⟨_, rfl⟩
          have HJ := hid hJe
          rw [hJe] at hJ hc0 c0 hP
          have hJ' : (J : Int) < ps.length := by omega
          have hlt' : (0 : Int) < tn := by omega
          obtain ⟨r, hr⟩ : ∃ r, wr.heap.size = r := ⟨_, rfl⟩
          have Hrr := hid hr
          rw [hr] at hbs
          clear hqh hpm hB hJe hp
          go_wp2_with (first
            | (at_range; go_must (refine wp_range_int _ rfl _ rfl (mb J) _ _ rfl hP ?_); intro w0 left0 cnt0 hrg0 hl0 hg0 hs0; rw [hr] at hrg0; rw [hr]; have H0 := hid (hM.out.more (wr' := w0) ⟨hg0.os, hg0.tape, hg0.output, hg0.size, fun k hk => hg0.block k hk (by simp)⟩))
            | fail)
          go_frame
          have HL0 := hid hl0
          clear hl0 hg0 hs0 hM hP c0 hc0
          clear hr
          go_loopw [11] (fun todo wi => ∃ (qs : List (List Nat)) (tg off tn tcap : Nat) (en : Nat → Value) (left : Nat → Bool) (cnt : Nat), todo = .slice (some ⟨tg, off, none⟩) tn tcap ∧ tn + h = qs.length ∧ 0 < tn ∧ qs.length ≤ ps.length ∧ Hid (Bfs ps qs h (h + 1)) ∧ Hid (qs[h]? = some p) ∧ Hid (MQ w wi ps g cap mb (flB ps qs) en (elB wd ps qs) todo (qI ps qs h)) ∧ Hid (IRange wi (mb J) r ps.length (childN ps J) left cnt) ∧ Hid (∀ c, p ++ [c] ∈ ps → (left c = true ↔ ¬ p ++ [c] ∈ qs))) (fun _ wi => wi.rangeLeft (mb J) r)
          case atStart => exact ⟨qs, tg, off, tn, tcap, en, left0, cnt0, rfl, htn, hlt, hql, hid HB.out.1, Hp, H0, hid hrg0, hid (fun c hc => ⟨fun _ => HB.out.2 c, fun _ => HL0.out c (H256.out p c hc) (by rw [← HJ.out, child_of HPm.out, if_pos hc]; simp)⟩)⟩
          case round =>
            clear H0 HB HL0 hrg0 Hp htn hlt hlt' hql
            obtain ⟨qs, tg, off, tn, tcap, en, left, cnt, rfl, htn, htp, hql, hB, hp, hM, hI, hL⟩ := hrel
            go_wp2_with (first
              | (at_next; go_must (refine wp_next_int _ rfl _ rfl (mb J) r _ _ left cnt rfl hI.out ?_ ?_))
              | fail)
            · intro hl0
              have HBn := hid (hB.out.next hp.out fun c hc => Classical.byContradiction fun h1 => by have := (hL.out c hc).2 h1; rw [hl0 c] at this; cases this)
              have hqh := hM.out.q
              rw [qI_head hp.out] at hqh
              obtain ⟨_, _, hcp, hqt⟩ := q_tail hqh
              have hql2 := qI_len (ps := ps) (qs := qs) (h := h + 1)
              rw [hql2] at hqt
              have htc : tn ≤ tcap := by omega
              have ht1 : (1 : Int) ≤ tn := by omega
              have htc2 : (tn : Int) ≤ tcap := by omega
              clear hqh hL hl0 hcp
              by_cases ht : tcap = 1
              · rw [if_pos ht] at hqt
                have Hqt := hid (hM.out.requeue hqt rfl)
                have ht0 : tn = 1 := by omega
                have ht2 : ¬ (1 : Int) < tcap := by omega
                have Ht := hid ht
                clear hqt ht
                go_wp2_with fail
                go_roundg (gk - 1)
                case rel => exact ⟨qs, h + 1, tg, off, _, tcap - 1, en, rfl, by omega, by omega, hql, HBn, Hqt⟩
                case measure => omega
              · rw [if_neg ht] at hqt
                have Hqt := hid (hM.out.requeue hqt rfl)
                have ht2 : (1 : Int) < tcap := by omega
                clear hqt
                go_wp2_with fail
                go_roundg (gk - 1)
                case rel => exact ⟨qs, h + 1, tg, off + 1, _, tcap - 1, en, rfl, by omega, by omega, hql, HBn, Hqt⟩
                case measure => omega
            · intro c1 y w1 left1 cnt1 hc1 hF hl1 hstep hrg1 hlt1 hg1 hs1 hen
              have hqy : p ++ [c1] ∈ ps ∧ ps.idxOf (p ++ [c1]) = y := by
                rw [← HJ.out, child_of HPm.out] at hF
                split at hF
                · rename_i hq
                  injection hF with hF
                  exact ⟨hq, hF⟩
                · cases hF
              obtain ⟨hq, hy⟩ := hqy
              subst hy
              have hM1 := hM.out.iter hI.out (Hrr.out ▸ hbs) hg1
              have hnq := (hL.out c1 hq).1 hl1
              obtain ⟨q, hqe⟩ : ∃ q, p ++ [c1] = q := ⟨_, rfl⟩
              have hfl : (failP ps q).length ≤ p.length := by
                have := failP_len (ps := ps) (p := q) (by rw [← hqe]; simp)
                have := congrArg List.length hqe
                simp at this; omega
              have hfm := failP_mem HC.out q
              have hfq : failP ps q ∈ qs := hB.out.level HC.out hp.out _ _ rfl hfm hfl
              have hqm : q ∈ ps := hqe ▸ hq
              have hqn : ¬ q ∈ qs := hqe ▸ hnq
              have hep := ends_child (ps := ps) (wd := wd) HWD.out (p := q) (by rw [← hqe]; simp)
              have hY := List.idxOf_lt_length_of_mem hqm
              have hFl := List.idxOf_lt_length_of_mem hfm
              have hne : ps.idxOf (failP ps q) ≠ ps.idxOf q := fun e => by
                have h1 := idx_getD hfm
                rw [e, idx_getD hqm] at h1
                exact hqn (h1 ▸ hfq)
              have heY := elB_out (wd := wd) hqm hqn
              have heF := elB_in (wd := wd) hfm hfq
              have hfY := flB_out hqm hqn
              have hlY := ownW_len (wd := wd) q
              have hlF := ends_len (wd := wd) (failP ps q)
              have hl8 := H8.out _ hfm
              have HLn := hid (show ∀ c, p ++ [c] ∈ ps → (left1 c = true ↔ ¬ p ++ [c] ∈ qs ++ [q]) from fun c hc => by
                rw [hstep, Bool.and_eq_true, hL.out c hc, List.mem_append, List.mem_singleton, ← hqe]
                constructor
                · rintro ⟨h1, h2⟩ (h3 | h3)
                  · exact h1 h3
                  · have : c = c1 := by simpa using h3
                    simp [this] at h2
                · intro h1
                  exact ⟨fun h2 => h1 (.inl h2), by
                    have : c ≠ c1 := fun e => h1 (.inr (by rw [e]))
                    simp [this]⟩)
              have HBn := hid (show Bfs ps (qs ++ [q]) h (h + 1) from hqe ▸ hB.out.add hp.out hq hnq)
              have Hpn := hid (show (qs ++ [q])[h]? = some p by rw [List.getElem?_append_left (List.getElem?_eq_some_iff.1 hp.out).1]; exact hp.out)
              have hqln := HBn.out.len
              have HIn := hid hrg1
              have hst := hid (show p ≠ [] → _ from fun hp0 => step_at hM1 HC.out HR.out hlen hB.out hp.out hp0 hc1)
              have hfJ : flB ps qs J = ps.idxOf (failP ps p) := by rw [← HJ.out, flB_in HPm.out (List.mem_of_getElem? hp.out)]
              have hJz : p = [] ↔ J = 0 := ⟨fun e => by rw [← HJ.out, e]; exact HR.out, fun e => by
                have h1 := idx_getD HPm.out
                have h2 := idx_getD HC.out.1
                rw [HJ.out, e] at h1
                rw [HR.out] at h2
                rw [← h1, h2]⟩
              have hFz : p = [] → ps.idxOf (failP ps q) = 0 := fun e => by
                rw [← hqe, e]; exact HR.out
              have Hmq := hid (fun wz en' todo' tl' h1 => mq_add (w := w) (wr := wz) (g := g) (cap := cap) (mb := mb) (qs := qs) (en := en') (todo := todo') (tl := tl') HN.out hqm rfl rfl hep.symm h1)
              have Hqa := hid (qI_add (ps := ps) (q := q) (show h ≤ qs.length by omega))
              have Hql := hid (qI_len (ps := ps) (qs := qs) (h := h))
              have c1J := hM1.mac.cell1 (j := J) (by rw [← HJ.out]; exact List.idxOf_lt_length_of_mem HPm.out)
              rw [hfJ] at c1J
              rw [hqe] at hst ⊢
              obtain ⟨Y, hYe⟩ : ∃ Y, ps.idxOf q = Y := ⟨_, rfl⟩
              obtain ⟨F, hFe⟩ : ∃ F, ps.idxOf (failP ps q) = F := ⟨_, rfl⟩
              obtain ⟨FJ, hFJ⟩ : ∃ FJ, ps.idxOf (failP ps p) = FJ := ⟨_, rfl⟩
              obtain ⟨lY, hlYe⟩ : ∃ lY, ownW wd q = lY := ⟨_, rfl⟩
              obtain ⟨lF, hlFe⟩ : ∃ lF, endS wd (failP ps q) = lF := ⟨_, rfl⟩
              have HYe := hid hYe
              have HM1 := hid hM1
              rw [hFJ] at c1J
              rw [hYe] at hY heY hfY Hmq Hqa
              rw [hFe] at hFl heF Hmq hFz
              rw [hFe, hFJ] at hst
              rw [hYe, hFe] at hne
              rw [hlYe] at heY hlY Hmq
              rw [hlFe] at heF hlF Hmq
              have f1Y := hM1.mac.fr (Y * 3 + 1)
              have c1Y := hM1.mac.cell1 hY
              have hgB := hM1.mac.gB.2
              have hbs1 := hM1.below.size
              have hdv := hM1.mac.disv _ hY
              have hnF := hM1.mac.nil _ hFl
              have hnY := hM1.mac.nil _ hY
              have heY2 := hM1.mac.ends _ hY
              have hrl := hid hI.out.left_eq
              rw [hqe, hYe] at hen
              rw [hYe]
              rw [heF] at hnF
              rw [heY] at hnY heY2
              have Hlt1 := hid hlt1
              have hlF9 : lF.length < 9 := by omega
              have hY' : (Y : Int) < ps.length := by omega
              have hF' : (F : Int) < ps.length := by omega
              have HhY := hid hY
              have HhF := hid hFl
              have HheY := hid heY
              have HheF := hid heF
              have HnF := hid hnF
              have HnY := hid hnY
              have Hdv := hid hdv
              have Hne := hid hne
              clear hM1 hM hI hL hB hp hq hnq hqe hfl hfm hfq hqm hqn hep heY heF hl8 hlF hstep hrg1 hqln hfJ hYe hFe hFJ hlYe hlFe hg1 hs1 hl1 hnF hnY hdv heY2 hlt1 hne hF hc1
              rcases Classical.em (p = []) with hp0 | hp0
              case' inl =>
                have hJ0 : ¬ (0 : Int) < J := by have := hJz.1 hp0; omega
                have HM2 := hid (HM1.out.congr (fl' := fun k => if k = Y then F else flB ps qs k) (fun j hj => by
                  by_cases e : j = Y
                  · rw [if_pos e, e, hfY, hFz hp0]
                  · rw [if_neg e]) (fun _ _ => rfl))
                have HI2 := HIn
                clear hJz hFz hp0 hfY hst c1J f1Y c1Y HM1 HIn
                go_wp2_with fail
                obtain ⟨wX, rfl⟩ : ∃ wX, wX = w1 := ⟨_, rfl⟩
              case' inr =>
                have hJ0 : (0 : Int) < J := by have : ¬ J = 0 := fun e => hp0 (hJz.2 e); omega
                have hst2 := hst.out hp0
                have hE := fun m => (HM1.out.drewN m).fail Y F
                have hE2 := hid (fun m => (hE m).2 _ _ _ _ _ _ (ItK.drewN _ m _ _ _ _ _ _ HIn.out))
                have hE1 := hid (fun m => (hE m).1)
                clear hJz hFz hp0 hfY hst HM1 HIn hE
                go_wp2_with fail
                refine hst2.mono ?_
                rintro e w2 ⟨rfl, m, rfl⟩
                have c1Ym : (w1.drewN m).cell? ⟨g, Y * 3 + 1, none⟩ = _ := c1Y
                have f1Ym : (w1.drewN m).frozen? ⟨g, Y * 3 + 1, none⟩ = false := f1Y
                have HM2 := hid (hE1.out m)
                have HI2 := hid (hE2.out m)
                clear hE1 hE2 hst2
                go_wp2_with fail
                obtain ⟨wX, hwX⟩ : ∃ wX, (w1.drewN m).setCell ⟨g, Y * 3 + 1, none⟩ (.int .i64 (F : Int)) = wX := ⟨_, rfl⟩
                rw [hwX] at HM2 HI2 ⊢
                clear hwX c1Ym f1Ym c1Y f1Y c1J hen
              all_goals
                have d2 : wX.drew.cell? ⟨g, Y * 3 + 2, none⟩ = some (en Y) := HM2.out.mac.cell2 HhY.out
                have d1 : wX.drew.cell? ⟨g, Y * 3 + 1, none⟩ = some (.int .i64 (F : Int)) := by
                  have := HM2.out.mac.cell1 HhY.out
                  rw [if_pos rfl] at this
                  exact this
                have d3 : wX.drew.cell? ⟨g, F * 3 + 2, none⟩ = some (en F) := HM2.out.mac.cell2 HhF.out
                have f2 : wX.drew.frozen? ⟨g, Y * 3 + 2, none⟩ = false := HM2.out.mac.fr _
                have hoY : Own wX.drew w.heap.size (en Y) lY := by
                  have := HM2.out.mac.ends _ HhY.out
                  rw [HheY.out] at this
                  exact this
                have hoF : Own wX w.heap.size (en F) lF := by
                  have := HM2.out.mac.ends _ HhF.out
                  rw [HheF.out] at this
                  exact this
                have hgX := HM2.out.mac.gB.2
                have hbX := HM2.out.below.size
                have hnY := HnY.out
                have hnF := HnF.out
                have hdv := Hdv.out
                have HEn := hid (fun w2 v2 h1 h2 h3 h4 => HM2.out.drew.ends (w2 := w2) (v2 := v2) (l' := lY ++ lF) HhY.out h1 h2 h3 h4)
                obtain ⟨vY, hvY⟩ : ∃ vY, en Y = vY := ⟨_, rfl⟩
                rw [hvY] at d2 hoY hnY hdv HEn
                obtain ⟨AY, cY, rfl⟩ := hoY.shape
                obtain ⟨i1, hi1, hy0, hy1, hy2⟩ := info_parts info_int
                have HM2q := hid HM2.out.q
                have HI2d := hid (ItK.drew _ _ _ _ _ _ _ HI2.out)
                clear HM2 HI2
                rcases Classical.em (lF = []) with h0 | h0
                case' inl =>
                  have hfn := hnF h0
                  rw [hfn] at d3
                  subst h0
                  have hE := HEn.out wX.drew (.slice AY lY.length cY) ⟨rfl, rfl, rfl, Nat.le_refl _, fun _ _ _ => rfl⟩ (by rw [List.append_nil]; exact hoY) (.inl rfl) (by rw [List.append_nil]; exact hnY)
                  have HM3 := hid (Hmq.out _ _ _ _ hE.1)
                  have HI3 := hid (hE.2 _ _ _ _ _ _ HI2d.out)
                  clear hE HEn HI2d hoF hnF hnY hfn
                  go_region_law (refine step_append_nilsrc _ rfl (.tmp 113) (.tmp 122) 28 rfl w.heap.size 3 i1 1 Try.underlying28 hi1 hy1 (.slice AY lY.length cY) lY.length (ints lY) (by simp [Act.eval, Act.put]) hoY (by simp [Act.eval, Act.put]) ?_)
                  all_goals
                    obtain ⟨w5, hw5⟩ : ∃ w5, (wX.setCell ⟨g, Y * 3 + 2, none⟩ (.slice AY lY.length cY)).drew = w5 := ⟨_, rfl⟩
                    rw [show wX.drew.setCell ⟨g, Y * 3 + 2, none⟩ (.slice AY lY.length cY) = (wX.setCell ⟨g, Y * 3 + 2, none⟩ (.slice AY lY.length cY)).drew from rfl] at HM3 HI3
                    rw [hw5] at HM3 HI3 ⊢
                    clear hw5
                case' inr =>
                  obtain ⟨bF, cF, hvF, hFc⟩ := own_place hoF h0
                  have hpF := List.length_pos_iff.2 h0
                  rw [hvF] at d3
                  have hnews := hFc 1
                  clear hnF hnY hFc hvF h0
                  go_region_law (refine step_append_lies _ rfl (.tmp 113) (.tmp 122) 28 rfl w.heap.size 3 i1 (.int .i64 0) 1 8 Try.underlying28 hi1 hy0 hy1 hy2 rfl (by decide) (.slice AY lY.length cY) lY.length (ints lY) (by simp [Act.eval, Act.put]) hoY ⟨bF, 0, none⟩ lF.length cF (ints lF) (by simp [Act.eval, Act.put]) (by simp) hnews (fun u hu => by simp [ints] at hu; obtain ⟨x, _, rfl⟩ := hu; rfl) hpF (by unfold maxLen; omega) (by omega) (by simpa using hbX) _ rfl ?_; intro g4 c4 w4 ho4' hg4 hat4 hlt4; have ho4 : Own w4 w.heap.size (.slice (some ⟨g4, 0, none⟩) (lY.length + lF.length) c4) (lY ++ lF) := (by unfold Own; rw [ints_app, List.length_append]; exact ho4'); have hc4 : w4.cell? ⟨g, Y * 3 + 2, none⟩ = some (.slice AY lY.length cY) := (hg4.cell_far ⟨g, Y * 3 + 2, none⟩ hgX (fun e => hdv e.symm)).trans d2; have hf4 : w4.frozen? ⟨g, Y * 3 + 2, none⟩ = false := (hg4.frozen_far ⟨g, Y * 3 + 2, none⟩ hgX (fun e => hdv e.symm)).trans f2)
                  all_goals
                    have hE := HEn.out w4 (.slice (some ⟨g4, 0, none⟩) (lY.length + lF.length) c4) hg4 ho4 (hat4.elim (fun e => .inl e.symm) (fun e => .inr ⟨g4, by rw [e]; exact Nat.le_refl _, rfl⟩)) (fun e => by rw [(List.append_eq_nil_iff.1 e).2] at hpF; simp at hpF)
                    have HM3 := hid (Hmq.out _ _ _ _ hE.1)
                    have HI3 := hid (hE.2 _ _ _ _ _ _ HI2d.out)
                    clear hE HEn HI2d hoF hc4 hf4 ho4 ho4' hnews
                    obtain ⟨w5, hw5⟩ : ∃ w5, w4.setCell ⟨g, Y * 3 + 2, none⟩ (.slice (some ⟨g4, 0, none⟩) (lY.length + lF.length) c4) = w5 := ⟨_, rfl⟩
                    rw [hw5] at HM3 HI3 ⊢
                    clear hw5 hg4 hat4 hlt4
                all_goals
                  clear d1 d2 d3 f2 hoY hvY
                  have hb5 := HM3.out.below.size
                  go_wp2_with (first
                    | (at_builtin; refine wp_append_q _ rfl _ _ rfl w.heap.size (.slice (some ⟨tg, off, none⟩) tn tcap) (qI ps qs h) rfl (HM3.out.q.below ((Below.refl _ _).alloc (Nat.le_refl _) _)) _ _ (Y : Int) rfl (new_one0 _ _ _) (by rw [Hql.out]; omega) (by simp; omega) ?_; intro v6 w6 hq6 hg6 hv6)
                    | fail)
                  have hP := HM3.out.push hg6 hq6 hv6
                  obtain ⟨g6, off6, cap6, cur6, rfl, _⟩ := hq6
                  obtain ⟨n6, hn6⟩ : ∃ n6, (qI ps qs h ++ [(Y : Int)]).length = n6 := ⟨_, rfl⟩
                  rw [hn6] at hP ⊢
                  have hn6' : n6 = tn + 1 := by rw [← hn6, List.length_append, Hql.out]; simp; omega
                  rw [← Hqa.out] at hP
                  have HP1 := hid hP.1
                  have HP2 := hid (hP.2 _ _ _ _ _ _ HI3.out)
                  clear hP hg6 hv6 hn6 HM3 HI3
                  go_roundw
                  case rel => exact ⟨qs ++ [q], g6, off6, n6, cap6, _, left1, cnt1, rfl, by simp; omega, by omega, HBn.out.len, HBn, Hpn, HP1, HP2, HLn⟩
                  case measure => rw [HP2.out.left_eq, hrl.out]; exact Hlt1.out
        · have hh : h = qs.length := by omega
          subst hh
          have HF := hid (hM.out.congr (fun j hj => flB_all (fun q hq => hB.out.final HC.out _ q rfl hq) hj) (fun j hj => elB_all (fun q hq => hB.out.final HC.out _ q rfl hq) hj))
          have hn0 : tn = 0 := by omega
          subst hn0
          go_wp2_with fail
          go_ret
          rw [HPS.out, HWE.out]
          exact ⟨g, cap, mb, en, rfl, HF.out.mac, HF.out.below⟩
end Go.Proofs.Ythlibdpemocpmaa
