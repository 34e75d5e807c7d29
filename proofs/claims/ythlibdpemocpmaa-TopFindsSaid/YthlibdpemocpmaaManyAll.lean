/- many.All: all hits of the words, by place, then by word. -/
import Derived.Test.YthlibdpemocpmaaManyMach
import Derived.Test.YthlibdpemocpmaaHitsSort
namespace Go.Proofs.Ythlibdpemocpmaa
set_option linter.unusedVariables false
set_option linter.unusedSimpArgs false
open Go.RowKit Go.Lib

/-- What many.All hands back. -/
def RetHits (w : World) (l : List (Int × Int)) : Ending → World → Prop := fun e w' => ∃ v, e = .returned (.tuple #[v, .nilIface]) ∧ HL w' w.heap.size v l ∧ Below w.heap.size w w'

theorem flF_at {ps : List (List Nat)} {q : List Nat} (hq : q ∈ ps) : flF ps (ps.idxOf q) = ps.idxOf (failP ps q) := by unfold flF; rw [idx_getD hq]
theorem rawTo_succ (wd : List Nat → Int) (ws : List ByteArray) (t : ByteArray) (i : Nat) : rawTo wd ws t (i + 1) = rawTo wd ws t i ++ rawAt wd ws t i (endS wd (pfx t (i + 1))) := by
  unfold rawTo
  rw [List.range_succ, List.flatMap_append, List.flatMap_singleton]
theorem rawAt_snoc (wd : List Nat → Int) (ws : List ByteArray) (t : ByteArray) (i : Nat) {l : List Int} {k : Nat} {x : Int} (hx : l[k]? = some x) : rawAt wd ws t i (l.take (k + 1)) = rawAt wd ws t i (l.take k) ++ [((i : Int) + 1 - (wat ws x.toNat).size, x)] := by
  unfold rawAt
  rw [List.take_add_one, hx, List.map_append]; rfl

theorem info_hit : (Try.prog.info? 43).map (fun i => (i.zero, i.size, i.bytes)) = some (some (.agg #[.int .i64 0, .int .i64 0]), 2, 16) := by kernel_rfl

theorem OwnH.below {w w' : World} {base : Nat} {v : Value} {l : List (Int × Int)} (h : OwnH w base v l) (hb : Below w.heap.size w w') : OwnH w' base v l := World.ownsRow.kept h (grown_of_below hb) (by
  cases e : v.ownBlock with
  | none => exact .inl rfl
  | some k => exact .inr (by simp))
theorem own_keeps {w0 wi w4 : World} {B : Nat} {e : TypeId} {size n : Nat} {v : Value} {xs : List Value} {o : Obj} (hb : Below B w0 wi) (ho : wi.ownsRow B e size v n xs) (hB : B ≤ wi.heap.size) (hg : (wi.alloc o).grownBy w4 v.ownBlock) : Below B w0 w4 := by
  have hs : (wi.alloc o).heap.size = wi.heap.size + 1 := by simp
  have hs4 := hg.size
  rw [hs] at hs4
  refine hb.trans ⟨hg.os, hg.tape, hg.output, by omega, fun k hk => ?_⟩
  exact (hg.block k (by omega) (fun e => by have := (ho.lt k e.symm).1; omega)).trans (Go.Deep.blk_alloc_lt _ _ _ (by omega))
theorem new_two (w : World) (x y : Value) (t : TypeId) : ∀ j u, ([x, y] : List Value)[j]? = some u → (w.alloc (.cells #[x, y] t)).cell? ((⟨w.heap.size, 0, none⟩ : Addr).add j) = some u :=
  fun j u hu => World.news_of_block (Go.Deep.blk_alloc_new w (.cells #[x, y] t)) j u hu

structure AllW (w wb : World) (A : Option Addr) (ws : List ByteArray) (t : ByteArray) (B g cap cb : Nat) (mb : Nat → Nat) (en : Nat → Value) : Prop where
  mac : Mac wb B g cap (nodesTo ws ws.length) mb (flF (nodesTo ws ws.length)) en (elF (wdTo ws ws.length) (nodesTo ws ws.length))
  bytes : BytesAt wb cb t
  hcb : cb < wb.heap.size
  below : Below w.heap.size w wb
  words : Sl wb wb.heap.size A (ws.map Value.string)

set_option maxRecDepth 100000 in
set_option maxHeartbeats 4000000 in
theorem manyAll_ok (w : World) (A : Option Addr) (c : Nat) (ws : List ByteArray) (h : Sl w w.heap.size A (ws.map Value.string)) (hc : ws.length ≤ c) (hW : WAll ws) (t : ByteArray) (ht : t.size ≤ 24) :
    Calls Try.prog 21 #[.slice A ws.length c, .string t] w (RetHits w (hitsL ws t)) := by
  have HC := hid (check_ok w A c ws h hc hW)
  have HMm := hid (fun w1 (hb : Below w.heap.size w w1) => machine_any w1 A c ws hW ((h.below hb).mono hb.size))
  have Hh := hid h
  have HW := hid hW
  have hl6 := hW.1
  have hconv := fun w' => Go.Lib.run_convert_string_bytes (P := Try.prog) w' 9 60 5 t Try.underlying9 Try.underlying60 Try.underlying5
  clear h hW
  go_enter Try.func21, Try.ntmps21
  go_wp2_with fail
  refine HC.out.mono ?_
  rintro e w1 ⟨rfl, hb1⟩
  go_wp2_with (first | (go_at_call 33; refine (long1_ok _ t ht _ _ (by simp)).mono ?_; rintro e w' ⟨rfl, rfl⟩) | fail)
  have hb2 := hb1.alloc hb1.size (.cells #[.string t] 9)
  refine (HMm.out _ hb2).mono ?_
  rintro e w3 ⟨g, cap, mb, en, rfl, hM3, hb3⟩
  have hb13 := bch hb2 hb3
  go_wp2_with fail
  have hb4 := bytes_below w3 t
  have hAW := hid (show AllW w (bytesWorld w3 5 t) A ws t (w1.alloc (.cells #[.string t] 9)).heap.size g cap w3.heap.size mb en from
    ⟨hM3.below hb4, bytes_at w3 t, by rw [bytesWorld_size]; omega, bch hb13 hb4, (Hh.out.below (bch hb13 hb4)).mono (bch hb13 hb4).size⟩)
  have hcbw : w3.heap.size < (bytesWorld w3 5 t).heap.size := by rw [bytesWorld_size]; omega
  obtain ⟨cb, hcb⟩ : ∃ cb, w3.heap.size = cb := ⟨_, rfl⟩
  rw [hcb] at hAW hcbw ⊢
  clear hb4 hb13 hb3 hb2 hb1 hM3 HMm hconv HC Hh
  generalize bytesWorld w3 5 t = wb at *
  generalize grownCap w3 t.size 0 5 = gc at *
  generalize (w1.alloc (.cells #[.string t] 9)).heap.size = B at *
  clear hcb
  obtain ⟨ps, hps, HPS⟩ : ∃ ps, nodesTo ws ws.length = ps ∧ Hid (nodesTo ws ws.length = ps) := ⟨_, rfl, rfl⟩
  obtain ⟨wd, hwd, HWE⟩ : ∃ wd, wdTo ws ws.length = wd ∧ Hid (wdTo ws ws.length = wd) := ⟨_, rfl, rfl⟩
  have HCl := hid (clo_nodes ws ws.length)
  have HR := hid (root_idx ws ws.length)
  have HWD := hid (wd_nodes ws)
  have hlen : (nodesTo ws ws.length).length < 1000 := by
    have h1 := nodesTo_le (ws := ws) (k := ws.length) fun i hi => wall_size HW.out i hi
    omega
  have HRl := hid (fun i => raw_len (ws := ws) (s := t) HW.out (i := i) (wall_size HW.out))
  have HEx := hid (fun q x (hx : x ∈ endS (wdTo ws ws.length) q) => (show ∃ m : Nat, m < ws.length ∧ x = m from by
    obtain ⟨r, _, _, h3, h4⟩ := ends_mem.1 hx
    obtain ⟨m, hm, h5, _⟩ := (wd_word (wall_dist HW.out) (p := r)).1 h3
    exact ⟨m, hm, by rw [h4, h5]⟩))
  have HZ := hid (wall_size HW.out)
  rw [hwd] at HWD HRl HEx
  rw [hps] at HCl HR HWD hlen
  have hMac := hid hAW.out.mac
  have hBy := hid hAW.out.bytes
  have hBl := hid hAW.out.below
  have hWs := hid hAW.out.words
  rw [hps, hwd] at hMac
  rw [hps]
  clear hAW hps hwd
  have h00 : ps.idxOf (lsuf ps (pfx t 0)) = 0 := HR.out
  have H00 := hid h00
  clear h00
  go_loopw [31, 10, 9] (fun j at' v wr => ∃ i : Nat, i ≤ t.size ∧ j = .int .i64 i ∧ at' = .int .i64 (ps.idxOf (lsuf ps (pfx t i))) ∧ Hid (Below wb.heap.size wb wr) ∧ Hid (OwnH wr wb.heap.size v (rawTo wd ws t i))) (fun j _ _ _ => t.size - (intOf j).toNat)
  case atStart => exact ⟨0, by omega, rfl, by rw [H00.out]; rfl, hid (Below.refl _ _), hid (OwnH.nil _ _)⟩
  case round =>
    clear H00
    obtain ⟨i, hi, rfl, rfl, hb, ho⟩ := hrel
    by_cases hlt : i < t.size
    · have hlt' : (i : Int) < t.size := by omega
      have hMr := hMac.out.below hb.out
      have qb := (hb.out.cell (p := ⟨cb, i, none⟩) hcbw).trans (hBy.out i hlt)
      have hq0 : lsuf ps (pfx t i) ∈ ps := lsuf_mem HCl.out _
      have HST := hid (step_any wr B g cap ps mb (flF ps) en (elF wd ps) hMr HCl.out HR.out hlen (lsuf ps (pfx t i)).length (fun q hq _ _ => flF_at hq) _ hq0 (Nat.le_refl _) (bt t i) (bt_lt t i))
      rw [lsuf_snoc HCl.out, ← pfx_succ] at HST
      have hq1 : lsuf ps (pfx t (i + 1)) ∈ ps := lsuf_mem HCl.out _
      have hJ := List.idxOf_lt_length_of_mem hq1
      have heJ := hMac.out.ends _ hJ
      have hel : elF wd ps (ps.idxOf (lsuf ps (pfx t (i + 1)))) = endS wd (pfx t (i + 1)) := by unfold elF; rw [idx_getD hq1, ends_lsuf HWD.out]
      rw [hel] at heJ
      have c2 := hMr.cell2 hJ
      have hEl := ends_len (wd := wd) (pfx t (i + 1))
      rw [pfx_len] at hEl
      have HEm := hid (HEx.out (pfx t (i + 1)))
      have HRs := hid (rawTo_succ wd ws t i)
      have hRl := HRl.out i
      obtain ⟨E, hE⟩ : ∃ E, endS wd (pfx t (i + 1)) = E := ⟨_, rfl⟩
      rw [hE] at heJ hEl HEm HRs
      obtain ⟨J, hJe, HJ⟩ : ∃ J, ps.idxOf (lsuf ps (pfx t (i + 1))) = J ∧ Hid (ps.idxOf (lsuf ps (pfx t (i + 1))) = J) := ⟨_, rfl, rfl⟩
      rw [hJe] at hJ heJ c2 HST
      obtain ⟨J0, hJ0⟩ : ∃ J0, ps.idxOf (lsuf ps (pfx t i)) = J0 := ⟨_, rfl⟩
      rw [hJ0] at HST ⊢
      obtain ⟨vJ, hvJ⟩ : ∃ vJ, en J = vJ := ⟨_, rfl⟩
      rw [hvJ] at heJ c2
      obtain ⟨AJ, cJ, rfl⟩ := heJ.shape
      have HSE := hid heJ.sl
      have hJ' : (J : Int) < ps.length := by omega
      obtain ⟨i0, hi0, hz0, hz1, hz2⟩ := info_parts info_hit
      clear hE hJe hJ0 hvJ hel hMr hq0 hq1 heJ
      go_wp2_with fail
      refine HST.out.mono ?_
      rintro e w5 ⟨rfl, m, rfl⟩
      have c2' : (wr.drewN m).cell? ⟨g, J * 3 + 2, none⟩ = _ := c2
      go_wp2_with fail
      have hbm := hid (below_dn hb.out m)
      have hom := hid (show OwnH (wr.drewN m) wb.heap.size _ (rawTo wd ws t i) from ho.out)
      clear hb ho c2 c2' qb HST
      go_loopw [46, 9] (fun j v wi => ∃ k : Nat, k ≤ E.length ∧ j = .int .i64 k ∧ Hid (Below wb.heap.size wb wi) ∧ Hid (OwnH wi wb.heap.size v (rawTo wd ws t i ++ rawAt wd ws t i (E.take k)))) (fun j _ _ => E.length - (intOf j).toNat)
      case atStart => exact ⟨0, by omega, rfl, hbm, by rw [List.take_zero, show rawAt wd ws t i [] = [] from rfl, List.append_nil]; exact hom⟩
      case round =>
        clear hbm hom
        obtain ⟨k, hk, rfl, hb, ho⟩ := hrel
        by_cases hkl : k < E.length
        · have hkl' : (k : Int) < E.length := by omega
          obtain ⟨m, hm, hx⟩ := HEm.out E[k] (List.getElem_mem hkl)
          have hxk : E[k]? = some (m : Int) := by rw [List.getElem?_eq_getElem hkl, hx]
          have Hsn := hid (rawAt_snoc wd ws t i hxk)
          obtain ⟨gE, oE, hAE, hgE, hcE⟩ := HSE.out (by intro e; have := congrArg List.length e; simp at this; simp [this] at hkl)
          have qE := (hb.out.cell (p := ⟨gE, oE + k, none⟩) hgE).trans (hcE k _ (ints_get' hxk))
          obtain ⟨gW, oW, hAW, hgW, hcW⟩ := hWs.out (by intro e; simp at e; simp [e] at hm)
          have qW := (hb.out.cell (p := ⟨gW, oW + m, none⟩) hgW).trans (hcW m _ (wat_get hm))
          have hs8 := HZ.out m hm
          obtain ⟨s, hs⟩ : ∃ s, wat ws m = s := ⟨_, rfl⟩
          have htn : (m : Int).toNat = m := by omega
          rw [htn, hs] at Hsn
          rw [hs] at qW hs8
          subst hAE hAW
          have hm' : (m : Int) < ws.length := by omega
          have hmc : (m : Int) < c := by omega
          have hbs := hb.out.size
          have hLl : (rawTo wd ws t i ++ rawAt wd ws t i (E.take k)).length ≤ 5000 := by
            rw [List.length_append]
            unfold rawAt
            rw [List.length_map, List.length_take]
            omega
          have HoA := hid (fun o => (ho.out.below ((Below.refl _ _).alloc (Nat.le_refl _) o)))
          have hov := ho
          obtain ⟨L, hL⟩ : ∃ L, rawTo wd ws t i ++ rawAt wd ws t i (E.take k) = L := ⟨_, rfl⟩
          obtain ⟨D, hD⟩ : ∃ D : Int, (i : Int) + 1 - s.size = D := ⟨_, rfl⟩
          have HL2 := hid (show rawTo wd ws t i ++ rawAt wd ws t i (E.take (k + 1)) = L ++ [(D, (m : Int))] by rw [Hsn.out, ← List.append_assoc, hL, hD])
          rw [hL] at HoA hov hLl
          have HD := hid hD
          clear hL hcE hcW hRl hxk hx Hsn ho
          go_wp2_with (first
            | (at_builtin; refine wpList_append_lies _ rfl _ _ 39 rfl wb.heap.size 43 i0 _ 2 16 Try.underlying39 hi0 hz0 hz1 hz2 rfl (by decide) _ L.length (hcells L) rfl (HoA.out _) ⟨wr.heap.size, 0, none⟩ 1 1 [.int .i64 D, .int .i64 (m : Int)] rfl rfl (new_two _ _ _ _) (fun u hu => by simp at hu; rcases hu with rfl | rfl <;> rfl) (by omega) (by unfold maxLen; omega) (by omega) (by simp; omega) _ rfl ?_; intro g4 cap4 w4 ho4 hg4 hat4 hlt4)
            | fail)
          have hb4 := hid (own_keeps hb.out hov.out hbs hg4)
          have ho5 := hid (show OwnH w4 wb.heap.size (.slice (some ⟨g4, 0, none⟩) (L.length + 1) cap4) (rawTo wd ws t i ++ rawAt wd ws t i (E.take (k + 1))) from by
            rw [HL2.out]
            unfold OwnH
            rw [← hcells_app, List.length_append]
            exact ho4)
          clear ho4 hg4 hat4 hlt4
          go_roundw
          case rel => exact ⟨k + 1, by omega, by go_num, hb4, ho5⟩
          case measure => simp [intOf]; omega
        · have hke : k = E.length := by omega
          subst hke
          rw [List.take_length, ← HRs.out] at ho
          go_wp2_with fail
          go_roundw
          case rel => exact ⟨i + 1, by omega, by go_num, by rw [HJ.out], hb, ho⟩
          case measure => simp [intOf]; omega
    · have hie : i = t.size := by omega
      subst hie
      have HS := hid (fun v (ho : OwnH wr wb.heap.size v (rawTo wd ws t t.size)) => sort_any wr wb.heap.size v (rawTo wd ws t t.size) ho hb.out.size (by have := HRl.out t.size; omega))
      go_wp2_with fail
      refine (HS.out _ ho.out).mono ?_
      rintro e w6 ⟨rfl, l', hp, hs, hHL, hb6⟩
      rw [← HWE.out] at hp
      have hl' := sorted_hits HW.out hp hs
      subst hl'
      have HF := hid (show HL w6 w.heap.size _ (hitsL ws t) ∧ Below w.heap.size w w6 from ⟨hHL.mono hBl.out.size, hBl.out.trans ((hb.out.trans hb6).mono hBl.out.size)⟩)
      go_wp2_with fail
      go_ret2
      exact ⟨_, rfl, HF.out.1, HF.out.2⟩
end Go.Proofs.Ythlibdpemocpmaa
