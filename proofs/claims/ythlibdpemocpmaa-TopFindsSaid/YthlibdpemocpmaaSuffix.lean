/- suffix.Order: each place of the text once. -/
import Derived.Test.YthlibdpemocpmaaSuffState
namespace Go.Proofs.Ythlibdpemocpmaa
set_option linter.unusedVariables false
set_option linter.unusedSimpArgs false
open Go.RowKit Go.Shelf

attribute [local go_sem] Oper.semAt_some
attribute [local go_sem] get_bt

theorem range_fin (n : Nat) (h : n ≤ 24) : ((List.range n).map fun i => Fin.ofNat 24 i).map Fin.val = List.range n := by
  rw [List.map_map]
  refine (List.map_congr_left fun i hi => ?_).trans (List.map_id _)
  have := List.mem_range.1 hi
  show i % 24 = i
  rw [Nat.mod_eq_of_lt (by omega)]
theorem fi_range (n : Nat) (h : n ≤ 24) : fi ((List.range n).map fun i => Fin.ofNat 24 i) = (List.range n).map fun i : Nat => (i : Int) := by
  have e : ∀ l : List (Fin 24), fi l = (l.map Fin.val).map fun i : Nat => (i : Int) := fun l => by unfold fi; rw [List.map_map]; rfl
  rw [e, range_fin n h]

theorem suf_start {w W : World} {s : ByteArray} {N Bo Br Be D : Nat} {vo vr : Value} {ys : List (Fin s.size)} (cO : Boxed W Bo 28 vo) (cR : Boxed W Br 28 vr) (cS : Boxed W N 9 (.string s)) (pO : Own W (Be + 1) vo (preI ys)) (pR : Own W (Be + 1) vr (preB s ys)) (dj : Disj vo vr)
    (be : Below w.heap.size w W) (hb : Be + 1 ≤ W.heap.size) (hK : W.heap[D]? = some (.deferred (some []))) (hys : ys.map Fin.val = List.range s.size) (hs : s.size ≤ 24) :
    ∃ l rk, SMem w ((W.alloc (Obj.cells #[.func (.func 44) #[] #[.pointer (some ⟨Br, 0, none⟩)]] 78)).alloc (Obj.cells #[.int .i64 1] 3)) s (Be + 1) N Bo Br W.heap.size (W.heap.size + 1) D 1 vo vr l rk := by
  have hl : ys.length = s.size := by have := congrArg List.length hys; simpa using this
  have e1 : preI ys = fi ((List.range s.size).map fun i => Fin.ofNat 24 i) := by
    rw [fi_range _ hs, ← hys, List.map_map]; rfl
  refine ⟨(List.range s.size).map fun i => Fin.ofNat 24 i, preB s ys, (cO.alloc _).alloc _, (cR.alloc _).alloc _, (cS.alloc _).alloc _, (Boxed.new W _ _).alloc _, ?_, ?_, ?_, (pR.alloc _).alloc _, dj, ?_, ?_, (be.alloc be.size _).alloc (by simp; have := be.size; omega) _, by simp; omega, ?_, by unfold preB; rw [List.length_map, hl]⟩
  · have h := Boxed.new (W.alloc (Obj.cells #[.func (.func 44) #[] #[.pointer (some ⟨Br, 0, none⟩)]] 78)) 3 (.int .i64 1)
    rw [World.size_alloc] at h
    exact h
  · have hlt := (Array.getElem?_eq_some_iff.1 hK).1
    rw [Go.Deep.blk_alloc_lt _ _ _ (by simp; omega), Go.Deep.blk_alloc_lt _ _ _ hlt]
    exact hK
  · rw [← e1]; exact (pO.alloc _).alloc _
  · exact fun e => by have := (pO.lt _ e).2; omega
  · exact fun e => by have := (pR.lt _ e).2; omega
  · rw [range_fin _ hs]

set_option maxRecDepth 100000 in
set_option maxHeartbeats 4000000 in
theorem sufOrder_ok (w : World) (s : ByteArray) (hs : s.size ≤ 24) :
    Calls Try.prog 26 #[.string s] w fun e w' => ∃ A c l, e = .returned (.tuple #[.slice A s.size c, .nilIface]) ∧ Sl w' w'.heap.size A (ints l) ∧ l.Perm ((List.range s.size).map fun i : Nat => (i : Int)) ∧ Below w.heap.size w w' := by
  refine (callsIn_wide (n := 3)).1 ?_
  refine callsIn_of_wp_marks Try.func26 rfl trivial ?_ rfl
  simp only [Try.ntmps26, List.size_toArray, List.length_cons, List.length_nil, Nat.reduceAdd, Nat.reduceSub, Array.replicate_succ, Array.replicate_zero, List.push_toArray, List.append_toArray, List.nil_append, List.cons_append]
  gi_wp2_with (first
    | (refine ⟨trivial, ?_⟩; gi_at_call 33; refine (callsIn_wide.2 (long1_ok _ s hs _ _ (by simp))).mono ?_; rintro e w' ⟨rfl, rfl⟩)
    | (refine ⟨trivial, ?_⟩; gi_at_call 43; refine (callsIn_wide.2 (ends_call _ s)).mono ?_; rintro e w' ⟨rfl, rfl⟩))
  obtain ⟨W0, hW0⟩ : ∃ W0, ((((w.alloc (Obj.cells #[Value.string s] 9)).alloc (Obj.cells #[Value.string s] 9)).alloc (Obj.cells #[Value.slice none 0 0] 28)).alloc (Obj.cells #[Value.slice none 0 0] 28)).alloc (Obj.cells #[Value.string s] 9) = W0 := ⟨_, rfl⟩
  obtain ⟨N, hN⟩ : ∃ N, w.heap.size = N := ⟨_, rfl⟩
  obtain ⟨Be, hBe⟩ : ∃ Be, N + 1 + 1 + 1 + 1 = Be := ⟨_, rfl⟩
  obtain ⟨Br, hBr⟩ : ∃ Br, N + 1 + 1 + 1 = Br := ⟨_, rfl⟩
  obtain ⟨Bo, hBo⟩ : ∃ Bo, N + 1 + 1 = Bo := ⟨_, rfl⟩
  obtain ⟨Bl, hBl⟩ : ∃ Bl, N + 1 = Bl := ⟨_, rfl⟩
  have hsz : W0.heap.size = Be + 1 := by rw [← hW0, ← hBe, ← hN]; simp
  have bel0 : Below w.heap.size w W0 := by
    rw [← hW0]
    exact (((((Below.refl _ w).alloc (Nat.le_refl _) _).alloc (by simp) _).alloc (by simp; omega) _).alloc (by simp; omega) _).alloc (by simp; omega) _
  have bS : Boxed W0 N 9 (.string s) := by
    rw [← hW0, ← hN]
    exact ((((Boxed.new w _ _).alloc _).alloc _).alloc _).alloc _
  have bO : Boxed W0 Bo 28 (.slice none 0 0) := by
    have h := ((Boxed.new ((w.alloc (Obj.cells #[Value.string s] 9)).alloc (Obj.cells #[Value.string s] 9)) 28 (.slice none 0 0)).alloc (Obj.cells #[Value.slice none 0 0] 28)).alloc (Obj.cells #[Value.string s] 9)
    rw [World.size_alloc, World.size_alloc, hN, hBo, hW0] at h
    exact h
  have bR : Boxed W0 Br 28 (.slice none 0 0) := by
    have h := (Boxed.new (((w.alloc (Obj.cells #[Value.string s] 9)).alloc (Obj.cells #[Value.string s] 9)).alloc (Obj.cells #[Value.slice none 0 0] 28)) 28 (.slice none 0 0)).alloc (Obj.cells #[Value.string s] 9)
    rw [World.size_alloc, World.size_alloc, World.size_alloc, hN, hBr, hW0] at h
    exact h
  have bE : W0.cell? ⟨Be, 0, none⟩ = some (.string s) := by
    have h := (Boxed.new ((((w.alloc (Obj.cells #[Value.string s] 9)).alloc (Obj.cells #[Value.string s] 9)).alloc (Obj.cells #[Value.slice none 0 0] 28)).alloc (Obj.cells #[Value.slice none 0 0] 28)) 9 (.string s))
    rw [World.size_alloc, World.size_alloc, World.size_alloc, World.size_alloc, hN, hBe, hW0] at h
    exact h.cell
  rw [hN, hBe, hBr, hBo, hBl, hW0]
  clear hW0
  refine wpIn_rangeFunc_ownF (F := Fence.wide) rfl (by omega) (gf := 52) (lb := #[.pointer (some ⟨Be, 0, none⟩)]) rfl trivial (enters_of Try.func52 (by kernel_rfl) rfl)
    (ends_stops _ s hs Be W0 (by omega) bE) (fun h k => k.trans h) (fun W l o o' hl _ _ _ => World.putObj_heap_other (by omega)) (Below.refl _ _) (fun _ => rfl)
    (SufI w s N Bo Br (Be + 1)) (fun _ _ _ => False) (sufI_own bel0.size) (fun _ _ _ _ _ hs _ _ => hs)
    ⟨_, _, bO, bR, bS, Own.nil _ _, Own.nil _ _, Disj.nil _, bel0, by omega⟩
    (fun x => { tmps := #[.string s, .pointer (some ⟨N, 0, none⟩), .slice none 0 0, .nilIface, .nilIface, .pointer (some ⟨Bo, 0, none⟩), .pointer (some ⟨Br, 0, none⟩), .int .i64 (x.val : Int), undef, undef, undef, undef, undef, .string s, .slice (some ⟨Bl, 0, none⟩) 1 1, .nilIface, .nilIface, .bool false, undef, .string s, .func (.func 52) #[] #[.pointer (some ⟨Be, 0, none⟩)], .int .i64 (x.val : Int), .string (s.extract x.val s.size), undef, undef, undef, undef, undef, undef, undef, undef, undef, undef, undef, undef, undef, undef, undef, undef, undef, undef, undef, undef, undef, undef, undef, undef, undef, undef, undef, undef, undef, undef, undef, undef, undef, undef, undef, undef, undef, undef, undef, undef, undef, undef, undef, undef, undef, undef, undef, undef, undef, undef, undef, undef, undef, undef, undef, undef, undef, undef, undef, undef, undef, undef, undef, undef, undef, undef, undef, undef, undef], defers := [] }) ?assign ?body ?done ?stop
  case assign =>
    intro l x W K hK
    dsimp only [encE]
    gi_wp2
    exact hK
  case stop =>
    rintro D c pre W hD _ h _
    exact h.elim
  case body =>
    rintro l pre x W ⟨vo, vr, bO, bR, bS, oO, oR, dj, bel, hb⟩ hlen
    gi_wp2
    have hx0 : (0 : Int) ≤ (x.val : Int) := by omega
    have hx1 : (x.val : Int) < s.size := by have := x.isLt; omega
    have hx2 : x.val < s.size := x.isLt
    have hb8 := bt_lt s x.val
    have hwr : IntKind.i64.wrap (bt s x.val : Int) = bt s x.val := by rw [IntKind.wrap_i64]; omega
    have hlo : (preI pre).length ≤ 1000 := by unfold preI; simp; omega
    have hlr : (preB s pre).length ≤ 1000 := by unfold preB; simp; omega
    have HS := hid (fun w (h : G2 W vo vr w) => h.suf bO bR bS oO oR)
    have p0 := Pre.start oO oR
    have HX := hid (fun w2 a b => suf_fin (w := w2) (vo' := a) (vr' := b) bO bR bS oO oR bel hb (x := x) (Be := Be))
    have hbW := hb
    obtain ⟨i0, hi, hz0, hz1, hz2⟩ := info_parts info_int
    obtain ⟨wd, hwd⟩ : ∃ wd, W.drew = wd := ⟨_, rfl⟩
    refine wpIn_region_T (T := 11) (S := SufS N Bo Br vo vr s) rfl (by kernel_rfl) ?_ ?_
    · rintro ⟨a, w, h⟩; exact h
    rw [hwd] at p0 ⊢
    clear hwd
    have hS0 := HS.out wd p0.g2
    refine wpAnyT_take (i := 0) (d := some 23) (v := vo) rfl rfl (by kernel_rfl) (by kernel_rfl) (by kernel_rfl) (by kernel_rfl) (by kernel_rfl) (fun _ _ _ h => h) (Or.inl ⟨by rfl, fun w hw => ?_⟩) hS0 ?_
    · obtain ⟨k1, k2, k3⟩ := hw
      go_simp
    simp only [Act.put, List.setIfInBounds_toArray, List.set_cons_zero, List.set_cons_succ]
    refine wpAnyT_take (i := 1) (d := some 24) (v := .int .i64 (x.val : Int)) rfl rfl (by kernel_rfl) (by kernel_rfl) (by kernel_rfl) (by kernel_rfl) (by kernel_rfl) (fun _ _ _ h => h) (Or.inl ⟨by rfl, fun w hw => ?_⟩) hS0 ?_
    · obtain ⟨k1, k2, k3⟩ := hw
      go_simp
    simp only [Act.put, List.setIfInBounds_toArray, List.set_cons_zero, List.set_cons_succ]
    refine wpAnyT_take (i := 4) (d := some 27) (v := vr) rfl rfl (by kernel_rfl) (by kernel_rfl) (by kernel_rfl) (by kernel_rfl) (by kernel_rfl) (fun _ _ _ h => h) (Or.inl ⟨by rfl, fun w hw => ?_⟩) hS0 ?_
    · obtain ⟨k1, k2, k3⟩ := hw
      go_simp
    simp only [Act.put, List.setIfInBounds_toArray, List.set_cons_zero, List.set_cons_succ]
    refine wpAnyT_take (i := 5) (d := some 28) (v := .string s) rfl rfl (by kernel_rfl) (by kernel_rfl) (by kernel_rfl) (by kernel_rfl) (by kernel_rfl) (fun _ _ _ h => h) (Or.inl ⟨by rfl, fun w hw => ?_⟩) hS0 ?_
    · obtain ⟨k1, k2, k3⟩ := hw
      go_simp
    simp only [Act.put, List.setIfInBounds_toArray, List.set_cons_zero, List.set_cons_succ]
    refine wpAnyT_take (i := 6) (d := some 29) (v := .int .i64 (x.val : Int)) rfl rfl (by kernel_rfl) (by kernel_rfl) (by kernel_rfl) (by kernel_rfl) (by kernel_rfl) (fun _ _ _ h => h) (Or.inl ⟨by rfl, fun w hw => ?_⟩) hS0 ?_
    · obtain ⟨k1, k2, k3⟩ := hw
      go_simp
    simp only [Act.put, List.setIfInBounds_toArray, List.set_cons_zero, List.set_cons_succ]
    refine wpAnyT_take (i := 7) (d := some 30) (v := .int .u8 (bt s x.val : Int)) rfl rfl (by kernel_rfl) (by kernel_rfl) (by kernel_rfl) (by kernel_rfl) (by kernel_rfl) (fun _ _ _ h => h) (Or.inl ⟨by rfl, fun w hw => ?_⟩) hS0 ?_
    · obtain ⟨k1, k2, k3⟩ := hw
      go_simp
    simp only [Act.put, List.setIfInBounds_toArray, List.set_cons_zero, List.set_cons_succ]
    refine wpAnyT_take (i := 8) (d := some 31) (v := .int .i64 (bt s x.val : Int)) rfl rfl (by kernel_rfl) (by kernel_rfl) (by kernel_rfl) (by kernel_rfl) (by kernel_rfl) (fun _ _ _ h => h) (Or.inl ⟨by rfl, fun w hw => ?_⟩) hS0 ?_
    · obtain ⟨k1, k2, k3⟩ := hw
      go_simp
    simp only [Act.put, List.setIfInBounds_toArray, List.set_cons_zero, List.set_cons_succ]
    refine wpAnyT_two (i := 2) (j := 9) (by kernel_rfl) rfl rfl ?_ ?_
    · intro K hK
      go_simp
      have p1 := p0.alloc (.cells #[.int .i64 (x.val : Int)] 3)
      have n1 := News.new wd (x.val : Int)
      have bcx := p0.g2.size
      obtain ⟨w1, hw⟩ : ∃ u, wd.alloc (.cells #[.int .i64 (x.val : Int)] 3) = u := ⟨_, rfl⟩
      obtain ⟨cx, hc⟩ : ∃ u, wd.heap.size = u := ⟨_, rfl⟩
      rw [hw] at p1 n1 ⊢
      rw [hc] at n1 bcx ⊢
      clear hw hc
      refine hK _ _ (fun _ => HS.out _ p1.g2) ?_
      clear hK
      refine wpAnyT_two (i := 3) (j := 9) (by kernel_rfl) rfl rfl ?_ ?_
      · intro K hK
        refine step_append_lies _ rfl (.tmp 23) (.tmp 25) 28 rfl (Be + 1) 3 i0 (.int .i64 0) 1 8 Try.underlying28 hi hz0 hz1 hz2 rfl (by decide) vo (preI pre).length (ints (preI pre)) rfl p1.oO ⟨cx, 0, none⟩ 1 1 [.int .i64 (x.val : Int)] rfl rfl n1.out (fun u hu => by simp at hu; subst hu; rfl) (by omega) (by unfold maxLen; omega) (by omega) (by have := p1.g2.size; omega) _ rfl ?_
        intro g cap w2 ho hg hat hlt
        have q2 := p1.app dj ho hg hat
        refine hK _ _ (fun _ => HS.out _ q2.g2) ?_
        clear hK ho hg hat hlt p0 p1 n1
        simp only [Act.put, List.setIfInBounds_toArray, List.set_cons_zero, List.set_cons_succ]
        refine wpAnyT_only (i := 9) (by kernel_rfl) rfl ?_
        intro K hK
        go_simp
        have q3 := q2.alloc (.cells #[.int .i64 (bt s x.val : Int)] 3)
        have n3 := News.new w2 (bt s x.val : Int)
        have bcy := q2.g2.size
        obtain ⟨w3, hw⟩ : ∃ u, w2.alloc (.cells #[.int .i64 (bt s x.val : Int)] 3) = u := ⟨_, rfl⟩
        obtain ⟨cy, hc⟩ : ∃ u, w2.heap.size = u := ⟨_, rfl⟩
        rw [hw] at q3 n3 ⊢
        rw [hc] at n3 bcy ⊢
        clear hw hc
        refine hK _ _ (fun _ => HS.out _ q3.g2) ?_
        clear hK
        clear q2
        refine wpAnyT_only (i := 10) (by kernel_rfl) rfl ?_
        intro K hK
        refine step_append_lies _ rfl (.tmp 27) (.tmp 32) 28 rfl (Be + 1) 3 i0 (.int .i64 0) 1 8 Try.underlying28 hi hz0 hz1 hz2 rfl (by decide) vr (preB s pre).length (ints (preB s pre)) rfl q3.oR ⟨cy, 0, none⟩ 1 1 [.int .i64 (bt s x.val : Int)] rfl rfl n3.out (fun u hu => by simp at hu; subst hu; rfl) (by omega) (by unfold maxLen; omega) (by omega) (by have := q3.g2.size; omega) _ rfl ?_
        intro g2 cap2 w4 ho hg hat hlt
        obtain ⟨r1, r2, r3, r4⟩ := q3.app ho hg hat
        refine hK _ _ (fun _ => HS.out _ r1) ?_
        clear hK ho hg hat hlt q3 n3
        simp only [Act.put, List.setIfInBounds_toArray, List.set_cons_zero, List.set_cons_succ]
        have k1 := (r1.box bO (by decide) oO oR).cell
        have k2 := (r1.box bO (by decide) oO oR).frozen
        have hfin := HX.out _ _ _ r1 r2 r3 r4 (by omega) (by omega) (by omega) (by omega) (by omega) (by omega) (by omega) (by omega) (by omega) (by omega) (by omega) (by omega)
        have e2 := r1.box bR (by decide) oO oR
        have k3 := e2.cell
        have k4 := e2.frozen
        clear e2
        refine wpAnyT_only (i := 11) (by kernel_rfl) rfl ?_
        intro K hK
        go_simp
        refine hK _ _ (fun h => absurd h (by decide)) ?_
        clear hK
        refine wpAnyT_only (i := 12) (by kernel_rfl) rfl ?_
        intro K hK
        go_simp
        refine hK _ _ (fun h => absurd h (by decide)) ?_
        clear hK
        refine wpAnyT_done (by kernel_rfl) ?_ _
        exact hfin
      · intro K hK
        go_simp
        have p2 := p1.alloc (.cells #[.int .i64 (bt s x.val : Int)] 3)
        have n2 := News.new w1 (bt s x.val : Int)
        have m1 := n1.alloc (.cells #[.int .i64 (bt s x.val : Int)] 3)
        have bcy := p1.g2.size
        obtain ⟨w2, hw⟩ : ∃ u, w1.alloc (.cells #[.int .i64 (bt s x.val : Int)] 3) = u := ⟨_, rfl⟩
        obtain ⟨cy, hc⟩ : ∃ u, w1.heap.size = u := ⟨_, rfl⟩
        rw [hw] at p2 n2 m1 ⊢
        rw [hc] at n2 bcy ⊢
        clear hw hc
        refine hK _ _ (fun _ => HS.out _ p2.g2) ?_
        clear hK
        refine wpAnyT_only (i := 3) (by kernel_rfl) rfl ?_
        intro K hK
        refine step_append_lies _ rfl (.tmp 23) (.tmp 25) 28 rfl (Be + 1) 3 i0 (.int .i64 0) 1 8 Try.underlying28 hi hz0 hz1 hz2 rfl (by decide) vo (preI pre).length (ints (preI pre)) rfl p2.oO ⟨cx, 0, none⟩ 1 1 [.int .i64 (x.val : Int)] rfl rfl m1.out (fun u hu => by simp at hu; subst hu; rfl) (by omega) (by unfold maxLen; omega) (by omega) (by have := p2.g2.size; omega) _ rfl ?_
        intro g cap w3 ho hg hat hlt
        have q3 := p2.app dj ho hg hat
        have n3 := n2.app p2.oO hg (own_old oO bcy)
        refine hK _ _ (fun _ => HS.out _ q3.g2) ?_
        clear hK ho hg hat hlt p0 p1 p2 n1 n2 m1
        simp only [Act.put, List.setIfInBounds_toArray, List.set_cons_zero, List.set_cons_succ]
        refine wpAnyT_only (i := 10) (by kernel_rfl) rfl ?_
        intro K hK
        refine step_append_lies _ rfl (.tmp 27) (.tmp 32) 28 rfl (Be + 1) 3 i0 (.int .i64 0) 1 8 Try.underlying28 hi hz0 hz1 hz2 rfl (by decide) vr (preB s pre).length (ints (preB s pre)) rfl q3.oR ⟨cy, 0, none⟩ 1 1 [.int .i64 (bt s x.val : Int)] rfl rfl n3.out (fun u hu => by simp at hu; subst hu; rfl) (by omega) (by unfold maxLen; omega) (by omega) (by have := q3.g2.size; omega) _ rfl ?_
        intro g2 cap2 w4 ho hg hat hlt
        obtain ⟨r1, r2, r3, r4⟩ := q3.app ho hg hat
        refine hK _ _ (fun _ => HS.out _ r1) ?_
        clear hK ho hg hat hlt q3 n3
        simp only [Act.put, List.setIfInBounds_toArray, List.set_cons_zero, List.set_cons_succ]
        have k1 := (r1.box bO (by decide) oO oR).cell
        have k2 := (r1.box bO (by decide) oO oR).frozen
        have hfin := HX.out _ _ _ r1 r2 r3 r4 (by omega) (by omega) (by omega) (by omega) (by omega) (by omega) (by omega) (by omega) (by omega) (by omega) (by omega) (by omega)
        have e2 := r1.box bR (by decide) oO oR
        have k3 := e2.cell
        have k4 := e2.frozen
        clear e2
        refine wpAnyT_only (i := 11) (by kernel_rfl) rfl ?_
        intro K hK
        go_simp
        refine hK _ _ (fun h => absurd h (by decide)) ?_
        clear hK
        refine wpAnyT_only (i := 12) (by kernel_rfl) rfl ?_
        intro K hK
        go_simp
        refine hK _ _ (fun h => absurd h (by decide)) ?_
        clear hK
        refine wpAnyT_done (by kernel_rfl) ?_ _
        exact hfin
    · intro K hK
      go_simp
      have p1 := p0.alloc (.cells #[.int .i64 (bt s x.val : Int)] 3)
      have n1 := News.new wd (bt s x.val : Int)
      have bcy := p0.g2.size
      obtain ⟨w1, hw⟩ : ∃ u, wd.alloc (.cells #[.int .i64 (bt s x.val : Int)] 3) = u := ⟨_, rfl⟩
      obtain ⟨cy, hc⟩ : ∃ u, wd.heap.size = u := ⟨_, rfl⟩
      rw [hw] at p1 n1 ⊢
      rw [hc] at n1 bcy ⊢
      clear hw hc
      refine hK _ _ (fun _ => HS.out _ p1.g2) ?_
      clear hK
      refine wpAnyT_only (i := 2) (by kernel_rfl) rfl ?_
      intro K hK
      go_simp
      have p2 := p1.alloc (.cells #[.int .i64 (x.val : Int)] 3)
      have n2 := News.new w1 (x.val : Int)
      have m1 := n1.alloc (.cells #[.int .i64 (x.val : Int)] 3)
      have bcx := p1.g2.size
      obtain ⟨w2, hw⟩ : ∃ u, w1.alloc (.cells #[.int .i64 (x.val : Int)] 3) = u := ⟨_, rfl⟩
      obtain ⟨cx, hc⟩ : ∃ u, w1.heap.size = u := ⟨_, rfl⟩
      rw [hw] at p2 n2 m1 ⊢
      rw [hc] at n2 bcx ⊢
      clear hw hc
      refine hK _ _ (fun _ => HS.out _ p2.g2) ?_
      clear hK
      refine wpAnyT_only (i := 3) (by kernel_rfl) rfl ?_
      intro K hK
      refine step_append_lies _ rfl (.tmp 23) (.tmp 25) 28 rfl (Be + 1) 3 i0 (.int .i64 0) 1 8 Try.underlying28 hi hz0 hz1 hz2 rfl (by decide) vo (preI pre).length (ints (preI pre)) rfl p2.oO ⟨cx, 0, none⟩ 1 1 [.int .i64 (x.val : Int)] rfl rfl n2.out (fun u hu => by simp at hu; subst hu; rfl) (by omega) (by unfold maxLen; omega) (by omega) (by have := p2.g2.size; omega) _ rfl ?_
      intro g cap w3 ho hg hat hlt
      have q3 := p2.app dj ho hg hat
      have n3 := m1.app p2.oO hg (own_old oO bcy)
      refine hK _ _ (fun _ => HS.out _ q3.g2) ?_
      clear hK ho hg hat hlt p0 p1 p2 n1 n2 m1
      simp only [Act.put, List.setIfInBounds_toArray, List.set_cons_zero, List.set_cons_succ]
      refine wpAnyT_only (i := 10) (by kernel_rfl) rfl ?_
      intro K hK
      refine step_append_lies _ rfl (.tmp 27) (.tmp 32) 28 rfl (Be + 1) 3 i0 (.int .i64 0) 1 8 Try.underlying28 hi hz0 hz1 hz2 rfl (by decide) vr (preB s pre).length (ints (preB s pre)) rfl q3.oR ⟨cy, 0, none⟩ 1 1 [.int .i64 (bt s x.val : Int)] rfl rfl n3.out (fun u hu => by simp at hu; subst hu; rfl) (by omega) (by unfold maxLen; omega) (by omega) (by have := q3.g2.size; omega) _ rfl ?_
      intro g2 cap2 w4 ho hg hat hlt
      obtain ⟨r1, r2, r3, r4⟩ := q3.app ho hg hat
      refine hK _ _ (fun _ => HS.out _ r1) ?_
      clear hK ho hg hat hlt q3 n3
      simp only [Act.put, List.setIfInBounds_toArray, List.set_cons_zero, List.set_cons_succ]
      have k1 := (r1.box bO (by decide) oO oR).cell
      have k2 := (r1.box bO (by decide) oO oR).frozen
      have hfin := HX.out _ _ _ r1 r2 r3 r4 (by omega) (by omega) (by omega) (by omega) (by omega) (by omega) (by omega) (by omega) (by omega) (by omega) (by omega) (by omega)
      have e2 := r1.box bR (by decide) oO oR
      have k3 := e2.cell
      have k4 := e2.frozen
      clear e2
      refine wpAnyT_only (i := 11) (by kernel_rfl) rfl ?_
      intro K hK
      go_simp
      refine hK _ _ (fun h => absurd h (by decide)) ?_
      clear hK
      refine wpAnyT_only (i := 12) (by kernel_rfl) rfl ?_
      intro K hK
      go_simp
      refine hK _ _ (fun h => absurd h (by decide)) ?_
      clear hK
      refine wpAnyT_done (by kernel_rfl) ?_ _
      exact hfin
  case done =>
    rintro D ys W hD hys ⟨vo, vr, cO, cR, cS, pO, pR, dj, be, hb⟩ hK
    rename_i Q1 K1 hK1
    refine hK1 _ _ ?_
    clear hK1
    refine wpIn_wide.2 ?_
    have hM0 := hid (suf_start cO cR cS pO pR dj be hb hK hys hs)
    go_wp2_with fail
    obtain ⟨Ba, hBa⟩ : ∃ Ba, W.heap.size = Ba := ⟨_, rfl⟩
    obtain ⟨W2, hW2⟩ : ∃ W2, ((W.alloc (Obj.cells #[.func (.func 44) #[] #[.pointer (some ⟨Br, 0, none⟩)]] 78)).alloc (Obj.cells #[.int .i64 1] 3)) = W2 := ⟨_, rfl⟩
    rw [hBa, hW2] at hM0
    rw [hBa, hW2]
    obtain ⟨A, c, rfl⟩ : ∃ A c, vo = .slice A s.size c := by
      obtain ⟨A, c, e⟩ := pO.shape
      have hl : ys.length = s.size := by have := congrArg List.length hys; simpa using this
      have hl2 : (preI ys).length = s.size := by unfold preI; rw [List.length_map, hl]
      rw [hl2] at e
      exact ⟨A, c, e⟩
    clear hW2 cO cR cS pO pR dj be hb hK hys
    go_loopg [9] 70 (fun m kb wr => ∃ (Bk k : Nat) (vr : Value) (l : List (Fin 24)) (rk : List Int), kb = .pointer (some ⟨Bk, 0, none⟩) ∧ 1 ≤ k ∧ k ≤ 48 ∧ 71 ≤ m + k ∧ Hid (SMem w wr s (Be + 1) N Bo Br Ba Bk D k (.slice A s.size c) vr l rk))
    case atStart =>
      obtain ⟨l, rk, h⟩ := hM0.out
      exact ⟨_, 1, vr, l, rk, rfl, by omega, by omega, by omega, h⟩
    case round =>
      clear hM0
      obtain ⟨Bk, k, vr, l, rk, rfl, hk1, hk48, hmk, hM⟩ := hrel
      have c1 := hM.out.bO.cell
      go_wp2_with fail
      refine (hM.out.sort (by omega) hs (by omega)).mono ?_
      rintro e w1 ⟨rfl, l', hM1⟩
      have c3 := hM1.bS.cell
      have c3b := hM1.hb
      obtain ⟨gn, hgn⟩ : ∃ g, w1.heap.size = g := ⟨_, rfl⟩
      have hM1 := hid hM1
      clear hM c1
      go_wp2_with (at_make; refine wp_make_int _ rfl _ _ rfl (Be + 1) s.size gn rfl rfl (by omega) c3b hgn ?_; intro w2 hown hg2 hsz2)
      have hF := hid (hM1.out.free (Nat.le_of_eq hgn))
      have hM2 := hid (hM1.out.still hg2)
      have hN2 := hid hown
      clear hM1 c3 c3b hg2 hown
      go_loopw [12] (fun i wr2 => ∃ (j : Nat) (ln : List Int), 1 ≤ j ∧ (j ≤ s.size ∨ j = 1) ∧ i = .int .i64 (j : Int) ∧ ln.length = s.size ∧ Hid (SMem w wr2 s (Be + 1) N Bo Br Ba Bk D k (.slice A s.size c) vr l' rk ∧ Own wr2 (Be + 1) (.slice (some ⟨gn, 0, none⟩) s.size s.size) ln)) (fun i _ => s.size - (intOf i).toNat)
      case atStart => exact ⟨1, _, by omega, .inr rfl, rfl, by simp, hid ⟨hM2.out, hN2.out⟩⟩
      case round =>
        clear hM2 hN2
        obtain ⟨j, ln, hj1, hj2, rfl, hln, hS⟩ := hrel
        have c1 := hS.out.1.bO.cell
        by_cases hlt : j < s.size
        · have hlt' : (j : Int) < s.size := by omega
          obtain ⟨gr, cr, er⟩ := own_form hS.out.1.oR (by rw [hS.out.1.hr]; omega)
          obtain ⟨go, co, eo⟩ := own_form hS.out.1.oO (by rw [fi_len, hS.out.1.len]; omega)
          obtain rfl : A = some ⟨go, 0, none⟩ := by injection eo
          obtain ⟨d, hd⟩ : ∃ d, j = d + 1 := ⟨j - 1, by omega⟩
          have hwd : IntKind.i64.wrap (d : Int) = (d : Int) := by rw [IntKind.wrap_i64]; omega
          have hd0 : (0 : Int) ≤ d := by omega
          have hdj : (j : Int) - 1 = (d : Int) := by omega
          have hd1 : (d : Int) < s.size := by omega
          obtain ⟨q, hq, hql⟩ := hS.out.1.at hlt
          obtain ⟨p, hp, hpl⟩ := hS.out.1.at (i := d) (by omega)
          have hpq := hS.out.1.apart hp hq (by omega)
          have Hd := hid hd
          clear hd
          have hql' : (q : Int) < s.size := by omega
          have hpl' : (p : Int) < s.size := by omega
          obtain ⟨x, hx⟩ : ∃ x, ln[p]? = some x := ⟨_, List.getElem?_eq_getElem (by omega)⟩
          obtain ⟨y, hy⟩ : ∃ y, ln[q]? = some y := ⟨_, List.getElem?_eq_getElem (by omega)⟩
          have d1 := Own.cellAt hS.out.1.oO hq
          have d2 := Own.cellAt hS.out.1.oO hp
          have d3 := Own.cellAt hS.out.2 hx
          have d4 := Own.cellAt hS.out.2 hy
          have d5 := Own.frozenAt hS.out.2 q
          have fF := hF.out
          have hgg : gn ≠ go := fun e => fF.n7 (by rw [e]; rfl)
          have hQ := hid (show wr.drew.cell? ⟨Bo, 0, none⟩ = some (.slice (some ⟨go, 0, none⟩) s.size c) ∧ wr.drew.cell? ⟨go, j, none⟩ = some (.int .i64 (q : Int)) ∧ wr.drew.cell? ⟨go, d, none⟩ = some (.int .i64 (p : Int)) ∧ wr.drew.cell? ⟨gn, p, none⟩ = some (.int .i64 x) from ⟨c1, d1, d2, d3⟩)
          have hU0 : SMem w (wr.drew.setCell ⟨gn, q, none⟩ (.int .i64 x)) s (Be + 1) N Bo Br Ba Bk D k (.slice (some ⟨go, 0, none⟩) s.size c) vr l' rk ∧ Own (wr.drew.setCell ⟨gn, q, none⟩ (.int .i64 x)) (Be + 1) (.slice (some ⟨gn, 0, none⟩) s.size s.size) (ln.set q x) :=
            ⟨hS.out.1.kept (grown_drew_set wr gn q _) (fun r e => by injection e with e; rw [← e]; exact fF), Own.set (hS.out.2.drewN 1) q x⟩
          have hQS := hid (show (wr.drew.setCell ⟨gn, q, none⟩ (.int .i64 x)).cell? ⟨Bo, 0, none⟩ = some (.slice (some ⟨go, 0, none⟩) s.size c) ∧ (wr.drew.setCell ⟨gn, q, none⟩ (.int .i64 x)).cell? ⟨go, j, none⟩ = some (.int .i64 (q : Int)) ∧ (wr.drew.setCell ⟨gn, q, none⟩ (.int .i64 x)).cell? ⟨go, d, none⟩ = some (.int .i64 (p : Int)) ∧ (wr.drew.setCell ⟨gn, q, none⟩ (.int .i64 x)).cell? ⟨gn, p, none⟩ = some (.int .i64 x) from
            ⟨hU0.1.bO.cell, Own.cellAt hU0.1.oO hq, Own.cellAt hU0.1.oO hp, Own.cellAt hU0.2 (by rw [List.getElem?_set_ne (Ne.symm hpq)]; exact hx)⟩)
          have hU := hid hU0
          have Hq := hid hq
          have Hp := hid hp
          have Hpq := hid hpq
          clear hU0 hq hp fF eo
          go_wp2_with fail
          go_region_held3 (fun w' => w'.cell? ⟨Bo, 0, none⟩ = some (.slice (some ⟨go, 0, none⟩) s.size c) ∧ w'.cell? ⟨go, j, none⟩ = some (.int .i64 (q : Int)) ∧ w'.cell? ⟨go, d, none⟩ = some (.int .i64 (p : Int)) ∧ w'.cell? ⟨gn, p, none⟩ = some (.int .i64 x)) (first | exact hQ.out | exact hQS.out) (fail)
          have hL := hU.out.1.less er
          obtain ⟨cv, hcv⟩ : ∃ cv, cmpR rk (k / 2) p q = cv := ⟨_, rfl⟩
          obtain ⟨u, hu⟩ : ∃ u, (wr.setCell ⟨gn, q, none⟩ (.int .i64 x)).drew = u := ⟨_, rfl⟩
          rw [show wr.drew.setCell ⟨gn, q, none⟩ (.int .i64 x) = u from hu] at hL hU
          rw [hu]
          have HL := hid (show Calls Try.prog 45 #[.int .i64 (p : Int), .int .i64 (q : Int), .pointer (some ⟨Ba, 0, none⟩), .pointer (some ⟨Bk, 0, none⟩)] u.drew fun e w' => e = .returned (.int .i64 cv) ∧ ∃ q os', w' = Go.Sort.grow (u.drew.drewN q) os' from by
            rw [← hcv]
            exact less_any u.drew Ba Bk Br gr _ cr k rk hL.drew (by omega) p q (by omega) (by omega))
          have hQ2 := hid (show u.drew.cell? ⟨Bo, 0, none⟩ = some (.slice (some ⟨go, 0, none⟩) s.size c) ∧ u.drew.cell? ⟨go, j, none⟩ = some (.int .i64 (q : Int)) ∧ u.drew.cell? ⟨go, d, none⟩ = some (.int .i64 (p : Int)) from ⟨hU.out.1.bO.cell, Own.cellAt hU.out.1.oO Hq.out, Own.cellAt hU.out.1.oO Hp.out⟩)
          have hU2 := hid (show ∀ m os, SMem w (Go.Sort.grow (u.drewN m) os) s (Be + 1) N Bo Br Ba Bk D k (.slice (some ⟨go, 0, none⟩) s.size c) vr l' rk ∧ Own (Go.Sort.grow (u.drewN m) os) (Be + 1) (.slice (some ⟨gn, 0, none⟩) s.size s.size) (ln.set q x) from fun m os =>
            ⟨hU.out.1.still (grown_grow u m os), own_kept hU.out.2 (grown_grow u m os) (fun r e => by cases e)⟩)
          have hQ3 := hid (show ∀ m os, (Go.Sort.grow (u.drewN m) os).cell? ⟨Bo, 0, none⟩ = some (.slice (some ⟨go, 0, none⟩) s.size c) ∧ (Go.Sort.grow (u.drewN m) os).cell? ⟨go, j, none⟩ = some (.int .i64 (q : Int)) ∧ (Go.Sort.grow (u.drewN m) os).cell? ⟨go, d, none⟩ = some (.int .i64 (p : Int)) from fun m os =>
            ⟨(hU2.out m os).1.bO.cell, Own.cellAt (hU2.out m os).1.oO Hq.out, Own.cellAt (hU2.out m os).1.oO Hp.out⟩)
          clear hL hU hu hcv c1 d1 d2 d3 d4 d5
          have HS2 := hid hS
          clear hS
          by_cases hc : cv < 0
          · go_wp2_with fail
            go_region_held3 (fun w' => w'.cell? ⟨Bo, 0, none⟩ = some (.slice (some ⟨go, 0, none⟩) s.size c) ∧ w'.cell? ⟨go, j, none⟩ = some (.int .i64 (q : Int)) ∧ w'.cell? ⟨go, d, none⟩ = some (.int .i64 (p : Int))) (first | exact hQ2.out | exact hQ3.out _ _) ((go_at_call 45; refine HL.out.mono ?_; rintro e w' ⟨rfl, m, os, rfl⟩))
            have hV := hid (hU2.out (1 + m) os)
            obtain ⟨u2', hu2⟩ : ∃ u2', Go.Sort.grow (u.drewN (1 + m)) os = u2' := ⟨_, rfl⟩
            rw [hu2] at hV ⊢
            clear hu2 hQ2 hQ3 hU2 HL hQ hQS
            have e1 := hV.out.1.bO.cell
            have e2 := Own.cellAt hV.out.1.oO Hq.out
            have hqx : (ln.set q x)[q]? = some x := by rw [List.getElem?_set_self (by omega)]
            have e3 := Own.cellAt hV.out.2 hqx
            have e4 := Own.frozenAt hV.out.2 q
            clear hqx
            obtain ⟨z, hz⟩ : ∃ z, IntKind.i64.wrap (x + 1) = z := ⟨_, rfl⟩
            have hW := hid (show SMem w (u2'.setCell ⟨gn, q, none⟩ (.int .i64 z)) s (Be + 1) N Bo Br Ba Bk D k (.slice (some ⟨go, 0, none⟩) s.size c) vr l' rk ∧ Own (u2'.setCell ⟨gn, q, none⟩ (.int .i64 z)) (Be + 1) (.slice (some ⟨gn, 0, none⟩) s.size s.size) ((ln.set q x).set q z) from
              ⟨hV.out.1.kept (grown_set u2' gn q _) (fun r e => by injection e with e; rw [← e]; exact hF.out), Own.set hV.out.2 q z⟩)
            go_wp2_with fail
            go_roundw
            case rel => exact ⟨j + 1, (ln.set q x).set q z, by omega, .inl (by omega), by go_num, by rw [List.length_set, List.length_set]; exact hln, hW⟩
            case measure => simp [intOf]; omega
          · go_wp2_with fail
            go_region_held3 (fun w' => w'.cell? ⟨Bo, 0, none⟩ = some (.slice (some ⟨go, 0, none⟩) s.size c) ∧ w'.cell? ⟨go, j, none⟩ = some (.int .i64 (q : Int)) ∧ w'.cell? ⟨go, d, none⟩ = some (.int .i64 (p : Int))) (first | exact hQ2.out | exact hQ3.out _ _) ((go_at_call 45; refine HL.out.mono ?_; rintro e w' ⟨rfl, m, os, rfl⟩))
            go_wp2_with fail
            go_roundw
            case rel => exact ⟨j + 1, ln.set q x, by omega, .inl (by omega), by go_num, by rw [List.length_set]; exact hln, hid (hU2.out _ _)⟩
            case measure => simp [intOf]; omega
        · have hlt' : ¬ (j : Int) < s.size := by omega
          have fF := hF.out
          have hM3 := hid (hS.out.1.setR hS.out.2 (fun i e e2 => fF.n7 (by rw [e]; exact e2.symm)) (fun e => fF.n5 (by simpa [Value.ownBlock] using e)) hln (by omega) (by omega))
          have c2 := hS.out.1.bR.cell
          have c3 := hS.out.1.bR.frozen
          have c4 := hS.out.1.bK.cell
          have c5 := hS.out.1.bS.cell
          have n1 := box_ne hS.out.1.bO hS.out.1.bK (by decide)
          have n2 := box_ne hS.out.1.bK hS.out.1.bR (by decide)
          have n3 := box_ne hS.out.1.bS hS.out.1.bR (by decide)
          have n4 : Bo ≠ Br := by omega
          by_cases hks : s.size ≤ k
          · have hks' : (s.size : Int) ≤ k := by omega
            go_wp2_with fail
            refine ⟨by simp, .inl ⟨_, _, rfl, run_takeDeferred hM3.out.dD, ?_⟩⟩
            obtain ⟨f1, f2, f3⟩ := hM3.out.end (D := D) rfl (by omega)
            exact ⟨_, results_tmp2 rfl _ _ _, A, ⟨c, rfl⟩, _, f1, f2, by rw [hN] at f3; exact f3⟩
          · have hks' : ¬ (s.size : Int) ≤ k := by omega
            go_wp2_with fail
            have hM4 := hid (by have h := hM3.out.newK' (2 * k) ((k : Int) * 2) (by omega); rw [World.size_setCell] at h; exact h)
            go_roundg (gk - 1)
            case measure => omega
            case rel => exact ⟨_, 2 * k, _, l', ln, rfl, by omega, by omega, by omega, hM4⟩
end Go.Proofs.Ythlibdpemocpmaa
