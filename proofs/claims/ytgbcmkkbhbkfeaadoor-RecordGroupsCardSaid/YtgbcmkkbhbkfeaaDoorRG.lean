/- The reference's Group. -/
import Derived.Test.YtgbcmkkbhbkfeaaDoorProg
import Derived.Test.YtgbcmkkbhbkfeaaDoorT
import Derived.Test.YtgbcmkkbhbkfeaaDoorAS
namespace Go.Proofs.YtgbcmkkbhbkfeaaDoor
open Go Go.RowKit

theorem needs_nat (n : Nat) : needs (n : Int) = (groupN n : Int) := by
  unfold needs groupN
  rw [if_neg (by omega)]
  split <;> omega
/-- what holds between two rounds of the reference's Group -/
structure GJ (ep sq up : Int) (ds : List Dl) (w : World) (wr : World) (vo : Value) (rs : List Rc) (k : Nat) : Prop where
  row : wr.ownsRow w.heap.size 24 5 vo rs.length (rs.flatMap eR)
  len : rs.length = k
  dat : ∀ (j : Nat) (r : Rc), rs[j]? = some r → r.d = (ep, sq + (j : Int), j + 1 == groupN ds.length, up, ckL ds j)
  sl : ∀ r ∈ rs, Sl eD 5 wr r.v r.ds
  far : ∀ r ∈ rs, ∀ b, r.v.ownBlock = some b → ∃ cs, wr.heap[b]? = some (.cells cs 39 (0, 0))
  frm : Frm no w wr
theorem GJ.step {ep sq up : Int} {ds : List Dl} {w wr wi w1 : World} {vo va v1 : Value} {rs : List Rc} {k : Nat} (h : GJ ep sq up ds w wr vo rs k) (f : Frm no wr wi) (o : Obj)
    (ha : wi.ownsRow (wr.heap.size + 1) 39 5 va (ckL ds k).length ((ckL ds k).flatMap eD)) (_hs : 0 ≤ sq)
    (h1 : w1.ownsRow w.heap.size 24 5 v1 (rs ++ [(⟨ep, sq + (k : Int), k + 1 == groupN ds.length, up, va, ckL ds k⟩ : Rc)]).length ((rs ++ [(⟨ep, sq + (k : Int), k + 1 == groupN ds.length, up, va, ckL ds k⟩ : Rc)]).flatMap eR)) (hg : (wi.alloc o).grownBy w1 vo.ownBlock) :
    GJ ep sq up ds w w1 v1 (rs ++ [(⟨ep, sq + (k : Int), k + 1 == groupN ds.length, up, va, ckL ds k⟩ : Rc)]) (k + 1) := by
  have hob := own_blk h.row
  have F2 : Frm (fun b => some b = vo.ownBlock) wi w1 := (((Frm.refl no wi).alloc o).mono (fun _ _ h => h.elim)).grown hg (fun b _ e => e.symm)
  have hvr : ∀ b, some b = vo.ownBlock → ∃ cs, wi.heap[b]? = some (.cells cs 24 (0, 0)) := fun b e => by
    obtain ⟨_, cs, hb⟩ := hob b e.symm
    exact ⟨cs, blk_frm hb f (fun h => h)⟩
  have hne : ∀ b cs, wi.heap[b]? = some (.cells cs 39 (0, 0)) → ¬ some b = vo.ownBlock := fun b cs hb e => by
    obtain ⟨cs', hb'⟩ := hvr b e
    rw [hb] at hb'
    injection hb' with h1
    injection h1 with _ h2
    exact absurd h2 (by decide)
  have hold : ∀ r ∈ rs, (∀ b, r.v.ownBlock = some b → ∃ cs, wi.heap[b]? = some (.cells cs 39 (0, 0))) := fun r hr b hb => by
    obtain ⟨cs, hc⟩ := h.far r hr b hb
    exact ⟨cs, blk_frm hc f (fun h => h)⟩
  have hava := own_blk ha
  refine ⟨h1, by simp [h.len], fun j r hj => ?_, fun r hr => ?_, fun r hr b hb => ?_, ?_⟩
  · rcases Nat.lt_or_ge j rs.length with hlt | hge
    · rw [List.getElem?_append_left hlt] at hj
      exact h.dat j r hj
    · rw [List.getElem?_append_right hge] at hj
      have : j - rs.length = 0 := by
        rcases Nat.eq_zero_or_pos (j - rs.length) with h0 | h0
        · exact h0
        · rw [List.getElem?_eq_none (by simp; omega)] at hj; cases hj
      rw [this] at hj
      simp only [List.getElem?_cons_zero, Option.some.injEq] at hj
      subst hj
      have e : j = k := by have := h.len; omega
      subst e
      rfl
  · rcases List.mem_append.1 hr with hr | hr
    · exact ((h.sl r hr).below f).frm F2 (fun b hb => by obtain ⟨cs, hc⟩ := hold r hr b hb; exact hne b cs hc)
    · rw [List.mem_singleton] at hr
      subst hr
      exact (Sl.of_owns (by decide) eD_len ha).frm F2 (fun b hb => by obtain ⟨_, cs, hc⟩ := hava b hb; exact hne b cs hc)
  · rcases List.mem_append.1 hr with hr | hr
    · obtain ⟨cs, hc⟩ := hold r hr b hb
      exact ⟨cs, blk_frm hc F2 (hne b cs hc)⟩
    · rw [List.mem_singleton] at hr
      subst hr
      obtain ⟨_, cs, hc⟩ := hava b hb
      exact ⟨cs, blk_frm hc F2 (hne b cs hc)⟩
  · exact (h.frm.trans_no f).trans F2 (fun b hb e => by have := (own_blk h.row b e.symm).1; omega)

theorem refGroup_ok (v : Value) (ds : List Dl) (ep sq up : Int) (w : World) (hl : ds.length ≤ 300) (hv : Sl eD 5 w v ds) (hs : 0 ≤ sq ∧ sq ≤ 1099511627776) :
    Calls Tryd.prog 23 #[v, .int .i64 ep, .int .i64 sq, .int .i64 up] w (Ret fun v' w' => ∃ rs, Sl eR 5 w' v' rs ∧ (∀ r ∈ rs, r.ok w') ∧ rs.map Rc.d = groupL ds ep sq up ∧ Frm no w w') := by
  have HV := Lib.hid (fun W (h : Frm no w W) => hv.below h)
  obtain ⟨a, c, rfl⟩ := hv.shape
  have hcap := hv.cap
  have HVL := Lib.hid (fun k (h : (Value.slice a ds.length c).ownBlock = some k) => hv.lt h)
  clear hv
  obtain ⟨N, hN⟩ : ∃ N, Hid (groupN ds.length = N) := ⟨_, rfl⟩
  have hNB : Hid (N = max 1 ((ds.length + 5) / 6)) := by show N = _; rw [← hN.out]; rfl
  have hN51 : N ≤ 51 := by have := hNB.out; omega
  have hnd := Lib.hid (fun w => refNeeds_any ds.length w (by omega))
  rw [needs_nat, hN.out] at hnd
  obtain ⟨i0, hi, hz0, hz1, hz2⟩ := info_parts info_delta
  obtain ⟨j0, hj, hy0, hy1, hy2⟩ := info_parts info_record
  go_enter Tryd.func23, Tryd.ntmps23
  go_wp2
  go_loopw [9, 10, 11, 12] (fun vo i _ _ wr => ∃ k : Nat, k ≤ N ∧ i = .int .i64 k ∧ ∃ rs, Hid (GJ ep sq up ds w wr vo rs k)) (fun _ i _ _ _ => N - (intOf i).toNat)
  case atStart => exact ⟨0, Nat.zero_le _, rfl, [], own_nil _ _ _ _, rfl, (fun j r h => by simp at h), (fun r h => by cases h), (fun r h => by cases h), Frm.refl _ _⟩
  case round =>
    obtain ⟨k, hk, rfl, rs, HG⟩ := hrel
    obtain ⟨wo, rfl⟩ : ∃ wo : World, wo = wr := ⟨_, rfl⟩
    by_cases hlt : k < N
    · have hlt' : (k : Int) < N := by omega
      have hwr : IntKind.i64.wrap (sq + k) = sq + k := IntWalk.i64_in _ (by omega)
      obtain ⟨cb, hcb⟩ : ∃ cb, ((k : Int) == (N : Int) - 1) = cb := ⟨_, rfl⟩
      have HCB : Hid ((k + 1 == groupN ds.length) = cb) := by
        show _ = _
        rw [hN.out, ← hcb, Bool.eq_iff_iff]
        simp only [beq_iff_eq]; omega
      have h6 : 6 * k ≤ ds.length := by have := hNB.out; omega
      obtain ⟨M, hM⟩ : ∃ M, Hid (ckM ds.length k = M) := ⟨_, rfl⟩
      have hMB : Hid (M = min 6 (ds.length - 6 * k)) := by
        show M = _
        rw [← hM.out]
        unfold ckM ckI
        rw [Nat.min_eq_left h6]
      have hCL : Hid (∀ j, j = M → (ds.drop (6 * k)).take j = ckL ds k) := by
        rintro j rfl
        unfold ckL
        rw [hM.out]
        unfold ckI
        rw [Nat.min_eq_left h6]
      obtain ⟨y, hy⟩ : ∃ y, wo.heap.size = y := ⟨_, rfl⟩
      obtain ⟨W1, hW1⟩ : ∃ W1, wo.alloc (.cells #[.int .i64 ep, .int .i64 (sq + k), .bool cb, .int .i64 up, .slice none 0 0] 24) = W1 := ⟨_, rfl⟩
      have hb1 : Hid (W1.heap[y]? = some (.cells #[.int .i64 ep, .int .i64 (sq + k), .bool cb, .int .i64 up, .slice none 0 0] 24 (0, 0))) := by show _ = _; rw [← hW1, ← hy]; exact blk_new _ _
      have hf1 : Hid (Frm no wo W1) := by show Frm _ _ _; rw [← hW1]; exact (Frm.refl _ _).alloc _
      have hyl : Hid (y + 1 ≤ W1.heap.size) := blk_lt hb1.out
      have HY := Lib.hid hy
      have HWW := Lib.hid hW1
      clear hy hW1
      go_wp2_with (go_at_call 21; refine (hnd.out _).mono ?_; rintro e w' ⟨rfl, rfl⟩)
      try rw [HWW.out]
      try rw [HY.out]
      clear HWW hwr hcb
      go_loopw [12] (fun kk wr => ∃ q : Nat, 6 * k ≤ q ∧ q ≤ 6 * k + M ∧ kk = .int .i64 q ∧ ∃ va L, Hid ((ds.drop (6 * k)).take (q - 6 * k) = L ∧ L.length = q - 6 * k) ∧ Hid (wr.heap[y]? = some (.cells #[.int .i64 ep, .int .i64 (sq + k), .bool cb, .int .i64 up, va] 24 (0, 0))) ∧ Hid (wr.ownsRow (y + 1) 39 5 va L.length (L.flatMap eD)) ∧ Hid (Frm no wo wr ∧ y + 1 ≤ wr.heap.size)) (fun kk _ => 6 * k + M - (intOf kk).toNat)
      case atStart => exact ⟨6 * k, Nat.le_refl _, Nat.le_add_right _ _, by go_num, .slice none 0 0, [], ⟨by simp, by simp⟩, hb1, own_nil _ _ _ _, hf1.out, hyl.out⟩
      case round =>
        obtain ⟨q, hq1, hq2, rfl, va, L, HL, HB, HW, HF⟩ := hrel
        clear hb1 hf1 hyl
        by_cases hlq : q < 6 * k + M
        · have hm := hMB.out
          have hqn : q < ds.length := by omega
          have hqn' : (q : Int) < ds.length := by omega
          have hq6 : (q : Int) < 6 * (k : Int) + 6 := by omega
          clear hm
          obtain ⟨d, hd⟩ : ∃ d, ds[q]? = some d := ⟨_, List.getElem?_eq_getElem hqn⟩
          have hsl := HV.out wr (HG.out.frm.trans_no HF.out.1)
          obtain ⟨g, off, rfl⟩ : ∃ g off, a = some ⟨g, off, none⟩ := by
            rcases hsl with ⟨h, h0⟩ | ⟨g, off, c', h, _⟩
            · rw [h0] at hqn; simp at hqn
            · simp at h; exact ⟨_, _, h.1⟩
          have hsn : Hid ((ds.drop (6 * k)).take (q + 1 - 6 * k) = L ++ [d]) := by
            show _ = _
            rw [show q + 1 - 6 * k = (q - 6 * k) + 1 by omega, List.take_add_one, HL.out.1, List.getElem?_drop, show 6 * k + (q - 6 * k) = q by omega, hd]
            rfl
          have hLl := HL.out.2
          obtain ⟨l, hl'⟩ : ∃ l, L.length = l := ⟨_, rfl⟩
          have hl6 : l ≤ 6 := by have := hMB.out; omega
          have HLL := Lib.hid hl'
          have hW := HW.out
          rw [hl'] at hW
          obtain ⟨xa, xc, rfl⟩ := own_shape hW
          have HW2 := Lib.hid hW
          clear hW HW hLl hl'
          obtain ⟨e0, e1, e2, e3, e4⟩ := hsl.delta hd
          have HSL := Lib.hid (And.intro hsl hd)
          clear hsl hd
          obtain ⟨dk, da, dm, dz, dO⟩ := d
          dsimp only at e0 e1 e2 e3 e4
          obtain ⟨c0, c1, c2, c3, c4⟩ := blk5 HB.out
          have f4 := blk_free HB.out 4
          clear c0 c1 c2 c3
          go_wp2
          clear e0 e1 e2 e3 e4
          refine wp_region_S (S := (fun w' => w'.cell? ⟨y, 4, none⟩ = some (.slice xa l xc) ∧ Sl eD 5 w' (.slice (some ⟨g, off, none⟩) ds.length c) ds)) 9 (by kernel_rfl) ⟨c4, HSL.out.1.below ((Frm.refl no wr).drew)⟩ (fun hHeld => ?_)
          refine wpAnyS_take (i := 0) (oi := ⟨some 47, _, _, _, _, _⟩) (v := ?_) rfl (by kernel_rfl) (by kernel_rfl) (by kernel_rfl) (by kernel_rfl) (fun _ _ _ h => h) (Or.inl ⟨by rfl, ?_⟩) (by assumption) ?_
          rotate_left
          · (intro w hSw; (try dsimp only at hSw); have hcl := hSw.1; obtain ⟨e0, e1, e2, e3, e4⟩ := hSw.2.delta HSL.out.2; dsimp only at e0 e1 e2 e3 e4; go_simp; try with_reducible rfl)
          try simp only [Act.put, List.setIfInBounds_toArray, List.set_cons_zero, List.set_cons_succ]
          refine wpAnyS_take (i := 1) (oi := ⟨some 48, _, _, _, _, _⟩) (v := ?_) rfl (by kernel_rfl) (by kernel_rfl) (by kernel_rfl) (by kernel_rfl) (fun _ _ _ h => h) (Or.inl ⟨by rfl, ?_⟩) (by assumption) ?_
          rotate_left
          · (intro w hSw; (try dsimp only at hSw); have hcl := hSw.1; obtain ⟨e0, e1, e2, e3, e4⟩ := hSw.2.delta HSL.out.2; dsimp only at e0 e1 e2 e3 e4; go_simp; try with_reducible rfl)
          try simp only [Act.put, List.setIfInBounds_toArray, List.set_cons_zero, List.set_cons_succ]
          refine wpAnyS_take (i := 2) (oi := ⟨some 49, _, _, _, _, _⟩) (v := ?_) rfl (by kernel_rfl) (by kernel_rfl) (by kernel_rfl) (by kernel_rfl) (fun _ _ _ h => h) (Or.inl ⟨by rfl, ?_⟩) (by assumption) ?_
          rotate_left
          · (intro w hSw; (try dsimp only at hSw); have hcl := hSw.1; obtain ⟨e0, e1, e2, e3, e4⟩ := hSw.2.delta HSL.out.2; dsimp only at e0 e1 e2 e3 e4; go_simp; try with_reducible rfl)
          try simp only [Act.put, List.setIfInBounds_toArray, List.set_cons_zero, List.set_cons_succ]
          refine wpAnyS_take (i := 3) (oi := ⟨some 50, _, _, _, _, _⟩) (v := ?_) rfl (by kernel_rfl) (by kernel_rfl) (by kernel_rfl) (by kernel_rfl) (fun _ _ _ h => h) (Or.inl ⟨by rfl, ?_⟩) (by assumption) ?_
          rotate_left
          · (intro w hSw; (try dsimp only at hSw); have hcl := hSw.1; obtain ⟨e0, e1, e2, e3, e4⟩ := hSw.2.delta HSL.out.2; dsimp only at e0 e1 e2 e3 e4; go_simp; try with_reducible rfl)
          try simp only [Act.put, List.setIfInBounds_toArray, List.set_cons_zero, List.set_cons_succ]
          refine wpAnyS_take (i := 4) (oi := ⟨some 51, _, _, _, _, _⟩) (v := ?_) rfl (by kernel_rfl) (by kernel_rfl) (by kernel_rfl) (by kernel_rfl) (fun _ _ _ h => h) (Or.inl ⟨by rfl, ?_⟩) (by assumption) ?_
          rotate_left
          · (intro w hSw; (try dsimp only at hSw); have hcl := hSw.1; obtain ⟨e0, e1, e2, e3, e4⟩ := hSw.2.delta HSL.out.2; dsimp only at e0 e1 e2 e3 e4; go_simp; try with_reducible rfl)
          try simp only [Act.put, List.setIfInBounds_toArray, List.set_cons_zero, List.set_cons_succ]
          refine wpAnyS_take (i := 5) (oi := ⟨some 52, _, _, _, _, _⟩) (v := ?_) rfl (by kernel_rfl) (by kernel_rfl) (by kernel_rfl) (by kernel_rfl) (fun _ _ _ h => h) (Or.inl ⟨by rfl, ?_⟩) (by assumption) ?_
          rotate_left
          · (intro w hSw; (try dsimp only at hSw); have hcl := hSw.1; obtain ⟨e0, e1, e2, e3, e4⟩ := hSw.2.delta HSL.out.2; dsimp only at e0 e1 e2 e3 e4; go_simp; try with_reducible rfl)
          try simp only [Act.put, List.setIfInBounds_toArray, List.set_cons_zero, List.set_cons_succ]
          refine wpAnyS_one (i := 6) (o := ⟨some 53, _, _, _, _, _⟩) (by kernel_rfl) (by decide) rfl (fun K hK => ?_)
          go_simp
          have hfa : Frm no wr (wr.alloc (.cells #[.int .i64 dk, .int .i64 da, .int .i64 dm, .int .i64 dz, .int .i64 dO] 39)).drew := ((Frm.refl no wr).alloc _).drew
          refine hK.out _ _ ⟨hfa.cell_is (p := ⟨y, 4, none⟩) (fun h => h) c4, HSL.out.1.below hfa⟩ (fun hHeld => ?_)
          have hnw := blk_new wr (.cells #[.int .i64 dk, .int .i64 da, .int .i64 dm, .int .i64 dz, .int .i64 dO] 39)
          obtain ⟨v4, w4, hrun, r1, r2, r3⟩ := run_append_own (P := Tryd.prog) (wr.alloc (.cells #[.int .i64 dk, .int .i64 da, .int .i64 dm, .int .i64 dz, .int .i64 dO] 39)).drew (y + 1) 22 22 39 i0 _ 5 40 Tryd.underlying22 hi hz0 hz1 hz2 rfl (by decide) (.slice xa l xc) l (L.flatMap eD) (own_frm HW2.out hfa (fun _ _ h => h)) ⟨wr.heap.size, 0, none⟩ 1 1 [.int .i64 dk, .int .i64 da, .int .i64 dm, .int .i64 dz, .int .i64 dO] rfl (by
            intro j u hj
            rw [Addr.add_lit, Nat.zero_add]
            exact (blk_cell hnw j).trans (by simpa using hj)) (by simp [Value.oneCell']) (by unfold maxLen; omega) (by omega) (by have := HF.out.2; simp; omega)
          have hR := Lib.hid (And.intro r1 (And.intro r2 hfa))
          clear r1 r2 r3 hnw hfa
          clear hK K
          refine wpAnyS_one (i := 7) (o := ⟨some 54, _, _, _, _, _⟩) (by kernel_rfl) (by decide) rfl (fun K hK => ?_)
          refine iteT (by rfl) ?_
          refine oper_append rfl rfl rfl hrun ?_
          simp only [Act.put, List.setIfInBounds_toArray, List.set_cons_zero, List.set_cons_succ]
          have hny : ¬ (Value.slice xa l xc).ownBlock = some y := fun e => by have := own_block HW2.out y e; omega
          have hfr : Frm (fun b => (Value.slice xa l xc).ownBlock = some b) wr w4 := (hR.out.2.2.mono (fun _ _ h => h.elim)).grown hR.out.2.1 (fun b _ e => e)
          have hb4 := blk_frm HB.out hfr hny
          have hfr4 := blk_free hb4 4
          obtain ⟨xa4, xc4, hv4⟩ := own_shape hR.out.1
          subst hv4
          have fin : ∀ u, u = Value.slice xa4 (l + 1) xc4 → (w4.setCell ⟨y, 4, none⟩ u).heap[y]? = some (.cells #[.int .i64 ep, .int .i64 (sq + k), .bool cb, .int .i64 up, u] 24 (0, 0)) ∧ (w4.setCell ⟨y, 4, none⟩ u).ownsRow (y + 1) 39 5 u (L ++ [(⟨dk, da, dm, dz, dO⟩ : Dl)]).length ((L ++ [(⟨dk, da, dm, dz, dO⟩ : Dl)]).flatMap eD) ∧ Frm no wo (w4.setCell ⟨y, 4, none⟩ u) ∧ y + 1 ≤ (w4.setCell ⟨y, 4, none⟩ u).heap.size := by
            rintro u rfl
            have hw2 : Frm (· = y) w4 (w4.setCell ⟨y, 4, none⟩ (.slice xa4 (l + 1) xc4)) := Frm.setCell (Frm.refl (· = y) w4) (p := ⟨y, 4, none⟩) (fun _ => rfl) _
            have ho' : w4.ownsRow (y + 1) 39 5 (.slice xa4 (l + 1) xc4) (L ++ [(⟨dk, da, dm, dz, dO⟩ : Dl)]).length ((L ++ [(⟨dk, da, dm, dz, dO⟩ : Dl)]).flatMap eD) := by rw [List.length_append, List.flatMap_append, HLL.out]; exact hR.out.1
            have hfw : Frm no wo w4 := HF.out.1.trans hfr (fun b hb e => by have := own_block HW2.out b e; have := HY.out; omega)
            refine ⟨by have := blk_set hb4 4 (.slice xa4 (l + 1) xc4); simpa using this, own_frm ho' hw2 (fun b hb (e : b = y) => by have := own_block hR.out.1 b hb; omega), hfw.trans hw2 (fun b hb (e : b = y) => by have := HY.out; omega), ?_⟩
            have h1 := HF.out.2; have h2 := hfr.size; have h3 := hw2.size; omega
          refine hK.out _ _ ⟨hfr.cell_is (p := ⟨y, 4, none⟩) hny c4, HSL.out.1.frm hfr (fun b hb e => by have h1 := HVL.out b hb; have h2 := own_block HW2.out b e; have h3 := HG.out.frm.size; have h4 := HY.out; omega)⟩ (fun hHeld => ?_)
          clear hK K hrun hfr hny hb4
          refine wpAnyS_take (i := 8) (oi := ⟨some 55, _, _, _, _, _⟩) (v := ?_) rfl (by kernel_rfl) (by kernel_rfl) (by kernel_rfl) (by kernel_rfl) (fun _ _ _ h => h) (Or.inl ⟨by rfl, ?_⟩) (by assumption) ?_
          rotate_left
          · (intro w hSw; (try dsimp only at hSw); have hcl := hSw.1; obtain ⟨e0, e1, e2, e3, e4⟩ := hSw.2.delta HSL.out.2; dsimp only at e0 e1 e2 e3 e4; go_simp; try with_reducible rfl)
          try simp only [Act.put, List.setIfInBounds_toArray, List.set_cons_zero, List.set_cons_succ]
          refine wpAnyS_last (o := ⟨none, _, _, _, _, _⟩) (by kernel_rfl) rfl (by kernel_rfl) (fun K hK => ?_)
          go_simp
          refine hK.out _ _ ?_
          clear hK K
          have HF2 := Lib.hid (fin _ rfl)
          clear fin hfr4 hHeld c4 f4
          go_wp2
          go_roundw
          case rel =>
            refine ⟨q + 1, by omega, hlq, by go_num, .slice xa4 (l + 1) xc4, L ++ [⟨dk, da, dm, dz, dO⟩], ⟨hsn.out, by simp only [List.length_append, List.length_singleton]; have := HL.out.2; omega⟩, HF2.out.1, ?_, HF2.out.2.2⟩
            exact HF2.out.2.1
          case measure => simp [intOf]; omega
        · have hm := hMB.out
          have hqM : q = 6 * k + M := by omega
          have hL := HL.out
          rw [hCL.out _ (by omega)] at hL
          obtain ⟨rfl, hLn⟩ := (⟨hL.1.symm, hL.2⟩ : L = ckL ds k ∧ L.length = _)
          obtain ⟨xa, xc, rfl⟩ := own_shape HW.out
          obtain ⟨c0, c1, c2, c3, c4⟩ := blk5 HB.out
          obtain ⟨oa, oc, rfl⟩ := own_shape HG.out.row
          have hrl : rs.length ≤ 51 := by have := HG.out.len; omega
          have hrow := Lib.hid (own_frm HG.out.row (HF.out.1.alloc (.cells #[.int .i64 ep, .int .i64 (sq + k), .bool cb, .int .i64 up, .slice xa (ckL ds k).length xc] 24)) (fun _ _ h => h))
          have hnew := Lib.hid (Sl.of_blk (more := []) (xs := [(⟨ep, sq + (k : Int), cb, up, .slice xa (ckL ds k).length xc, ckL ds k⟩ : Rc)]) (n := 1) (c := 1) eR_len (blk_new wr (.cells #[.int .i64 ep, .int .i64 (sq + k), .bool cb, .int .i64 up, .slice xa (ckL ds k).length xc] 24)) rfl (Nat.le_refl _) (by decide))
          have hbw : w.heap.size ≤ wr.heap.size := (HG.out.frm.trans_no HF.out.1).size
          have HBW := Lib.hid hbw
          have hcs : ((q : Int) < 6 * (k : Int) + 6 ∧ ¬ (q : Int) < ds.length) ∨ ¬ (q : Int) < 6 * (k : Int) + 6 := by omega
          clear hbw hm hL hLn hqM
          rcases hcs with ⟨hq6, hqn⟩ | hq6
          all_goals
            go_wp2_with (at_builtin; refine wpList_app1 (enc := eR) _ rfl _ _ 42 rfl w.heap.size 24 j0 (.agg #[.int .i64 0, .int .i64 0, .bool false, .int .i64 0, .slice none 0 0]) 5 56 Tryd.underlying42 hj hy0 hy1 hy2 rfl (by decide) eR_len _ rs rfl hrow.out _ [(⟨ep, sq + (k : Int), cb, up, .slice xa (ckL ds k).length xc, ckL ds k⟩ : Rc)] ?_ rfl hnew.out ?_ ?_ ?_ ?_)
            · intro u hu
              simp only [eR, List.mem_cons, List.not_mem_nil, or_false] at hu
              rcases hu with rfl | rfl | rfl | rfl | rfl <;> rfl
            · unfold maxLen; omega
            · omega
            · have := HBW.out; simp; omega
            · intro v1 w1 ho hg
              have hst := Lib.hid (GJ.step (va := .slice xa (ckL ds k).length xc) HG.out HF.out.1 (.cells #[.int .i64 ep, .int .i64 (sq + k), .bool cb, .int .i64 up, .slice xa (ckL ds k).length xc] 24) (by rw [HY.out]; exact HW.out) hs.1 (by rw [HCB.out, List.length_append, List.length_singleton, List.flatMap_append, List.flatMap_cons, List.flatMap_nil, List.append_nil]; exact ho) hg)
              clear ho hg
              go_wp2
              go_roundw
              case rel => exact ⟨k + 1, hlt, by go_num, _, hst⟩
              case measure => simp [intOf]; omega
    · obtain rfl : k = N := by omega
      obtain ⟨oa, oc, rfl⟩ := own_shape HG.out.row
      go_wp2_with (go_at_call 21; refine (hnd.out _).mono ?_; rintro e w' ⟨rfl, rfl⟩)
      go_ret
      refine ⟨_, rfl, rs, Sl.of_owns (by decide) eR_len HG.out.row, fun r hr => ⟨HG.out.sl r hr, ?_⟩, ?_, HG.out.frm⟩
      · obtain ⟨j, hj⟩ := List.getElem?_of_mem hr
        have h1 := HG.out.dat j r hj
        have h2 : r.ds = ckL ds j := by have := congrArg (fun x => x.2.2.2.2) h1; exact this
        rw [h2]
        unfold ckL ckM
        simp only [List.length_take, List.length_drop]
        omega
      · apply List.ext_getElem?
        intro j
        have hlen : rs.length = groupN ds.length := by rw [hN.out]; exact HG.out.len
        unfold groupL
        rw [List.getElem?_map, List.getElem?_map]
        rcases Nat.lt_or_ge j rs.length with hlt | hge
        · obtain ⟨r, hr⟩ : ∃ r, rs[j]? = some r := ⟨_, List.getElem?_eq_getElem hlt⟩
          rw [hr, List.getElem?_range (by omega), Option.map_some, Option.map_some, HG.out.dat j r hr]
        · rw [List.getElem?_eq_none hge, List.getElem?_eq_none (by simp; omega)]; rfl

end Go.Proofs.YtgbcmkkbhbkfeaaDoor
