/- Group: deltas as records: the walk. -/
import Derived.Test.YtgbcmkkbhbkfeaaDoorProg
import Derived.Test.YtgbcmkkbhbkfeaaDoorS
import Derived.StillTailTactics
namespace Go.Proofs.YtgbcmkkbhbkfeaaDoor
open Go Go.RowKit

/-- a loop over a function of one variable, whose rounds only go on -/
theorem rangeFunc1 {α : Type} {P : Program} {m : Nat} {g : Operand} {p q : Tmp} {assign body : Code} {Q : Exit → Act → World → Prop} {T : Array Value} {w : World}
    {gf : Nat} {lb : Array Value} (hg : (Act.mk T []).eval g = .func (.func gf) #[] lb) (eg : ∀ args w, (callFunc gf args).run P w = .ok (.enter gf args) w)
    {enc : α → Value} {Kp : World → World → Prop} {S Sp : List α → Prop} {N : Nat} {w0 : World} (hm : 1 ≤ m) (hseq : SeqStopsK Fence.wide (m - 1) P gf lb (fun x => #[enc x]) Kp S Sp N w0)
    (hKt : ∀ {A B C : World}, Kp A B → Kp B C → Kp A C) (hKb : ∀ (W : World) (l : Nat) (o o' : Obj), w.heap.size ≤ l → W.heap[l]? = some o → o.isCells = false → o.isWalk = false → Kp W (W.putObj l o')) (hb0 : Below w0.heap.size w0 w)
    (I : List α → World → Prop) (hI : OwnFrom w.heap.size I) (h0 : I [] w)
    (hassign : ∀ (l : Nat) (x : α) (W : World) (K : Act → World → Prop), K ⟨(T.setIfInBounds p (enc x)).setIfInBounds q (enc x), []⟩ W →
      assign.wpIn (Fence.wide.inRound l) (m - 1 - 1) P (Exit.then K (fun _ _ _ => False)) { tmps := T.setIfInBounds p (enc x), defers := [] } W)
    (hbody : ∀ (l : Nat) (pre : List α) (x : α) (W : World), I pre W → pre.length < N → body.wpIn (Fence.wide.inRound l) (m - 1 - 1) P (ownPostK Kp I (fun _ _ _ => False) (pre ++ [x]) W) ⟨(T.setIfInBounds p (enc x)).setIfInBounds q (enc x), []⟩ W)
    (hdone : ∀ (D : Nat) (xs : List α) (W : World), w.heap.size ≤ D → S xs → I xs W → W.heap[D]? = some (.deferred (some [])) → Q .normal ⟨T, [{ target := .collected D, args := #[] }]⟩ W) :
    (Code.rangeFunc g #[p] assign body).wp P Q ⟨T, []⟩ w := by
  refine (wpIn_wide (n := m)).1 ?_
  refine wpIn_rangeFunc_ownF (F := Fence.wide) rfl hm hg trivial eg hseq hKt hKb hb0 (fun _ => rfl) I (fun _ _ _ => False) hI (fun _ _ _ _ _ h _ _ => h) h0 (fun x => ⟨(T.setIfInBounds p (enc x)).setIfInBounds q (enc x), []⟩) ?_ hbody hdone (fun _ _ _ _ _ _ h _ => h.elim)
  intro l x W K hK
  have := hassign l x W K hK
  simpa using this

theorem info_record : (Tryd.prog.info? 24).map (fun i => (i.zero, i.size, i.bytes)) = some (some (.agg #[.int .i64 0, .int .i64 0, .bool false, .int .i64 0, .slice none 0 0]), 5, 56) := by kernel_rfl

theorem group_ok (v : Value) (ds : List Dl) (ep sq up : Int) (w : World) (hl : ds.length ≤ 6000) (hv : Sl eD 5 w v ds) (hm : ds.all mayD = true) (h1 : wi ep 1 2147483648 = true) (h2 : wi sq 0 (1099511627776 - needs ds.length + 1) = true) (h3 : wi up 0 1099511627776 = true) :
    Calls Tryd.prog 19 #[v, .int .i64 ep, .int .i64 sq, .int .i64 up] w (Ret fun v' w' => ∃ u rs, v' = .tuple #[u, .int .i64 0] ∧ Sl eR 5 w' u rs ∧ (∀ r ∈ rs, r.ok w') ∧ rs.map Rc.d = groupL ds ep sq up ∧ Frm no w w') := by
  have HV := Lib.hid hv
  have HM := Lib.hid hm
  obtain ⟨a, c, rfl⟩ := hv.shape
  clear hv hm
  obtain ⟨nd, hnd⟩ : ∃ nd : Int, Hid (needs ds.length = nd) := ⟨_, rfl⟩
  have hnd0 : 0 ≤ nd ∧ nd ≤ 1001 := by rw [← hnd.out]; unfold needs; split <;> (try split) <;> omega
  rw [hnd.out] at h2
  have hw1 : IntKind.i64.wrap (1099511627776 - nd) = 1099511627776 - nd := IntWalk.i64_in _ (by omega)
  have hw2 : IntKind.i64.wrap (1099511627776 - nd + 1) = 1099511627776 - nd + 1 := IntWalk.i64_in _ (by omega)
  refine (callsIn_wide (n := 3)).1 (callsIn_of_wp_marks Tryd.func19 rfl trivial ?_ rfl)
  simp only [Tryd.ntmps19, List.size_toArray, List.length_cons, List.length_nil, Nat.reduceAdd, Nat.reduceSub, Array.replicate_succ, Array.replicate_zero, List.push_toArray, List.append_toArray, List.nil_append, List.cons_append]
  refine wpIn_wide.2 ?_
  have H1 := Lib.hid h1
  have H2 := Lib.hid h2
  have H3 := Lib.hid h3
  clear h1 h2 h3
  go_wp2
  go_quiet (first
    | (go_at_call 20; exact Calls.quiet_of_same (needs_is hnd.out (by omega) _))
    | (go_at_call 33; exact Calls.quiet_of_same (within_is (by first | exact H1.out | exact H2.out | exact H3.out) _)))
  have hW : Hid (∃ W, (((w.alloc (.cells #[.int .i64 ep] 3)).alloc (.cells #[.int .i64 sq] 3)).alloc (.cells #[.int .i64 up] 3)).drewN nq = W ∧ Frm no w W ∧ W.heap[w.heap.size]? = some (.cells #[.int .i64 ep] 3 (0, 0)) ∧ W.heap[w.heap.size + 1]? = some (.cells #[.int .i64 sq] 3 (0, 0)) ∧ W.heap[w.heap.size + 1 + 1]? = some (.cells #[.int .i64 up] 3 (0, 0))) :=
    ⟨_, rfl, ((((Frm.refl no w).alloc _).alloc _).alloc _).drewN _, blk_alloc (blk_alloc (blk_new w _) _) _, blk_alloc (by simpa using blk_new (w.alloc (.cells #[.int .i64 ep] 3)) (.cells #[.int .i64 sq] 3)) _, by simpa using blk_new ((w.alloc (.cells #[.int .i64 ep] 3)).alloc (.cells #[.int .i64 sq] 3)) (.cells #[.int .i64 up] 3)⟩
  obtain ⟨W1, hW1, hf1, be, bs, bu⟩ := hW.out
  rw [hW1]
  have HB := Lib.hid (And.intro hf1 (And.intro be (And.intro bs bu)))
  have hcd := Lib.hid (fun W (h : Frm no W1 W) => containsD_any _ notGroup_any enter_group _ ds W (by omega) ((HV.out.below hf1).below h))
  rw [HM.out] at hcd
  clear hf1 be bs bu hW1 hW hw1 hw2 hnd0
  obtain ⟨B, hB⟩ : ∃ B, Hid (w.heap.size = B) := ⟨_, rfl⟩
  rw [hB.out] at HB ⊢
  go_wp2_with (first
    | (go_at_call 31; refine (hcd.out _ (Frm.refl _ _)).mono ?_; rintro e w2 ⟨rfl, hf2⟩)
    | (go_at_call 49; refine (chunk_any _ _ _ _).mono ?_; rintro e w' ⟨rfl, rfl⟩))
  have hsz2 : w2.heap.size ≤ ((w2.alloc (.cells #[.slice none 0 0] 42)).alloc (.cells #[.slice a ds.length c] 22)).heap.size := by simp; omega
  have hfa := Lib.hid ((((Frm.refl no w2).alloc (.cells #[.slice none 0 0] 42)).alloc (.cells #[.slice a ds.length c] 22)).alloc (.cells #[.int .i64 6] 3))
  have hbo := Lib.hid (blk_alloc (blk_alloc (blk_new w2 (.cells #[.slice none 0 0] 42)) (.cells #[.slice a ds.length c] 22)) (.cells #[.int .i64 6] 3))
  have hbs := blk_alloc (blk_new (w2.alloc (.cells #[.slice none 0 0] 42)) (.cells #[.slice a ds.length c] 22)) (.cells #[.int .i64 6] 3)
  have hbn := blk_new ((w2.alloc (.cells #[.slice none 0 0] 42)).alloc (.cells #[.slice a ds.length c] 22)) (.cells #[.int .i64 6] 3)
  simp only [World.size_alloc] at hbs hbn
  obtain ⟨W0, hW0⟩ : ∃ W0, (((w2.alloc (.cells #[.slice none 0 0] 42)).alloc (.cells #[.slice a ds.length c] 22)).alloc (.cells #[.int .i64 6] 3)) = W0 := ⟨_, rfl⟩
  have hs0 : W0.heap.size = w2.heap.size + 1 + 1 + 1 := by rw [← hW0]; simp
  rw [hW0] at hfa hbo hbs hbn ⊢
  obtain ⟨Bo, hBo⟩ : ∃ Bo, Hid (w2.heap.size = Bo) := ⟨_, rfl⟩
  rw [hBo.out] at hs0 hbo hbs hbn ⊢
  have hBle : B + 1 + 1 < Bo := by rw [← hBo.out]; exact Nat.lt_of_lt_of_le (blk_lt HB.out.2.2.2) hf2.size
  have F0 := Lib.hid ((HB.out.1.trans_no hf2).trans_no hfa.out)
  have hb5 := Lib.hid (blk_frm (blk_frm HB.out.2.1 hf2 (fun h => h)) hfa.out (fun h => h))
  have hb6 := Lib.hid (blk_frm (blk_frm HB.out.2.2.1 hf2 (fun h => h)) hfa.out (fun h => h))
  have hb7 := Lib.hid (blk_frm (blk_frm HB.out.2.2.2 hf2 (fun h => h)) hfa.out (fun h => h))
  have HV0 := Lib.hid (HV.out.below F0.out)
  have hvl : Hid (∀ k, (Value.slice a ds.length c).ownBlock = some k → k < B) := fun k hk => by rw [← hB.out]; exact HV.out.lt hk
  clear hW0 hfa hcd hsz2 hf2 hBo
  have HBS := Lib.hid hbs
  have HBN := Lib.hid hbn
  clear hbs hbn
  obtain ⟨g, off, hA⟩ : ∃ g off, Hid (0 < ds.length → a = some ⟨g, off, none⟩) := by
    rcases HV.out with ⟨_, h⟩ | ⟨g, off, c', h, _⟩
    · exact ⟨0, 0, fun h0 => by rw [h] at h0; cases h0⟩
    · simp only [Value.slice.injEq] at h
      exact ⟨g, off, fun _ => h.1⟩
  have hcc := HV.out.cap.2
  refine rangeFunc1 (m := 3) (q := 11) rfl (enters_of Tryd.func61 (by kernel_rfl) rfl) (by decide) (chunk_stops 2 (Bo + 1) (Bo + 1 + 1) a g off ds.length c hcc hl hA.out W0 HBS.out HBN.out) (fun h k => h.trans k)
    (fun W l o o' hl _ _ _ => ⟨World.putObj_heap_other (by omega), World.putObj_heap_other (by omega)⟩) (Below.refl _ _) (fun pre W => ∃ vo rs, GI ep sq up ds Bo W0 pre W vo rs) GI.own ⟨_, [], hbo.out, own_nil _ _ _ _, rfl, (fun j r h => by simp at h), (fun r h => by cases h), (fun r h => by cases h), Frm.refl _ _⟩ ?assign ?body ?done
  case assign =>
    intro l x W K hK
    simp only [List.setIfInBounds_toArray, List.set_cons_zero, List.set_cons_succ] at hK ⊢
    have hsem := @Oper.semAt_some
    gi_wp2
    exact hK
  case body =>
    rintro l pre x W ⟨vo, rs, hI⟩ hN
    simp only [List.setIfInBounds_toArray, List.set_cons_zero, List.set_cons_succ]
    have hsem := @Oper.semAt_some
    gi_wp2
    clear hsem
    have hrl : rs.length ≤ 1000 := by have := hI.len; omega
    obtain ⟨xa, xc, hvo⟩ := own_shape hI.row
    subst hvo
    have HI := Lib.hid hI
    have c0 := blk_cell hI.box 0
    have f0 := blk_free hI.box 0
    have hFw : Frm (· = Bo) W0 W := hI.frm
    have c5 := blk_cell (blk_frm hb5.out hFw (fun h => by omega)) 0
    have c6 := blk_cell (blk_frm hb6.out hFw (fun h => by omega)) 0
    have c7 := blk_cell (blk_frm hb7.out hFw (fun h => by omega)) 0
    simp at c0 c5 c6 c7
    have hs2 : 0 ≤ sq ∧ sq ≤ 1099511627776 := by
      have h := H2.out
      have hn0 : 0 ≤ nd := by rw [← hnd.out]; unfold needs; split <;> (try split) <;> omega
      have hn1 : 1 ≤ nd := by rw [← hnd.out]; unfold needs; split <;> (try split) <;> omega
      simp [wi] at h
      omega
    have hwr : IntKind.i64.wrap (sq + rs.length) = sq + rs.length := IntWalk.i64_in _ (by omega)
    have hck : Hid (Sl eD 5 W (ckV g off ds.length x) (ckL ds x)) := by
      rcases Nat.eq_zero_or_pos ds.length with h | h
      · omega
      · have h1 := HV0.out
        rw [hA.out h] at h1
        refine (ck_sl h1 x).frm hFw (fun k hk (e : k = Bo) => ?_)
        have := hvl.out k (by rw [hA.out h]; exact hk)
        omega
    clear hI hFw
    obtain ⟨ck, hckV⟩ : ∃ v, Hid (ckV g off ds.length x = v) := ⟨_, rfl⟩
    rw [hckV.out] at hck ⊢
    obtain ⟨ca, cc, hcs⟩ := hck.out.shape
    subst hcs
    refine wpIn_round_held (fun _ W' => KeepsOthers W W' ∧ Kp2 (Bo + 1) (Bo + 1 + 1) W W' ∧ ∃ vo rs, GI ep sq up ds Bo W0 (pre ++ [x]) W' vo rs)
      (fun w' => w'.cell? ⟨Bo, 0, none⟩ = some (.slice xa rs.length xc) ∧ w'.cell? ⟨B, 0, none⟩ = some (.int .i64 ep) ∧ w'.cell? ⟨B + 1, 0, none⟩ = some (.int .i64 sq) ∧ w'.cell? ⟨B + 1 + 1, 0, none⟩ = some (.int .i64 up)) 12 (by kernel_rfl) (by kernel_rfl) ⟨c0, c5, c6, c7⟩ (fun hHeld => ?_) (fun _ _ h => h)
    refine wpAnyS_take (i := 0) (oi := ⟨some 38, _, _, _, _, _⟩) (v := ?_) rfl (by kernel_rfl) (by kernel_rfl) (by kernel_rfl) (by kernel_rfl) (fun _ _ _ h => h) (Or.inl ⟨by rfl, ?_⟩) (by assumption) ?_
    rotate_left
    · (intro w hSw; obtain ⟨q0, q1, q2, q3⟩ := hSw; go_simp; try with_reducible rfl)
    try simp only [Act.put, List.setIfInBounds_toArray, List.set_cons_zero, List.set_cons_succ]
    refine wpAnyS_take (i := 1) (oi := ⟨some 39, _, _, _, _, _⟩) (v := ?_) rfl (by kernel_rfl) (by kernel_rfl) (by kernel_rfl) (by kernel_rfl) (fun _ _ _ h => h) (Or.inl ⟨by rfl, ?_⟩) (by assumption) ?_
    rotate_left
    · (intro w hSw; obtain ⟨q0, q1, q2, q3⟩ := hSw; go_simp; try with_reducible rfl)
    try simp only [Act.put, List.setIfInBounds_toArray, List.set_cons_zero, List.set_cons_succ]
    refine wpAnyS_take (i := 2) (oi := ⟨some 40, _, _, _, _, _⟩) (v := ?_) rfl (by kernel_rfl) (by kernel_rfl) (by kernel_rfl) (by kernel_rfl) (fun _ _ _ h => h) (Or.inl ⟨by rfl, ?_⟩) (by assumption) ?_
    rotate_left
    · (intro w hSw; obtain ⟨q0, q1, q2, q3⟩ := hSw; go_simp; try with_reducible rfl)
    try simp only [Act.put, List.setIfInBounds_toArray, List.set_cons_zero, List.set_cons_succ]
    refine wpAnyS_take (i := 3) (oi := ⟨some 41, _, _, _, _, _⟩) (v := ?_) rfl (by kernel_rfl) (by kernel_rfl) (by kernel_rfl) (by kernel_rfl) (fun _ _ _ h => h) (Or.inl ⟨by rfl, ?_⟩) (by assumption) ?_
    rotate_left
    · (intro w hSw; obtain ⟨q0, q1, q2, q3⟩ := hSw; go_simp; try with_reducible rfl)
    try simp only [Act.put, List.setIfInBounds_toArray, List.set_cons_zero, List.set_cons_succ]
    refine wpAnyS_take (i := 4) (oi := ⟨some 42, _, _, _, _, _⟩) (v := ?_) rfl (by kernel_rfl) (by kernel_rfl) (by kernel_rfl) (by kernel_rfl) (fun _ _ _ h => h) (Or.inl ⟨by rfl, ?_⟩) (by assumption) ?_
    rotate_left
    · (intro w hSw; obtain ⟨q0, q1, q2, q3⟩ := hSw; go_simp; try with_reducible rfl)
    try simp only [Act.put, List.setIfInBounds_toArray, List.set_cons_zero, List.set_cons_succ]
    refine wpAnyS_take (i := 5) (oi := ⟨some 43, _, _, _, _, _⟩) (v := ?_) rfl (by kernel_rfl) (by kernel_rfl) (by kernel_rfl) (by kernel_rfl) (fun _ _ _ h => h) (Or.inl ⟨by rfl, ?_⟩) (by assumption) ?_
    rotate_left
    · (intro w hSw; obtain ⟨q0, q1, q2, q3⟩ := hSw; go_simp; try with_reducible rfl)
    try simp only [Act.put, List.setIfInBounds_toArray, List.set_cons_zero, List.set_cons_succ]
    refine wpAnyS_take (i := 6) (oi := ⟨some 44, _, _, _, _, _⟩) (v := ?_) rfl (by kernel_rfl) (by kernel_rfl) (by kernel_rfl) (by kernel_rfl) (fun _ _ _ h => h) (Or.inl ⟨by rfl, ?_⟩) (by assumption) ?_
    rotate_left
    · (intro w hSw; obtain ⟨q0, q1, q2, q3⟩ := hSw; go_simp; try with_reducible rfl)
    try simp only [Act.put, List.setIfInBounds_toArray, List.set_cons_zero, List.set_cons_succ]
    refine wpAnyS_take (i := 7) (oi := ⟨some 45, _, _, _, _, _⟩) (v := ?_) rfl (by kernel_rfl) (by kernel_rfl) (by kernel_rfl) (by kernel_rfl) (fun _ _ _ h => h) (Or.inl ⟨by rfl, ?_⟩) (by assumption) ?_
    rotate_left
    · (intro w hSw; obtain ⟨q0, q1, q2, q3⟩ := hSw; go_simp; try with_reducible rfl)
    try simp only [Act.put, List.setIfInBounds_toArray, List.set_cons_zero, List.set_cons_succ]
    refine wpAnyS_one (i := 8) (o := ⟨some 46, _, _, _, _, _⟩) (by kernel_rfl) (by decide) rfl (fun K hK => ?_)
    go_simp
    refine (cloneD_any _ (ckL ds x) W.drew (by have : (ckL ds x).length ≤ 6 := by (unfold ckL ckM; simp; omega)
                                               omega) hck.out).mono ?_
    rintro e w3 ⟨v3, rfl, ho3, hf3⟩
    simp only []
    obtain ⟨a3, l3, hv3⟩ := own_shape ho3
    subst hv3
    have hf3' : Frm no W w3 := ((Frm.refl no W).drew).trans_no hf3
    have hs3 := Lib.hid (And.intro ho3 hf3')
    refine hK.out _ _ ⟨hf3'.cell_is (p := ⟨Bo, 0, none⟩) (fun h => h) c0, hf3'.cell_is (p := ⟨B, 0, none⟩) (fun h => h) c5, hf3'.cell_is (p := ⟨B + 1, 0, none⟩) (fun h => h) c6, hf3'.cell_is (p := ⟨B + 1 + 1, 0, none⟩) (fun h => h) c7⟩ (fun hHeld => ?_)
    clear hK K hf3 ho3 hf3'
    refine wpAnyS_take (i := 9) (oi := ⟨some 47, _, _, _, _, _⟩) (v := ?_) rfl (by kernel_rfl) (by kernel_rfl) (by kernel_rfl) (by kernel_rfl) (fun _ _ _ h => h) (Or.inl ⟨by rfl, ?_⟩) (by assumption) ?_
    rotate_left
    · (intro w hSw; obtain ⟨q0, q1, q2, q3⟩ := hSw; go_simp; try with_reducible rfl)
    try simp only [Act.put, List.setIfInBounds_toArray, List.set_cons_zero, List.set_cons_succ]
    refine wpAnyS_one (i := 10) (o := ⟨some 48, _, _, _, _, _⟩) (by kernel_rfl) (by decide) rfl (fun K hK => ?_)
    go_simp
    have hfa := (Frm.refl no w3).alloc (.cells #[.int .i64 ep, .int .i64 (sq + rs.length), .bool false, .int .i64 up, .slice a3 (ckL ds x).length l3] 24)
    refine hK.out _ _ ⟨hfa.cell_is (p := ⟨Bo, 0, none⟩) (fun h => h) hHeld.1, hfa.cell_is (p := ⟨B, 0, none⟩) (fun h => h) hHeld.2.1, hfa.cell_is (p := ⟨B + 1, 0, none⟩) (fun h => h) hHeld.2.2.1, hfa.cell_is (p := ⟨B + 1 + 1, 0, none⟩) (fun h => h) hHeld.2.2.2⟩ (fun hHeld => ?_)
    clear hK K
    obtain ⟨i0, hi, hz0, hz1, hz2⟩ := info_parts info_record
    have hnw := blk_new w3 (.cells #[.int .i64 ep, .int .i64 (sq + rs.length), .bool false, .int .i64 up, .slice a3 (ckL ds x).length l3] 24)
    obtain ⟨v4, w4, hrun, r1, r2, r3⟩ := run_append_own (P := Tryd.prog) (w3.alloc (.cells #[.int .i64 ep, .int .i64 (sq + rs.length), .bool false, .int .i64 up, .slice a3 (ckL ds x).length l3] 24)) W0.heap.size 42 42 24 i0 _ 5 56 Tryd.underlying42 hi hz0 hz1 hz2 rfl (by decide) (.slice xa rs.length xc) rs.length (rs.flatMap eR) (own_frm HI.out.row (hs3.out.2.alloc _) (fun _ _ h => h)) ⟨w3.heap.size, 0, none⟩ 1 1 [.int .i64 ep, .int .i64 (sq + rs.length), .bool false, .int .i64 up, .slice a3 (ckL ds x).length l3] rfl (by
      intro j u hj
      rw [Addr.add_lit, Nat.zero_add, blk_cell hnw j]
      simpa using hj) (by simp [Value.oneCell']) (by unfold maxLen; omega) (by omega) (by have h1 := HI.out.frm.size; have h2 := hs3.out.2.size; simp; omega)
    have hR := Lib.hid (And.intro r1 r2)
    clear r1 r2 r3 hnw
    refine wpAnyS_one (i := 11) (o := ⟨some 49, _, _, _, _, _⟩) (by kernel_rfl) (by decide) rfl (fun K hK => ?_)
    refine iteT (by rfl) ?_
    refine oper_append rfl rfl rfl hrun ?_
    simp only [Act.put, List.setIfInBounds_toArray, List.set_cons_zero, List.set_cons_succ]
    have hF4 : Frm (fun k => W0.heap.size ≤ k) (w3.alloc (.cells #[.int .i64 ep, .int .i64 (sq + rs.length), .bool false, .int .i64 up, .slice a3 (ckL ds x).length l3] 24)) w4 := (Frm.refl _ _).grown hR.out.2 (fun k _ e => own_block HI.out.row k e)
    have HF4 := Lib.hid hF4
    have hfr : w4.frozen? ⟨Bo, 0, none⟩ = false := by
      rw [hF4.frozen (p := ⟨Bo, 0, none⟩) (by have h1 := blk_lt HI.out.box; have h2 := hs3.out.2.size; simp; omega) (fun h => by have h' : W0.heap.size ≤ Bo := h; omega), (hs3.out.2.alloc _).frozen (p := ⟨Bo, 0, none⟩) (blk_lt HI.out.box) (fun h => h)]
      exact f0
    refine hK.out _ _ ⟨hF4.cell_is (p := ⟨Bo, 0, none⟩) (fun h => by have h' : W0.heap.size ≤ Bo := h; omega) hHeld.1, hF4.cell_is (p := ⟨B, 0, none⟩) (fun h => by have h' : W0.heap.size ≤ B := h; omega) hHeld.2.1, hF4.cell_is (p := ⟨B + 1, 0, none⟩) (fun h => by have h' : W0.heap.size ≤ B + 1 := h; omega) hHeld.2.2.1, hF4.cell_is (p := ⟨B + 1 + 1, 0, none⟩) (fun h => by have h' : W0.heap.size ≤ B + 1 + 1 := h; omega) hHeld.2.2.2⟩ (fun hHeld => ?_)
    clear hK K hF4 hrun
    obtain ⟨xa4, xc4, hv4⟩ := own_shape hR.out.1
    subst hv4
    have hstep := Lib.hid (GI.step (x := x) HI.out (by omega) hs3.out.1 hs3.out.2 (.cells #[.int .i64 ep, .int .i64 (sq + rs.length), .bool false, .int .i64 up, .slice a3 (ckL ds x).length l3] 24) (by
      have h := hR.out.1
      rw [List.length_append, List.flatMap_append]
      simpa [eR] using h) hR.out.2)
    refine wpAnyS_last (o := ⟨none, _, _, _, _, _⟩) (by kernel_rfl) rfl (by kernel_rfl) (fun K hK => ?_)
    obtain ⟨d0, d1, d2, d3⟩ := hHeld
    go_simp
    refine hK.out _ _ (show _ ∧ _ ∧ _ from ⟨?_, ?_, ⟨_, _, hstep.out.1⟩⟩)
    · refine KeepsOthers.of_frm hstep.out.2 (fun k o hk ho => ?_)
      rcases hk with rfl | hk
      · rw [HI.out.box] at ho; cases ho; rfl
      · obtain ⟨_, cs, h⟩ := own_blk HI.out.row k hk.symm
        rw [h] at ho; cases ho; rfl
    · have hle := HI.out.frm.size
      have hb : ∀ k, k < W0.heap.size → k ≠ Bo → (w4.setCell ⟨Bo, 0, none⟩ (.slice xa4 (rs.length + 1) xc4)).heap[k]? = W.heap[k]? := fun k hk hne => hstep.out.2.block k (by omega) (fun e => by
        rcases e with e | e
        · exact hne e
        · have := own_block HI.out.row k e.symm; omega)
      exact ⟨hb _ (by omega) (by omega), hb _ (by omega) (by omega)⟩
  case done =>
    rintro D ys W hD rfl ⟨vo, rs, hI⟩ hK
    have hn0 : rs.length = (ds.length + 5) / 6 := by have := hI.len; simpa using this
    have HI := Lib.hid hI
    have c0 := blk_cell hI.box 0
    have f0 := blk_free hI.box 0
    have c5 := blk_cell (blk_frm hb5.out hI.frm (fun h => by omega)) 0
    have c6 := blk_cell (blk_frm hb6.out hI.frm (fun h => by omega)) 0
    have c7 := blk_cell (blk_frm hb7.out hI.frm (fun h => by omega)) 0
    simp at c0 c5 c6 c7
    have hDK := Lib.hid (And.intro hD hK)
    obtain ⟨xa, xc, hvo⟩ := own_shape hI.row
    subst hvo
    clear hI hD hK
    rcases Nat.eq_zero_or_pos ds.length with hz | hz
    · have hr0 : rs = [] := List.length_eq_zero_iff.1 (by omega)
      subst hr0
      have hbW := blk_lt HI.out.box
      have hb0 := blk_frm HI.out.box ((Frm.refl no W).alloc (.cells #[.int .i64 ep, .int .i64 sq, .bool false, .int .i64 up, .slice none 0 0] 24)) (fun h => h)
      have hbn := blk_new W (.cells #[.int .i64 ep, .int .i64 sq, .bool false, .int .i64 up, .slice none 0 0] 24)
      have d0 := blk_cell hb0 0
      have d1 := blk_free hb0 0
      have d2 := blk_cell hbn 2
      have d3 := blk_free hbn 2
      simp at d0 d2
      have hne : ¬ W.heap.size = Bo := by omega
      have hne' : ¬ Bo = W.heap.size := by omega
      have HBB := Lib.hid (And.intro hb0 hbn)
      clear hb0 hbn
      go_wp2
      obtain ⟨hD, hKD⟩ := hDK.out
      have hne2 : (W.setCell ⟨Bo, 0, none⟩ (.slice (some ⟨W.heap.size, 0, none⟩) 1 1)).heap.size = W.heap.size := by simp
      have hKD' := ((KeepsOthers.setCell W ⟨Bo, 0, none⟩ (.slice (some ⟨W.heap.size, 0, none⟩) 1 1)).trans (KeepsOthers.alloc _ (.cells #[.int .i64 ep, .int .i64 sq, .bool true, .int .i64 up, .slice none 0 0] 24))).same D _ hKD rfl
      refine ⟨by simp, .inl ⟨_, _, rfl, run_takeDeferred hKD', ?_⟩⟩
      have hg := grownBy_putObj' ((W.setCell ⟨Bo, 0, none⟩ (.slice (some ⟨W.heap.size, 0, none⟩) 1 1)).alloc (.cells #[.int .i64 ep, .int .i64 sq, .bool true, .int .i64 up, .slice none 0 0] 24)) D (.deferred none)
      have hds : ds = [] := List.length_eq_zero_iff.1 hz
      have hbn := blk_new (W.setCell ⟨Bo, 0, none⟩ (.slice (some ⟨W.heap.size, 0, none⟩) 1 1)) (.cells #[.int .i64 ep, .int .i64 sq, .bool true, .int .i64 up, .slice none 0 0] 24)
      rw [hne2] at hbn
      refine ⟨_, results_tmp2 rfl _ _ _, _, rfl, _, [⟨ep, sq, true, up, .slice none 0 0, []⟩], rfl, ?_, ?_, ?_, ?_⟩
      · refine Sl.kept (Sl.of_blk (more := []) (xs := [(⟨ep, sq, true, up, .slice none 0 0, []⟩ : Rc)]) eR_len hbn rfl (Nat.le_refl _) (by decide)) hg (fun r e => by cases e; exact ⟨_, hKD', rfl⟩)
      · intro r hr
        simp only [List.mem_singleton] at hr
        subst hr
        exact ⟨Sl.nil _ _ _, by simp⟩
      · rw [hds]; simp [groupL, groupN, Rc.d, ckL]
      · have F1 : Frm no w W := F0.out.trans HI.out.frm (fun i hi (e : i = Bo) => by have := hB.out; omega)
        have F2 : Frm no w ((W.setCell ⟨Bo, 0, none⟩ (.slice (some ⟨W.heap.size, 0, none⟩) 1 1)).alloc (.cells #[.int .i64 ep, .int .i64 sq, .bool true, .int .i64 up, .slice none 0 0] 24)) :=
          (F1.setCell (p := ⟨Bo, 0, none⟩) (fun hlt => by have h0 : Bo < w.heap.size := hlt; have := hB.out; exact absurd h0 (by omega)) _).alloc _
        exact F2.grown hg (fun k hk e => by cases e; have := F0.out.size; exact absurd hk (by omega))
    · obtain ⟨k1, hk1⟩ : ∃ k1, rs.length = k1 + 1 := ⟨rs.length - 1, by omega⟩
      have hw1 : IntKind.i64.wrap (k1 : Int) = k1 := IntWalk.i64_in _ (by omega)
      obtain ⟨r, hr⟩ : ∃ r, rs[k1]? = some r := ⟨_, List.getElem?_eq_getElem (by omega)⟩
      have hrow := HI.out.row
      rw [hk1] at hrow c0
      obtain ⟨gr, cap, hv⟩ := ownsRow_succ hrow
      rw [hv] at hrow c0
      simp only [Value.slice.injEq, true_and] at hv
      obtain ⟨rfl, rfl⟩ := hv
      have hsl : Sl eR 5 W (.slice (some ⟨gr, 0, none⟩) (k1 + 1) xc) rs := Sl.of_owns (by decide) eR_len (by rw [hk1]; exact hrow)
      obtain ⟨e0, e1, e2, e3, e4⟩ := hsl.rec_ hr
      simp only [Nat.zero_add] at e2
      obtain ⟨hgr, cs, hbk⟩ := own_blk hrow gr rfl
      have hne : ¬ gr = Bo := by omega
      have hne' : ¬ Bo = gr := by omega
      have fz := blk_free hbk (k1 * 5 + 2)
      have HS := Lib.hid (And.intro hsl (And.intro hr hbk))
      have hcap := hsl.cap.2
      clear hsl hr hbk hrow e0 e1 e3 e4
      go_wp2
      obtain ⟨hD, hKD⟩ := hDK.out
      have hKD' := (KeepsOthers.setCell W ⟨gr, k1 * 5 + 2, none⟩ (.bool true)).same D _ hKD rfl
      refine ⟨by simp, .inl ⟨_, _, rfl, run_takeDeferred hKD', ?_⟩⟩
      have hgn : groupN ds.length = (ds.length + 5) / 6 := by unfold groupN; omega
      have hI := HI.out
      rw [hk1, ← hgn] at hI
      have hfin := hI.fin hk1 HS.out.2.1 (by omega) hD hKD F0.out (by rw [hB.out]; omega)
      exact ⟨_, results_tmp2 rfl _ _ _, _, rfl, _, _, rfl, hfin⟩

end Go.Proofs.YtgbcmkkbhbkfeaaDoor
