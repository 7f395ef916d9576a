/- The reference's writer (thatchref01). -/
import Derived.Test.YtgbcmkkbhbkfeaaDoorProg
import Derived.Test.YtgbcmkkbhbkfeaaDoorF
import Derived.Test.YtgbcmkkbhbkfeaaDoorAS
namespace Go.Proofs.YtgbcmkkbhbkfeaaDoor
open Go Go.RowKit

/-- block g is the reference's writer that has taken bs; it and its row lie from base on -/
def RW (w : World) (base g : Nat) (bs : List Int) (room : Int) (bad : Bool) : Prop :=
  base ≤ g ∧ base ≤ w.heap.size ∧ ∃ v, w.heap[g]? = some (.cells #[.int .i64 room, v, .bool bad] 69 (0, 0)) ∧ w.ownsRow base 5 1 v bs.length (bs.flatMap e8)
abbrev rwrote (base : Nat) (w : World) (k : Nat) : Prop := typed [5, 69] base w k
theorem RW.frm_no {w w' : World} {base g : Nat} {bs : List Int} {room : Int} {bad : Bool} (h : RW w base g bs room bad) (hf : Frm no w w') : RW w' base g bs room bad := by
  obtain ⟨h1, h2, v, h3, h4⟩ := h
  exact ⟨h1, Nat.le_trans h2 hf.size, v, blk_frm h3 hf (fun h => h), own_frm h4 hf (fun _ _ h => h)⟩

theorem rsize_any (n : Int) (w : World) :
    Calls Tryd.prog 59 #[.int .i64 n] w fun e w' => e = .returned (.bool (isSz n)) ∧ w = w' := by
  go_enter Tryd.func59, Tryd.ntmps59
  go_wp2
  all_goals (go_ret; refine ⟨?_, rfl⟩)
  all_goals simp_all [isSz]
theorem rsize_yes (n : Int) (h : isSz n = true) (w : World) :
    Calls Tryd.prog 59 #[.int .i64 n] w fun e w' => e = .returned (.bool true) ∧ w' = w :=
  (rsize_any n w).mono fun _ _ ⟨h1, h2⟩ => ⟨by rw [h1, h], h2.symm⟩

theorem rwbytes_ok (base g : Nat) (bs : List Int) (room : Int) (v : Value) (xs : List Int) (w : World) (hw : RW w base g bs room false) (hv : Sl e8 1 w v xs) (h : (bs.length : Int) + xs.length ≤ room) (hr : room ≤ 65536) :
    Calls Tryd.prog 39 #[.pointer (some ⟨g, 0, none⟩), v] w fun e w' => e = .returned (.tuple #[]) ∧ RW w' base g (bs ++ xs) room false ∧ Frm (rwrote base w) w w' := by
  obtain ⟨h1, h2, vw, h3, h4⟩ := hw
  obtain ⟨aw, cw, rfl⟩ := own_shape h4
  obtain ⟨c0, c1, c2, f0, f1, f2⟩ := blk3 h3
  obtain ⟨a, c, rfl⟩ := hv.shape
  have H := Lib.hid (And.intro h1 (And.intro h2 (And.intro h3 h4)))
  obtain ⟨i0, hi, hz0, hz1, hz2⟩ := info_parts info_u8
  clear h1 h2 h3 h4
  go_enter Tryd.func39, Tryd.ntmps39
  go_wp2
  go_quiet (fail)
  go_wp2_with (at_builtin; refine wpList_app _ rfl _ _ 26 rfl base 5 i0 (.int .u8 0) 1 1 Tryd.underlying26 hi hz0 hz1 hz2 rfl (by decide) e8_len e8_one _ bs rfl ?_ _ xs rfl hv ?_ ?_ ?_ ?_)
  · exact H.out.2.2.2
  · unfold maxLen; omega
  · omega
  · exact H.out.2.1
  · intro v' w1 ho hg
    have ho' : w1.ownsRow base 5 1 v' (bs ++ xs).length ((bs ++ xs).flatMap e8) := by rw [List.length_append, List.flatMap_append]; exact ho
    obtain ⟨a', c', rfl⟩ := own_shape ho
    obtain ⟨h1, h2, h3, h4⟩ := H.out
    have hfr : Frm (fun k => (Value.slice aw bs.length cw).ownBlock = some k) w w1 := Frm.grown ((Frm.refl _ w).drewN nq) hg (fun k _ e => e)
    have hb1 := blk_frm h3 hfr (fun e => own_type h4 h3 (by decide) g e rfl)
    obtain ⟨d0, d1, d2, e0, e1, e2⟩ := blk3 hb1
    have hw2 : ∀ u, Frm (· = g) w1 (w1.setCell ⟨g, 1, none⟩ u) := fun u => Frm.setCell (Frm.refl (· = g) w1) (p := ⟨g, 1, none⟩) (fun _ => rfl) _
    have fin : ∀ u, u = Value.slice a' (bs.length + xs.length) c' → RW (w1.setCell ⟨g, 1, none⟩ u) base g (bs ++ xs) room false ∧ Frm (rwrote base w) w (w1.setCell ⟨g, 1, none⟩ u) := by
      rintro u rfl
      refine ⟨⟨h1, Nat.le_trans h2 (Nat.le_trans hfr.size (hw2 _).size), _, blk_set hb1 1 _, own_frm ho' (hw2 _) (own_type ho' hb1 (by decide))⟩, ?_⟩
      exact (hfr.mono (T := rwrote base w) (fun i _ e => by obtain ⟨hb, cs, hg⟩ := own_blk h4 i e; exact ⟨hb, _, _, _, hg, by simp⟩)).trans (hw2 _) (fun i _ e => by subst e; exact ⟨h1, _, _, _, h3, by simp⟩)
    have HF := Lib.hid fin
    clear fin hw2 hb1 hfr h1 h2 h3 h4 H ho ho' hg hv
    go_wp2
    go_end0
    exact ⟨rfl, HF.out _ rfl⟩

--PUT
theorem rput_ok (base g : Nat) (bs : List Int) (room : Int) (n : Nat) (x : Int) (w : World) (hw : RW w base g bs room false) (hz : isSz n = true) (h : (bs.length : Int) + n ≤ room) (hr : room ≤ 65536) (hx : 0 ≤ x) :
    Calls Tryd.prog 40 #[.pointer (some ⟨g, 0, none⟩), .int .i64 n, .int .u64 x] w fun e w' => e = .returned (.tuple #[]) ∧ RW w' base g (bs ++ leB n x) room false ∧ Frm (rwrote base w) w w' := by
  have HW := Lib.hid hw
  obtain ⟨h1, h2, vw, h3, h4⟩ := hw
  obtain ⟨aw, cw, rfl⟩ := own_shape h4
  obtain ⟨c0, c1, c2, f0, f1, f2⟩ := blk3 h3
  obtain ⟨i0, hi, hz0, hz1, hz2⟩ := info_parts info_u8
  clear h1 h2 h3 h4
  go_enter Tryd.func40, Tryd.ntmps40
  go_wp2
  go_quiet ((go_at_call 59; exact Calls.quiet_of_same (rsize_yes _ hz _)))
  go_wp2
  clear c0 c1 c2 f0 f1 f2
  have HX := Lib.hid hx
  have HN := Lib.hid (And.intro h (And.intro hr hz))
  have hn8 : n ≤ 8 := by simp [isSz] at hz; omega
  clear hx h hr hz
  go_loopw [6] (fun i wr => ∃ k : Nat, k ≤ n ∧ i = .int .i64 k ∧ (∃ M, Hid (M = bs ++ leB k x) ∧ Hid (RW wr base g M room false)) ∧ Hid (Frm (rwrote base w) w wr)) (fun i _ => n - (intOf i).toNat)
  case atStart => exact ⟨0, Nat.zero_le _, rfl, ⟨bs, by show _ = _; rw [show leB 0 x = [] from rfl, List.append_nil], HW.out.frm_no ((Frm.refl _ w).drewN nq)⟩, (Frm.refl _ w).drewN nq⟩
  case round =>
    obtain ⟨k, hk, rfl, ⟨M, HM, HR⟩, HFr⟩ := hrel
    by_cases hlt : k < n
    · obtain ⟨h1, h2, vr, h3, h4⟩ := HR.out
      obtain ⟨ar, cr, rfl⟩ := own_shape h4
      obtain ⟨c0, c1, c2, f0, f1, f2⟩ := blk3 h3
      have H := Lib.hid (And.intro h1 (And.intro h2 (And.intro h3 h4)))
      have hy0 : 0 ≤ x / 2 ^ (8 * k) := Int.ediv_nonneg HX.out (Int.le_of_lt (Int.pow_pos (by decide)))
      have hsn := Lib.hid (leB_snoc k x)
      obtain ⟨y, hy⟩ : ∃ y, IntKind.u8.wrap (x / 2 ^ (8 * k)) = y := ⟨_, rfl⟩
      have hyy : x / 256 ^ k % 256 = y := by rw [← hy, Int.pow_mul, IntKind.wrap_u8]; rfl
      rw [hyy] at hsn
      clear h1 h2 h3 h4 HR hyy
      have hw8 : IntKind.i64.wrap (8 * (k : Int)) = 8 * (k : Int) := IntWalk.i64_in _ (by omega)
      have h80 : 0 ≤ 8 * (k : Int) := by omega
      have h864 : 8 * (k : Int) ≤ 64 := by omega
      have h8n : (8 * (k : Int)).toNat = 8 * k := by omega
      have hml : M.length ≤ 65536 := by have := HM.out; have := HN.out; rw [HM.out, List.length_append, leB_len]; omega
      have hMl := Lib.hid hml
      clear hml
      go_wp2
      refine wp_region_S (S := (fun w' => w'.cell? ⟨g, 1, none⟩ = some (.slice ar M.length cr))) 14 (by kernel_rfl) c1 (fun hHeld => ?_)
      refine wpAnyS_take (i := 0) (oi := ⟨some 38, _, _, _, _, _⟩) (v := ?_) rfl (by kernel_rfl) (by kernel_rfl) (by kernel_rfl) (by kernel_rfl) (fun _ _ _ h => h) (Or.inl ⟨by rfl, ?_⟩) (by assumption) ?_
      rotate_left
      · (intro w hSw; (try dsimp only at hSw); go_simp; try with_reducible rfl)
      try simp only [Act.put, List.setIfInBounds_toArray, List.set_cons_zero, List.set_cons_succ]
      refine wpAnyS_take (i := 1) (oi := ⟨some 39, _, _, _, _, _⟩) (v := ?_) rfl (by kernel_rfl) (by kernel_rfl) (by kernel_rfl) (by kernel_rfl) (fun _ _ _ h => h) (Or.inl ⟨by rfl, ?_⟩) (by assumption) ?_
      rotate_left
      · (intro w hSw; (try dsimp only at hSw); go_simp; try with_reducible rfl)
      try simp only [Act.put, List.setIfInBounds_toArray, List.set_cons_zero, List.set_cons_succ]
      refine wpAnyS_take (i := 2) (oi := ⟨some 40, _, _, _, _, _⟩) (v := ?_) rfl (by kernel_rfl) (by kernel_rfl) (by kernel_rfl) (by kernel_rfl) (fun _ _ _ h => h) (Or.inl ⟨by rfl, ?_⟩) (by assumption) ?_
      rotate_left
      · (intro w hSw; (try dsimp only at hSw); go_simp; try with_reducible rfl)
      try simp only [Act.put, List.setIfInBounds_toArray, List.set_cons_zero, List.set_cons_succ]
      refine wpAnyS_take (i := 3) (oi := ⟨some 41, _, _, _, _, _⟩) (v := ?_) rfl (by kernel_rfl) (by kernel_rfl) (by kernel_rfl) (by kernel_rfl) (fun _ _ _ h => h) (Or.inl ⟨by rfl, ?_⟩) (by assumption) ?_
      rotate_left
      · (intro w hSw; (try dsimp only at hSw); go_simp; try with_reducible rfl)
      try simp only [Act.put, List.setIfInBounds_toArray, List.set_cons_zero, List.set_cons_succ]
      refine wpAnyS_take (i := 4) (oi := ⟨some 42, _, _, _, _, _⟩) (v := ?_) rfl (by kernel_rfl) (by kernel_rfl) (by kernel_rfl) (by kernel_rfl) (fun _ _ _ h => h) (Or.inl ⟨by rfl, ?_⟩) (by assumption) ?_
      rotate_left
      · (intro w hSw; (try dsimp only at hSw); go_simp; try with_reducible rfl)
      try simp only [Act.put, List.setIfInBounds_toArray, List.set_cons_zero, List.set_cons_succ]
      refine wpAnyS_take (i := 5) (oi := ⟨some 43, _, _, _, _, _⟩) (v := ?_) rfl (by kernel_rfl) (by kernel_rfl) (by kernel_rfl) (by kernel_rfl) (fun _ _ _ h => h) (Or.inl ⟨by rfl, ?_⟩) (by assumption) ?_
      rotate_left
      · (intro w hSw; (try dsimp only at hSw); go_simp; try with_reducible rfl)
      try simp only [Act.put, List.setIfInBounds_toArray, List.set_cons_zero, List.set_cons_succ]
      refine wpAnyS_take (i := 6) (oi := ⟨some 44, _, _, _, _, _⟩) (v := ?_) rfl (by kernel_rfl) (by kernel_rfl) (by kernel_rfl) (by kernel_rfl) (fun _ _ _ h => h) (Or.inl ⟨by rfl, ?_⟩) (by assumption) ?_
      rotate_left
      · (intro w hSw; (try dsimp only at hSw); go_simp; try with_reducible rfl)
      try simp only [Act.put, List.setIfInBounds_toArray, List.set_cons_zero, List.set_cons_succ]
      refine wpAnyS_take (i := 7) (oi := ⟨some 45, _, _, _, _, _⟩) (v := ?_) rfl (by kernel_rfl) (by kernel_rfl) (by kernel_rfl) (by kernel_rfl) (fun _ _ _ h => h) (Or.inl ⟨by rfl, ?_⟩) (by assumption) ?_
      rotate_left
      · (intro w hSw; (try dsimp only at hSw); go_simp; try with_reducible rfl)
      try simp only [Act.put, List.setIfInBounds_toArray, List.set_cons_zero, List.set_cons_succ]
      refine wpAnyS_take (i := 8) (oi := ⟨some 46, _, _, _, _, _⟩) (v := ?_) rfl (by kernel_rfl) (by kernel_rfl) (by kernel_rfl) (by kernel_rfl) (fun _ _ _ h => h) (Or.inl ⟨by rfl, ?_⟩) (by assumption) ?_
      rotate_left
      · (intro w hSw; (try dsimp only at hSw); go_simp; try with_reducible rfl)
      try simp only [Act.put, List.setIfInBounds_toArray, List.set_cons_zero, List.set_cons_succ]
      refine wpAnyS_take (i := 9) (oi := ⟨some 47, _, _, _, _, _⟩) (v := ?_) rfl (by kernel_rfl) (by kernel_rfl) (by kernel_rfl) (by kernel_rfl) (fun _ _ _ h => h) (Or.inl ⟨by rfl, ?_⟩) (by assumption) ?_
      rotate_left
      · (intro w hSw; (try dsimp only at hSw); go_simp; try with_reducible rfl)
      try simp only [Act.put, List.setIfInBounds_toArray, List.set_cons_zero, List.set_cons_succ]
      refine wpAnyS_one (i := 10) (o := ⟨some 48, _, _, _, _, _⟩) (by kernel_rfl) (by decide) rfl (fun K hK => ?_)
      go_simp
      have hfa : Frm no wr (wr.alloc (.cells #[.int .u8 y] 5)).drew := ((Frm.refl no wr).alloc _).drew
      refine hK.out _ _ (hfa.cell_is (p := ⟨g, 1, none⟩) (fun h => h) c1) (fun hHeld => ?_)
      have hnw := blk_new wr (.cells #[.int .u8 y] 5)
      obtain ⟨v4, w4, hrun, r1, r2, r3⟩ := run_append_own (P := Tryd.prog) (wr.alloc (.cells #[.int .u8 y] 5)).drew base 26 26 5 i0 _ 1 1 Tryd.underlying26 hi hz0 hz1 hz2 rfl (by decide) (.slice ar M.length cr) M.length (M.flatMap e8) (own_frm H.out.2.2.2 hfa (fun _ _ h => h)) ⟨wr.heap.size, 0, none⟩ 1 1 [.int .u8 y] rfl (by
        intro j u hj
        rw [Addr.add_lit, Nat.zero_add]
        exact (blk_cell hnw j).trans (by simpa using hj)) (by simp [Value.oneCell']) (by have := hMl.out; unfold maxLen; omega) (by have := hMl.out; omega) (by have h1 := H.out.2.1; simp; omega)
      have hR := Lib.hid (And.intro r1 (And.intro r2 hfa))
      clear r1 r2 r3 hnw hfa
      clear hK K
      refine wpAnyS_one (i := 11) (o := ⟨some 49, _, _, _, _, _⟩) (by kernel_rfl) (by decide) rfl (fun K hK => ?_)
      refine iteT (by rfl) ?_
      refine oper_append rfl rfl rfl hrun ?_
      simp only [Act.put, List.setIfInBounds_toArray, List.set_cons_zero, List.set_cons_succ]
      obtain ⟨h1, h2, h3, h4⟩ := H.out
      have hfr : Frm (fun k => (Value.slice ar M.length cr).ownBlock = some k) wr w4 := (hR.out.2.2.mono (fun _ _ h => h.elim)).grown hR.out.2.1 (fun k _ e => e)
      have hng : ¬ (Value.slice ar M.length cr).ownBlock = some g := fun e => own_type h4 h3 (by decide) g e rfl
      have hb1 := blk_frm h3 hfr hng
      have hfr4 := blk_free hb1 1
      obtain ⟨xa, xc, hv4⟩ := own_shape hR.out.1
      subst hv4
      have fin : ∀ u, u = Value.slice xa (M.length + 1) xc → RW (w4.setCell ⟨g, 1, none⟩ u) base g (M ++ [y]) room false ∧ Frm (rwrote base w) w (w4.setCell ⟨g, 1, none⟩ u) := by
        rintro u rfl
        have hw2 : Frm (· = g) w4 (w4.setCell ⟨g, 1, none⟩ (.slice xa (M.length + 1) xc)) := Frm.setCell (Frm.refl (· = g) w4) (p := ⟨g, 1, none⟩) (fun _ => rfl) _
        have ho' : w4.ownsRow base 5 1 (.slice xa (M.length + 1) xc) (M ++ [y]).length ((M ++ [y]).flatMap e8) := by rw [List.length_append, List.flatMap_append]; exact hR.out.1
        refine ⟨⟨h1, Nat.le_trans h2 (Nat.le_trans hfr.size hw2.size), _, blk_set hb1 1 _, own_frm ho' hw2 (own_type ho' hb1 (by decide))⟩, ?_⟩
        exact HFr.out.typed_trans ((hfr.mono (T := rwrote base wr) (fun i _ e => by obtain ⟨hb, cs, hg⟩ := own_blk h4 i e; exact ⟨hb, _, _, _, hg, by simp⟩)).trans hw2 (fun i _ e => by subst e; exact ⟨h1, _, _, _, h3, by simp⟩))
      refine hK.out _ _ (hfr.cell_is (p := ⟨g, 1, none⟩) hng c1) (fun hHeld => ?_)
      clear hK K hrun hfr hng hb1 h1 h2 h3 h4
      refine wpAnyS_one (i := 12) (o := ⟨some 50, _, _, _, _, _⟩) (by kernel_rfl) (by decide) rfl (fun K hK => ?_)
      go_simp
      refine hK.out _ _ hHeld (fun hHeld => ?_)
      clear hK K
      refine wpAnyS_take (i := 13) (oi := ⟨some 51, _, _, _, _, _⟩) (v := ?_) rfl (by kernel_rfl) (by kernel_rfl) (by kernel_rfl) (by kernel_rfl) (fun _ _ _ h => h) (Or.inl ⟨by rfl, ?_⟩) (by assumption) ?_
      rotate_left
      · (intro w hSw; (try dsimp only at hSw); go_simp; try with_reducible rfl)
      try simp only [Act.put, List.setIfInBounds_toArray, List.set_cons_zero, List.set_cons_succ]
      refine wpAnyS_last (o := ⟨none, _, _, _, _, _⟩) (by kernel_rfl) rfl (by kernel_rfl) (fun K hK => ?_)
      go_simp
      refine hK.out _ _ ?_
      clear hK K
      have HF := Lib.hid (fin _ rfl)
      clear fin hfr4 hHeld c0 c1 c2 f0 f1 f2
      go_wp2
      go_roundw
      case rel => exact ⟨k + 1, hlt, by go_num, ⟨_, by show _ = _; rw [hsn.out, ← List.append_assoc, ← HM.out], HF.out.1⟩, HF.out.2⟩
      case measure => simp [intOf]; omega
    · obtain rfl : k = n := by omega
      go_wp2
      go_end0
      have := HM.out
      subst this
      exact ⟨rfl, HR.out, HFr.out⟩

end Go.Proofs.YtgbcmkkbhbkfeaaDoor
