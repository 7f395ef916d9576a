/- The law of RecordCodes. -/
import Derived.Test.YtgbcmkkbhbkfeaaDoorProg
import Derived.Test.YtgbcmkkbhbkfeaaDoorRE
import Derived.Test.YtgbcmkkbhbkfeaaDoorRM
import Derived.Test.YtgbcmkkbhbkfeaaDoorDE
namespace Go.Proofs.YtgbcmkkbhbkfeaaDoor
open Go Go.RowKit

theorem codes_long (r : Rc) (w : World) (hr : r.ok w) (hn : Nibs w) (hl : 100 < r.ds.length) :
    Calls Tryd.prog 3 #[r.val] w fun e w' => e = .returned (.bool true) ∧ Frm no w w' := by
  obtain ⟨e, s, c, u, v, ds⟩ := r
  obtain ⟨hv, hb⟩ := hr
  dsimp only at hv hb hl
  unfold Rc.val
  obtain ⟨a, cp, rfl⟩ := hv.shape
  have hL := Lib.hid (lives_any _ (hn.below ((Frm.refl no w).alloc (.cells #[.int .i64 e, .int .i64 s, .bool c, .int .i64 u, .slice a ds.length cp] 24))))
  have hl' : (100 : Int) < ds.length := by omega
  clear hv hn hl
  go_enter Tryd.func3, Tryd.ntmps3
  go_wp2_with (go_at_call 8; refine hL.out.mono ?_; rintro e w1 ⟨rfl, hf⟩)
  go_ret
  exact ⟨rfl, ((Frm.refl _ _).alloc _).trans_no hf⟩

theorem codes_bad (r : Rc) (w : World) (hr : r.ok w) (hn : Nibs w) (hl : r.ds.length ≤ 100) (hm : mayR r.e r.s r.u r.ds = false) :
    Calls Tryd.prog 3 #[r.val] w fun e w' => e = .returned (.bool true) ∧ Frm no w w' := by
  have henc := Lib.hid (fun W (h : Frm no w W) => encode_bad r W ⟨hr.1.below h, hr.2⟩ hm)
  have HOK := Lib.hid (fun W (h : Frm no w W) => (show r.ok W from ⟨hr.1.below h, hr.2⟩))
  have HN := Lib.hid hn
  have HM := Lib.hid hm
  obtain ⟨e, s, c, u, v, ds⟩ := r
  obtain ⟨hv, hb⟩ := hr
  dsimp only at hv hb hl HM
  unfold Rc.val at henc ⊢
  obtain ⟨a, cp, rfl⟩ := hv.shape
  have hl' : (ds.length : Int) ≤ 100 := by omega
  clear hv hn hl hm
  go_enter Tryd.func3, Tryd.ntmps3
  go_wp2_with (go_at_call 9; refine (henc.out _ ((Frm.refl _ _).alloc _)).mono ?_; rintro e' w1 ⟨_, rfl, rfl, hf1⟩)
  have F1 := ((Frm.refl no w).alloc (.cells #[.int .i64 e, .int .i64 s, .bool c, .int .i64 u, .slice a ds.length cp] 24)).trans_no hf1
  have hb1 := blk_frm (blk_new w (.cells #[.int .i64 e, .int .i64 s, .bool c, .int .i64 u, .slice a ds.length cp] 24)) hf1 (fun h => h)
  have cL := Lib.hid (fun n os => quiet_of (P := Tryd.prog) (f := 8) (args := #[]) (w := w1) (d := n) (os := os) (v := .bool true) ((lives_any _ (HN.out.below (F1.trans_no (grow_frm w1 n os)))).mono (by rintro e w' ⟨rfl, hf⟩; exact ⟨_, rfl, rfl, hf⟩)))
  have cM := Lib.hid (fun n os => quiet_of (P := Tryd.prog) (f := 10) (args := #[Rc.val ⟨e, s, c, u, .slice a ds.length cp, ds⟩]) (w := w1) (d := n) (os := os) (v := .bool false) ((mayR_any ⟨e, s, c, u, .slice a ds.length cp, ds⟩ _ (HOK.out _ (F1.trans_no (grow_frm w1 n os)))).mono (by rintro e w' ⟨rfl, hf⟩; exact ⟨_, rfl, by rw [HM.out], hf⟩)))
  have cR := Lib.hid (fun n os => quiet_of (P := Tryd.prog) (f := 11) (args := #[Rc.val ⟨e, s, c, u, .slice a ds.length cp, ds⟩]) (w := w1) (d := n) (os := os) (v := .bool false) ((refMay_any ⟨e, s, c, u, .slice a ds.length cp, ds⟩ _ (HOK.out _ (F1.trans_no (grow_frm w1 n os)))).mono (by rintro e w' ⟨rfl, hf⟩; exact ⟨_, rfl, by rw [HM.out], hf⟩)))
  dsimp only [Rc.val] at cM cR
  obtain ⟨x0, x1, x2, x3, x4⟩ := blk5 hb1
  have p0 := fun d os => cell_regrown x0 d os
  have p1 := fun d os => cell_regrown x1 d os
  have p2 := fun d os => cell_regrown x2 d os
  have p3 := fun d os => cell_regrown x3 d os
  have p4 := fun d os => cell_regrown x4 d os
  clear x0 x1 x2 x3 x4
  have HF := Lib.hid F1
  clear hf1 F1 hb1
  refine wp_region_quiet_below (by kernel_rfl) (by kernel_rfl) ?_
  repeat (quiet_step (first | (go_at_call 8; exact cL.out _ _) | (go_at_call 10; exact cM.out _ _) | (go_at_call 11; exact cR.out _ _)))
  refine wpQuiet_nil ?_
  intro _ hw'
  obtain ⟨⟨dq, osq⟩, hw''⟩ := hw'
  subst hw''
  go_wp2
  go_ret
  exact ⟨rfl, HF.out.trans_no (grow_frm w1 dq osq)⟩

set_option maxRecDepth 100000 in
set_option maxHeartbeats 1600000 in
theorem codes_ok (r : Rc) (w : World) (hr : r.ok w) (hn : Nibs w) (hl : r.ds.length ≤ 100) (hm : mayR r.e r.s r.u r.ds = true) :
    Calls Tryd.prog 3 #[r.val] w fun e w' => e = .returned (.bool true) ∧ Frm no w w' := by
  have henc := Lib.hid (fun W (h : Frm no w W) => encode_ok r W ⟨hr.1.below h, hr.2⟩ hm (hn.below h))
  have hren := Lib.hid (fun W (h : Frm no w W) => refEncode_ok r W ⟨hr.1.below h, hr.2⟩ hm)
  have HOK := Lib.hid (fun W (h : Frm no w W) => (show r.ok W from ⟨hr.1.below h, hr.2⟩))
  have HN := Lib.hid hn
  have HM := Lib.hid hm
  have hdec := dec_enc r.e r.s r.c r.u r.ds hm
  obtain ⟨bs, hbs⟩ : ∃ bs, sealL (pad 124 (recB r.e r.s r.c r.u r.ds)) = bs := ⟨_, rfl⟩
  have hlen : bs.length = 128 := by
    have h1 := (chk_seal (pad 124 (recB r.e r.s r.c r.u r.ds)) (pad_len _ _ (by
      have hmm := hm
      simp only [mayR, Bool.and_eq_true, decide_eq_true_eq] at hmm
      rw [recB_len]; omega))).1
    rw [hbs] at h1
    simp only [chk, Bool.and_eq_true, beq_iff_eq] at h1
    exact h1.1
  have hoct : Oct bs := by
    rw [← hbs]
    refine Oct.append ?_ (Oct.append (pad_oct _ _ (recB_oct _ _ _ _ _)) (fun b hb => by rw [List.eq_of_mem_replicate hb]; omega))
    intro b hb
    obtain ⟨k, _, rfl⟩ := List.mem_map.1 hb
    unfold sb
    omega
  rw [hbs] at henc hren hdec
  have HB := Lib.hid (And.intro hlen (And.intro hoct hdec))
  obtain ⟨e, s, c, u, v, ds⟩ := r
  obtain ⟨hv, hb⟩ := hr
  dsimp only at hv hb hl HM henc hren HB
  unfold Rc.val at henc hren ⊢
  obtain ⟨a, cp, rfl⟩ := hv.shape
  have hl' : (ds.length : Int) ≤ 100 := by omega
  clear hv hn hl hm hdec hlen hoct hbs
  go_enter Tryd.func3, Tryd.ntmps3
  go_wp2_with (go_at_call 9; refine (henc.out _ ((Frm.refl _ _).alloc _)).mono ?_; rintro e' w1 ⟨_, rfl, x, rfl, hx, hf1⟩)
  obtain ⟨ax, cx, rfl⟩ := hx.shape
  have HX := Lib.hid hx
  have F1 := ((Frm.refl no w).alloc (.cells #[.int .i64 e, .int .i64 s, .bool c, .int .i64 u, .slice a ds.length cp] 24)).trans_no hf1
  have hb1 := blk_frm (blk_new w (.cells #[.int .i64 e, .int .i64 s, .bool c, .int .i64 u, .slice a ds.length cp] 24)) hf1 (fun h => h)
  have cL := Lib.hid (fun n os => quiet_of (P := Tryd.prog) (f := 8) (args := #[]) (w := w1) (d := n) (os := os) (v := .bool true) ((lives_any _ (HN.out.below (F1.trans_no (grow_frm w1 n os)))).mono (by rintro e w' ⟨rfl, hf⟩; exact ⟨_, rfl, rfl, hf⟩)))
  have cM := Lib.hid (fun n os => quiet_of (P := Tryd.prog) (f := 10) (args := #[Rc.val ⟨e, s, c, u, .slice a ds.length cp, ds⟩]) (w := w1) (d := n) (os := os) (v := .bool true) ((mayR_any ⟨e, s, c, u, .slice a ds.length cp, ds⟩ _ (HOK.out _ (F1.trans_no (grow_frm w1 n os)))).mono (by rintro e w' ⟨rfl, hf⟩; exact ⟨_, rfl, by rw [HM.out], hf⟩)))
  have cR := Lib.hid (fun n os => quiet_of (P := Tryd.prog) (f := 11) (args := #[Rc.val ⟨e, s, c, u, .slice a ds.length cp, ds⟩]) (w := w1) (d := n) (os := os) (v := .bool true) ((refMay_any ⟨e, s, c, u, .slice a ds.length cp, ds⟩ _ (HOK.out _ (F1.trans_no (grow_frm w1 n os)))).mono (by rintro e w' ⟨rfl, hf⟩; exact ⟨_, rfl, by rw [HM.out], hf⟩)))
  dsimp only [Rc.val] at cM cR
  obtain ⟨x0, x1, x2, x3, x4⟩ := blk5 hb1
  have p0 := fun d os => cell_regrown x0 d os
  have p1 := fun d os => cell_regrown x1 d os
  have p2 := fun d os => cell_regrown x2 d os
  have p3 := fun d os => cell_regrown x3 d os
  have p4 := fun d os => cell_regrown x4 d os
  clear x0 x1 x2 x3 x4
  have HF := Lib.hid F1
  have HB1 := Lib.hid hb1
  clear hf1 F1 hb1 hx
  refine wp_region_quiet_below (by kernel_rfl) (by kernel_rfl) ?_
  repeat (quiet_step (first | (go_at_call 8; exact cL.out _ _) | (go_at_call 10; exact cM.out _ _) | (go_at_call 11; exact cR.out _ _)))
  refine wpQuiet_nil ?_
  intro _ hw'
  obtain ⟨⟨dq, osq⟩, hw''⟩ := hw'
  subst hw''
  have hgr := grow_frm w1 dq osq
  have HF2 := Lib.hid (HF.out.trans_no hgr)
  have HB2 := Lib.hid (blk_frm HB1.out hgr (fun h => h))
  have HX2 := Lib.hid (HX.out.below hgr)
  obtain ⟨W2, hW2⟩ : ∃ W2, Sort.grow (redrawn w1 dq) osq = W2 := ⟨_, rfl⟩
  rw [hW2] at HF2 HB2 HX2 ⊢
  clear p0 p1 p2 p3 p4 hgr HF HB1 HX hW2 cL cM cR
  have hdc := Lib.hid (decode_any (.slice ax bs.length cx) bs W2 (by rw [HB.out.1]; decide) HX2.out HB.out.2.1 (HN.out.below HF2.out))
  go_wp2_with (go_at_call 12; refine hdc.out.mono ?_; rintro e' w3 ⟨_, rfl, r3, er, rfl, hr3, hf3, hee, hrd⟩; rw [HB.out.2.2] at hee hrd; dsimp only [Option.isSome, Option.getD] at hrd; obtain ⟨v3, rfl⟩ := rc_of_d hrd; obtain rfl : er = 0 := hee; have hr31 := hr3.1; dsimp only at hr31; obtain ⟨a3, c3, rfl⟩ := hr31.shape; clear hr31; have HR3 := Lib.hid hr3; have HF3 := Lib.hid hf3; clear hr3 hf3 hrd hdc; dsimp only [Rc.val])
  obtain ⟨W4, hW4⟩ : ∃ W4, w3.alloc (.cells #[.int .i64 e, .int .i64 s, .bool c, .int .i64 u, .slice a3 ds.length c3] 24) = W4 := ⟨_, rfl⟩
  have hf4 : Frm no W2 W4 := by rw [← hW4]; exact HF3.out.alloc _
  have HF4 := Lib.hid hf4
  have hbr := Lib.hid (blk_frm HB2.out hf4 (fun h => h))
  have hbx : Hid (W4.heap[w3.heap.size]? = some (.cells #[.int .i64 e, .int .i64 s, .bool c, .int .i64 u, .slice a3 ds.length c3] 24 (0, 0))) := by show _ = _; rw [← hW4]; exact blk_new _ _
  have HX4 := Lib.hid (HX2.out.below hf4)
  have hok3 : Hid (Rc.ok W4 ⟨e, s, c, u, .slice a3 ds.length c3, ds⟩) := by show Rc.ok _ _; rw [← hW4]; exact ⟨HR3.out.1.below ((Frm.refl _ _).alloc _), HR3.out.2⟩
  have hsame := Lib.hid (fun W (h : Frm no W4 W) => (by
    have h1 := refSameR_any ⟨e, s, c, u, .slice a3 ds.length c3, ds⟩ ⟨e, s, c, u, .slice a ds.length cp, ds⟩ W ⟨hok3.out.1.below h, hok3.out.2⟩ (HOK.out W (HF2.out.trans_no (hf4.trans_no h)))
    rw [show sameR ⟨e, s, c, u, .slice a3 ds.length c3, ds⟩ ⟨e, s, c, u, .slice a ds.length cp, ds⟩ = true by simp [sameR]] at h1
    exact h1 : Calls Tryd.prog 14 #[.agg #[.int .i64 e, .int .i64 s, .bool c, .int .i64 u, .slice a3 ds.length c3], .agg #[.int .i64 e, .int .i64 s, .bool c, .int .i64 u, .slice a ds.length cp]] W (Ret fun v' w' => v' = .bool true ∧ Frm no W w')))
  clear hf4
  try rw [hW4]
  try clear hW4
  refine wp_region_held_drew (S := (fun w' => Frm no W4 w')) (by kernel_rfl) (Frm.refl no W4).drew (fun hHeld => ?_)
  refine wpAnyH_take (i := 0) (oi := ⟨some 47, _, _, _, _, _⟩) (v := ?_) rfl (by kernel_rfl) (by kernel_rfl) (by kernel_rfl) (fun _ _ _ h => h) (Or.inl ⟨by rfl, ?_⟩) (by assumption) ?_
  rotate_left
  · (intro w hSw; (try dsimp only at hSw); have hcv := (HX4.out.below hSw).str; obtain ⟨q0, q1, q2, q3, q4⟩ := blk5 (blk_frm hbr.out hSw (fun h => h)); obtain ⟨p0, p1, p2, p3, p4⟩ := blk5 (blk_frm hbx.out hSw (fun h => h)); go_simp; try with_reducible rfl)
  try simp only [Act.put, List.setIfInBounds_toArray, List.set_cons_zero, List.set_cons_succ]
  refine wpAnyH_take (i := 1) (oi := ⟨some 48, _, _, _, _, _⟩) (v := ?_) rfl (by kernel_rfl) (by kernel_rfl) (by kernel_rfl) (fun _ _ _ h => h) (Or.inl ⟨by rfl, ?_⟩) (by assumption) ?_
  rotate_left
  · (intro w hSw; (try dsimp only at hSw); have hcv := (HX4.out.below hSw).str; obtain ⟨q0, q1, q2, q3, q4⟩ := blk5 (blk_frm hbr.out hSw (fun h => h)); obtain ⟨p0, p1, p2, p3, p4⟩ := blk5 (blk_frm hbx.out hSw (fun h => h)); go_simp; try with_reducible rfl)
  try simp only [Act.put, List.setIfInBounds_toArray, List.set_cons_zero, List.set_cons_succ]
  refine wpAnyH_take (i := 2) (oi := ⟨some 49, _, _, _, _, _⟩) (v := ?_) rfl (by kernel_rfl) (by kernel_rfl) (by kernel_rfl) (fun _ _ _ h => h) (Or.inl ⟨by rfl, ?_⟩) (by assumption) ?_
  rotate_left
  · (intro w hSw; (try dsimp only at hSw); have hcv := (HX4.out.below hSw).str; obtain ⟨q0, q1, q2, q3, q4⟩ := blk5 (blk_frm hbr.out hSw (fun h => h)); obtain ⟨p0, p1, p2, p3, p4⟩ := blk5 (blk_frm hbx.out hSw (fun h => h)); go_simp; try with_reducible rfl)
  try simp only [Act.put, List.setIfInBounds_toArray, List.set_cons_zero, List.set_cons_succ]
  refine wpAnyH_ready (rs := [3]) (by kernel_rfl) (by simp) ?_
  refine AllReadyH.cons (o := ⟨some 50, _, _, _, _, _⟩) rfl (fun K hK => ?_) AllReadyH.nil
  go_simp
  refine (hren.out _ (HF2.out.trans_no (HF4.out.trans_no hHeld))).mono ?_
  rintro e' w5 ⟨v5, rfl, hs5, hf5⟩
  simp only []
  obtain ⟨a5, c5, hv5⟩ := hs5.shape
  subst hv5
  refine hK.out _ _ (hHeld.trans_no hf5) (fun hHeld => ?_)
  have hcv2 := hs5.str
  clear hf5
  clear hK K
  refine wpAnyH_ready (rs := [4]) (by kernel_rfl) (by simp) ?_
  refine AllReadyH.cons (o := ⟨some 51, _, _, _, _, _⟩) rfl (fun K hK => ?_) AllReadyH.nil
  go_simp
  skip
  refine hK.out _ _ hHeld (fun hHeld => ?_)
  clear hcv2
  clear hK K
  refine wpAnyH_take (i := 5) (oi := ⟨some 52, _, _, _, _, _⟩) (v := ?_) rfl (by kernel_rfl) (by kernel_rfl) (by kernel_rfl) (fun _ _ _ h => h) (Or.inl ⟨by rfl, ?_⟩) (by assumption) ?_
  rotate_left
  · (intro w hSw; (try dsimp only at hSw); have hcv := (HX4.out.below hSw).str; obtain ⟨q0, q1, q2, q3, q4⟩ := blk5 (blk_frm hbr.out hSw (fun h => h)); obtain ⟨p0, p1, p2, p3, p4⟩ := blk5 (blk_frm hbx.out hSw (fun h => h)); go_simp; try with_reducible rfl)
  try simp only [Act.put, List.setIfInBounds_toArray, List.set_cons_zero, List.set_cons_succ]
  refine wpAnyH_take (i := 6) (oi := ⟨some 53, _, _, _, _, _⟩) (v := ?_) rfl (by kernel_rfl) (by kernel_rfl) (by kernel_rfl) (fun _ _ _ h => h) (Or.inl ⟨by rfl, ?_⟩) (by assumption) ?_
  rotate_left
  · (intro w hSw; (try dsimp only at hSw); have hcv := (HX4.out.below hSw).str; obtain ⟨q0, q1, q2, q3, q4⟩ := blk5 (blk_frm hbr.out hSw (fun h => h)); obtain ⟨p0, p1, p2, p3, p4⟩ := blk5 (blk_frm hbx.out hSw (fun h => h)); go_simp; try with_reducible rfl)
  try simp only [Act.put, List.setIfInBounds_toArray, List.set_cons_zero, List.set_cons_succ]
  refine wpAnyH_take (i := 7) (oi := ⟨some 54, _, _, _, _, _⟩) (v := ?_) rfl (by kernel_rfl) (by kernel_rfl) (by kernel_rfl) (fun _ _ _ h => h) (Or.inl ⟨by rfl, ?_⟩) (by assumption) ?_
  rotate_left
  · (intro w hSw; (try dsimp only at hSw); have hcv := (HX4.out.below hSw).str; obtain ⟨q0, q1, q2, q3, q4⟩ := blk5 (blk_frm hbr.out hSw (fun h => h)); obtain ⟨p0, p1, p2, p3, p4⟩ := blk5 (blk_frm hbx.out hSw (fun h => h)); go_simp; try with_reducible rfl)
  try simp only [Act.put, List.setIfInBounds_toArray, List.set_cons_zero, List.set_cons_succ]
  refine wpAnyH_take (i := 8) (oi := ⟨some 55, _, _, _, _, _⟩) (v := ?_) rfl (by kernel_rfl) (by kernel_rfl) (by kernel_rfl) (fun _ _ _ h => h) (Or.inl ⟨by rfl, ?_⟩) (by assumption) ?_
  rotate_left
  · (intro w hSw; (try dsimp only at hSw); have hcv := (HX4.out.below hSw).str; obtain ⟨q0, q1, q2, q3, q4⟩ := blk5 (blk_frm hbr.out hSw (fun h => h)); obtain ⟨p0, p1, p2, p3, p4⟩ := blk5 (blk_frm hbx.out hSw (fun h => h)); go_simp; try with_reducible rfl)
  try simp only [Act.put, List.setIfInBounds_toArray, List.set_cons_zero, List.set_cons_succ]
  refine wpAnyH_take (i := 9) (oi := ⟨some 56, _, _, _, _, _⟩) (v := ?_) rfl (by kernel_rfl) (by kernel_rfl) (by kernel_rfl) (fun _ _ _ h => h) (Or.inl ⟨by rfl, ?_⟩) (by assumption) ?_
  rotate_left
  · (intro w hSw; (try dsimp only at hSw); have hcv := (HX4.out.below hSw).str; obtain ⟨q0, q1, q2, q3, q4⟩ := blk5 (blk_frm hbr.out hSw (fun h => h)); obtain ⟨p0, p1, p2, p3, p4⟩ := blk5 (blk_frm hbx.out hSw (fun h => h)); go_simp; try with_reducible rfl)
  try simp only [Act.put, List.setIfInBounds_toArray, List.set_cons_zero, List.set_cons_succ]
  refine wpAnyH_take (i := 10) (oi := ⟨some 57, _, _, _, _, _⟩) (v := ?_) rfl (by kernel_rfl) (by kernel_rfl) (by kernel_rfl) (fun _ _ _ h => h) (Or.inl ⟨by rfl, ?_⟩) (by assumption) ?_
  rotate_left
  · (intro w hSw; (try dsimp only at hSw); have hcv := (HX4.out.below hSw).str; obtain ⟨q0, q1, q2, q3, q4⟩ := blk5 (blk_frm hbr.out hSw (fun h => h)); obtain ⟨p0, p1, p2, p3, p4⟩ := blk5 (blk_frm hbx.out hSw (fun h => h)); go_simp; try with_reducible rfl)
  try simp only [Act.put, List.setIfInBounds_toArray, List.set_cons_zero, List.set_cons_succ]
  refine wpAnyH_take (i := 11) (oi := ⟨some 58, _, _, _, _, _⟩) (v := ?_) rfl (by kernel_rfl) (by kernel_rfl) (by kernel_rfl) (fun _ _ _ h => h) (Or.inl ⟨by rfl, ?_⟩) (by assumption) ?_
  rotate_left
  · (intro w hSw; (try dsimp only at hSw); have hcv := (HX4.out.below hSw).str; obtain ⟨q0, q1, q2, q3, q4⟩ := blk5 (blk_frm hbr.out hSw (fun h => h)); obtain ⟨p0, p1, p2, p3, p4⟩ := blk5 (blk_frm hbx.out hSw (fun h => h)); go_simp; try with_reducible rfl)
  try simp only [Act.put, List.setIfInBounds_toArray, List.set_cons_zero, List.set_cons_succ]
  refine wpAnyH_take (i := 12) (oi := ⟨some 59, _, _, _, _, _⟩) (v := ?_) rfl (by kernel_rfl) (by kernel_rfl) (by kernel_rfl) (fun _ _ _ h => h) (Or.inl ⟨by rfl, ?_⟩) (by assumption) ?_
  rotate_left
  · (intro w hSw; (try dsimp only at hSw); have hcv := (HX4.out.below hSw).str; obtain ⟨q0, q1, q2, q3, q4⟩ := blk5 (blk_frm hbr.out hSw (fun h => h)); obtain ⟨p0, p1, p2, p3, p4⟩ := blk5 (blk_frm hbx.out hSw (fun h => h)); go_simp; try with_reducible rfl)
  try simp only [Act.put, List.setIfInBounds_toArray, List.set_cons_zero, List.set_cons_succ]
  refine wpAnyH_ready (rs := [13]) (by kernel_rfl) (by simp) ?_
  refine AllReadyH.cons (o := ⟨some 60, _, _, _, _, _⟩) rfl (fun K hK => ?_) AllReadyH.nil
  go_simp
  refine (hsame.out _ hHeld).mono ?_
  rintro e' w6 ⟨_, rfl, rfl, hf6⟩
  simp only []
  refine hK.out _ _ (hHeld.trans_no hf6) (fun hHeld => ?_)
  clear hK K
  refine wpAnyH_take (i := 14) (oi := ⟨some 61, _, _, _, _, _⟩) (v := ?_) rfl (by kernel_rfl) (by kernel_rfl) (by kernel_rfl) (fun _ _ _ h => h) (Or.inl ⟨by rfl, ?_⟩) (by assumption) ?_
  rotate_left
  · (intro w hSw; (try dsimp only at hSw); have hcv := (HX4.out.below hSw).str; obtain ⟨q0, q1, q2, q3, q4⟩ := blk5 (blk_frm hbr.out hSw (fun h => h)); obtain ⟨p0, p1, p2, p3, p4⟩ := blk5 (blk_frm hbx.out hSw (fun h => h)); go_simp; try with_reducible rfl)
  try simp only [Act.put, List.setIfInBounds_toArray, List.set_cons_zero, List.set_cons_succ]
  refine wpAnyH_take (i := 15) (oi := ⟨some 2, _, _, _, _, _⟩) (v := ?_) rfl (by kernel_rfl) (by kernel_rfl) (by kernel_rfl) (fun _ _ _ h => h) (Or.inl ⟨by rfl, ?_⟩) (by assumption) ?_
  rotate_left
  · (intro w hSw; (try dsimp only at hSw); have hcv := (HX4.out.below hSw).str; obtain ⟨q0, q1, q2, q3, q4⟩ := blk5 (blk_frm hbr.out hSw (fun h => h)); obtain ⟨p0, p1, p2, p3, p4⟩ := blk5 (blk_frm hbx.out hSw (fun h => h)); go_simp; try with_reducible rfl)
  try simp only [Act.put, List.setIfInBounds_toArray, List.set_cons_zero, List.set_cons_succ]
  refine wpAnyH_done (by kernel_rfl) ?_ _
  have HE := Lib.hid (HF2.out.trans_no (HF4.out.trans_no hHeld))
  go_wp2_with fail
  go_ret
  exact ⟨rfl, HE.out⟩

theorem codes_law (r : Rc) (w : World) (hr : r.ok w) (hn : Nibs w) :
    Calls Tryd.prog 3 #[r.val] w fun e w' => e = .returned (.bool true) ∧ Frm no w w' := by
  by_cases hl : 100 < r.ds.length
  · exact codes_long r w hr hn hl
  · cases hm : mayR r.e r.s r.u r.ds
    · exact codes_bad r w hr hn (by omega) hm
    · exact codes_ok r w hr hn (by omega) hm

end Go.Proofs.YtgbcmkkbhbkfeaaDoor
