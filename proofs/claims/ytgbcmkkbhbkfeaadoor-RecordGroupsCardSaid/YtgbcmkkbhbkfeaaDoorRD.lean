/- The reference's MayDelta is the program's; the law of RecordDeltas. -/
import Derived.Test.YtgbcmkkbhbkfeaaDoorProg
import Derived.Test.YtgbcmkkbhbkfeaaDoorU
import Derived.Deep.DeepCutAuto
namespace Go.Proofs.YtgbcmkkbhbkfeaaDoor
open Go Go.RowKit
theorem mayD_ref (k a n z o : Int) : mayD ⟨k, a, n, z, o⟩ = (if k = 1 then wi a 0 4294967295 && wi n 1 65535 && wi z 0 143 && wi o 0 1024 else if k = 2 then wi a 0 4294967295 && wi n 1 65535 && z == 0 && o == 0
    else if k = 3 then wi a 0 4294967295 && n == 0 && (wi z 0 143 || z == 255) && o == 0 else if k = 4 then a == 0 && n == 0 && wi z 0 143 && o == 0 else false) := by
  unfold mayD
  dsimp only
  rw [Bool.eq_iff_iff]
  by_cases h1 : k = 1
  · subst h1; simp [wi]; omega
  · by_cases h2 : k = 2
    · subst h2; simp [wi]; omega
    · by_cases h3 : k = 3
      · subst h3; simp [wi]; try omega
      · by_cases h4 : k = 4
        · subst h4; simp [wi]; try omega
        · simp [h1, h2, h3, h4]

set_option maxRecDepth 100000 in
set_option maxHeartbeats 2000000 in
theorem refMayDelta_any (d : Dl) (w : World) :
    Calls Tryd.prog 17 #[d.v] w fun e w' => e = .returned (.bool (mayD d)) ∧ Frm no w w' := by
  unfold Dl.v
  obtain ⟨k, a, n, z, o⟩ := d
  dsimp only
  have hb := blk_new w (.cells #[.int .i64 k, .int .i64 a, .int .i64 n, .int .i64 z, .int .i64 o] 39)
  have hf := Lib.hid ((Frm.refl no w).alloc (.cells #[.int .i64 k, .int .i64 a, .int .i64 n, .int .i64 z, .int .i64 o] 39))
  obtain ⟨W, hW⟩ : ∃ W, w.alloc (.cells #[.int .i64 k, .int .i64 a, .int .i64 n, .int .i64 z, .int .i64 o] 39) = W := ⟨_, rfl⟩
  obtain ⟨A, hA⟩ : ∃ b, Hid (wi a 0 4294967295 = b) := ⟨_, rfl⟩
  obtain ⟨N, hN⟩ : ∃ b, Hid (wi n 1 65535 = b) := ⟨_, rfl⟩
  obtain ⟨Z, hZ⟩ : ∃ b, Hid (wi z 0 143 = b) := ⟨_, rfl⟩
  obtain ⟨O, hO⟩ : ∃ b, Hid (wi o 0 1024 = b) := ⟨_, rfl⟩
  obtain ⟨M, hM⟩ : ∃ b, Hid (mayD ⟨k, a, n, z, o⟩ = b) := ⟨_, rfl⟩
  rw [hM.out]
  go_enter Tryd.func17, Tryd.ntmps17
  go_upto_region 1 with fail
  rw [hW] at hb hf
  obtain ⟨c0, c1, c2, c3, c4⟩ := blk5 hb
  clear hW hb
  go_cut [3] (fun s3 wx => s3 = .bool A ∧ wx = W)
  case first =>
    go_wp2_with fail
    all_goals
      go_meet
      refine ⟨?_, rfl⟩
      rw [← hA.out]
      simp only [wi, Value.bool.injEq]
      first
        | (rw [Bool.eq_iff_iff]; simp; omega)
        | (simp; omega)
        | trace_state
  case rest =>
  obtain ⟨rfl, hw⟩ := hcut
  replace hw := hw.symm
  subst hw
  go_upto_region 2 with fail
  go_cut [4] (fun s3 wx => s3 = .bool N ∧ wx = W)
  case first =>
    go_wp2_with fail
    all_goals
      go_meet
      refine ⟨?_, rfl⟩
      rw [← hN.out]
      simp only [wi, Value.bool.injEq]
      first
        | (rw [Bool.eq_iff_iff]; simp; omega)
        | (simp; omega)
        | trace_state
  case rest =>
  obtain ⟨rfl, hw⟩ := hcut
  replace hw := hw.symm
  subst hw
  go_upto_region 3 with fail
  go_cut [5] (fun s3 wx => s3 = .bool Z ∧ wx = W)
  case first =>
    go_wp2_with fail
    all_goals
      go_meet
      refine ⟨?_, rfl⟩
      rw [← hZ.out]
      simp only [wi, Value.bool.injEq]
      first
        | (rw [Bool.eq_iff_iff]; simp; omega)
        | (simp; omega)
        | trace_state
  case rest =>
  obtain ⟨rfl, hw⟩ := hcut
  replace hw := hw.symm
  subst hw
  go_upto_region 4 with fail
  go_cut [6] (fun s3 wx => s3 = .bool O ∧ wx = W)
  case first =>
    go_wp2_with fail
    all_goals
      go_meet
      refine ⟨?_, rfl⟩
      rw [← hO.out]
      simp only [wi, Value.bool.injEq]
      first
        | (rw [Bool.eq_iff_iff]; simp; omega)
        | (simp; omega)
        | trace_state
  case rest =>
  obtain ⟨rfl, hw⟩ := hcut
  replace hw := hw.symm
  subst hw
  go_upto_region 5 with fail
  rw [mayD_ref, hA.out, hN.out, hZ.out, hO.out] at hM
  go_wp2_with fail
  all_goals
    go_ret
    refine ⟨?_, hf.out⟩
    have e5 := hM.out
    rw [← e5]
    clear hA hN hZ hO hM e5
    simp_all
set_option maxHeartbeats 2000000 in
theorem deltas_law (d : Dl) (r q : Rc) (w : World) (hr : r.ok w) (hq : q.ok w) (hn : Nibs w) :
    Calls Tryd.prog 5 #[d.v, r.val, q.val] w fun e w' => e = .returned (.bool true) ∧ Frm no w w' := by
  obtain ⟨a1, c1, hv1⟩ := hr.1.shape
  obtain ⟨a2, c2, hv2⟩ := hq.1.shape
  have hW : ∃ W, ((w.alloc (.cells #[.int .i64 d.k, .int .i64 d.a, .int .i64 d.n, .int .i64 d.z, .int .i64 d.o] 39)).alloc (.cells #[.int .i64 r.e, .int .i64 r.s, .bool r.c, .int .i64 r.u, r.v] 24)).alloc (.cells #[.int .i64 q.e, .int .i64 q.s, .bool q.c, .int .i64 q.u, q.v] 24) = W ∧ Frm no w W ∧
      W.heap[w.heap.size]? = some (.cells #[.int .i64 d.k, .int .i64 d.a, .int .i64 d.n, .int .i64 d.z, .int .i64 d.o] 39 (0, 0)) ∧ W.heap[w.heap.size + 1]? = some (.cells #[.int .i64 r.e, .int .i64 r.s, .bool r.c, .int .i64 r.u, r.v] 24 (0, 0)) ∧
      W.heap[w.heap.size + 1 + 1]? = some (.cells #[.int .i64 q.e, .int .i64 q.s, .bool q.c, .int .i64 q.u, q.v] 24 (0, 0)) :=
    ⟨_, rfl, (((Frm.refl no w).alloc _).alloc _).alloc _, blk_alloc (blk_alloc (blk_new w _) _) _, blk_alloc (by simpa using blk_new (w.alloc (.cells #[.int .i64 d.k, .int .i64 d.a, .int .i64 d.n, .int .i64 d.z, .int .i64 d.o] 39)) (.cells #[.int .i64 r.e, .int .i64 r.s, .bool r.c, .int .i64 r.u, r.v] 24)) _,
      by simpa using blk_new ((w.alloc (.cells #[.int .i64 d.k, .int .i64 d.a, .int .i64 d.n, .int .i64 d.z, .int .i64 d.o] 39)).alloc (.cells #[.int .i64 r.e, .int .i64 r.s, .bool r.c, .int .i64 r.u, r.v] 24)) (.cells #[.int .i64 q.e, .int .i64 q.s, .bool q.c, .int .i64 q.u, q.v] 24)⟩
  obtain ⟨W, hW, F1, b1, b2, b3⟩ := hW
  have ok1 : ∀ n os, r.ok (Sort.grow (redrawn W n) os) := fun n os => ⟨hr.1.below (F1.trans_no (grow_frm W n os)), hr.2⟩
  have ok2 : ∀ n os, q.ok (Sort.grow (redrawn W n) os) := fun n os => ⟨hq.1.below (F1.trans_no (grow_frm W n os)), hq.2⟩
  obtain ⟨M, hM⟩ : ∃ b, Hid (mayD d = b) := ⟨_, rfl⟩
  have hT : sameR r r = true := by simp [sameR]
  have cL := Lib.hid (fun n os => quiet_of (P := Tryd.prog) (f := 8) (args := #[]) (w := W) (d := n) (os := os) (v := .bool true) ((lives_any _ (hn.below (F1.trans_no (grow_frm W n os)))).mono (by rintro e w' ⟨rfl, hf⟩; exact ⟨_, rfl, rfl, hf⟩)))
  have cM := Lib.hid (fun n os => quiet_of (P := Tryd.prog) (f := 16) (args := #[d.v]) (w := W) (d := n) (os := os) (v := .bool M) ((mayDelta_any d _).mono (by rintro e w' ⟨rfl, hf⟩; exact ⟨_, rfl, by rw [hM.out], hf⟩)))
  have cR := Lib.hid (fun n os => quiet_of (P := Tryd.prog) (f := 17) (args := #[d.v]) (w := W) (d := n) (os := os) (v := .bool M) ((refMayDelta_any d _).mono (by rintro e w' ⟨rfl, hf⟩; exact ⟨_, rfl, by rw [hM.out], hf⟩)))
  have OK1 := Lib.hid ok1
  have OK2 := Lib.hid ok2
  clear hM ok1 ok2 hr hq hn
  obtain ⟨k, a, n, z, o⟩ := d
  obtain ⟨e1, s1, cc1, u1, v1, ds1⟩ := r
  obtain ⟨e2, s2, cc2, u2, v2, ds2⟩ := q
  dsimp only at hv1 hv2
  subst hv1 hv2
  unfold Dl.v at cM cR ⊢
  unfold Rc.val
  dsimp only at *
  have HF := Lib.hid F1
  obtain ⟨x0, x1, x2, x3, x4⟩ := blk5 b1
  obtain ⟨y0, y1, y2, y3, y4⟩ := blk5 b2
  obtain ⟨z0, z1, z2, z3, z4⟩ := blk5 b3
  have p0 := fun d os => cell_regrown x0 d os
  have p1 := fun d os => cell_regrown x1 d os
  have p2 := fun d os => cell_regrown x2 d os
  have p3 := fun d os => cell_regrown x3 d os
  have p4 := fun d os => cell_regrown x4 d os
  have q0 := fun d os => cell_regrown y0 d os
  have q1 := fun d os => cell_regrown y1 d os
  have q2 := fun d os => cell_regrown y2 d os
  have q3 := fun d os => cell_regrown y3 d os
  have q4 := fun d os => cell_regrown y4 d os
  have r0 := fun d os => cell_regrown z0 d os
  have r1 := fun d os => cell_regrown z1 d os
  have r2 := fun d os => cell_regrown z2 d os
  have r3 := fun d os => cell_regrown z3 d os
  have r4 := fun d os => cell_regrown z4 d os
  clear x0 x1 x2 x3 x4 y0 y1 y2 y3 y4 z0 z1 z2 z3 z4 b1 b2 b3 F1
  go_enter Tryd.func5, Tryd.ntmps5
  go_wp2
  refine wp_region_quiet_below (by kernel_rfl) (by kernel_rfl) ?_
  repeat (quiet_step (first | (go_at_call 8; exact cL.out _ _) | (go_at_call 16; exact cM.out _ _) | (go_at_call 17; exact cR.out _ _) | (go_at_call 14; exact quiet_of (refSameR_any ⟨_, _, _, _, _, _⟩ ⟨_, _, _, _, _, _⟩ _ (by first | exact OK1.out _ _ | exact OK2.out _ _) (by first | exact OK1.out _ _ | exact OK2.out _ _))) | (go_at_call 18; exact quiet_of (sameR_any ⟨_, _, _, _, _, _⟩ ⟨_, _, _, _, _, _⟩ _ (by first | exact OK1.out _ _ | exact OK2.out _ _) (by first | exact OK1.out _ _ | exact OK2.out _ _)))))
  refine wpQuiet_nil ?_
  intro _ hw'
  obtain ⟨⟨dq, osq⟩, hw''⟩ := hw'
  subst hw''
  go_wp2
  go_ret
  exact ⟨rfl, HF.out.trans_no (grow_frm W dq osq)⟩

end Go.Proofs.YtgbcmkkbhbkfeaaDoor
