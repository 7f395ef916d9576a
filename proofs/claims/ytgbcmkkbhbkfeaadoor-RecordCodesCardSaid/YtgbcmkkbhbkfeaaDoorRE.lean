/- The reference's Encode. -/
import Derived.Test.YtgbcmkkbhbkfeaaDoorProg
import Derived.Test.YtgbcmkkbhbkfeaaDoorL
import Derived.Test.YtgbcmkkbhbkfeaaDoorWR
import Derived.Test.YtgbcmkkbhbkfeaaDoorSE
namespace Go.Proofs.YtgbcmkkbhbkfeaaDoor
open Go Go.RowKit

set_option maxRecDepth 100000 in
set_option maxHeartbeats 1600000 in
theorem refEncode_ok (r : Rc) (w : World) (hr : r.ok w) (hm : mayR r.e r.s r.u r.ds = true) :
    Calls Tryd.prog 13 #[r.val] w (Ret fun v' w' => Sl e8 1 w' v' (sealL (pad 124 (recB r.e r.s r.c r.u r.ds))) ∧ Frm no w w') := by
  obtain ⟨e, s, c, u, v, ds⟩ := r
  obtain ⟨hv, hl⟩ := hr
  dsimp only at hv hl hm
  unfold Rc.val
  obtain ⟨a, cp, rfl⟩ := hv.shape
  have hmm := hm
  simp only [mayR, Bool.and_eq_true, decide_eq_true_eq] at hmm
  obtain ⟨⟨⟨⟨hd6, hdm⟩, h1⟩, h2⟩, h3⟩ := hmm
  simp only [wi, Bool.and_eq_true, decide_eq_true_eq] at h1 h2 h3
  have hu6 : IntKind.u64.wrap (ds.length : Int) = ds.length := by rw [IntKind.wrap_u64]; omega
  have huE : IntKind.u64.wrap e = e := by rw [IntKind.wrap_u64]; omega
  have huS : IntKind.u64.wrap s = s := by rw [IntKind.wrap_u64]; omega
  have huU : IntKind.u64.wrap u = u := by rw [IntKind.wrap_u64]; omega
  have HV := Lib.hid (And.intro hv hdm)
  clear hv hm hdm
  obtain ⟨fl, HFL⟩ : ∃ fl : Int, Hid (fl = if c then 1 else 0) := ⟨_, rfl⟩
  have hfl0 : 0 ≤ fl := by rw [HFL.out]; split <;> omega
  obtain ⟨W0, hW0⟩ : ∃ W0, (w.alloc (.cells #[.int .i64 e, .int .i64 s, .bool c, .int .i64 u, .slice a ds.length cp] 24)).alloc (.cells #[.int .i64 124, .slice none 0 0, .bool false] 69) = W0 := ⟨_, rfl⟩
  have hb0 : W0.heap[w.heap.size]? = some (.cells #[.int .i64 e, .int .i64 s, .bool c, .int .i64 u, .slice a ds.length cp] 24 (0, 0)) := by rw [← hW0]; exact blk_alloc (blk_new w _) _
  have hw0 : RW W0 (w.heap.size + 1) (w.heap.size + 1) [] 124 false := by
    rw [← hW0]
    exact ⟨Nat.le_refl _, by simp, _, by simpa using blk_new (w.alloc (.cells #[.int .i64 e, .int .i64 s, .bool c, .int .i64 u, .slice a ds.length cp] 24)) (.cells #[.int .i64 124, .slice none 0 0, .bool false] 69), own_nil _ _ _ _⟩
  have F0 : Hid (Frm no w W0) := by rw [← hW0]; exact ((Frm.refl _ _).alloc _).alloc _
  obtain ⟨g, hg⟩ : ∃ g, w.heap.size + 1 = g := ⟨_, rfl⟩
  have HG := Lib.hid hg
  go_enter Tryd.func13, Tryd.ntmps13
  go_upto_region 2 with fail
  rw [hg] at hw0
  try rw [hg]
  obtain ⟨base, hbase⟩ : ∃ base, g = base := ⟨_, rfl⟩
  have HBASE := Lib.hid hbase
  have HW : Hid (RW W0 base g [] 124 false) := by rw [← hbase]; exact hw0
  clear hbase hg hW0 hw0
  have hsl := Sl.of_blk (w := W0.alloc (.cells #[.int .u8 74, .int .u8 82] 5)) (xs := [74, 82]) (n := 2) (c := 2) (more := []) e8_len (blk_new W0 (.cells #[.int .u8 74, .int .u8 82] 5)) rfl (by decide) (by decide)
  have kc2 := run_convert_mark (P := Tryd.prog) (W0.alloc (.cells #[.int .u8 74, .int .u8 82] 5)) 26 5 W0.heap.size 0 2 2 _ _ Tryd.underlying26 Tryd.underlying5 (blk_new W0 (.cells #[.int .u8 74, .int .u8 82] 5))
  have hfz : Frm no W0 ((W0.alloc (.cells #[.int .u8 74, .int .u8 82] 5)).freeze ⟨W0.heap.size, 2, none⟩ 1) := ((Frm.refl no W0).alloc _).trans (freeze_frm _ _ _) (fun i hi e => absurd e (Nat.ne_of_lt hi))
  have HZ := Lib.hid (And.intro hfz (And.intro (hsl.same (freeze_cell _ ⟨W0.heap.size, 2, none⟩ · 1) (freeze_frm _ ⟨W0.heap.size, 2, none⟩ 1).size) (HW.out.frm_no hfz)))
  clear hsl hfz
  go_wp2_with fail
  refine (rwbytes_ok base g [] 124 _ [74, 82] _ HZ.out.2.2 HZ.out.2.1 (by decide) (by decide)).mono ?_
  rintro e' w2 ⟨rfl, hw2, hf2⟩
  clear HW kc2
  have HW := Lib.hid hw2
  have hb2 := blk_frm (blk_frm hb0 HZ.out.1 (fun h => h)) (hf2.typed_old) (fun h => by have := HBASE.out; have := HG.out; omega)
  have HB := Lib.hid (And.intro hb2 (Frm.typed_no HZ.out.1 hf2))
  obtain ⟨c0, c1, c2, c3, c4⟩ := blk5 hb2
  clear hb2 hw2 hf2 hb0 HZ
  go_upto_if 14 with fail
  go_cut [4] (fun s4 wx => s4 = .int .u64 fl ∧ wx = w2)
  case first =>
    cases c
    all_goals
      go_wp2_with fail
      go_meet
      exact ⟨by rw [HFL.out]; rfl, rfl⟩
  case rest =>
  obtain ⟨rfl, hw⟩ := hcut
  replace hw := hw.symm
  subst hw
  go_wp2_with fail
  refine (rput_ok base g ([] ++ [74, 82]) 124 1 fl _ HW.out rfl (by simp only [List.length_append, leB_len, List.length_cons, List.length_nil]; omega) (by decide) hfl0).mono ?_
  rintro e w2 ⟨rfl, hw2, hf2⟩
  have HW2 := Lib.hid hw2
  clear HW
  have HW := HW2
  clear HW2 hw2
  have hb2 := hf2.typed_blk HB.out.1 (by decide)
  have HB2 := Lib.hid (And.intro hb2 (Frm.typed_trans HB.out.2 hf2))
  clear HB c0 c1 c2 c3 c4 hf2
  have HB := HB2
  clear HB2
  obtain ⟨c0, c1, c2, c3, c4⟩ := blk5 hb2
  clear hb2
  go_wp2_with fail
  refine (rput_ok base g ([] ++ [74, 82] ++ leB 1 fl) 124 1 ds.length _ HW.out rfl (by simp only [List.length_append, leB_len, List.length_cons, List.length_nil]; omega) (by decide) (Int.natCast_nonneg _)).mono ?_
  rintro e w2 ⟨rfl, hw2, hf2⟩
  have HW2 := Lib.hid hw2
  clear HW
  have HW := HW2
  clear HW2 hw2
  have hb2 := hf2.typed_blk HB.out.1 (by decide)
  have HB2 := Lib.hid (And.intro hb2 (Frm.typed_trans HB.out.2 hf2))
  clear HB c0 c1 c2 c3 c4 hf2
  have HB := HB2
  clear HB2
  obtain ⟨c0, c1, c2, c3, c4⟩ := blk5 hb2
  clear hb2
  go_wp2_with fail
  refine (rput_ok base g ([] ++ [74, 82] ++ leB 1 fl ++ leB 1 ds.length) 124 4 e _ HW.out rfl (by simp only [List.length_append, leB_len, List.length_cons, List.length_nil]; omega) (by decide) (by omega)).mono ?_
  rintro e w2 ⟨rfl, hw2, hf2⟩
  have HW2 := Lib.hid hw2
  clear HW
  have HW := HW2
  clear HW2 hw2
  have hb2 := hf2.typed_blk HB.out.1 (by decide)
  have HB2 := Lib.hid (And.intro hb2 (Frm.typed_trans HB.out.2 hf2))
  clear HB c0 c1 c2 c3 c4 hf2
  have HB := HB2
  clear HB2
  obtain ⟨c0, c1, c2, c3, c4⟩ := blk5 hb2
  clear hb2
  go_wp2_with fail
  refine (rput_ok base g ([] ++ [74, 82] ++ leB 1 fl ++ leB 1 ds.length ++ leB 4 e) 124 8 s _ HW.out rfl (by simp only [List.length_append, leB_len, List.length_cons, List.length_nil]; omega) (by decide) h2.1).mono ?_
  rintro e w2 ⟨rfl, hw2, hf2⟩
  have HW2 := Lib.hid hw2
  clear HW
  have HW := HW2
  clear HW2 hw2
  have hb2 := hf2.typed_blk HB.out.1 (by decide)
  have HB2 := Lib.hid (And.intro hb2 (Frm.typed_trans HB.out.2 hf2))
  clear HB c0 c1 c2 c3 c4 hf2
  have HB := HB2
  clear HB2
  obtain ⟨c0, c1, c2, c3, c4⟩ := blk5 hb2
  clear hb2
  go_wp2_with fail
  refine (rput_ok base g ([] ++ [74, 82] ++ leB 1 fl ++ leB 1 ds.length ++ leB 4 e ++ leB 8 s) 124 8 u _ HW.out rfl (by simp only [List.length_append, leB_len, List.length_cons, List.length_nil]; omega) (by decide) h3.1).mono ?_
  rintro e w2 ⟨rfl, hw2, hf2⟩
  have HW2 := Lib.hid hw2
  clear HW
  have HW := HW2
  clear HW2 hw2
  have hb2 := hf2.typed_blk HB.out.1 (by decide)
  have HB2 := Lib.hid (And.intro hb2 (Frm.typed_trans HB.out.2 hf2))
  clear HB c0 c1 c2 c3 c4 hf2
  have HB := HB2
  clear HB2
  obtain ⟨c0, c1, c2, c3, c4⟩ := blk5 hb2
  clear hb2
  have hP0 : [] ++ [74, 82] ++ leB 1 fl ++ leB 1 ds.length ++ leB 4 e ++ leB 8 s ++ leB 8 u = hdA c ds.length ++ hdB e s u := by
    rw [HFL.out]; simp only [hdA, hdB, List.append_assoc, List.nil_append]
  have HP1 : Hid (RW w2 base g (hdA c ds.length ++ hdB e s u) 124 false) := by rw [← hP0]; exact HW.out
  have hHB := HB.out.2
  have hsrc := Lib.hid (fun W (h : Frm (typed [5, 69] base W0) W0 W) => (show Sl eD 5 W (.slice a ds.length cp) ds from
      (HV.out.1.below F0.out).frm h (fun k hk ht => by
        have h1 := HV.out.1.lt hk
        have h2 := ht.1
        have h3 := HBASE.out
        have h4 := HG.out
        omega)))
  clear hP0 HW hHB
  go_wp2_with fail
  go_loopw [5, 6] (fun i _ wr => ∃ k : Nat, k ≤ ds.length ∧ i = .int .i64 k ∧ Hid (RW wr base g (hdA c ds.length ++ hdB e s u ++ (ds.take k).flatMap dlB) 124 false) ∧ Hid (wr.heap[w.heap.size]? = some (.cells #[.int .i64 e, .int .i64 s, .bool c, .int .i64 u, .slice a ds.length cp] 24 (0, 0)) ∧ Frm (typed [5, 69] base W0) W0 wr)) (fun i _ _ => ds.length - (intOf i).toNat)
  case atStart => exact ⟨0, Nat.zero_le _, rfl, by simpa using HP1, HB⟩
  case round =>
    clear c0 c1 c2 c3 c4 HB HP1
    obtain ⟨k, hk, rfl, HW, HB⟩ := hrel
    obtain ⟨c0, c1, c2, c3, c4⟩ := blk5 HB.out.1
    by_cases hlt : k < ds.length
    · obtain ⟨d, hd⟩ : ∃ d, ds[k]? = some d := ⟨_, List.getElem?_eq_getElem hlt⟩
      obtain ⟨ga, off, rfl⟩ : ∃ g off, a = some ⟨g, off, none⟩ := by
        rcases hsrc.out wr HB.out.2 with ⟨h, h0⟩ | ⟨g, off, c', h, _⟩
        · rw [h0] at hlt; simp at hlt
        · simp at h; exact ⟨_, _, h.1⟩
      obtain ⟨e0, e1, e2, e3, e4⟩ := (hsrc.out wr HB.out.2).delta hd
      have hmd := List.all_eq_true.1 HV.out.2 d (List.mem_of_getElem? hd)
      have hsn : Hid ((ds.take (k + 1)).flatMap dlB = (ds.take k).flatMap dlB ++ dlB d) := by
        show _ = _
        rw [List.take_add_one, hd, List.flatMap_append]; simp
      have hbdd := mayD_bd d hmd
      obtain ⟨dk, da, dm, dz, dO⟩ := d
      dsimp only at hbdd e0 e1 e2 e3 e4
      clear hd hmd
      have hq : 0 ≤ dk ∧ 0 ≤ dz ∧ 0 ≤ dm ∧ 0 ≤ da ∧ 0 ≤ dO := by omega
      have hw1 : IntKind.u64.wrap dk = dk := by rw [IntKind.wrap_u64]; omega
      have hw2 : IntKind.u64.wrap da = da := by rw [IntKind.wrap_u64]; omega
      have hw3 : IntKind.u64.wrap dm = dm := by rw [IntKind.wrap_u64]; omega
      have hw4 : IntKind.u64.wrap dz = dz := by rw [IntKind.wrap_u64]; omega
      have hw5 : IntKind.u64.wrap dO = dO := by rw [IntKind.wrap_u64]; omega
      clear hbdd
      have hBl : (hdA c ds.length ++ hdB e s u ++ (ds.take k).flatMap dlB).length ≤ 24 + 16 * 5 := by
        simp only [List.length_append, hdA_len, hdB_len, dlBs_len, List.length_take]
        omega
      have HW0 := HW.out
      obtain ⟨B0, HB0⟩ : ∃ B0, Hid (hdA c ds.length ++ hdB e s u ++ (ds.take k).flatMap dlB = B0) := ⟨_, rfl⟩
      rw [HB0.out] at HW0 hBl
      obtain ⟨n0, hn0⟩ : ∃ n0, Hid (B0.length = n0) := ⟨_, rfl⟩
      rw [hn0.out] at hBl
      clear HW
      have HW := Lib.hid (HW0.frm_no ((Frm.refl no wr).alloc (.cells #[.int .i64 dk, .int .i64 da, .int .i64 dm, .int .i64 dz, .int .i64 dO] 39)))
      obtain ⟨W1, hW1⟩ : ∃ W1, wr.alloc (.cells #[.int .i64 dk, .int .i64 da, .int .i64 dm, .int .i64 dz, .int .i64 dO] 39) = W1 := ⟨_, rfl⟩
      have hdb : W1.heap[wr.heap.size]? = some (.cells #[.int .i64 dk, .int .i64 da, .int .i64 dm, .int .i64 dz, .int .i64 dO] 39 (0, 0)) := by rw [← hW1]; exact blk_new _ _
      have HFA : Hid (Frm no wr W1) := by rw [← hW1]; exact (Frm.refl no wr).alloc _
      have HD := Lib.hid (And.intro hdb (Frm.refl (typed [5, 69] base W1) W1))
      obtain ⟨q0, q1, q2, q3, q4⟩ := blk5 hdb
      rw [hW1] at HW
      clear HW0 hdb
      go_wp2_with fail
      refine (rput_ok base g (B0) 124 1 dk _ HW.out rfl (by simp only [List.length_append, leB_len, List.length_cons, List.length_nil, hn0.out]; omega) (by decide) hq.1).mono ?_
      rintro e w2 ⟨rfl, hw2, hf2⟩
      have HW2 := Lib.hid hw2
      clear HW
      have HW := HW2
      clear HW2 hw2
      have hb2 := hf2.typed_blk HD.out.1 (by decide)
      have HD2 := Lib.hid (And.intro hb2 (Frm.typed_trans HD.out.2 hf2))
      clear HD q0 q1 q2 q3 q4 hf2
      have HD := HD2
      clear HD2
      obtain ⟨q0, q1, q2, q3, q4⟩ := blk5 hb2
      clear hb2
      go_wp2_with fail
      refine (rput_ok base g (B0 ++ leB 1 dk) 124 1 dz _ HW.out rfl (by simp only [List.length_append, leB_len, List.length_cons, List.length_nil, hn0.out]; omega) (by decide) hq.2.1).mono ?_
      rintro e w2 ⟨rfl, hw2, hf2⟩
      have HW2 := Lib.hid hw2
      clear HW
      have HW := HW2
      clear HW2 hw2
      have hb2 := hf2.typed_blk HD.out.1 (by decide)
      have HD2 := Lib.hid (And.intro hb2 (Frm.typed_trans HD.out.2 hf2))
      clear HD q0 q1 q2 q3 q4 hf2
      have HD := HD2
      clear HD2
      obtain ⟨q0, q1, q2, q3, q4⟩ := blk5 hb2
      clear hb2
      go_wp2_with fail
      refine (rput_ok base g (B0 ++ leB 1 dk ++ leB 1 dz) 124 2 dm _ HW.out rfl (by simp only [List.length_append, leB_len, List.length_cons, List.length_nil, hn0.out]; omega) (by decide) hq.2.2.1).mono ?_
      rintro e w2 ⟨rfl, hw2, hf2⟩
      have HW2 := Lib.hid hw2
      clear HW
      have HW := HW2
      clear HW2 hw2
      have hb2 := hf2.typed_blk HD.out.1 (by decide)
      have HD2 := Lib.hid (And.intro hb2 (Frm.typed_trans HD.out.2 hf2))
      clear HD q0 q1 q2 q3 q4 hf2
      have HD := HD2
      clear HD2
      obtain ⟨q0, q1, q2, q3, q4⟩ := blk5 hb2
      clear hb2
      go_wp2_with fail
      refine (rput_ok base g (B0 ++ leB 1 dk ++ leB 1 dz ++ leB 2 dm) 124 4 da _ HW.out rfl (by simp only [List.length_append, leB_len, List.length_cons, List.length_nil, hn0.out]; omega) (by decide) hq.2.2.2.1).mono ?_
      rintro e w2 ⟨rfl, hw2, hf2⟩
      have HW2 := Lib.hid hw2
      clear HW
      have HW := HW2
      clear HW2 hw2
      have hb2 := hf2.typed_blk HD.out.1 (by decide)
      have HD2 := Lib.hid (And.intro hb2 (Frm.typed_trans HD.out.2 hf2))
      clear HD q0 q1 q2 q3 q4 hf2
      have HD := HD2
      clear HD2
      obtain ⟨q0, q1, q2, q3, q4⟩ := blk5 hb2
      clear hb2
      go_wp2_with fail
      refine (rput_ok base g (B0 ++ leB 1 dk ++ leB 1 dz ++ leB 2 dm ++ leB 4 da) 124 4 dO _ HW.out rfl (by simp only [List.length_append, leB_len, List.length_cons, List.length_nil, hn0.out]; omega) (by decide) hq.2.2.2.2).mono ?_
      rintro e w2 ⟨rfl, hw2, hf2⟩
      have HW2 := Lib.hid hw2
      clear HW
      have HW := HW2
      clear HW2 hw2
      have hb2 := hf2.typed_blk HD.out.1 (by decide)
      have HD2 := Lib.hid (And.intro hb2 (Frm.typed_trans HD.out.2 hf2))
      clear HD q0 q1 q2 q3 q4 hf2
      have HD := HD2
      clear HD2
      obtain ⟨q0, q1, q2, q3, q4⟩ := blk5 hb2
      clear hb2
      go_wp2_with fail
      refine (rput_ok base g (B0 ++ leB 1 dk ++ leB 1 dz ++ leB 2 dm ++ leB 4 da ++ leB 4 dO) 124 4 0 _ HW.out rfl (by simp only [List.length_append, leB_len, List.length_cons, List.length_nil, hn0.out]; omega) (by decide) (by decide)).mono ?_
      rintro e w2 ⟨rfl, hw2, hf2⟩
      have HW2 := Lib.hid hw2
      clear HW
      have HW := HW2
      clear HW2 hw2
      have hb2 := hf2.typed_blk HD.out.1 (by decide)
      have HD2 := Lib.hid (And.intro hb2 (Frm.typed_trans HD.out.2 hf2))
      clear HD q0 q1 q2 q3 q4 hf2
      have HD := HD2
      clear HD2
      obtain ⟨q0, q1, q2, q3, q4⟩ := blk5 hb2
      clear hb2
      go_wp2_with fail
      go_roundw
      case rel =>
        have hfr := Frm.typed_no HFA.out HD.out.2
        refine ⟨k + 1, hlt, by go_num, ?_, hfr.typed_blk HB.out.1 (by decide), HB.out.2.typed_trans hfr⟩
        show RW _ base g (hdA c ds.length ++ hdB e s u ++ (ds.take (k + 1)).flatMap dlB) 124 false
        rw [hsn.out, ← List.append_assoc, HB0.out]
        have := HW.out
        unfold dlB
        simp only [List.append_assoc] at this ⊢
        exact this
      case measure => simp [intOf]; omega
    · obtain rfl : k = ds.length := by omega
      have hwf := HW.out
      rw [List.take_length, show hdA c ds.length ++ hdB e s u ++ ds.flatMap dlB = recB e s c u ds from rfl] at hwf
      have hrl : (recB e s c u ds).length ≤ 124 := by rw [recB_len]; omega
      have hse : sealL (recB e s c u ds) = sealL (pad 124 (recB e s c u ds)) := by
        unfold sealL
        rw [pad_len _ _ hrl]
        simp [pad]
      obtain ⟨x1, x2, vw, x3, x4⟩ := hwf
      obtain ⟨aw, cw, rfl⟩ := own_shape x4
      obtain ⟨y0, y1, y2, _, _, _⟩ := blk3 x3
      have HS := Lib.hid (refSeal_any _ (recB e s c u ds) wr hrl (Sl.of_owns (by decide) e8_len x4) (recB_oct e s c u ds))
      rw [hse] at HS
      have HFW : Hid (Frm no w wr) := F0.out.trans HB.out.2 (fun i hi ht => by have := ht.1; have := HBASE.out; have := HG.out; omega)
      clear x1 x2 x3 x4 hse hrl HW y0 y2
      go_wp2_with (go_at_call 41; refine HS.out.mono ?_; rintro e w3 ⟨v3, rfl, hs3, hb3, hf3⟩)
      go_ret
      exact ⟨_, rfl, hs3, HFW.out.trans_no hf3⟩

end Go.Proofs.YtgbcmkkbhbkfeaaDoor
