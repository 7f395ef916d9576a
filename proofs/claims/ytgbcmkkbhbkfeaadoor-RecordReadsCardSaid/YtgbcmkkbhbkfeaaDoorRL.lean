/- The law of RecordReads. -/
import Derived.Test.YtgbcmkkbhbkfeaaDoorProg
import Derived.Test.YtgbcmkkbhbkfeaaDoorRP
import Derived.Test.YtgbcmkkbhbkfeaaDoorU
namespace Go.Proofs.YtgbcmkkbhbkfeaaDoor
open Go Go.RowKit

theorem sameR_of_d {r q : Rc} (h : r.d = q.d) : sameR r q = true := by
  obtain ⟨e, s, c, u, v, ds⟩ := r
  obtain ⟨e', s', c', u', v', ds'⟩ := q
  simp only [Rc.d, Prod.mk.injEq] at h
  obtain ⟨rfl, rfl, rfl, rfl, rfl⟩ := h
  simp [sameR]

theorem reads_law (v : Value) (bs : List Int) (w : World) (hl : bs.length ≤ 140737488355328) (hv : Sl e8 1 w v bs) (ho : Oct bs) (hn : Nibs w) :
    Calls Tryd.prog 4 #[v] w fun e w' => e = .returned (.bool true) ∧ Frm no w w' := by
  have HV := Lib.hid (fun W (h : Frm no w W) => hv.below h)
  have HN := Lib.hid hn
  have HO := Lib.hid ho
  have HLL := Lib.hid hl
  obtain ⟨a, c, rfl⟩ := hv.shape
  obtain ⟨i0, hi, hz0, hz1, hz2⟩ := info_parts info_u8
  have hown0 : (w.alloc (.cells #[] 5)).ownsRow w.heap.size 5 1 (.slice (some ⟨w.heap.size, 0, none⟩) 0 0) ([] : List Int).length (([] : List Int).flatMap e8) :=
    ⟨rfl, .inr ⟨w.heap.size, 0, #[], rfl, Nat.le_refl _, heap_alloc_new w _, Nat.le_refl _, Nat.zero_le _, rfl, rfl⟩⟩
  have HW0 := Lib.hid hown0
  clear hown0 hv hn ho hl
  go_enter Tryd.func4, Tryd.ntmps4
  go_wp2_with (at_builtin; refine wpList_app _ rfl _ _ 26 rfl w.heap.size 5 i0 (.int .u8 0) 1 1 Tryd.underlying26 hi hz0 hz1 hz2 rfl (by decide) e8_len e8_one _ ([] : List Int) rfl HW0.out _ bs rfl (HV.out _ ((Frm.refl no w).alloc _)) ?_ ?_ ?_ ?_)
  · have := HLL.out; unfold maxLen; simp; omega
  · have := HLL.out; simp; omega
  · simp
  intro v1 w1 ho1 hg1
  have hf1 : Frm no w w1 := ((Frm.refl no w).alloc (.cells #[] 5)).grown hg1 (fun k hk e => by simp [Value.ownBlock] at e; omega)
  have hs1 : Sl e8 1 w1 v1 bs := Sl.of_owns (by decide) e8_len ho1
  have HS1 := Lib.hid (fun W (h : Frm no w1 W) => hs1.below h)
  obtain ⟨a1, c1, rfl⟩ := hs1.shape
  have HF1 := Lib.hid hf1
  have hd1 := Lib.hid (decode_any _ bs w1 HLL.out hs1 HO.out (HN.out.below hf1))
  obtain ⟨D, hD⟩ : ∃ D, Hid (dec bs = D) := ⟨_, rfl⟩
  have hd2 := Lib.hid (fun W (h : Frm no w W) => refDecode_any (.slice a bs.length c) bs W (HV.out W h) HO.out)
  rw [refDec_eq bs HO.out, hD.out] at hd2
  obtain ⟨b, hb⟩ : ∃ b, Hid (D.isSome = b) := ⟨_, rfl⟩
  clear ho1 hg1 hf1 hs1 HW0
  go_upto_region 3 with (go_at_call 12; refine hd1.out.mono ?_; rintro e w2 ⟨_, rfl, r2, er, rfl, hr2, hf2, hee, hrd2⟩; rw [hD.out] at hee hrd2; rw [hb.out] at hee; obtain ⟨e2, s2, cc2, u2, v2, ds2⟩ := r2; obtain ⟨xa2, xc2, hv2⟩ := hr2.1.shape; dsimp only at hv2; subst hv2; dsimp only [Rc.val])
  have HR2 := Lib.hid hr2
  have HD2 := Lib.hid hrd2
  have HE2 := Lib.hid hee
  obtain ⟨W3, hW3⟩ : ∃ W3, w2.alloc (.cells #[.int .i64 e2, .int .i64 s2, .bool cc2, .int .i64 u2, .slice xa2 ds2.length xc2] 24) = W3 := ⟨_, rfl⟩
  have hf23 : Frm no w2 W3 := by rw [← hW3]; exact (Frm.refl _ _).alloc _
  have hb3 : W3.heap[w2.heap.size]? = some (.cells #[.int .i64 e2, .int .i64 s2, .bool cc2, .int .i64 u2, .slice xa2 ds2.length xc2] 24 (0, 0)) := by rw [← hW3]; exact blk_new _ _
  have HF3 := Lib.hid (And.intro (hf2.trans_no hf23) (And.intro hf23 hb3))
  try rw [hW3]
  clear hW3 hf23 hb3 hf2 hr2 hrd2 hee hd1
  go_upto_region 4 with (go_at_call 15; refine (hd2.out _ (HF1.out.trans_no HF3.out.1)).mono ?_; rintro e w4 ⟨_, rfl, r4, rfl, hr4, hf4, hrd4⟩; obtain ⟨e4, s4, cc4, u4, v4, ds4⟩ := r4; obtain ⟨xa4, xc4, hv4⟩ := hr4.1.shape; dsimp only at hv4; subst hv4; dsimp only [Rc.val])
  try rw [hb.out]
  have hsm : sameR ⟨e2, s2, cc2, u2, .slice xa2 ds2.length xc2, ds2⟩ ⟨e4, s4, cc4, u4, .slice xa4 ds4.length xc4, ds4⟩ = true := sameR_of_d (by rw [HD2.out, hrd4])
  have HR4 := Lib.hid hr4
  obtain ⟨W5, hW5⟩ : ∃ W5, w4.alloc (.cells #[.int .i64 e4, .int .i64 s4, .bool cc4, .int .i64 u4, .slice xa4 ds4.length xc4] 24) = W5 := ⟨_, rfl⟩
  have hf45 : Frm no w4 W5 := by rw [← hW5]; exact (Frm.refl _ _).alloc _
  have hb5 := blk_frm HF3.out.2.2 (hf4.trans_no hf45) (fun h => h)
  have hc5 : W5.heap[w4.heap.size]? = some (.cells #[.int .i64 e4, .int .i64 s4, .bool cc4, .int .i64 u4, .slice xa4 ds4.length xc4] 24 (0, 0)) := by rw [← hW5]; exact blk_new _ _
  have F25 := HF3.out.2.1.trans_no (hf4.trans_no hf45)
  have F15 := (HF3.out.1.trans_no hf4).trans_no hf45
  have HF5 := Lib.hid (And.intro F15 (And.intro F25 (And.intro hf45 (And.intro hb5 hc5))))
  have hL := Lib.hid (lives_any W5 (HN.out.below (HF1.out.trans_no F15)))
  have hsame := Lib.hid (fun W (h : Frm no W5 W) => (by
    have h1 := refSameR_any ⟨e2, s2, cc2, u2, .slice xa2 ds2.length xc2, ds2⟩ ⟨e4, s4, cc4, u4, .slice xa4 ds4.length xc4, ds4⟩ W ⟨HR2.out.1.below (F25.trans_no h), HR2.out.2⟩ ⟨HR4.out.1.below (hf45.trans_no h), HR4.out.2⟩
    rw [hsm] at h1
    exact h1 : Calls Tryd.prog 14 #[.agg #[.int .i64 e2, .int .i64 s2, .bool cc2, .int .i64 u2, .slice xa2 ds2.length xc2], .agg #[.int .i64 e4, .int .i64 s4, .bool cc4, .int .i64 u4, .slice xa4 ds4.length xc4]] W (Ret fun v' w' => v' = .bool true ∧ Frm no W w')))
  try rw [hW5]
  clear hW5 hf45 hb5 hc5 F25 F15 hf4 hr4 hrd4 hsm
  have he := HE2.out
  clear HE2
  cases b
  all_goals
    first
      | (obtain rfl : er = 0 := he)
      | (obtain rfl : er = 10 := he)
    go_wp2_with (first
      | (go_at_call 8; refine hL.out.mono ?_; rintro e w6 ⟨rfl, hf6⟩; obtain ⟨x0, x1, x2, x3, x4⟩ := blk5 (blk_frm HF5.out.2.2.2.1 hf6 (fun h => h)); obtain ⟨y0, y1, y2, y3, y4⟩ := blk5 (blk_frm HF5.out.2.2.2.2 hf6 (fun h => h)))
      | (go_at_call 14; refine (hsame.out _ hf6).mono ?_; rintro e w7 ⟨_, rfl, rfl, hf7⟩; have hz1 := (HS1.out w7 ((HF5.out.1.trans_no hf6).trans_no hf7)).str; have hz2 := (HV.out w7 (((HF1.out.trans_no HF5.out.1).trans_no hf6).trans_no hf7)).str))
    go_ret
    exact ⟨rfl, ((HF1.out.trans_no HF5.out.1).trans_no hf6).trans_no hf7⟩

end Go.Proofs.YtgbcmkkbhbkfeaaDoor
