/- The reference's May is the program's. -/
import Derived.Test.YtgbcmkkbhbkfeaaDoorProg
import Derived.Test.YtgbcmkkbhbkfeaaDoorRD
import Derived.Test.YtgbcmkkbhbkfeaaDoorEB
namespace Go.Proofs.YtgbcmkkbhbkfeaaDoor
open Go Go.RowKit

set_option maxRecDepth 100000 in
set_option maxHeartbeats 1000000 in
theorem refMay_any (r : Rc) (w : World) (hr : r.ok w) :
    Calls Tryd.prog 11 #[r.val] w fun e w' => e = .returned (.bool (mayR r.e r.s r.u r.ds)) ∧ Frm no w w' := by
  obtain ⟨e, s, cc, u, v, ds⟩ := r
  obtain ⟨hv, hl⟩ := hr
  dsimp only at hv hl ⊢
  unfold Rc.val
  obtain ⟨a, c, rfl⟩ := hv.shape
  have hb := blk_new w (.cells #[.int .i64 e, .int .i64 s, .bool cc, .int .i64 u, .slice a ds.length c] 24)
  have hf0 := (Frm.refl no w).alloc (.cells #[.int .i64 e, .int .i64 s, .bool cc, .int .i64 u, .slice a ds.length c] 24)
  have hv0 := hv.below hf0
  obtain ⟨W, hW⟩ : ∃ W, w.alloc (.cells #[.int .i64 e, .int .i64 s, .bool cc, .int .i64 u, .slice a ds.length c] 24) = W := ⟨_, rfl⟩
  obtain ⟨M, hM⟩ : ∃ b, Hid (mayR e s u ds = b) := ⟨_, rfl⟩
  rw [hM.out]
  rw [hW] at hb hf0 hv0
  have HB := Lib.hid (And.intro hb (And.intro hf0 hv0))
  obtain ⟨c0, c1, c2, c3, c4⟩ := blk5 hb
  clear hb hf0 hv0 hv
  go_enter Tryd.func11, Tryd.ntmps11
  go_wp2
  go_loopw [3] (fun i wr => ∃ k : Nat, k ≤ ds.length ∧ i = .int .i64 k ∧ Hid (∀ d ∈ ds.take k, mayD d = true) ∧ Hid (Frm no W wr)) (fun i _ => ds.length - (intOf i).toNat)
  case atStart => exact ⟨0, Nat.zero_le _, rfl, by intro d hd; simp at hd, Frm.refl _ _⟩
  case round =>
    obtain ⟨k, hk, rfl, HZ, HR⟩ := hrel
    clear c0 c1 c2 c3 c4 hW
    obtain ⟨c0, c1, c2, c3, c4⟩ := blk5 (blk_frm HB.out.1 HR.out (fun h => h))
    by_cases hlt : k < ds.length
    · obtain ⟨d, hd⟩ : ∃ d, ds[k]? = some d := ⟨_, List.getElem?_eq_getElem hlt⟩
      obtain ⟨g, off, rfl⟩ : ∃ g off, a = some ⟨g, off, none⟩ := by
        rcases HB.out.2.2 with ⟨h, h0⟩ | ⟨g, off, c', h, _⟩
        · rw [h0] at hlt; simp at hlt
        · simp at h; exact ⟨_, _, h.1⟩
      obtain ⟨e0, e1, e2, e3, e4⟩ := (HB.out.2.2.below HR.out).delta hd
      have HD := Lib.hid hd
      have hm := Lib.hid (fun w => refMayDelta_any d w)
      clear hd
      obtain ⟨dk, da, dn, dz, dO⟩ := d
      unfold Dl.v at hm
      go_wp2_with fail
      refine (hm.out wr).mono ?_
      rintro e w1 ⟨rfl, hf1⟩
      have HR1 := Lib.hid (HR.out.trans_no hf1)
      clear hf1 hm
      generalize hmd : mayD ⟨dk, da, dn, dz, dO⟩ = md
      have HMD := Lib.hid hmd
      clear hmd e0 e1 e2 e3 e4 c0 c1 c2 c3 c4
      cases md
      · go_wp2
        go_ret
        refine ⟨?_, HB.out.2.1.trans_no HR1.out⟩
        have hall : ds.all mayD = false := by
          rw [List.all_eq_false]
          exact ⟨_, List.mem_of_getElem? HD.out, by rw [HMD.out]; decide⟩
        rw [← hM.out]
        simp [mayR, hall]
      · go_wp2
        go_roundw
        case rel => exact ⟨k + 1, by omega, by go_num, by rw [List.take_add_one, HD.out]; intro x hx; simp at hx; rcases hx with hx | hx; exact HZ.out x hx; rw [hx]; exact HMD.out, HR1.out⟩
        case measure => simp [intOf]; omega
    · obtain rfl : k = ds.length := by omega
      have hall : ds.all mayD = true := by
        have := HZ.out
        rw [List.take_length] at this
        rw [List.all_eq_true]; exact this
      have HA := Lib.hid hall
      clear hall
      go_wp2
      all_goals
        go_ret
        refine ⟨?_, HB.out.2.1.trans_no HR.out⟩
        rw [← hM.out]
        simp only [mayR, HA.out, wi]
        clear hM HA HB HR HZ
        first
          | (simp_all; done)
          | (simp_all; omega)
          | (rw [Bool.eq_iff_iff]; simp_all; omega)

end Go.Proofs.YtgbcmkkbhbkfeaaDoor
