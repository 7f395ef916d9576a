/- Encode's refusal. -/
import Derived.Test.YtgbcmkkbhbkfeaaDoorProg
import Derived.Test.YtgbcmkkbhbkfeaaDoorU
namespace Go.Proofs.YtgbcmkkbhbkfeaaDoor
open Go Go.RowKit

theorem encode_bad (r : Rc) (w : World) (hr : r.ok w) (hm : mayR r.e r.s r.u r.ds = false) :
    Calls Tryd.prog 9 #[r.val] w (Ret fun v' w' => v' = .tuple #[.slice none 0 0, .int .i64 1] ∧ Frm no w w') := by
  have hmr := Lib.hid (fun W (h : Frm no w W) => mayR_any r W ⟨hr.1.below h, hr.2⟩)
  obtain ⟨e, s, c, u, v, ds⟩ := r
  obtain ⟨hv, hl⟩ := hr
  dsimp only at hv hl hm
  rw [hm] at hmr
  unfold Rc.val at hmr ⊢
  obtain ⟨a, cp, rfl⟩ := hv.shape
  clear hv hl hm
  go_enter Tryd.func9, Tryd.ntmps9
  go_wp2_with (go_at_call 10; refine (hmr.out _ ((Frm.refl _ _).alloc _)).mono ?_; rintro e w1 ⟨rfl, hf1⟩; obtain ⟨k0, k1, k2, k3, k4⟩ := blk5 (blk_frm (blk_new w _) hf1 (fun h => h)))
  refine bodyPost_ret (results_tmp2 rfl _ _ _) rfl ?_
  exact ⟨_, rfl, rfl, ((Frm.refl _ _).alloc _).trans_no hf1⟩

end Go.Proofs.YtgbcmkkbhbkfeaaDoor
