/- Records: the same, going on, joined. -/
import Derived.Test.YtgbcmkkbhbkfeaaDoorProg
import Derived.Test.YtgbcmkkbhbkfeaaDoorI
namespace Go.Proofs.YtgbcmkkbhbkfeaaDoor
open Go Go.RowKit

def sameR (a b : Rc) : Bool := a.e == b.e && a.s == b.s && a.c == b.c && a.u == b.u && decide (a.ds = b.ds)

theorem sameR_any (r q : Rc) (w : World) (hr : r.ok w) (hq : q.ok w) :
    Calls Tryd.prog 18 #[r.val, q.val] w (Ret fun v' w' => v' = .bool (sameR r q) ∧ Frm no w w') := by
  obtain ⟨e, s, c, u, v, ds⟩ := r
  obtain ⟨e', s', c', u', v', ds'⟩ := q
  obtain ⟨hv, hl⟩ := hr
  obtain ⟨hv', _⟩ := hq
  dsimp only at hv hl hv'
  unfold Rc.val
  obtain ⟨a, cp, rfl⟩ := hv.shape
  obtain ⟨a', cp', rfl⟩ := hv'.shape
  have hc := Lib.hid (fun W (h : Frm no w W) => equalD_any _ _ ds ds' W hl (hv.below h) (hv'.below h))
  clear hv hv' hl
  go_enter Tryd.func18, Tryd.ntmps18
  go_wp2_with (go_at_call 47; refine (hc.out _ (((Frm.refl _ _).alloc _).alloc _)).mono ?_; rintro e w1 ⟨v1, rfl, rfl, d, rfl⟩)
  all_goals (go_ret; first | exact ⟨_, rfl, by simp_all [sameR], (((Frm.refl _ _).alloc _).alloc _).drewN _⟩ | exact ⟨_, rfl, by simp_all [sameR], ((Frm.refl _ _).alloc _).alloc _⟩)

theorem refSameR_any (r q : Rc) (w : World) (hr : r.ok w) (hq : q.ok w) :
    Calls Tryd.prog 14 #[r.val, q.val] w (Ret fun v' w' => v' = .bool (sameR r q) ∧ Frm no w w') := by
  obtain ⟨e, s, c, u, v, ds⟩ := r
  obtain ⟨e', s', c', u', v', ds'⟩ := q
  obtain ⟨hv, hl⟩ := hr
  obtain ⟨hv', _⟩ := hq
  dsimp only at hv hl hv'
  unfold Rc.val
  obtain ⟨a, cp, rfl⟩ := hv.shape
  obtain ⟨a', cp', rfl⟩ := hv'.shape
  have hc := Lib.hid (fun W (h : Frm no w W) => sameDs_any _ _ ds ds' W hl (hv.below h) (hv'.below h))
  clear hv hv' hl
  go_enter Tryd.func14, Tryd.ntmps14
  go_wp2_with (go_at_call 22; refine (hc.out _ (((Frm.refl _ _).alloc _).alloc _)).mono ?_; rintro e w1 ⟨v1, rfl, rfl, d, rfl⟩)
  all_goals (go_ret; first | exact ⟨_, rfl, by simp_all [sameR], (((Frm.refl _ _).alloc _).alloc _).drewN _⟩ | exact ⟨_, rfl, by simp_all [sameR], ((Frm.refl _ _).alloc _).alloc _⟩)

def needs (n : Int) : Int := if n < 0 then 0 else if n = 0 then 1 else (n - 1) / 6 + 1
theorem ret_int {k : IntKind} {a b : Int} (h : a = b) : Ending.returned (.int k a) = .returned (.int k b) := by rw [h]

theorem needs_any (n : Int) (w : World) (_h : n ≤ 9223372036854775807) :
    Calls Tryd.prog 20 #[.int .i64 n] w fun e w' => e = .returned (.int .i64 (needs n)) ∧ w = w' := by
  by_cases h0 : n < 0
  · go_enter Tryd.func20, Tryd.ntmps20
    go_wp2
    go_ret
    exact ⟨by simp [needs, h0], rfl⟩
  · go_enter Tryd.func20, Tryd.ntmps20
    go_wp2
    all_goals
      go_ret
      refine ⟨ret_int ?_, rfl⟩
      unfold needs
      rw [if_neg (by omega)]
      split <;> omega

theorem refNeeds_any (n : Int) (w : World) (_h : n ≤ 9223372036854775807) :
    Calls Tryd.prog 21 #[.int .i64 n] w fun e w' => e = .returned (.int .i64 (needs n)) ∧ w = w' := by
  by_cases h0 : n < 0
  · go_enter Tryd.func21, Tryd.ntmps21
    go_wp2
    go_ret
    exact ⟨by simp [needs, h0], rfl⟩
  · by_cases h1 : n = 0
    · subst h1
      go_enter Tryd.func21, Tryd.ntmps21
      go_wp2
      go_ret
      exact ⟨rfl, rfl⟩
    · have hn : needs n = (n - 1) / 6 + 1 := by unfold needs; rw [if_neg h0, if_neg h1]
      rw [hn]
      have h2 : 1 ≤ n := by omega
      have h3 : (n == 0) = false := by simpa using h1
      clear hn h0 h1
      go_enter Tryd.func21, Tryd.ntmps21
      go_wp2
      go_ret
      exact ⟨rfl, rfl⟩

end Go.Proofs.YtgbcmkkbhbkfeaaDoor
