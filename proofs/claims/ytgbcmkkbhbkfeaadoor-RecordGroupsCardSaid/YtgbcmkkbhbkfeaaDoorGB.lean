/- Group's refusals. -/
import Derived.Test.YtgbcmkkbhbkfeaaDoorProg
import Derived.Test.YtgbcmkkbhbkfeaaDoorT
namespace Go.Proofs.YtgbcmkkbhbkfeaaDoor
open Go Go.RowKit

/-- a number out of its bounds -/
theorem group_bad1 (v : Value) (ds : List Dl) (ep sq up : Int) (w : World) (hl : ds.length ≤ 6000) (hv : Sl eD 5 w v ds) (h : (wi ep 1 2147483648 && wi sq 0 (1099511627776 - needs ds.length + 1) && wi up 0 1099511627776) = false) :
    Calls Tryd.prog 19 #[v, .int .i64 ep, .int .i64 sq, .int .i64 up] w (Ret fun v' w' => v' = .tuple #[.slice none 0 0, .int .i64 1] ∧ Frm no w w') := by
  obtain ⟨a, c, rfl⟩ := hv.shape
  clear hv
  obtain ⟨nd, hnd⟩ : ∃ nd : Int, Hid (needs ds.length = nd) := ⟨_, rfl⟩
  have hnd0 : 0 ≤ nd ∧ nd ≤ 1001 := by rw [← hnd.out]; unfold needs; split <;> (try split) <;> omega
  rw [hnd.out] at h
  have hw1 : IntKind.i64.wrap (1099511627776 - nd) = 1099511627776 - nd := IntWalk.i64_in _ (by omega)
  have hw2 : IntKind.i64.wrap (1099511627776 - nd + 1) = 1099511627776 - nd + 1 := IntWalk.i64_in _ (by omega)
  obtain ⟨b1, h1⟩ : ∃ b, Hid (wi ep 1 2147483648 = b) := ⟨_, rfl⟩
  obtain ⟨b2, h2⟩ : ∃ b, Hid (wi sq 0 (1099511627776 - nd + 1) = b) := ⟨_, rfl⟩
  obtain ⟨b3, h3⟩ : ∃ b, Hid (wi up 0 1099511627776 = b) := ⟨_, rfl⟩
  rw [h1.out, h2.out, h3.out] at h
  refine (callsIn_wide (n := 3)).1 (callsIn_of_wp_marks Tryd.func19 rfl trivial ?_ rfl)
  simp only [Tryd.ntmps19, List.size_toArray, List.length_cons, List.length_nil, Nat.reduceAdd, Nat.reduceSub, Array.replicate_succ, Array.replicate_zero, List.push_toArray, List.append_toArray, List.nil_append, List.cons_append]
  refine wpIn_wide.2 ?_
  cases b1 <;> cases b2 <;> cases b3
  case true.true.true => cases h
  all_goals
    clear h
    go_wp2
    go_quiet (first
      | (go_at_call 20; exact Calls.quiet_of_same (needs_is hnd.out (by omega) _))
      | (go_at_call 33; exact Calls.quiet_of_same (within_is (by first | exact h1.out | exact h2.out | exact h3.out) _)))
    go_wp2
    refine ⟨_, results_tmp2 rfl _ _ _, _, rfl, rfl, ?_⟩
    exact ((((Frm.refl no w).alloc _).alloc _).alloc _).drewN _

/-- a delta that may not be -/
theorem group_bad2 (v : Value) (ds : List Dl) (ep sq up : Int) (w : World) (hl : ds.length ≤ 6000) (hv : Sl eD 5 w v ds) (hm : ds.all mayD = false) (h1 : wi ep 1 2147483648 = true) (h2 : wi sq 0 (1099511627776 - needs ds.length + 1) = true) (h3 : wi up 0 1099511627776 = true) :
    Calls Tryd.prog 19 #[v, .int .i64 ep, .int .i64 sq, .int .i64 up] w (Ret fun v' w' => v' = .tuple #[.slice none 0 0, .int .i64 1] ∧ Frm no w w') := by
  have HV := Lib.hid hv
  obtain ⟨a, c, rfl⟩ := hv.shape
  clear hv
  obtain ⟨nd, hnd⟩ : ∃ nd : Int, Hid (needs ds.length = nd) := ⟨_, rfl⟩
  have hnd0 : 0 ≤ nd ∧ nd ≤ 1001 := by rw [← hnd.out]; unfold needs; split <;> (try split) <;> omega
  rw [hnd.out] at h2
  have hw1 : IntKind.i64.wrap (1099511627776 - nd) = 1099511627776 - nd := IntWalk.i64_in _ (by omega)
  have hw2 : IntKind.i64.wrap (1099511627776 - nd + 1) = 1099511627776 - nd + 1 := IntWalk.i64_in _ (by omega)
  have H1 := Lib.hid h1
  have H2 := Lib.hid h2
  have H3 := Lib.hid h3
  have hcd := Lib.hid (fun W (h : Frm no w W) => containsD_any _ notGroup_any enter_group _ ds W (by omega) (HV.out.below h))
  rw [hm] at hcd
  clear h1 h2 h3 hm
  refine (callsIn_wide (n := 3)).1 (callsIn_of_wp_marks Tryd.func19 rfl trivial ?_ rfl)
  simp only [Tryd.ntmps19, List.size_toArray, List.length_cons, List.length_nil, Nat.reduceAdd, Nat.reduceSub, Array.replicate_succ, Array.replicate_zero, List.push_toArray, List.append_toArray, List.nil_append, List.cons_append]
  refine wpIn_wide.2 ?_
  go_wp2
  go_quiet (first
    | (go_at_call 20; exact Calls.quiet_of_same (needs_is hnd.out (by omega) _))
    | (go_at_call 33; exact Calls.quiet_of_same (within_is (by first | exact H1.out | exact H2.out | exact H3.out) _)))
  go_wp2_with (go_at_call 31; refine (hcd.out _ (((((Frm.refl no w).alloc _).alloc _).alloc _).drewN _)).mono ?_; rintro e w2 ⟨rfl, hf2⟩)
  refine ⟨_, results_tmp2 rfl _ _ _, _, rfl, rfl, ?_⟩
  exact (((((Frm.refl no w).alloc _).alloc _).alloc _).drewN _).trans_no hf2

end Go.Proofs.YtgbcmkkbhbkfeaaDoor
