/- RecordGroups is true at any deltas and numbers. The one condition is the row's own: crc.nibbles holds what the program's text lays there (tied). -/
import Derived.Test.YtgbcmkkbhbkfeaaDoorProg
import Derived.Test.YtgbcmkkbhbkfeaaDoorRA
import Derived.Test.YtgbcmkkbhbkfeaaDoorGL
namespace Go.Proofs.YtgbcmkkbhbkfeaaDoor
open Go Go.ChangeShapes Go.WideShapes Go.ChangeAt Go.WideMaps Go.WideElems Go.RowKit

set_option maxRecDepth 100000 in
theorem recordGroups_lifted (os : Os) (started : os.Started) (H : Type) (enc : TypeId × Value → H) :
    ReturnsInHanded {} Tryd.checked os 6 .any (fun w args => (Rows.recordGroupsSpec.pre enc Tryd.prog Tryd.f6 [] false w args ∧ laidMetH Tryd.prog [("thatch/crc.nibbles", Rows.laid_thatch_crc_nibbles)] w) ∧ sizedMet enc Tryd.prog Tryd.f6 (OpenSpec.ofChange Rows.recordGroupsSpec) false w args)
      (Rows.recordGroupsSpec.post enc Tryd.prog Tryd.f6 false true false false) := by
  refine returnsInHanded_of_change_and (C := Tryd.checked) (X := fun w _ => laidMetH Tryd.prog [("thatch/crc.nibbles", Rows.laid_thatch_crc_nibbles)] w) (fun _ _ _ hh h => h.of_heap hh) own_none started (by kernel_rfl) Tryd.func6
    (ChangeSpec.witness_shaped (enc := enc) (C := Tryd.checked) (os := os) (X := fun w _ => laidMetH Tryd.prog [("thatch/crc.nibbles", Rows.laid_thatch_crc_nibbles)] w) false (World.doorLaid Tryd.prog 400 os) #[.slice none 0 0, .int .i64 0, .int .i64 0, .int .i64 0] 8 rfl (World.shaped_of_RefB (by kernel_rfl) (by kernel_rfl)) (by kernel_rfl) (by kernel_rfl) (by kernel_rfl) (door_met os _)) ?_
  intro W base args ds gs before hval0 hW _ hsz0 hL _
  have hsz : (DataW.weightsEach Tryd.prog (Tryd.f6.params.toList ++ Rows.recordGroupsSpec.plain.varTypes Tryd.prog) (ds ++ gs)).all (· ≤ reachBytes) = true := hsz0
  have hval : ∀ (j : Nat) t v, Tryd.f6.params[j]? = some t → args[j]? = some v → Value.okWide Tryd.prog W .any base t v := hval0
  have hW' := hW
  obtain ⟨p, q, hA0, hV, rfl, hfz, hnd⟩ := hW
  have hA : DataW.TrodAll enc Tryd.prog W 0 (fun _ => true) true Tryd.f6.params.toList args.toList ds p := hA0
  rw [Tryd.params6] at hA hval hsz
  obtain ⟨v0, v1, v2, v3, d0, d1, d2, d3, p0, p1, p2, p3, rfl, rfl, rfl, h0, h1, h2, h3⟩ := trodAll_four hA
  obtain ⟨rfl, rfl⟩ := trodVars_none hV
  clear hA0 hval0 hsz0
  simp only [List.append_nil] at hW' hsz
  have hlt : ∀ x ∈ p0, x.block < W.heap.size := fun x hx => by simpa using hW'.lt x (by simp [hx])
  obtain ⟨n1, rfl, rfl, rfl, wn1⟩ := open_int Tryd.underlying3 (hval 1 3 v1 rfl rfl) h1
  obtain ⟨n2, rfl, rfl, rfl, wn2⟩ := open_int Tryd.underlying3 (hval 2 3 v2 rfl rfl) h2
  obtain ⟨n3, rfl, rfl, rfl, wn3⟩ := open_int Tryd.underlying3 (hval 3 3 v3 rfl rfl) h3
  have hc0 : Cell.okWide Tryd.prog W .any base 22 v0 := by
    have hu : Tryd.prog.underlying 22 = _ := Tryd.underlying22
    have := hval 0 22 v0 rfl rfl
    simpa only [Value.okWide, hu] using this
  have hv0 : ∃ a n c, v0 = .slice a n c := by
    have hu : Tryd.prog.underlying 22 = _ := Tryd.underlying22
    cases v0 with
    | slice a n c => exact ⟨_, _, _, rfl⟩
    | _ => simp [Cell.okWide, Cell.ok, hu] at hc0
  obtain ⟨va, vn, vc, rfl⟩ := hv0
  obtain ⟨fuel, hf0⟩ := h0
  obtain ⟨ds, hs, _⟩ := ds_open hc0 hf0
  refine (groups_law _ ds n1 n2 n3 W hs (of_laid hL)).mono fun e W' ⟨he, hf⟩ => ?_
  subst he
  have hlo : laidOutB Tryd.prog = true := by kernel_rfl
  exact ⟨_, rfl, _, _, _, [], _, [], hW', trodAll_mk1 (shut_bool Tryd.underlying4 _), trodAll_mk4 (Below.trod hlo (by kernel_rfl) (of_decide_eq_true (by kernel_rfl)) ⟨fuel, hf0⟩ hf.below hlt) (shut_int Tryd.underlying3 wn1) (shut_int Tryd.underlying3 wn2) (shut_int Tryd.underlying3 wn3), rfl, hf.below.frame _, fun h => by cases h⟩

theorem recordGroups_holds : Rows.RecordGroupsSaid :=
  OpenClaim.holds_of_wide 6 Tryd.f6 rfl rfl rfl rfl rfl rfl rfl ⟨rfl, rfl, rfl, rfl, rfl⟩ rfl rfl rfl rfl rfl (by kernel_rfl) Tryd.func6 (by kernel_rfl)
    (of_decide_eq_true (by kernel_rfl)) (by unfold Func.isWrapper; first | (rw [if_pos (by decide +kernel)]; kernel_rfl) | (rw [if_neg (by decide +kernel)]; exact ⟨rfl, rfl⟩))
    (fun os started H enc _ => recordGroups_lifted os started H enc)

theorem recordGroups_card_holds : Rows.RecordGroupsCardSaid :=
  Claim7.holds_tied_plain_at .later [] [.data] true (true, "62e831cb14ad68ea0977c642a736a480d5f4bf83bfda6d7fe436fb6884418bb9") false
    recordGroups_holds (fun _ h => by cases h) (by kernel_rfl) (fun _ h => by cases h) recordGroups_row_tie rfl ⟨rfl, rfl⟩ (by kernel_rfl) rfl
    (fun f fn hf hfn => by
      obtain rfl : f = 6 := Option.some.inj ((show Tryd.prog.funcNamed "thatch/thatchlaw09.RecordGroups" = some 6 by kernel_rfl).symm.trans hf) |>.symm
      obtain rfl : fn = Tryd.f6 := (Option.some.inj (Tryd.func6.symm.trans hfn)).symm
      exact ⟨by kernel_rfl, fun j t ht => by
        rw [Tryd.params6] at ht
        have hm : t ∈ [22, 3, 3, 3] := by simpa using Array.mem_of_getElem? ht
        have hall : ([22, 3, 3, 3].all fun u => !Tryd.prog.wantsStandIn u) = true := by kernel_rfl
        exact (show Tryd.prog.wantsStandIn t = false by simpa using List.all_eq_true.1 hall t hm)⟩)
    (by kernel_rfl)

end Go.Proofs.YtgbcmkkbhbkfeaaDoor
