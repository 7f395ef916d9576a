/- RecordDeltas is true at every delta and at any two records. The one condition is the row's own: crc.nibbles holds what the program's text lays there (tied). -/
import Derived.Test.YtgbcmkkbhbkfeaaDoorProg
import Derived.Test.YtgbcmkkbhbkfeaaDoorRA
import Derived.Test.YtgbcmkkbhbkfeaaDoorRD
namespace Go.Proofs.YtgbcmkkbhbkfeaaDoor
open Go Go.ChangeShapes Go.WideShapes Go.ChangeAt Go.WideMaps Go.WideElems Go.RowKit

set_option maxRecDepth 100000 in
theorem recordDeltas_lifted (os : Os) (started : os.Started) (H : Type) (enc : TypeId × Value → H) :
    ReturnsInHanded {} Tryd.checked os 5 .any (fun w args => (Rows.recordDeltasSpec.pre enc Tryd.prog Tryd.f5 [] false w args ∧ laidMetH Tryd.prog [("thatch/crc.nibbles", Rows.laid_thatch_crc_nibbles)] w) ∧ sizedMet enc Tryd.prog Tryd.f5 (OpenSpec.ofChange Rows.recordDeltasSpec) false w args)
      (Rows.recordDeltasSpec.post enc Tryd.prog Tryd.f5 false true false false) := by
  refine returnsInHanded_of_change_and (C := Tryd.checked) (X := fun w _ => laidMetH Tryd.prog [("thatch/crc.nibbles", Rows.laid_thatch_crc_nibbles)] w) (fun _ _ _ hh h => h.of_heap hh) own_none started (by kernel_rfl) Tryd.func5
    (ChangeSpec.witness_shaped (enc := enc) (C := Tryd.checked) (os := os) (X := fun w _ => laidMetH Tryd.prog [("thatch/crc.nibbles", Rows.laid_thatch_crc_nibbles)] w) false (World.doorLaid Tryd.prog 400 os) #[.agg #[.int .i64 0, .int .i64 0, .int .i64 0, .int .i64 0, .int .i64 0], .agg #[.int .i64 0, .int .i64 0, .bool false, .int .i64 0, .slice none 0 0], .agg #[.int .i64 0, .int .i64 0, .bool false, .int .i64 0, .slice none 0 0]] 8 rfl (World.shaped_of_RefB (by kernel_rfl) (by kernel_rfl)) (by kernel_rfl) (by kernel_rfl) (by kernel_rfl) (door_met os _)) ?_
  intro W base args ds gs before hval0 hW _ hsz0 hL _
  have hsz : (DataW.weightsEach Tryd.prog (Tryd.f5.params.toList ++ Rows.recordDeltasSpec.plain.varTypes Tryd.prog) (ds ++ gs)).all (· ≤ reachBytes) = true := hsz0
  have hval : ∀ (j : Nat) t v, Tryd.f5.params[j]? = some t → args[j]? = some v → Value.okWide Tryd.prog W .any base t v := hval0
  have hW' := hW
  obtain ⟨p, q, hA0, hV, rfl, hfz, hnd⟩ := hW
  have hA : DataW.TrodAll enc Tryd.prog W 0 (fun _ => true) true Tryd.f5.params.toList args.toList ds p := hA0
  rw [Tryd.params5] at hA hval hsz
  obtain ⟨v0, v1, v2, d0, d1, d2, p0, p1, p2, rfl, rfl, rfl, h0, h1, h2⟩ := trodAll_three hA
  obtain ⟨rfl, rfl⟩ := trodVars_none hV
  clear hA0 hval0 hsz0
  simp only [List.append_nil] at hW' hsz
  have hlt : ∀ x ∈ p0 ++ (p1 ++ p2), x.block < W.heap.size := fun x hx => by simpa using hW'.lt x (by simpa using hx)
  obtain ⟨dl, rfl⟩ := delta_open (hval 0 39 v0 rfl rfl) h0
  obtain ⟨r, rfl, hr, hrl⟩ := rec_open (hval 1 24 v1 rfl rfl) h1
  obtain ⟨s, rfl, hs, hsl⟩ := rec_open (hval 2 24 v2 rfl rfl) h2
  have hr2 : r.ok W := ⟨hr, by
    rcases hrl with h | ⟨e0, e1, e2, e3, el, sp, rfl, he⟩
    · rw [h]; simp
    · rw [← he]; exact rec_sized hsz (j := 1) rfl rfl⟩
  have hs2 : s.ok W := ⟨hs, by
    rcases hsl with h | ⟨e0, e1, e2, e3, el, sp, rfl, he⟩
    · rw [h]; simp
    · rw [← he]; exact rec_sized hsz (j := 2) rfl rfl⟩
  refine (deltas_law dl r s W hr2 hs2 (of_laid hL)).mono fun e W' ⟨he, hf⟩ => ?_
  subst he
  have hlo : laidOutB Tryd.prog = true := by kernel_rfl
  exact ⟨_, rfl, _, _, _, [], _, [], hW', trodAll_mk1 (shut_bool Tryd.underlying4 _), trodAll_mk3 (Below.trod hlo (by kernel_rfl) (of_decide_eq_true (by kernel_rfl)) h0 hf.below (fun x hx => hlt x (by simp [hx]))) (Below.trod hlo (by kernel_rfl) (of_decide_eq_true (by kernel_rfl)) h1 hf.below (fun x hx => hlt x (by simp [hx]))) (Below.trod hlo (by kernel_rfl) (of_decide_eq_true (by kernel_rfl)) h2 hf.below (fun x hx => hlt x (by simp [hx]))), rfl, hf.below.frame _, fun h => by cases h⟩

theorem recordDeltas_holds : Rows.RecordDeltasSaid :=
  OpenClaim.holds_of_wide 5 Tryd.f5 rfl rfl rfl rfl rfl rfl rfl ⟨rfl, rfl, rfl, rfl, rfl⟩ rfl rfl rfl rfl rfl (by kernel_rfl) Tryd.func5 (by kernel_rfl)
    (of_decide_eq_true (by kernel_rfl)) (by unfold Func.isWrapper; first | (rw [if_pos (by decide +kernel)]; kernel_rfl) | (rw [if_neg (by decide +kernel)]; exact ⟨rfl, rfl⟩))
    (fun os started H enc _ => recordDeltas_lifted os started H enc)

theorem recordDeltas_card_holds : Rows.RecordDeltasCardSaid :=
  Claim7.holds_tied_plain_at .later [] [.data] true (true, "62e831cb14ad68ea0977c642a736a480d5f4bf83bfda6d7fe436fb6884418bb9") false
    recordDeltas_holds (fun _ h => by cases h) (by kernel_rfl) (fun _ h => by cases h) recordDeltas_row_tie rfl ⟨rfl, rfl⟩ (by kernel_rfl) rfl
    (fun f fn hf hfn => by
      obtain rfl : f = 5 := Option.some.inj ((show Tryd.prog.funcNamed "thatch/thatchlaw09.RecordDeltas" = some 5 by kernel_rfl).symm.trans hf) |>.symm
      obtain rfl : fn = Tryd.f5 := (Option.some.inj (Tryd.func5.symm.trans hfn)).symm
      exact ⟨by kernel_rfl, fun j t ht => by
        rw [Tryd.params5] at ht
        have hm : t ∈ [39, 24, 24] := by simpa using Array.mem_of_getElem? ht
        have hall : ([39, 24, 24].all fun u => !Tryd.prog.wantsStandIn u) = true := by kernel_rfl
        exact (show Tryd.prog.wantsStandIn t = false by simpa using List.all_eq_true.1 hall t hm)⟩)
    (by kernel_rfl)

end Go.Proofs.YtgbcmkkbhbkfeaaDoor
