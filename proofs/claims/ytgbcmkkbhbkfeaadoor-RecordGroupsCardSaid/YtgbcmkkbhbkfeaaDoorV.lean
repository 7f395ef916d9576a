/- RecordNeeds is true at every int n. The one condition is the row's own: crc.nibbles holds what the program's text lays there (tied). -/
import Derived.Test.YtgbcmkkbhbkfeaaDoorProg
import Derived.Test.YtgbcmkkbhbkfeaaDoorU
import Derived.Test.YtgbcmkkbhbkfeaaDoorRows
import Derived.Test.YtgbcmkkbhbkfeaaDoorTie
import Derived.Test.YtgbcmkkbhbkfeaaDoorCards
import Derived.ProofKit
import Derived.LaidMore
import Derived.OpenShut
import Derived.Stop.Joined
import Derived.SevenTiedAt
namespace Go.Proofs.YtgbcmkkbhbkfeaaDoor
open Go Go.ChangeShapes Go.WideShapes Go.ChangeAt Go.WideMaps Go.WideElems Go.RowKit

theorem own_none : ownKnob Tryd.prog.godebug = none := by kernel_rfl
theorem gNib : Tryd.prog.globalNamed "thatch/crc.nibbles" = some 0 := by kernel_rfl
theorem tNib : (Tryd.prog.globals[0]?).map (·.type) = some 94 := by kernel_rfl

theorem door_met (os : Os) (args : Array Value) : laidMetH Tryd.prog [("thatch/crc.nibbles", Rows.laid_thatch_crc_nibbles)] ((World.doorLaid Tryd.prog 400 os).forCall (fun _ _ => 0) ⟨#[], args, []⟩).memory :=
  laidMetH_of_parts3 (fuel := 8) (laidMet_of_run' 8 (by kernel_rfl) (by kernel_rfl)) (by kernel_rfl) (by kernel_rfl)

theorem of_laid {W : World} (h : laidMetH Tryd.prog [("thatch/crc.nibbles", Rows.laid_thatch_crc_nibbles)] W) : Nibs W := by
  rw [MakeChecks.laidMetH_plain _ _ _ (by kernel_rfl)] at h
  obtain ⟨ps, ⟨g0, t0, cs0, f0, p0, q0, hg0, ht0, hv0, hd0, _⟩, _, _⟩ := h
  obtain rfl := Option.some.inj (gNib.symm.trans hg0)
  obtain rfl := Option.some.inj (tNib.symm.trans ht0)
  obtain ⟨xs, m1, rfl, hx1, hlen, hn3, hel⟩ := DataW.trod_array Tryd.underlying94 hd0
  have c1 : Tryd.prog.cellsOf 84 = 1 := by kernel_rfl
  have hD : (Rows.laid_thatch_crc_nibbles : DataW Unit) = .agg (nibL.map fun n => .lit (.int .u32 n)) := by rfl
  rw [hD] at hx1
  simp only [Prod.mk.injEq, DataW.agg.injEq] at hx1
  have hcell : ∀ k, k < 16 → W.cell? ⟨0, k, none⟩ = some (.int .u32 (nibL[k]?.getD 0)) := fun k hk => by
    obtain ⟨x, hx⟩ : ∃ x, xs[k]? = some x := ⟨_, List.getElem?_eq_getElem (by omega)⟩
    have h1 := hel k hk
    rw [hx] at h1
    obtain ⟨n, e1, e2, _⟩ := DataW.trod_int Tryd.underlying84 h1
    have h2 : (nibL.map fun n => (DataW.lit (.int .u32 n) : DataW Unit))[k]? = some x.1 := by rw [hx1.1, List.getElem?_map, hx]; rfl
    rw [List.getElem?_map] at h2
    obtain ⟨m, hm⟩ : ∃ m, nibL[k]? = some m := ⟨_, List.getElem?_eq_getElem (by simpa [nibL] using hk)⟩
    rw [hm] at h2
    have hmn : m = n := by rw [e2] at h2; simpa using h2
    have hv := World.var?_cell hg0 hv0 k
    rw [hv, hm, hmn]
    rw [c1] at e1
    have h3 : (cs0.toList.drop (k * 1)).take 1 = [.int .u32 n] := e1
    rw [Nat.mul_one] at h3
    have h4 : (cs0.toList.drop k)[0]? = some (.int .u32 n) := by
      have := congrArg (fun l => l[0]?) h3
      simpa using this
    simpa using h4
  exact ⟨cell_lt (hcell 0 (by decide)), hcell⟩

theorem needs_law (n : Int) (w : World) (hn : Nibs w) (hb : n ≤ 9223372036854775807) : Calls Tryd.prog 7 #[.int .i64 n] w fun e w' => e = .returned (.bool true) ∧ Frm no w w' := by
  have hL := Lib.hid (lives_any w hn)
  go_enter Tryd.func7, Tryd.ntmps7
  go_wp2_with (first
    | (go_at_call 8; refine hL.out.mono ?_; rintro e w1 ⟨rfl, hf⟩)
    | (go_at_call 20; refine (needs_any n _ hb).mono ?_; rintro e w' ⟨rfl, rfl⟩)
    | (go_at_call 21; refine (refNeeds_any n _ hb).mono ?_; rintro e w' ⟨rfl, rfl⟩))
  go_ret
  exact ⟨rfl, hf⟩

set_option maxRecDepth 100000 in
theorem recordNeeds_lifted (os : Os) (started : os.Started) (H : Type) (enc : TypeId × Value → H) :
    ReturnsInHanded {} Tryd.checked os 7 .any (fun w args => (Rows.recordNeedsSpec.pre enc Tryd.prog Tryd.f7 [] false w args ∧ laidMetH Tryd.prog [("thatch/crc.nibbles", Rows.laid_thatch_crc_nibbles)] w) ∧ sizedMet enc Tryd.prog Tryd.f7 (OpenSpec.ofChange Rows.recordNeedsSpec) false w args)
      (Rows.recordNeedsSpec.post enc Tryd.prog Tryd.f7 false true false false) := by
  refine returnsInHanded_of_change_and (C := Tryd.checked) (X := fun w _ => laidMetH Tryd.prog [("thatch/crc.nibbles", Rows.laid_thatch_crc_nibbles)] w) (fun _ _ _ hh h => h.of_heap hh) own_none started (by kernel_rfl) Tryd.func7
    (ChangeSpec.witness_shaped (enc := enc) (C := Tryd.checked) (os := os) (X := fun w _ => laidMetH Tryd.prog [("thatch/crc.nibbles", Rows.laid_thatch_crc_nibbles)] w) false (World.doorLaid Tryd.prog 400 os) #[.int .i64 0] 8 rfl (World.shaped_of_RefB (by kernel_rfl) (by kernel_rfl)) (by kernel_rfl) (by kernel_rfl) (by kernel_rfl) (door_met os _)) ?_
  intro W base args ds gs before hval0 hW _ _ hL _
  have hval : ∀ (j : Nat) t v, Tryd.f7.params[j]? = some t → args[j]? = some v → Value.okWide Tryd.prog W .any base t v := hval0
  have hW' := hW
  obtain ⟨p, q, hA0, hV, rfl, hfz, hnd⟩ := hW
  have hA : DataW.TrodAll enc Tryd.prog W 0 (fun _ => true) true Tryd.f7.params.toList args.toList ds p := hA0
  rw [Tryd.params7] at hA hval
  obtain ⟨v0, d0, rfl, rfl, h0⟩ := trodAll_one hA
  obtain ⟨rfl, rfl⟩ := trodVars_none hV
  obtain ⟨n, rfl, rfl, rfl, wn⟩ := open_int Tryd.underlying3 (hval 0 3 v0 rfl rfl) h0
  clear hA0 hval0
  simp only [List.append_nil] at hW'
  have hb : n ≤ 9223372036854775807 := (bounds_i64 wn).2
  refine (needs_law n W (of_laid hL) hb).mono fun e W' ⟨he, hf⟩ => ?_
  subst he
  refine ⟨_, rfl, _, _, _, [], [], [], hW', trodAll_mk1 (shut_bool Tryd.underlying4 _), trodAll_mk1 (shut_int Tryd.underlying3 wn), rfl, hf.below.frame _, fun h => by cases h⟩

theorem recordNeeds_holds : Rows.RecordNeedsSaid :=
  OpenClaim.holds_of_wide 7 Tryd.f7 rfl rfl rfl rfl rfl rfl rfl ⟨rfl, rfl, rfl, rfl, rfl⟩ rfl rfl rfl rfl rfl (by kernel_rfl) Tryd.func7 (by kernel_rfl)
    (of_decide_eq_true (by kernel_rfl)) (by unfold Func.isWrapper; first | (rw [if_pos (by decide +kernel)]; kernel_rfl) | (rw [if_neg (by decide +kernel)]; exact ⟨rfl, rfl⟩))
    (fun os started H enc _ => recordNeeds_lifted os started H enc)

theorem recordNeeds_card_holds : Rows.RecordNeedsCardSaid :=
  Claim7.holds_tied_plain_at .later [] [.data] true (true, "62e831cb14ad68ea0977c642a736a480d5f4bf83bfda6d7fe436fb6884418bb9") false
    recordNeeds_holds (fun _ h => by cases h) (by kernel_rfl) (fun _ h => by cases h) recordNeeds_row_tie rfl ⟨rfl, rfl⟩ (by kernel_rfl) rfl
    (fun f fn hf hfn => by
      obtain rfl : f = 7 := Option.some.inj ((show Tryd.prog.funcNamed "thatch/thatchlaw09.RecordNeeds" = some 7 by kernel_rfl).symm.trans hf) |>.symm
      obtain rfl : fn = Tryd.f7 := (Option.some.inj (Tryd.func7.symm.trans hfn)).symm
      exact ⟨by kernel_rfl, fun j t ht => by
        rw [Tryd.params7] at ht
        have hm : t ∈ [3] := by simpa using Array.mem_of_getElem? ht
        have hall : ([3].all fun u => !Tryd.prog.wantsStandIn u) = true := by kernel_rfl
        exact (show Tryd.prog.wantsStandIn t = false by simpa using List.all_eq_true.1 hall t hm)⟩)
    (by kernel_rfl)

end Go.Proofs.YtgbcmkkbhbkfeaaDoor
