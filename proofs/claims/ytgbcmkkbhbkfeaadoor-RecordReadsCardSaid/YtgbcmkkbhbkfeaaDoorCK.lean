/- The reference's Check is the program's. -/
import Derived.Test.YtgbcmkkbhbkfeaaDoorProg
import Derived.Test.YtgbcmkkbhbkfeaaDoorSE
import Derived.Test.YtgbcmkkbhbkfeaaDoorBS
import Derived.Deep.RegionHeld3
namespace Go.Proofs.YtgbcmkkbhbkfeaaDoor
open Go Go.RowKit

theorem sealL_len (bs : List Int) (h : bs.length = 124) : sealL bs = (List.range 4).map (sb (crcOn 0 bs)) ++ bs := by simp [sealL, h]
theorem chk_iff (bs : List Int) (h : bs.length = 128) : chk bs = decide (sealL (bs.drop 4) = bs) := by
  have hd : (bs.drop 4).length = 124 := by rw [List.length_drop, h]
  rw [Bool.eq_iff_iff, decide_eq_true_eq, sealL_len _ hd]
  obtain ⟨a, b, c, d, l, rfl⟩ : ∃ a b c d l, bs = a :: b :: c :: d :: l := by
    match bs, h with
    | a :: b :: c :: d :: l, _ => exact ⟨a, b, c, d, l, rfl⟩
  simp only [List.drop_succ_cons, List.drop_zero] at hd ⊢
  have hr : (List.range 4).map (sb (crcOn 0 l)) = [sb (crcOn 0 l) 0, sb (crcOn 0 l) 1, sb (crcOn 0 l) 2, sb (crcOn 0 l) 3] := rfl
  rw [hr]
  simp only [chk, List.drop_succ_cons, List.drop_zero, h, beq_self_eq_true, Bool.true_and]
  have hr4 : List.range 4 = [0, 1, 2, 3] := rfl
  rw [hr4]
  simp only [List.all_cons, List.all_nil]
  simp only [Bool.and_true, Bool.and_eq_true, beq_iff_eq, List.getElem?_cons_zero, List.getElem?_cons_succ, Option.some.injEq, List.cons_append, List.nil_append, List.cons.injEq, and_true]
  exact ⟨fun ⟨h0, h1, h2, h3⟩ => ⟨h0.symm, h1.symm, h2.symm, h3.symm⟩, fun ⟨h0, h1, h2, h3⟩ => ⟨h0.symm, h1.symm, h2.symm, h3.symm⟩⟩
theorem sealL_oct {bs : List Int} (h : Oct bs) : Oct (sealL bs) := by
  intro b hb
  simp only [sealL, List.mem_append, List.mem_map, List.mem_replicate] at hb
  rcases hb with ⟨k, _, rfl⟩ | hb | hb
  · unfold sb; omega
  · exact h b hb
  · rw [hb.2]; omega

theorem refCheck_any (v : Value) (bs : List Int) (w : World) (hv : Sl e8 1 w v bs) (ho : Oct bs) :
    Calls Tryd.prog 42 #[v] w (Ret fun v' w' => v' = .bool (chk bs) ∧ Frm no w w') := by
  obtain ⟨a, c, rfl⟩ := hv.shape
  by_cases h128 : bs.length = 128
  · have hd := hv.drop' 4 (by omega)
    rcases hv.bytes with ⟨h, h0⟩ | ⟨g, off, c', h, h1, h2, h3, h4⟩
    · rw [h0] at h128; simp at h128
    · have hc : ¬ c = 4 := by have := hv.cap; omega
      simp only [Value.slice.injEq, true_and] at h
      obtain ⟨rfl, rfl⟩ := h
      rw [if_neg hc, h128] at hd
      simp only [Option.map_some, Addr.add_lit] at hd
      have H1 := Lib.hid h128
      have HV := Lib.hid (fun W (h : Frm no w W) => hv.below h)
      rw [h128] at HV ⊢
      have hs := Lib.hid (fun W (h : Frm no w W) => refSeal_any _ (bs.drop 4) W (by rw [List.length_drop, H1.out]; decide) (hd.below h) (fun b hb => ho b (List.mem_of_mem_drop hb)))
      have hso := Lib.hid (sealL_oct (bs := bs.drop 4) (fun b hb => ho b (List.mem_of_mem_drop hb)))
      have HO := Lib.hid ho
      have hck := chk_iff bs h128
      obtain ⟨S, hS⟩ : ∃ S, sealL (bs.drop 4) = S := ⟨_, rfl⟩
      rw [hS] at hck hs hso
      rw [hck]
      have heq : ((strOfNums S).toList == (strOfNums bs).toList) = decide (S = bs) := strOfNums_eq hso.out HO.out
      generalize hq : decide (S = bs) = q at heq ⊢
      have HQ := Lib.hid heq
      clear h1 h2 h3 h4 hv h128 hd ho hck hS hq
      go_enter Tryd.func42, Tryd.ntmps42
      go_wp2
      refine wp_region_held_drew (S := (fun w' => Frm no w w')) (by kernel_rfl) (Frm.refl no w).drew (fun hHeld => ?_)
      refine wpAnyH_take (i := 0) (oi := ⟨some 3, _, _, _, _, _⟩) (v := ?_) rfl (by kernel_rfl) (by kernel_rfl) (by kernel_rfl) (fun _ _ _ h => h) (Or.inl ⟨by rfl, ?_⟩) (by assumption) ?_
      rotate_left
      · (intro w hSw; (try dsimp only at hSw); have hcv := (HV.out _ hSw).str; go_simp; try with_reducible rfl)
      try simp only [Act.put, List.setIfInBounds_toArray, List.set_cons_zero, List.set_cons_succ]
      refine wpAnyH_take (i := 1) (oi := ⟨some 4, _, _, _, _, _⟩) (v := ?_) rfl (by kernel_rfl) (by kernel_rfl) (by kernel_rfl) (fun _ _ _ h => h) (Or.inl ⟨by rfl, ?_⟩) (by assumption) ?_
      rotate_left
      · (intro w hSw; (try dsimp only at hSw); have hcv := (HV.out _ hSw).str; go_simp; try with_reducible rfl)
      try simp only [Act.put, List.setIfInBounds_toArray, List.set_cons_zero, List.set_cons_succ]
      refine wpAnyH_take (i := 2) (oi := ⟨some 5, _, _, _, _, _⟩) (v := ?_) rfl (by kernel_rfl) (by kernel_rfl) (by kernel_rfl) (fun _ _ _ h => h) (Or.inl ⟨by rfl, ?_⟩) (by assumption) ?_
      rotate_left
      · (intro w hSw; (try dsimp only at hSw); have hcv := (HV.out _ hSw).str; go_simp; try with_reducible rfl)
      try simp only [Act.put, List.setIfInBounds_toArray, List.set_cons_zero, List.set_cons_succ]
      refine wpAnyH_take (i := 3) (oi := ⟨some 6, _, _, _, _, _⟩) (v := ?_) rfl (by kernel_rfl) (by kernel_rfl) (by kernel_rfl) (fun _ _ _ h => h) (Or.inl ⟨by rfl, ?_⟩) (by assumption) ?_
      rotate_left
      · (intro w hSw; (try dsimp only at hSw); have hcv := (HV.out _ hSw).str; go_simp; try with_reducible rfl)
      try simp only [Act.put, List.setIfInBounds_toArray, List.set_cons_zero, List.set_cons_succ]
      refine wpAnyH_take (i := 4) (oi := ⟨some 7, _, _, _, _, _⟩) (v := ?_) rfl (by kernel_rfl) (by kernel_rfl) (by kernel_rfl) (fun _ _ _ h => h) (Or.inl ⟨by rfl, ?_⟩) (by assumption) ?_
      rotate_left
      · (intro w hSw; (try dsimp only at hSw); have hcv := (HV.out _ hSw).str; go_simp; try with_reducible rfl)
      try simp only [Act.put, List.setIfInBounds_toArray, List.set_cons_zero, List.set_cons_succ]
      refine wpAnyH_take (i := 5) (oi := ⟨some 8, _, _, _, _, _⟩) (v := ?_) rfl (by kernel_rfl) (by kernel_rfl) (by kernel_rfl) (fun _ _ _ h => h) (Or.inl ⟨by rfl, ?_⟩) (by assumption) ?_
      rotate_left
      · (intro w hSw; (try dsimp only at hSw); have hcv := (HV.out _ hSw).str; go_simp; try with_reducible rfl)
      try simp only [Act.put, List.setIfInBounds_toArray, List.set_cons_zero, List.set_cons_succ]
      refine wpAnyH_take (i := 8) (oi := ⟨some 11, _, _, _, _, _⟩) (v := ?_) rfl (by kernel_rfl) (by kernel_rfl) (by kernel_rfl) (fun _ _ _ h => h) (Or.inl ⟨by rfl, ?_⟩) (by assumption) ?_
      rotate_left
      · (intro w hSw; (try dsimp only at hSw); have hcv := (HV.out _ hSw).str; go_simp; try with_reducible rfl)
      try simp only [Act.put, List.setIfInBounds_toArray, List.set_cons_zero, List.set_cons_succ]
      refine wpAnyH_take (i := 9) (oi := ⟨some 12, _, _, _, _, _⟩) (v := ?_) rfl (by kernel_rfl) (by kernel_rfl) (by kernel_rfl) (fun _ _ _ h => h) (Or.inl ⟨by rfl, ?_⟩) (by assumption) ?_
      rotate_left
      · (intro w hSw; (try dsimp only at hSw); have hcv := (HV.out _ hSw).str; go_simp; try with_reducible rfl)
      try simp only [Act.put, List.setIfInBounds_toArray, List.set_cons_zero, List.set_cons_succ]
      refine wpAnyH_ready (rs := [6]) (by kernel_rfl) (by simp) ?_
      refine AllReadyH.cons (o := ⟨some 9, _, _, _, _, _⟩) rfl (fun K hK => ?_) AllReadyH.nil
      go_simp
      refine (hs.out _ hHeld).mono ?_
      rintro e' w5 ⟨v5, rfl, hs5, hb5, hf5⟩
      simp only []
      obtain ⟨a5, c5, hv5⟩ := hs5.shape
      subst hv5
      refine hK.out _ _ (hHeld.trans_no hf5) (fun hHeld => ?_)
      have hcv2 := hs5.str
      clear hf5 hb5
      clear hK K
      refine wpAnyH_ready (rs := [7]) (by kernel_rfl) (by simp) ?_
      refine AllReadyH.cons (o := ⟨some 10, _, _, _, _, _⟩) rfl (fun K hK => ?_) AllReadyH.nil
      go_simp
      skip
      refine hK.out _ _ hHeld (fun hHeld => ?_)
      clear hcv2
      have heq := HQ.out
      clear hK K
      refine wpAnyH_take (i := 10) (oi := ⟨some 13, _, _, _, _, _⟩) (v := ?_) rfl (by kernel_rfl) (by kernel_rfl) (by kernel_rfl) (fun _ _ _ h => h) (Or.inl ⟨by rfl, ?_⟩) (by assumption) ?_
      rotate_left
      · (intro w hSw; (try dsimp only at hSw); have hcv := (HV.out _ hSw).str; go_simp; try with_reducible rfl)
      try simp only [Act.put, List.setIfInBounds_toArray, List.set_cons_zero, List.set_cons_succ]
      refine wpAnyH_take (i := 11) (oi := ⟨some 14, _, _, _, _, _⟩) (v := ?_) rfl (by kernel_rfl) (by kernel_rfl) (by kernel_rfl) (fun _ _ _ h => h) (Or.inl ⟨by rfl, ?_⟩) (by assumption) ?_
      rotate_left
      · (intro w hSw; (try dsimp only at hSw); have hcv := (HV.out _ hSw).str; go_simp; try with_reducible rfl)
      try simp only [Act.put, List.setIfInBounds_toArray, List.set_cons_zero, List.set_cons_succ]
      refine wpAnyH_take (i := 12) (oi := ⟨some 2, _, _, _, _, _⟩) (v := ?_) rfl (by kernel_rfl) (by kernel_rfl) (by kernel_rfl) (fun _ _ _ h => h) (Or.inl ⟨by rfl, ?_⟩) (by assumption) ?_
      rotate_left
      · (intro w hSw; (try dsimp only at hSw); have hcv := (HV.out _ hSw).str; go_simp; try with_reducible rfl)
      try simp only [Act.put, List.setIfInBounds_toArray, List.set_cons_zero, List.set_cons_succ]
      refine wpAnyH_done (by kernel_rfl) ?_ _
      have HE := Lib.hid hHeld
      go_wp2_with fail
      go_ret
      exact ⟨_, rfl, rfl, HE.out⟩
  · have hf : chk bs = false := by unfold chk; simp [h128]
    have hn2 : ((bs.length : Int) == 128) = false := by simp; omega
    rw [hf]
    clear hf hv
    go_enter Tryd.func42, Tryd.ntmps42
    go_wp2
    go_quiet (fail)
    go_wp2
    go_ret
    exact ⟨_, rfl, rfl, (Frm.refl _ _).drewN _⟩

end Go.Proofs.YtgbcmkkbhbkfeaaDoor
