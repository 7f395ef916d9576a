/- lives: the sentence that each statement asks besides. -/
import Derived.Test.YtgbcmkkbhbkfeaaDoorProg
import Derived.Test.YtgbcmkkbhbkfeaaDoorT
import Derived.Lib.QuietBelow
namespace Go.Proofs.YtgbcmkkbhbkfeaaDoor
open Go Go.RowKit

def dA : Dl := ⟨1, 5, 2, 3, 1⟩
def dB : Dl := ⟨3, 1, 0, 255, 0⟩
def livesB : List Int := sealL (pad 124 (recB 1 9 true 4 [dA, dB]))
theorem lives_dec : dec livesB = some (1, 9, true, 4, [dA, dB]) := by decide +kernel
theorem lives_oct : Oct livesB := by
  have h : livesB.all (fun b => decide (0 ≤ b) && decide (b < 256)) = true := by decide +kernel
  intro b hb
  have := List.all_eq_true.1 h b hb
  simpa using this
theorem lives_len : livesB.length = 128 := by decide +kernel
theorem lives_group : groupL [dA, dB] 1 9 4 = [(1, 9, true, 4, [dA, dB])] := by decide +kernel

theorem quiet_of {P : Program} {f : FuncId} {args : Array Value} {w : World} {d : Nat} {os : Array Obj} {v : Value}
    (h : Calls P f args (Sort.grow (redrawn w d) os) (Ret fun v' w' => v' = v ∧ Frm no (Sort.grow (redrawn w d) os) w')) : Calls P f args (Sort.grow (redrawn w d) os) fun e w'' => e = .returned v ∧ ∃ p : Regrown, w'' = Sort.grow (redrawn w p.d) p.os :=
  Calls.regrown_of (h.mono (by rintro e w' ⟨_, rfl, rfl, hf⟩; exact ⟨rfl, hf.below⟩))
theorem grow_frm (w : World) (d : Nat) (os : Array Obj) : Frm no w (Sort.grow (redrawn w d) os) := Frm.of_below (below_regrown w d os)

theorem one_rec {rs : List Rc} {e s u : Int} {c : Bool} {ds : List Dl} (h : rs.map Rc.d = [(e, s, c, u, ds)]) : ∃ v, rs = [⟨e, s, c, u, v, ds⟩] := by
  cases rs with
  | nil => simp at h
  | cons r tl =>
    cases tl with
    | cons q tl => simp at h
    | nil =>
      obtain ⟨e', s', c', u', v, ds'⟩ := r
      simp only [List.map_cons, List.map_nil, Rc.d, List.cons.injEq, Prod.mk.injEq, and_true] at h
      obtain ⟨rfl, rfl, rfl, rfl, rfl⟩ := h
      exact ⟨v, rfl⟩
theorem rc_of_d {r : Rc} {e s u : Int} {c : Bool} {ds : List Dl} (h : r.d = (e, s, c, u, ds)) : ∃ v, r = ⟨e, s, c, u, v, ds⟩ := by
  obtain ⟨e', s', c', u', v, ds'⟩ := r
  simp only [Rc.d, Prod.mk.injEq] at h
  obtain ⟨rfl, rfl, rfl, rfl, rfl⟩ := h
  exact ⟨v, rfl⟩

theorem lives_join (v v1 : Value) (W : World) (hv : Sl eR 5 W v [(⟨1, 9, true, 4, v1, [dA, dB]⟩ : Rc)]) (h1 : Sl eD 5 W v1 [dA, dB]) :
    Calls Tryd.prog 24 #[v] W (Ret fun v' w' => ∃ u, v' = .tuple #[u, .bool true] ∧ Sl eD 5 w' u [dA, dB] ∧ Frm no W w') := by
  refine (join_ok v [(⟨1, 9, true, 4, v1, [dA, dB]⟩ : Rc)] W (by simp) hv (fun r hr => ?_) (by simp) ?_ ⟨_, rfl, rfl⟩).mono ?_
  · rw [List.mem_singleton] at hr
    subst hr
    exact ⟨h1, by simp⟩
  · intro k a b h1 h2
    simp at h2
  · intro e w' h
    simpa using h

set_option maxHeartbeats 1000000 in
theorem lives_any (w : World) (hn : Nibs w) : Calls Tryd.prog 8 #[] w fun e w' => e = .returned (.bool true) ∧ Frm no w w' := by
  have hrow := blk_new w (.cells #[.int .i64 1, .int .i64 5, .int .i64 2, .int .i64 3, .int .i64 1, .int .i64 3, .int .i64 1, .int .i64 0, .int .i64 255, .int .i64 0] 39)
  have hs0 : Sl eD 5 (w.alloc (.cells #[.int .i64 1, .int .i64 5, .int .i64 2, .int .i64 3, .int .i64 1, .int .i64 3, .int .i64 1, .int .i64 0, .int .i64 255, .int .i64 0] 39)) (.slice (some ⟨w.heap.size, 0, none⟩) 2 2) [dA, dB] :=
    Sl.of_blk (more := []) (xs := [dA, dB]) eD_len hrow rfl (Nat.le_refl _) (by decide)
  have hg := Lib.hid (group_ok _ [dA, dB] 1 9 4 _ (by decide) hs0 (by decide) (by decide) (by decide) (by decide))
  have hf0 := Lib.hid ((Frm.refl no w).alloc (.cells #[.int .i64 1, .int .i64 5, .int .i64 2, .int .i64 3, .int .i64 1, .int .i64 3, .int .i64 1, .int .i64 0, .int .i64 255, .int .i64 0] 39))
  have hN := Lib.hid hn
  clear hs0 hrow hn
  go_enter Tryd.func8, Tryd.ntmps8
  obtain ⟨bs, hbs⟩ : ∃ bs, Hid (livesB = bs) := ⟨_, rfl⟩
  have hbl := Lib.hid lives_len
  have hbo := Lib.hid lives_oct
  have hbd := Lib.hid lives_dec
  rw [hbs.out] at hbl hbo hbd
  have hl2 : [dA, dB].length ≤ 140737488355328 := by decide
  have hmy : mayR 1 9 4 [dA, dB] = true := by decide +kernel
  have henc := Lib.hid (fun v W (hv : Sl eD 5 W v [dA, dB]) (h : Frm no w W) => encode_ok ⟨1, 9, true, 4, v, [dA, dB]⟩ W ⟨hv, hl2⟩ hmy (hN.out.below h))
  have hbs' : Hid (sealL (pad 124 (recB 1 9 true 4 [dA, dB])) = bs) := hbs.out
  dsimp only [Rc.val] at henc
  clear hmy
  have HL2 := Lib.hid hl2
  clear hl2
  rw [hbs'.out] at henc
  go_wp2_with (first
    | (go_at_call 19; refine hg.out.mono ?_; rintro e w1 ⟨_, rfl, u, rs, rfl, hu, hok, hmap, hf1⟩; rw [lives_group] at hmap; obtain ⟨v1, rfl⟩ := one_rec hmap; have hv1 := (hok _ (List.mem_singleton.2 rfl)).1; dsimp only at hv1; obtain ⟨a1, c1, rfl⟩ := hv1.shape; rcases hu with ⟨_, h⟩ | ⟨gr, off, cr, rfl, h1, h2, h3, h4⟩; cases h; have hu : Sl eR 5 w1 (.slice (some ⟨gr, off, none⟩) 1 cr) [(⟨1, 9, true, 4, .slice a1 2 c1, [dA, dB]⟩ : Rc)] := .inr ⟨gr, off, cr, rfl, h1, h2, h3, h4⟩; obtain ⟨e0, e1, e2, e3, e4⟩ := hu.rec_ (k := 0) rfl; simp only [Nat.zero_mul, Nat.add_zero] at e0 e1 e2 e3 e4; have HU := Lib.hid hu; have HV1 := Lib.hid hv1; have HF1 := Lib.hid (hf0.out.trans_no hf1); have h1' : 1 ≤ cr := h1; clear hu hv1 hok hmap hf1 h1 h2 h3 h4 hg)
    | (go_at_call 9; refine (henc.out _ _ HV1.out HF1.out).mono ?_; rintro e w2 ⟨_, rfl, x, rfl, hx, hf2⟩; obtain ⟨ax, cx, rfl⟩ := hx.shape; have HX := Lib.hid hx; have HF2 := Lib.hid hf2; clear hx hf2)
    | (go_at_call 12; refine (decode_any _ bs _ (by rw [hbl.out]; decide) HX.out hbo.out (hN.out.below (HF1.out.trans_no HF2.out))).mono ?_; rintro e w3 ⟨_, rfl, r3, er, rfl, hr3, hf3, hee, hrd⟩; rw [hbd.out] at hee hrd; dsimp only [Option.isSome, Option.getD] at hrd; obtain ⟨v3, rfl⟩ := rc_of_d hrd; obtain rfl : er = 0 := hee; have hr31 := hr3.1; dsimp only at hr31; obtain ⟨a3, c3, rfl⟩ := hr31.shape; clear hr31; have HR3 := Lib.hid hr3; have HF3 := Lib.hid hf3; have HJ : Hid True := trivial; clear hr3 hf3 hrd; dsimp only [Rc.val])
    | (go_at_call 24; clear HJ; refine (lives_join _ _ _ (HU.out.below ((HF2.out.trans_no HF3.out).alloc _)) (HV1.out.below ((HF2.out.trans_no HF3.out).alloc _))).mono ?_; rintro e w4 ⟨_, rfl, u4, rfl, hu4, hf4⟩; obtain ⟨a4, c4, rfl⟩ := hu4.shape; have HF4 := Lib.hid hf4; clear hu4 hf4)
    | (go_at_call 24; refine (join_nil _).mono ?_; rintro e w' ⟨rfl, rfl⟩))
  have F14 : Frm no w1 w4 := ((HF2.out.trans_no HF3.out).alloc (.cells #[.int .i64 1, .int .i64 9, .bool true, .int .i64 4, .slice a3 2 c3] 24)).trans_no HF4.out
  have F34 : Frm no w3 w4 := ((Frm.refl no w3).alloc (.cells #[.int .i64 1, .int .i64 9, .bool true, .int .i64 4, .slice a3 2 c3] 24)).trans_no HF4.out
  have hb6 := blk_frm (blk_new w3 (.cells #[.int .i64 1, .int .i64 9, .bool true, .int .i64 4, .slice a3 2 c3] 24)) HF4.out (fun h => h)
  have F4 : Hid (Frm no w w4) := HF1.out.trans_no F14
  have q0 : ∀ d os, (Sort.grow (redrawn w4 d) os).cell? ⟨gr, off, none⟩ = some (.int .i64 1) := fun d os => cell_regrown (F14.cell_is (p := ⟨gr, off, none⟩) (fun h => h) e0) d os
  have q1 : ∀ d os, (Sort.grow (redrawn w4 d) os).cell? ⟨gr, off + 1, none⟩ = some (.int .i64 9) := fun d os => cell_regrown (F14.cell_is (p := ⟨gr, off + 1, none⟩) (fun h => h) e1) d os
  have q2 : ∀ d os, (Sort.grow (redrawn w4 d) os).cell? ⟨gr, off + 2, none⟩ = some (.bool true) := fun d os => cell_regrown (F14.cell_is (p := ⟨gr, off + 2, none⟩) (fun h => h) e2) d os
  have q3 : ∀ d os, (Sort.grow (redrawn w4 d) os).cell? ⟨gr, off + 3, none⟩ = some (.int .i64 4) := fun d os => cell_regrown (F14.cell_is (p := ⟨gr, off + 3, none⟩) (fun h => h) e3) d os
  have q4 : ∀ d os, (Sort.grow (redrawn w4 d) os).cell? ⟨gr, off + 4, none⟩ = some (.slice a1 2 c1) := fun d os => cell_regrown (F14.cell_is (p := ⟨gr, off + 4, none⟩) (fun h => h) e4) d os
  obtain ⟨x0, x1, x2, x3, x4⟩ := blk5 hb6
  have p0 := fun d os => cell_regrown x0 d os
  have p1 := fun d os => cell_regrown x1 d os
  have p2 := fun d os => cell_regrown x2 d os
  have p3 := fun d os => cell_regrown x3 d os
  have p4 := fun d os => cell_regrown x4 d os
  have hl2 := HL2.out
  have hok3 : ∀ d os, Rc.ok (Sort.grow (redrawn w4 d) os) ⟨1, 9, true, 4, .slice a3 2 c3, [dA, dB]⟩ := fun d os => ⟨HR3.out.1.below (F34.trans_no (grow_frm w4 d os)), hl2⟩
  have hok1 : ∀ d os, Rc.ok (Sort.grow (redrawn w4 d) os) ⟨1, 9, true, 4, .slice a1 2 c1, [dA, dB]⟩ := fun d os => ⟨HV1.out.below (F14.trans_no (grow_frm w4 d os)), hl2⟩
  have hs1 : sameR ⟨1, 9, true, 4, .slice a3 2 c3, [dA, dB]⟩ ⟨1, 9, true, 4, .slice a1 2 c1, [dA, dB]⟩ = true := by simp [sameR]
  have hs2 : sameR ⟨1, 9, true, 4, .slice a3 2 c3, [dA, dB]⟩ ⟨1, 9, true, 4, .slice a3 2 c3, [dA, dB]⟩ = true := by simp [sameR]
  have cS := Lib.hid (fun d os => quiet_of (by have h := refSameR_any _ _ _ (hok3 d os) (hok1 d os); rw [hs1] at h; exact h))
  have cT := Lib.hid (fun d os => quiet_of (by have h := sameR_any _ _ _ (hok3 d os) (hok3 d os); rw [hs2] at h; exact h))
  have cN := Lib.hid (fun d os => quiet_of (P := Tryd.prog) (f := 20) (args := #[.int .i64 7]) (w := w4) (d := d) (os := os) (v := .int .i64 2) ((needs_any 7 _ (by decide)).mono (by rintro e w' ⟨rfl, rfl⟩; exact ⟨_, rfl, rfl, Frm.refl _ _⟩)))
  have cM := Lib.hid (fun d os => quiet_of (P := Tryd.prog) (f := 16) (args := #[.agg #[.int .i64 0, .int .i64 0, .int .i64 0, .int .i64 0, .int .i64 0]]) (w := w4) (d := d) (os := os) (v := .bool false) ((mayDelta_any ⟨0, 0, 0, 0, 0⟩ _).mono (by rintro e w' ⟨rfl, hf⟩; exact ⟨_, rfl, rfl, hf⟩)))
  dsimp only [Rc.val] at cS cT
  clear x0 x1 x2 x3 x4 e0 e1 e2 e3 e4 hok3 hok1 hs1 hs2 hl2 hb6 F14 F34
  refine wp_region_quiet_below (by kernel_rfl) (by kernel_rfl) ?_
  repeat (quiet_step (first | (go_at_call 14; exact cS.out _ _) | (go_at_call 18; exact cT.out _ _) | (go_at_call 20; exact cN.out _ _) | (go_at_call 16; exact cM.out _ _)))
  refine wpQuiet_nil ?_
  intro _ hw'
  obtain ⟨⟨dq, osq⟩, hw''⟩ := hw'
  subst hw''
  go_wp2
  go_ret
  exact ⟨rfl, F4.out.trans_no (grow_frm w4 dq osq)⟩

end Go.Proofs.YtgbcmkkbhbkfeaaDoor
