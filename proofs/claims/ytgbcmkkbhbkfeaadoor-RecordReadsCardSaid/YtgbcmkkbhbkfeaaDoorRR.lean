/- The reference's reader (thatchref01). -/
import Derived.Test.YtgbcmkkbhbkfeaaDoorProg
import Derived.Test.YtgbcmkkbhbkfeaaDoorM
import Derived.Test.YtgbcmkkbhbkfeaaDoorWR
namespace Go.Proofs.YtgbcmkkbhbkfeaaDoor
open Go Go.RowKit

/-- block g is the reference's reader with bs left -/
def RR (w : World) (g : Nat) (bs : List Int) (bad : Bool) : Prop :=
  ∃ v, w.heap[g]? = some (.cells #[v, .bool bad] 75 (0, 0)) ∧ Sl e8 1 w v bs ∧ ∀ k, v.ownBlock = some k → k < g
theorem RR.lt {w : World} {g : Nat} {bs : List Int} {bad : Bool} (h : RR w g bs bad) : g < w.heap.size := by
  obtain ⟨v, h1, h2, h3⟩ := h
  exact blk_lt h1
theorem RR.far {S : Nat → Prop} {w w' : World} {g : Nat} {bs : List Int} {bad : Bool} (h : RR w g bs bad) (hf : Frm S w w') (hs : ∀ k, S k → g < k) : RR w' g bs bad := by
  obtain ⟨v, h1, h2, h3⟩ := h
  exact ⟨v, blk_frm h1 hf (fun h => Nat.lt_irrefl _ (hs g h)), h2.frm hf (fun k hk h => by have := h3 k hk; have := hs k h; omega), h3⟩

theorem rBy_oct' {st : St} (h : st.fine) (n : Int) : Oct (rBy st n).1 := by
  unfold rBy
  split
  · exact fun b hb => h.1 b (List.mem_of_mem_take hb)
  · intro b hb; simp at hb
theorem rrbytes_bad (g : Nat) (bs : List Int) (bad : Bool) (n : Int) (w : World) (hr : RR w g bs bad) (hk : rdOk bs bad n = false) :
    Calls Tryd.prog 43 #[.pointer (some ⟨g, 0, none⟩), .int .i64 n] w (Ret fun v' w' => v' = .slice none 0 0 ∧ RR w' g bs true ∧ Frm (· = g) w w') := by
  obtain ⟨v, h1, h2, h3⟩ := hr
  obtain ⟨a, c, rfl⟩ := h2.shape
  have c0 := blk_cell h1 0
  have c1 := blk_cell h1 1
  have f1 := blk_free h1 1
  simp at c0 c1
  have fin : RR (w.setCell ⟨g, 1, none⟩ (.bool true)) g bs true ∧ Frm (· = g) w (w.setCell ⟨g, 1, none⟩ (.bool true)) := by
    have hf : Frm (· = g) w (w.setCell ⟨g, 1, none⟩ (.bool true)) := Frm.setCell (Frm.refl (· = g) w) (p := ⟨g, 1, none⟩) (fun _ => rfl) _
    exact ⟨⟨_, blk_set h1 1 _, h2.frm hf (fun k hk => Nat.ne_of_lt (h3 k hk)), h3⟩, hf⟩
  have HF := Lib.hid fin
  clear fin h1 h2 h3
  cases bad
  · by_cases hn : n < 0
    · clear hk
      go_enter Tryd.func43, Tryd.ntmps43
      go_wp2_with fail
      go_ret
      exact ⟨_, rfl, rfl, HF.out⟩
    · have hn2 : (bs.length : Int) < n := by simp [rdOk] at hk; omega
      clear hk
      go_enter Tryd.func43, Tryd.ntmps43
      go_wp2_with fail
      go_ret
      exact ⟨_, rfl, rfl, HF.out⟩
  · clear hk
    go_enter Tryd.func43, Tryd.ntmps43
    go_wp2_with fail
    go_ret
    exact ⟨_, rfl, rfl, HF.out⟩

theorem rrbytes_ok (g : Nat) (bs : List Int) (n : Nat) (w : World) (hr : RR w g bs false) (hn : n ≤ bs.length) :
    Calls Tryd.prog 43 #[.pointer (some ⟨g, 0, none⟩), .int .i64 n] w (Ret fun v' w' => Sl e8 1 w' v' (bs.take n) ∧ RR w' g (bs.drop n) false ∧ Frm (· = g) w w') := by
  obtain ⟨v, h1, h2, h3⟩ := hr
  obtain ⟨a, c, rfl⟩ := h2.shape
  have c0 := blk_cell h1 0
  have c1 := blk_cell h1 1
  have f0 := blk_free h1 0
  have f1 := blk_free h1 1
  simp at c0 c1
  have hz : decide ((n : Int) < 0) = false := by simp
  have hnc : n ≤ c := by have := h2.cap; omega
  have fin : ∀ u, u = (Value.slice (if c = n then a else a.map (·.add (n * 1))) (bs.length - n) (c - n)) → Sl e8 1 (w.setCell ⟨g, 0, none⟩ u) (.slice a n c) (bs.take n) ∧ RR (w.setCell ⟨g, 0, none⟩ u) g (bs.drop n) false ∧ Frm (· = g) w (w.setCell ⟨g, 0, none⟩ u) := by
    rintro u rfl
    have hw : Frm (· = g) w (w.setCell ⟨g, 0, none⟩ (Value.slice (if c = n then a else a.map (·.add (n * 1))) (bs.length - n) (c - n))) := Frm.setCell (Frm.refl (· = g) w) (p := ⟨g, 0, none⟩) (fun _ => rfl) _
    have h3' : ∀ k, (Value.slice (if c = n then a else a.map (·.add (n * 1))) (bs.length - n) (c - n)).ownBlock = some k → k < g := fun k hk => h3 k (drop_block k hk)
    exact ⟨(h2.frm hw (fun k hk => Nat.ne_of_lt (h3 k hk))).take' n hn, ⟨_, blk_set h1 0 _, (h2.drop' n hn).frm hw (fun k hk => Nat.ne_of_lt (h3' k hk)), h3'⟩, hw⟩
  have HF := Lib.hid fin
  clear fin h1 h2 h3
  by_cases hc : c = n
  · obtain rfl := hc
    go_enter Tryd.func43, Tryd.ntmps43
    go_wp2_with fail
    go_ret
    exact ⟨_, rfl, HF.out _ (by simp)⟩
  · go_enter Tryd.func43, Tryd.ntmps43
    go_wp2_with fail
    go_ret
    exact ⟨_, rfl, HF.out _ (by simp [hc])⟩

theorem rrby_any (g : Nat) (st : St) (n : Int) (w : World) (hr : RR w g st.1 st.2) :
    Calls Tryd.prog 43 #[.pointer (some ⟨g, 0, none⟩), .int .i64 n] w (Ret fun v' w' => Sl e8 1 w' v' (rBy st n).1 ∧ RR w' g (rBy st n).2.1 (rBy st n).2.2 ∧ Frm (· = g) w w') := by
  obtain ⟨bs, bad⟩ := st
  unfold rBy
  dsimp only at hr ⊢
  by_cases h : rdOk bs bad n = true
  · rw [if_pos h]
    simp only [rdOk, Bool.and_eq_true, decide_eq_true_eq, Bool.not_eq_true'] at h
    obtain ⟨⟨rfl, h1⟩, h2⟩ := h
    obtain ⟨k, rfl⟩ := Int.eq_ofNat_of_zero_le h1
    exact rrbytes_ok g bs k w hr (by omega)
  · rw [if_neg h]
    refine (rrbytes_bad g bs bad n w hr (by simpa using h)).mono ?_
    rintro e w' ⟨v', rfl, rfl, h1, h2⟩
    exact ⟨_, rfl, Sl.nil _ _ _, h1, h2⟩

/-- Get as a plain function -/
def rGe (st : St) (n : Int) : Int × St := if isSz n then (num (rBy st n).1, (rBy st n).2) else (0, (st.1, true))

theorem rrget_any (g : Nat) (st : St) (n : Int) (w : World) (hf : st.fine) (hr : RR w g st.1 st.2) :
    Calls Tryd.prog 45 #[.pointer (some ⟨g, 0, none⟩), .int .i64 n] w (Ret fun v' w' => v' = .int .u64 (rGe st n).1 ∧ RR w' g (rGe st n).2.1 (rGe st n).2.2 ∧ Frm (· = g) w w') := by
  cases hz : isSz n
  · have he : rGe st n = (0, (st.1, true)) := by simp [rGe, hz]
    rw [he]
    obtain ⟨v, h1, h2, h3⟩ := hr
    obtain ⟨c0, c1, f0, f1⟩ := blk2 h1
    have hf : Frm (· = g) w (w.setCell ⟨g, 1, none⟩ (.bool true)) := Frm.setCell (Frm.refl (· = g) w) (p := ⟨g, 1, none⟩) (fun _ => rfl) _
    have fin : RR (w.setCell ⟨g, 1, none⟩ (.bool true)) g st.1 true ∧ Frm (· = g) w (w.setCell ⟨g, 1, none⟩ (.bool true)) := ⟨⟨_, blk_set h1 1 _, h2.frm hf (fun k hk => Nat.ne_of_lt (h3 k hk)), h3⟩, hf⟩
    have HF := Lib.hid fin
    have hsz := Lib.hid (fun w => rsize_any n w)
    rw [hz] at hsz
    clear fin hf h1 h2 h3 hz he
    go_enter Tryd.func45, Tryd.ntmps45
    go_wp2_with (go_at_call 59; refine (hsz.out _).mono ?_; rintro e w' ⟨rfl, rfl⟩)
    go_ret
    exact ⟨_, rfl, rfl, HF.out⟩
  · have he : rGe st n = (num (rBy st n).1, (rBy st n).2) := by simp [rGe, hz]
    rw [he]
    have hsz := Lib.hid (fun w => rsize_any n w)
    rw [hz] at hsz
    have hb := Lib.hid (rrby_any g st n w hr)
    have hoT : Oct (rBy st n).1 := rBy_oct' hf n
    have hl8 : (rBy st n).1.length ≤ 8 := by
      unfold rBy
      split
      · simp only [List.length_take]
        simp [isSz] at hz; omega
      · simp
    obtain ⟨q, hq⟩ : ∃ q, rBy st n = q := ⟨_, rfl⟩
    rw [hq] at hb hoT hl8 ⊢
    obtain ⟨T, st'⟩ := q
    dsimp only at hb hoT hl8 ⊢
    have HO := Lib.hid hoT
    have HL := Lib.hid hl8
    clear hz he hr hf hq hoT hl8
    go_enter Tryd.func45, Tryd.ntmps45
    go_wp2_with (first | (go_at_call 59; refine (hsz.out _).mono ?_; rintro e w' ⟨rfl, rfl⟩) | (go_at_call 43; refine hb.out.mono ?_; rintro e w1 ⟨v1, rfl, hs1, hr1, hf1⟩; obtain ⟨a1, n1, rfl⟩ := hs1.shape; have HS := Lib.hid hs1; have HF := Lib.hid (And.intro hr1 hf1); clear hs1 hr1 hf1))
    have hl8 := HL.out
    go_loop [6, 7] (fun x i => ∃ k : Nat, k ≤ T.length ∧ i = .int .i64 k ∧ x = .int .u64 (num (T.take k))) (fun _ i => T.length - (intOf i).toNat)
    case atStart => exact ⟨0, Nat.zero_le _, rfl, rfl⟩
    case round =>
      obtain ⟨k, hk, rfl, rfl⟩ := hrel
      by_cases hlt : k < T.length
      · obtain ⟨b, hb⟩ : ∃ b, T[k]? = some b := ⟨_, List.getElem?_eq_getElem hlt⟩
        obtain ⟨g1, off, rfl, hc⟩ : ∃ g1 off, a1 = some ⟨g1, off, none⟩ ∧ w1.cell? ⟨g1, off + k, none⟩ = some (.int .u8 b) := by
          rcases HS.out.bytes with ⟨h, h0⟩ | ⟨g1, off, c, h, h1, h2, h3, h4⟩
          · rw [h0] at hlt; simp at hlt
          · simp only [Value.slice.injEq, true_and] at h
            obtain ⟨rfl, rfl⟩ := h
            exact ⟨_, _, rfl, h4 k b hb⟩
        have hb2 := HO.out b (List.mem_of_getElem? hb)
        have hbd := num_bd (T.take k) (fun b hb => HO.out b (List.mem_of_mem_take hb))
        rw [List.length_take, Nat.min_eq_left (by omega)] at hbd
        have hs := Lib.hid (num_snoc T k b hb)
        have hor := Lib.hid (or_step (num (T.take k)) b k (by omega) hbd.1 hbd.2 hb2.1 hb2.2)
        clear hb hbd
        generalize num (T.take k) = y at hs hor ⊢
        go_wp2
        go_round
        case rel => exact ⟨k + 1, by omega, by go_num, by rw [hs.out, hor.out]⟩
        case measure => simp [intOf]; omega
      · obtain rfl : k = T.length := by omega
        go_wp2
        go_ret
        exact ⟨_, rfl, rfl, HF.out⟩

theorem rInt_ge (st : St) (n l m : Int) : rInt st n l m = if (rGe st n).2.2 || decide (wrap64 (rGe st n).1 < l) || decide (m < wrap64 (rGe st n).1) then (0, ((rGe st n).2.1, true)) else (wrap64 (rGe st n).1, (rGe st n).2) := by
  obtain ⟨bs, bad⟩ := st
  unfold rInt rGe rBy
  dsimp only
  cases hz : isSz n
  · simp
  · cases hk : rdOk bs bad n
    · simp
    · simp only [Bool.and_self, if_true, Bool.false_or]
      by_cases h1 : l ≤ wrap64 (num (bs.take n.toNat))
      · by_cases h2 : wrap64 (num (bs.take n.toNat)) ≤ m
        · rw [if_pos ⟨h1, h2⟩, if_neg (by simp; omega)]
        · rw [if_neg (fun h => h2 h.2), if_pos (by simp; omega)]
      · rw [if_neg (fun h => h1 h.1), if_pos (by simp; omega)]
theorem rGe_fine {st : St} (h : st.fine) (n : Int) : (rGe st n).2.fine := by
  unfold rGe
  split
  · exact rBy_fine h n
  · exact h

theorem rrint_any (g : Nat) (st : St) (n l m : Int) (w : World) (hf : st.fine) (hr : RR w g st.1 st.2) :
    Calls Tryd.prog 44 #[.pointer (some ⟨g, 0, none⟩), .int .i64 n, .int .i64 l, .int .i64 m] w (Ret fun v' w' => v' = .int .i64 (rInt st n l m).1 ∧ RR w' g (rInt st n l m).2.1 (rInt st n l m).2.2 ∧ Frm (· = g) w w') := by
  have hg := Lib.hid (rrget_any g st n w hf hr)
  rw [rInt_ge]
  obtain ⟨q, hq⟩ : ∃ q, rGe st n = q := ⟨_, rfl⟩
  rw [hq] at hg ⊢
  obtain ⟨x, xs, xb⟩ := q
  dsimp only at hg ⊢
  clear hq hr hf
  obtain ⟨y, hy⟩ : ∃ y, wrap64 x = y := ⟨_, rfl⟩
  have HY := Lib.hid hy
  rw [hy]
  cases xb
  · by_cases h1 : y < l
    · have hc : (if (false || decide (y < l) || decide (m < y)) = true then ((0 : Int), (xs, true)) else (y, (xs, false))) = (0, (xs, true)) := by simp [h1]
      rw [hc]
      clear hc
      go_enter Tryd.func44, Tryd.ntmps44
      go_wp2_with (go_at_call 45; refine hg.out.mono ?_; rintro e w1 ⟨v1, rfl, rfl, hr1, hf1⟩; obtain ⟨vr, hb1, hb2, hb3⟩ := hr1; obtain ⟨c0, c1, f0, f1⟩ := blk2 hb1; have hw : Frm (· = g) w1 (w1.setCell ⟨g, 1, none⟩ (.bool true)) := Frm.setCell (Frm.refl (· = g) w1) (p := ⟨g, 1, none⟩) (fun _ => rfl) _; have HF := Lib.hid (And.intro (show RR (w1.setCell ⟨g, 1, none⟩ (.bool true)) g xs true from ⟨_, blk_set hb1 1 _, hb2.frm hw (fun k hk => Nat.ne_of_lt (hb3 k hk)), hb3⟩) (hf1.trans hw (fun i _ h => h))); clear hb1 hb2 hb3 hw hf1)
      all_goals
        go_ret
        exact ⟨_, rfl, rfl, HF.out⟩
    · by_cases h2 : m < y
      · have hc : (if (false || decide (y < l) || decide (m < y)) = true then ((0 : Int), (xs, true)) else (y, (xs, false))) = (0, (xs, true)) := by simp [h2]
        rw [hc]
        clear hc
        go_enter Tryd.func44, Tryd.ntmps44
        go_wp2_with (go_at_call 45; refine hg.out.mono ?_; rintro e w1 ⟨v1, rfl, rfl, hr1, hf1⟩; obtain ⟨vr, hb1, hb2, hb3⟩ := hr1; obtain ⟨c0, c1, f0, f1⟩ := blk2 hb1; have hw : Frm (· = g) w1 (w1.setCell ⟨g, 1, none⟩ (.bool true)) := Frm.setCell (Frm.refl (· = g) w1) (p := ⟨g, 1, none⟩) (fun _ => rfl) _; have HF := Lib.hid (And.intro (show RR (w1.setCell ⟨g, 1, none⟩ (.bool true)) g xs true from ⟨_, blk_set hb1 1 _, hb2.frm hw (fun k hk => Nat.ne_of_lt (hb3 k hk)), hb3⟩) (hf1.trans hw (fun i _ h => h))); clear hb1 hb2 hb3 hw hf1)
        all_goals
          go_ret
          exact ⟨_, rfl, rfl, HF.out⟩
      · have hc : (if (false || decide (y < l) || decide (m < y)) = true then ((0 : Int), (xs, true)) else (y, (xs, false))) = (y, (xs, false)) := by simp [h1, h2]
        rw [hc]
        clear hc
        go_enter Tryd.func44, Tryd.ntmps44
        go_wp2_with (go_at_call 45; refine hg.out.mono ?_; rintro e w1 ⟨v1, rfl, rfl, hr1, hf1⟩; have HF := Lib.hid (And.intro hr1 hf1); obtain ⟨vr, hb1, hb2, hb3⟩ := hr1; obtain ⟨c0, c1, f0, f1⟩ := blk2 hb1; clear hb1 hb2 hb3 hf1)
        all_goals
          go_ret
          exact ⟨_, rfl, rfl, HF.out⟩
  · have hc : (if (true || decide (y < l) || decide (m < y)) = true then ((0 : Int), (xs, true)) else (y, (xs, true))) = (0, (xs, true)) := by simp
    rw [hc]
    clear hc
    go_enter Tryd.func44, Tryd.ntmps44
    go_wp2_with (go_at_call 45; refine hg.out.mono ?_; rintro e w1 ⟨v1, rfl, rfl, hr1, hf1⟩; obtain ⟨vr, hb1, hb2, hb3⟩ := hr1; obtain ⟨c0, c1, f0, f1⟩ := blk2 hb1; have hw : Frm (· = g) w1 (w1.setCell ⟨g, 1, none⟩ (.bool true)) := Frm.setCell (Frm.refl (· = g) w1) (p := ⟨g, 1, none⟩) (fun _ => rfl) _; have HF := Lib.hid (And.intro (show RR (w1.setCell ⟨g, 1, none⟩ (.bool true)) g xs true from ⟨_, blk_set hb1 1 _, hb2.frm hw (fun k hk => Nat.ne_of_lt (hb3 k hk)), hb3⟩) (hf1.trans hw (fun i _ h => h))); clear hb1 hb2 hb3 hw hf1)
    all_goals
      go_ret
      exact ⟨_, rfl, rfl, HF.out⟩

theorem rrdone_any (g : Nat) (bs : List Int) (bad : Bool) (w : World) (hl : bs.length ≤ 140737488355328) (hr : RR w g bs bad) :
    Calls Tryd.prog 46 #[.pointer (some ⟨g, 0, none⟩)] w fun e w' => e = .returned (.bool (!(bad || decide (∃ b ∈ bs, b ≠ 0)))) ∧ w = w' := by
  obtain ⟨v, h1, h2, h3⟩ := hr
  obtain ⟨a, c, rfl⟩ := h2.shape
  obtain ⟨c0, c1, f0, f1⟩ := blk2 h1
  have H2 := Lib.hid h2
  clear h1 h2 h3 f0 f1
  obtain ⟨R, hR⟩ : ∃ R, Hid ((!(bad || decide (∃ b ∈ bs, b ≠ 0))) = R) := ⟨_, rfl⟩
  rw [hR.out]
  go_enter Tryd.func46, Tryd.ntmps46
  go_wp2
  go_loop [3] (fun i => ∃ k : Nat, k ≤ bs.length ∧ i = .int .i64 k ∧ Hid (∀ b ∈ bs.take k, b = 0)) (fun i => bs.length - (intOf i).toNat)
  case atStart => exact ⟨0, Nat.zero_le _, rfl, by intro b hb; simp at hb⟩
  case round =>
    obtain ⟨k, hk, rfl, HZ⟩ := hrel
    by_cases hlt : k < bs.length
    · obtain ⟨b, hb⟩ : ∃ b, bs[k]? = some b := ⟨_, List.getElem?_eq_getElem hlt⟩
      obtain ⟨g1, off, rfl, hc⟩ : ∃ g1 off, a = some ⟨g1, off, none⟩ ∧ w.cell? ⟨g1, off + k, none⟩ = some (.int .u8 b) := by
        rcases H2.out.bytes with ⟨h, h0⟩ | ⟨g1, off, c, h, h1, h2, h3, h4⟩
        · rw [h0] at hlt; simp at hlt
        · simp only [Value.slice.injEq, true_and] at h
          obtain ⟨rfl, rfl⟩ := h
          exact ⟨_, _, rfl, h4 k b hb⟩
      have HB := Lib.hid hb
      clear hb
      go_wp2
      · have hbn : (b != 0) = true := by assumption
        go_ret
        refine ⟨?_, rfl⟩
        have : R = false := by
          rw [← hR.out]
          have : decide (∃ b ∈ bs, b ≠ 0) = true := decide_eq_true ⟨b, List.mem_of_getElem? HB.out, by simpa using hbn⟩
          rw [this]; simp
        rw [this]; rfl
      · have hbn : (b != 0) = false := by assumption
        go_round
        case rel => exact ⟨k + 1, by omega, by go_num, by rw [List.take_add_one, HB.out]; intro x hx; simp at hx hbn; rcases hx with hx | hx; exact HZ.out x hx; rw [hx]; exact hbn⟩
        case measure => simp [intOf]; omega
    · obtain rfl : k = bs.length := by omega
      go_wp2
      go_ret
      refine ⟨?_, rfl⟩
      have : R = !bad := by
        rw [← hR.out]
        have : decide (∃ b ∈ bs, b ≠ 0) = false := by
          rw [decide_eq_false_iff_not]
          rintro ⟨b, hb, hn⟩
          exact hn (HZ.out b (by rw [List.take_length]; exact hb))
        rw [this]; simp
      rw [this]; rfl

end Go.Proofs.YtgbcmkkbhbkfeaaDoor
