/- The reader of layer 1 (le): what it holds, and its calls. -/
import Derived.Test.YtgbcmkkbhbkfeaaDoorProg
import Derived.Test.YtgbcmkkbhbkfeaaDoorP
namespace Go.Proofs.YtgbcmkkbhbkfeaaDoor
open Go Go.RowKit

/-- block g is a reader with bs left -/
def Rdr (w : World) (g : Nat) (bs : List Int) (bad : Bool) : Prop :=
  ∃ v, w.heap[g]? = some (.cells #[v, .bool bad] 88 (0, 0)) ∧ Sl e8 1 w v bs ∧ ∀ k, v.ownBlock = some k → k < g

theorem Rdr.frm {S : Nat → Prop} {w w' : World} {g : Nat} {bs : List Int} {bad : Bool} (h : Rdr w g bs bad) (hf : Frm S w w') (hs : ∀ k, ¬ S k) : Rdr w' g bs bad := by
  obtain ⟨v, h1, h2, h3⟩ := h
  exact ⟨v, blk_frm h1 hf (hs g), h2.frm hf (fun k _ => hs k), h3⟩

theorem take_any (v : Value) (bs : List Int) (w : World) (hl : bs.length ≤ 140737488355328) (hv : Sl e8 1 w v bs) :
    Calls Tryd.prog 35 #[v] w (Ret fun v' w' => ∃ g, v' = .pointer (some ⟨g, 0, none⟩) ∧ w.heap.size ≤ g ∧ Rdr w' g bs false ∧ Frm no w w') := by
  go_enter Tryd.func35, Tryd.ntmps35
  go_wp2_with (go_at_call 55; refine (cloneB_any v bs w hl hv).mono ?_; rintro e w1 ⟨v1, rfl, ho, hf⟩; obtain ⟨a1, c1, rfl⟩ := own_shape ho)
  go_ret
  have hs := Sl.of_owns (by decide) e8_len ho
  refine ⟨_, rfl, _, rfl, hf.size, ⟨_, blk_new _ _, hs.below ((Frm.refl no w1).alloc _), ?_⟩, hf.alloc _⟩
  intro k hk
  exact hs.lt hk

/-- what Bytes does -/
def rdOk (bs : List Int) (bad : Bool) (n : Int) : Bool := !bad && decide (0 ≤ n) && decide (n ≤ bs.length)

theorem rbytes_bad (g : Nat) (bs : List Int) (bad : Bool) (n : Int) (w : World) (hr : Rdr w g bs bad) (hk : rdOk bs bad n = false) :
    Calls Tryd.prog 36 #[.pointer (some ⟨g, 0, none⟩), .int .i64 n] w (Ret fun v' w' => v' = .slice none 0 0 ∧ Rdr w' g bs true ∧ Frm (· = g) w w') := by
  obtain ⟨v, h1, h2, h3⟩ := hr
  obtain ⟨a, c, rfl⟩ := h2.shape
  have c0 := blk_cell h1 0
  have c1 := blk_cell h1 1
  have f1 := blk_free h1 1
  simp at c0 c1
  have fin : Rdr (w.setCell ⟨g, 1, none⟩ (.bool true)) g bs true ∧ Frm (· = g) w (w.setCell ⟨g, 1, none⟩ (.bool true)) := by
    have hf : Frm (· = g) w (w.setCell ⟨g, 1, none⟩ (.bool true)) := Frm.setCell (Frm.refl (· = g) w) (p := ⟨g, 1, none⟩) (fun _ => rfl) _
    exact ⟨⟨_, blk_set h1 1 _, h2.frm hf (fun k hk => Nat.ne_of_lt (h3 k hk)), h3⟩, hf⟩
  have HF := Lib.hid fin
  clear fin h1 h2 h3
  cases bad
  · by_cases hn : n < 0
    · clear hk
      go_enter Tryd.func36, Tryd.ntmps36
      go_wp2_with fail
      go_ret
      exact ⟨_, rfl, rfl, HF.out⟩
    · have hn2 : (bs.length : Int) < n := by simp [rdOk] at hk; omega
      clear hk
      go_enter Tryd.func36, Tryd.ntmps36
      go_wp2_with fail
      go_ret
      exact ⟨_, rfl, rfl, HF.out⟩
  · clear hk
    go_enter Tryd.func36, Tryd.ntmps36
    go_wp2_with fail
    go_ret
    exact ⟨_, rfl, rfl, HF.out⟩

theorem rbytes_ok (g : Nat) (bs : List Int) (n : Nat) (w : World) (hl : bs.length ≤ 140737488355328) (hr : Rdr w g bs false) (hn : n ≤ bs.length) :
    Calls Tryd.prog 36 #[.pointer (some ⟨g, 0, none⟩), .int .i64 n] w (Ret fun v' w' => Sl e8 1 w' v' (bs.take n) ∧ (∀ k, v'.ownBlock = some k → w.heap.size ≤ k) ∧ Rdr w' g (bs.drop n) false ∧ Frm (· = g) w w') := by
  obtain ⟨v, h1, h2, h3⟩ := hr
  obtain ⟨a, c, rfl⟩ := h2.shape
  have c0 := blk_cell h1 0
  have c1 := blk_cell h1 1
  have f0 := blk_free h1 0
  have f1 := blk_free h1 1
  simp at c0 c1
  have hz : decide ((n : Int) < 0) = false := by simp
  have hnc : n ≤ c := by have := h2.cap; omega
  have hw : Frm (· = g) w (w.setCell ⟨g, 1, none⟩ (.bool false)) := Frm.setCell (Frm.refl (· = g) w) (p := ⟨g, 1, none⟩) (fun _ => rfl) _
  have ht := (h2.frm hw (fun k hk => Nat.ne_of_lt (h3 k hk))).take' n hn
  have hb := blk_set h1 1 (.bool false)
  have H := Lib.hid (And.intro h1 (And.intro h2 (And.intro h3 (And.intro hw hb))))
  clear h1 h2 h3 hw hb
  go_enter Tryd.func36, Tryd.ntmps36
  go_wp2_with fail
  refine (cloneB_any _ _ _ (by rw [List.length_take]; omega) ht).mono ?_
  rintro e w1 ⟨v1, rfl, ho, hf⟩
  have hlen : (bs.take n).length = n := by rw [List.length_take]; omega
  rw [hlen] at ho
  clear hlen
  obtain ⟨a1, n1, rfl⟩ := own_shape ho
  obtain ⟨h1, h2, h3, hw, hb⟩ := H.out
  have hb1 := blk_frm hb hf (fun h => h)
  have h2' := ((h2.frm hw (fun k hk => Nat.ne_of_lt (h3 k hk))).below hf).drop' n hn
  have h3' : ∀ k, (Value.slice (if c = n then a else a.map (·.add (n * 1))) (bs.length - n) (c - n)).ownBlock = some k → k < g := fun k hk => h3 k (drop_block k hk)
  have hne : ∀ k, (Value.slice a1 n n1).ownBlock = some k → w.heap.size ≤ k := fun k hk => by have := own_block ho k hk; have := hw.size; omega
  have hg : g < w.heap.size := blk_lt h1
  have hso := Sl.of_owns (xs := bs.take n) (by decide) e8_len (by rw [List.length_take, Nat.min_eq_left hn]; exact ho)
  have hww : ∀ u, Frm (· = g) w1 (w1.setCell ⟨g, 0, none⟩ u) := fun u => Frm.setCell (Frm.refl (· = g) w1) (p := ⟨g, 0, none⟩) (fun _ => rfl) _
  have fin : ∀ u, u = (Value.slice (if c = n then a else a.map (·.add (n * 1))) (bs.length - n) (c - n)) → Sl e8 1 (w1.setCell ⟨g, 0, none⟩ u) (.slice a1 n n1) (bs.take n) ∧ (∀ k, (Value.slice a1 n n1).ownBlock = some k → w.heap.size ≤ k) ∧ Rdr (w1.setCell ⟨g, 0, none⟩ u) g (bs.drop n) false ∧ Frm (· = g) w (w1.setCell ⟨g, 0, none⟩ u) := by
    rintro u rfl
    exact ⟨hso.frm (hww _) (fun k hk e => by have := hne k hk; omega), hne, ⟨_, blk_set hb1 0 _, h2'.frm (hww _) (fun k hk => Nat.ne_of_lt (h3' k hk)), h3'⟩, (hw.trans_no hf).trans (hww _) (fun i _ h => h)⟩
  have HF := Lib.hid fin
  obtain ⟨d0, d1, e0, e1⟩ := blk2 hb1
  clear hb1 c0 c1 f0 f1 fin hww hso hg hne h2' h3' hb hw h3 h2 h1 H ho hf ht
  by_cases hc : c = n
  · obtain rfl := hc
    go_wp2_with fail
    go_ret
    exact ⟨_, rfl, HF.out _ (by simp)⟩
  · go_wp2_with fail
    go_ret
    exact ⟨_, rfl, HF.out _ (by simp [hc])⟩

def isSz (n : Int) : Bool := n == 1 || n == 2 || n == 4 || n == 8

theorem isSize_any (n : Int) (w : World) :
    Calls Tryd.prog 52 #[.int .i64 n] w fun e w' => e = .returned (.bool (isSz n)) ∧ w = w' := by
  go_enter Tryd.func52, Tryd.ntmps52
  go_wp2
  all_goals (go_ret; refine ⟨?_, rfl⟩)
  all_goals simp_all [isSz]

theorem isSize_yes (n : Int) (h : isSz n = true) (w : World) :
    Calls Tryd.prog 52 #[.int .i64 n] w fun e w' => e = .returned (.bool true) ∧ w' = w :=
  (isSize_any n w).mono fun _ _ ⟨h1, h2⟩ => ⟨by rw [h1, h], h2.symm⟩

theorem get_bad (g : Nat) (bs : List Int) (bad : Bool) (n : Int) (w : World) (hr : Rdr w g bs bad) (hk : (isSz n && rdOk bs bad n) = false) :
    Calls Tryd.prog 56 #[.pointer (some ⟨g, 0, none⟩), .int .i64 n] w (Ret fun v' w' => v' = .int .u64 0 ∧ Rdr w' g bs true ∧ Frm (· = g) w w') := by
  cases hz : isSz n
  · obtain ⟨v, h1, h2, h3⟩ := hr
    obtain ⟨c0, c1, f0, f1⟩ := blk2 h1
    have hf : Frm (· = g) w (w.setCell ⟨g, 1, none⟩ (.bool true)) := Frm.setCell (Frm.refl (· = g) w) (p := ⟨g, 1, none⟩) (fun _ => rfl) _
    have fin : Rdr (w.setCell ⟨g, 1, none⟩ (.bool true)) g bs true ∧ Frm (· = g) w (w.setCell ⟨g, 1, none⟩ (.bool true)) := ⟨⟨_, blk_set h1 1 _, h2.frm hf (fun k hk => Nat.ne_of_lt (h3 k hk)), h3⟩, hf⟩
    have HF := Lib.hid fin
    clear fin hf h1 h2 h3 hk
    go_enter Tryd.func56, Tryd.ntmps56
    go_wp2
    refine wp_scope_fwd 0 rfl ?_
    go_wp2_with (go_at_call 52; refine (isSize_any _ _).mono ?_; rintro e w' ⟨rfl, rfl⟩)
    refine wp_goto ?_
    refine ⟨rfl, ?_⟩
    go_wp2
    rw [Exit.noGoto_ret]
    go_ret
    exact ⟨_, rfl, rfl, HF.out⟩
  · have hb : rdOk bs bad n = false := by simpa [hz] using hk
    clear hk
    go_enter Tryd.func56, Tryd.ntmps56
    go_wp2
    refine wp_scope_straight ?_
    go_wp2_with (first | (go_at_call 52; refine (isSize_any _ _).mono ?_; rintro e w' ⟨rfl, rfl⟩) | (go_at_call 36; refine (rbytes_bad g bs bad n w hr hb).mono ?_; rintro e w1 ⟨v1, rfl, rfl, hr1, hf1⟩))
    have HF := Lib.hid (And.intro hr1 hf1)
    clear hr1 hf1 hr
    refine wp_loop_once ?_
    go_wp2
    rw [Exit.noGoto_ret]
    go_ret
    exact ⟨_, rfl, rfl, HF.out⟩

theorem get_ok (g : Nat) (bs : List Int) (n : Nat) (w : World) (hl : bs.length ≤ 140737488355328) (hr : Rdr w g bs false) (hz : isSz n = true) (hn : n ≤ bs.length) (ho : Oct bs) :
    Calls Tryd.prog 56 #[.pointer (some ⟨g, 0, none⟩), .int .i64 n] w (Ret fun v' w' => v' = .int .u64 (num (bs.take n)) ∧ Rdr w' g (bs.drop n) false ∧ Frm (· = g) w w') := by
  have hn8 : n ≤ 8 ∧ 0 < n := by simp [isSz] at hz; omega
  go_enter Tryd.func56, Tryd.ntmps56
  go_wp2
  refine wp_scope_straight ?_
  go_wp2_with (first | (go_at_call 52; refine (isSize_any _ _).mono ?_; rintro e w' ⟨rfl, rfl⟩) | (go_at_call 36; refine (rbytes_ok g bs n w hl hr hn).mono ?_; rintro e w1 ⟨v1, rfl, hs1, hb1, hr1, hf1⟩; obtain ⟨a1, n1, rfl⟩ := hs1.shape))
  have HF := Lib.hid (And.intro hr1 hf1)
  clear hr1 hf1 hr hb1
  have hlen : (bs.take n).length = n := by rw [List.length_take]; omega
  have hoT : Oct (bs.take n) := fun b hb => ho b (List.mem_of_mem_take hb)
  rcases hs1.bytes with ⟨h, h0⟩ | ⟨gb, off, c, h, h1, h2, h3, h4⟩
  · rw [h0] at hlen; simp at hlen; omega
  · simp only [Value.slice.injEq, true_and] at h
    obtain ⟨rfl, rfl⟩ := h
    clear h1 h2 h3 hs1 hl hn hz
    have HL := Lib.hid hlen
    generalize hT : bs.take n = T at h4 hoT HL ⊢
    have HT := Lib.hid hT
    clear hT hlen ho
    go_loop [5, 17] (fun x i => ∃ k : Nat, k ≤ n ∧ i = .int .i64 k ∧ x = .int .u64 (num (T.take k))) (fun _ i => n - (intOf i).toNat)
    case atStart => exact ⟨0, Nat.zero_le _, rfl, rfl⟩
    case round =>
      obtain ⟨k, hk, rfl, rfl⟩ := hrel
      by_cases hlt : k < n
      · obtain ⟨b, hb⟩ : ∃ b, T[k]? = some b := ⟨_, List.getElem?_eq_getElem (by have := HL.out; omega)⟩
        have hc := h4 k b hb
        have hb2 := hoT b (List.mem_of_getElem? hb)
        have hbd := num_bd (T.take k) (fun b hb => hoT b (List.mem_of_mem_take hb))
        rw [List.length_take, Nat.min_eq_left (by have := HL.out; omega)] at hbd
        have hs := Lib.hid (num_snoc T k b hb)
        have hor := Lib.hid (or_step (num (T.take k)) b k (by omega) hbd.1 hbd.2 hb2.1 hb2.2)
        clear h4 hb hoT hbd
        generalize num (T.take k) = y at hs hor ⊢
        go_wp2
        go_round
        case rel => exact ⟨k + 1, by omega, by go_num, by rw [hs.out, hor.out]⟩
        case measure => simp [intOf]; omega
      · obtain rfl : k = n := by omega
        clear h4 hoT
        go_wp2
        go_ret
        exact ⟨_, rfl, by rw [HT.out, ← HL.out, List.take_length]; rfl, HF.out⟩

theorem int_ok (g : Nat) (bs : List Int) (n : Nat) (l m : Int) (w : World) (hl : bs.length ≤ 140737488355328) (hr : Rdr w g bs false) (hz : isSz n = true) (hn : n ≤ bs.length) (ho : Oct bs)
    (h0 : l ≤ wrap64 (num (bs.take n))) (h1 : wrap64 (num (bs.take n)) ≤ m) :
    Calls Tryd.prog 37 #[.pointer (some ⟨g, 0, none⟩), .int .i64 n, .int .i64 l, .int .i64 m] w (Ret fun v' w' => v' = .int .i64 (wrap64 (num (bs.take n))) ∧ Rdr w' g (bs.drop n) false ∧ Frm (· = g) w w') := by
  go_enter Tryd.func37, Tryd.ntmps37
  go_wp2_with (go_at_call 56; refine (get_ok g bs n w hl hr hz hn ho).mono ?_; rintro e w1 ⟨v1, rfl, rfl, hr1, hf1⟩; have HF := Lib.hid (And.intro hr1 hf1); obtain ⟨vr, hb1, _⟩ := hr1; obtain ⟨c0, c1, f0, f1⟩ := blk2 hb1; clear hb1 hf1 hr hl hn hz ho)
  go_ret
  exact ⟨_, rfl, rfl, HF.out⟩

theorem int_bad1 (g : Nat) (bs : List Int) (bad : Bool) (n l m : Int) (w : World) (hr : Rdr w g bs bad) (hk : (isSz n && rdOk bs bad n) = false) :
    Calls Tryd.prog 37 #[.pointer (some ⟨g, 0, none⟩), .int .i64 n, .int .i64 l, .int .i64 m] w (Ret fun v' w' => v' = .int .i64 0 ∧ Rdr w' g bs true ∧ Frm (· = g) w w') := by
  go_enter Tryd.func37, Tryd.ntmps37
  go_wp2_with (go_at_call 56; refine (get_bad g bs bad n w hr hk).mono ?_; rintro e w1 ⟨v1, rfl, rfl, hr1, hf1⟩; have HF := Lib.hid (And.intro hr1 hf1); obtain ⟨vr, hb1, _⟩ := hr1; obtain ⟨c0, c1, f0, f1⟩ := blk2 hb1; clear hb1 hf1 hr hk)
  go_ret
  exact ⟨_, rfl, rfl, HF.out⟩

theorem int_bad2 (g : Nat) (bs : List Int) (n : Nat) (l m : Int) (w : World) (hl : bs.length ≤ 140737488355328) (hr : Rdr w g bs false) (hz : isSz n = true) (hn : n ≤ bs.length) (ho : Oct bs)
    (h0 : wrap64 (num (bs.take n)) < l ∨ m < wrap64 (num (bs.take n))) :
    Calls Tryd.prog 37 #[.pointer (some ⟨g, 0, none⟩), .int .i64 n, .int .i64 l, .int .i64 m] w (Ret fun v' w' => v' = .int .i64 0 ∧ Rdr w' g (bs.drop n) true ∧ Frm (· = g) w w') := by
  rcases h0 with h0 | h0
  all_goals
    go_enter Tryd.func37, Tryd.ntmps37
    go_wp2_with (go_at_call 56; refine (get_ok g bs n w hl hr hz hn ho).mono ?_; rintro e w1 ⟨v1, rfl, rfl, hr1, hf1⟩; obtain ⟨vr, hb1, hb2, hb3⟩ := hr1; obtain ⟨c0, c1, f0, f1⟩ := blk2 hb1; have hw : Frm (· = g) w1 (w1.setCell ⟨g, 1, none⟩ (.bool true)) := Frm.setCell (Frm.refl (· = g) w1) (p := ⟨g, 1, none⟩) (fun _ => rfl) _; have HF := Lib.hid (And.intro (show Rdr (w1.setCell ⟨g, 1, none⟩ (.bool true)) g (bs.drop n) true from ⟨_, blk_set hb1 1 _, hb2.frm hw (fun k hk => Nat.ne_of_lt (hb3 k hk)), hb3⟩) (hf1.trans hw (fun i _ h => h))); clear hb1 hb2 hb3 hw hf1 hr hl hn hz ho)
    all_goals
      go_ret
      exact ⟨_, rfl, rfl, HF.out⟩

end Go.Proofs.YtgbcmkkbhbkfeaaDoor
