/- The writer of layer 1 (le). -/
import Derived.Test.YtgbcmkkbhbkfeaaDoorProg
import Derived.Test.YtgbcmkkbhbkfeaaDoorE
namespace Go.Proofs.YtgbcmkkbhbkfeaaDoor
open Go Go.RowKit

/-- block g is a writer that has taken bs; it and its row lie from base on -/
def Wtr (w : World) (base g : Nat) (bs : List Int) (room : Int) (bad : Bool) : Prop :=
  base ≤ g ∧ base ≤ w.heap.size ∧ ∃ v, w.heap[g]? = some (.cells #[v, .int .i64 room, .bool bad] 82 (0, 0)) ∧ w.ownsRow base 5 1 v bs.length (bs.flatMap e8)

/-- what a writer may write -/
abbrev wrote (base : Nat) (w : World) (k : Nat) : Prop := typed [5, 82] base w k

theorem new_any (room : Int) (w : World) (h0 : 0 ≤ room) (h1 : room ≤ 65536) :
    Calls Tryd.prog 25 #[.int .i64 room] w (Ret fun v' w' => ∃ base g, v' = .pointer (some ⟨g, 0, none⟩) ∧ w.heap.size ≤ base ∧ Wtr w' base g [] room false ∧ Frm no w w') := by
  go_enter Tryd.func25, Tryd.ntmps25
  go_wp2
  go_ret
  exact ⟨_, rfl, w.heap.size, _, rfl, Nat.le_refl _, ⟨Nat.le_refl _, by simp, _, blk_new _ _, own_nil _ _ _ _⟩, (Frm.refl _ _).alloc _⟩

/-- what is put onto a writer that has no room for it, or is at fault -/
theorem Wtr.spoil {w : World} {base g : Nat} {bs : List Int} {room : Int} {bad : Bool} (h : Wtr w base g bs room bad) : Wtr (w.setCell ⟨g, 2, none⟩ (.bool true)) base g bs room true ∧ Frm (wrote base w) w (w.setCell ⟨g, 2, none⟩ (.bool true)) := by
  obtain ⟨h1, h2, v, h3, h4⟩ := h
  have hf : Frm (· = g) w (w.setCell ⟨g, 2, none⟩ (.bool true)) := Frm.setCell (Frm.refl (· = g) w) (p := ⟨g, 2, none⟩) (fun _ => rfl) _
  exact ⟨⟨h1, Nat.le_trans h2 hf.size, v, blk_set h3 2 _, own_frm h4 hf (own_type h4 h3 (by decide))⟩, hf.mono (fun i _ e => by subst e; exact ⟨h1, _, _, _, h3, by simp⟩)⟩

theorem wbytes_ok (base g : Nat) (bs : List Int) (room : Int) (v : Value) (xs : List Int) (w : World) (hw : Wtr w base g bs room false) (hv : Sl e8 1 w v xs) (h : (bs.length : Int) + xs.length ≤ room) (hr : room ≤ 65536) :
    Calls Tryd.prog 26 #[.pointer (some ⟨g, 0, none⟩), v] w (Ret fun v' w' => v' = .pointer (some ⟨g, 0, none⟩) ∧ Wtr w' base g (bs ++ xs) room false ∧ Frm (wrote base w) w w') := by
  obtain ⟨h1, h2, vw, h3, h4⟩ := hw
  obtain ⟨aw, cw, rfl⟩ := own_shape h4
  obtain ⟨c0, c1, c2, f0, f1, f2⟩ := blk3 h3
  obtain ⟨a, c, rfl⟩ := hv.shape
  have H := Lib.hid (And.intro h1 (And.intro h2 (And.intro h3 h4)))
  obtain ⟨i0, hi, hz0, hz1, hz2⟩ := info_parts info_u8
  clear h1 h2 h3 h4
  go_enter Tryd.func26, Tryd.ntmps26
  go_wp2
  refine wp_scope_straight ?_
  go_wp2
  go_quiet (fail)
  go_wp2_with (at_builtin; refine wpList_app _ rfl _ _ 26 rfl base 5 i0 (.int .u8 0) 1 1 Tryd.underlying26 hi hz0 hz1 hz2 rfl (by decide) e8_len e8_one _ bs rfl ?_ _ xs rfl hv ?_ ?_ ?_ ?_)
  · exact H.out.2.2.2
  · unfold maxLen; omega
  · omega
  · exact H.out.2.1
  · intro v' w1 ho hg
    have ho' : w1.ownsRow base 5 1 v' (bs ++ xs).length ((bs ++ xs).flatMap e8) := by rw [List.length_append, List.flatMap_append]; exact ho
    obtain ⟨a', c', rfl⟩ := own_shape ho
    obtain ⟨h1, h2, h3, h4⟩ := H.out
    have hfr : Frm (fun k => (Value.slice aw bs.length cw).ownBlock = some k) w w1 := Frm.grown ((Frm.refl _ w).drewN nq) hg (fun k _ e => e)
    have hb1 := blk_frm h3 hfr (fun e => own_type h4 h3 (by decide) g e rfl)
    obtain ⟨d0, d1, d2, e0, e1, e2⟩ := blk3 hb1
    have hw2 : ∀ u, Frm (· = g) w1 (w1.setCell ⟨g, 0, none⟩ u) := fun u => Frm.setCell (Frm.refl (· = g) w1) (p := ⟨g, 0, none⟩) (fun _ => rfl) _
    have fin : ∀ u, u = Value.slice a' (bs.length + xs.length) c' → Wtr (w1.setCell ⟨g, 0, none⟩ u) base g (bs ++ xs) room false ∧ Frm (wrote base w) w (w1.setCell ⟨g, 0, none⟩ u) := by
      rintro u rfl
      refine ⟨⟨h1, Nat.le_trans h2 (Nat.le_trans hfr.size (hw2 _).size), _, blk_set hb1 0 _, own_frm ho' (hw2 _) (own_type ho' hb1 (by decide))⟩, ?_⟩
      exact (hfr.mono (T := wrote base w) (fun i _ e => by obtain ⟨hb, cs, hg⟩ := own_blk h4 i e; exact ⟨hb, _, _, _, hg, by simp⟩)).trans (hw2 _) (fun i _ e => by subst e; exact ⟨h1, _, _, _, h3, by simp⟩)
    have HF := Lib.hid fin
    clear fin hw2 hb1 hfr h1 h2 h3 h4 H ho ho' hg hv
    go_wp2
    rw [Exit.noGoto_ret]
    go_ret
    exact ⟨_, rfl, rfl, HF.out _ rfl⟩

/-- k bytes of a number, the least first -/
def leB : Nat → Int → List Int
  | 0, _ => []
  | k + 1, x => x % 256 :: leB k (x / 256)
theorem leB_len : ∀ (k : Nat) (x : Int), (leB k x).length = k
  | 0, _ => rfl
  | k + 1, x => by simp [leB, leB_len k]
theorem leB_snoc : ∀ (k : Nat) (x : Int), leB (k + 1) x = leB k x ++ [x / 256 ^ k % 256]
  | 0, x => by simp [leB]
  | k + 1, x => by
    rw [leB, leB_snoc k, leB, List.cons_append, Int.pow_succ', Int.ediv_ediv_of_nonneg (by omega)]
theorem leB_oct : ∀ (k : Nat) (x : Int), Oct (leB k x)
  | 0, _ => by intro b hb; cases hb
  | k + 1, x => by
    intro b hb
    simp only [leB, List.mem_cons] at hb
    rcases hb with rfl | hb
    · omega
    · exact leB_oct k _ b hb

theorem put_ok (base g : Nat) (bs : List Int) (room : Int) (n : Nat) (x : Int) (w : World) (hw : Wtr w base g bs room false) (hz : isSz n = true) (h : (bs.length : Int) + n ≤ room) (hr : room ≤ 65536) (hx : 0 ≤ x) :
    Calls Tryd.prog 27 #[.pointer (some ⟨g, 0, none⟩), .int .i64 n, .int .u64 x] w (Ret fun v' w' => v' = .pointer (some ⟨g, 0, none⟩) ∧ Wtr w' base g (bs ++ leB n x) room false ∧ Frm (wrote base w) w w') := by
  have HW := Lib.hid hw
  obtain ⟨h1, h2, vw, h3, h4⟩ := hw
  obtain ⟨aw, cw, rfl⟩ := own_shape h4
  obtain ⟨c0, c1, c2, f0, f1, f2⟩ := blk3 h3
  obtain ⟨i0, hi, hz0, hz1, hz2⟩ := info_parts info_u8
  clear h1 h2 h3 h4
  go_enter Tryd.func27, Tryd.ntmps27
  go_wp2
  refine wp_scope_straight ?_
  go_wp2
  go_quiet ((go_at_call 52; exact Calls.quiet_of_same (isSize_yes _ hz _)))
  go_wp2
  clear c0 c1 c2 f0 f1 f2
  have HX := Lib.hid hx
  have HN := Lib.hid (And.intro h (And.intro hr hz))
  have hn8 : n ≤ 8 := by simp [isSz] at hz; omega
  clear hx h hr hz
  go_loopw [2, 33] (fun y i wr => ∃ k : Nat, k ≤ n ∧ i = .int .i64 k ∧ y = .int .u64 (x / 256 ^ k) ∧ (∃ M, Hid (M = bs ++ leB k x) ∧ Hid (Wtr wr base g M room false)) ∧ Hid (Frm (wrote base w) w wr)) (fun _ i _ => n - (intOf i).toNat)
  case atStart => exact ⟨0, Nat.zero_le _, rfl, by rw [show (256 : Int) ^ 0 = 1 from rfl, Int.ediv_one], ⟨bs, by show _ = _; rw [show leB 0 x = [] from rfl, List.append_nil], HW⟩, (Frm.refl _ w).drewN nq⟩
  case round =>
    obtain ⟨k, hk, rfl, rfl, ⟨M, HM, HR⟩, HFr⟩ := hrel
    by_cases hlt : k < n
    · obtain ⟨h1, h2, vr, h3, h4⟩ := HR.out
      obtain ⟨ar, cr, rfl⟩ := own_shape h4
      obtain ⟨c0, c1, c2, f0, f1, f2⟩ := blk3 h3
      have H := Lib.hid (And.intro h1 (And.intro h2 (And.intro h3 h4)))
      have hy : 0 ≤ x / 256 ^ k := Int.ediv_nonneg HX.out (Int.le_of_lt (Int.pow_pos (by decide)))
      have hsn := Lib.hid (leB_snoc k x)
      have hdv : Hid (x / 256 ^ k / 256 = x / 256 ^ (k + 1)) := by show _ = _; rw [Int.pow_succ, Int.ediv_ediv_of_nonneg (Int.le_of_lt (Int.pow_pos (by decide)))]
      clear h1 h2 h3 h4 HR
      generalize x / 256 ^ k = y at hy hsn hdv ⊢
      have hml : M.length ≤ 65536 := by have := HM.out; have := HN.out; rw [HM.out, List.length_append, leB_len]; omega
      have hMl := Lib.hid hml
      clear hml
      have hsl : Sl e8 1 (wr.alloc (.cells #[.int .u8 (y % 256)] 5)) (.slice (some ⟨wr.heap.size, 0, none⟩) 1 1) [y % 256] := Sl.of_blk (xs := [y % 256]) (n := 1) (c := 1) (more := []) e8_len (blk_new _ _) rfl (by decide) (by decide)
      go_wp2_with (at_builtin; refine wpList_app _ rfl _ _ 26 rfl base 5 i0 (.int .u8 0) 1 1 Tryd.underlying26 hi hz0 hz1 hz2 rfl (by decide) e8_len e8_one _ M rfl ?_ _ [y % 256] rfl hsl ?_ ?_ ?_ ?_)
      · exact own_frm H.out.2.2.2 ((Frm.refl no wr).alloc _) (fun _ _ h => h)
      · have := hMl.out; unfold maxLen; simp; omega
      · have := hMl.out; simp; omega
      · have := H.out.2.1; simp; omega
      · intro v' w1 ho hg
        obtain ⟨a', c', rfl⟩ := own_shape ho
        obtain ⟨h1, h2, h3, h4⟩ := H.out
        have hfr : Frm (fun k => (Value.slice ar M.length cr).ownBlock = some k) wr w1 := Frm.grown ((Frm.refl _ wr).alloc _) hg (fun k _ e => e)
        have hb1 := blk_frm h3 hfr (fun e => own_type h4 h3 (by decide) g e rfl)
        obtain ⟨d0, d1, d2, e0, e1, e2⟩ := blk3 hb1
        have hw2 : ∀ u, Frm (· = g) w1 (w1.setCell ⟨g, 0, none⟩ u) := fun u => Frm.setCell (Frm.refl (· = g) w1) (p := ⟨g, 0, none⟩) (fun _ => rfl) _
        have fin : ∀ u, u = Value.slice a' (M.length + 1) c' → Wtr (w1.setCell ⟨g, 0, none⟩ u) base g (M ++ [y % 256]) room false ∧ Frm (wrote base w) w (w1.setCell ⟨g, 0, none⟩ u) := by
          rintro u rfl
          have ho' : w1.ownsRow base 5 1 (.slice a' (M.length + 1) c') (M ++ [y % 256]).length ((M ++ [y % 256]).flatMap e8) := by
            rw [List.length_append, List.flatMap_append]; exact ho
          refine ⟨⟨h1, Nat.le_trans h2 (Nat.le_trans hfr.size (hw2 _).size), _, blk_set hb1 0 _, own_frm ho' (hw2 _) (own_type ho' hb1 (by decide))⟩, ?_⟩
          exact HFr.out.typed_trans ((hfr.mono (T := wrote base wr) (fun i _ e => by obtain ⟨hb, cs, hg⟩ := own_blk h4 i e; exact ⟨hb, _, _, _, hg, by simp⟩)).trans (hw2 _) (fun i _ e => by subst e; exact ⟨h1, _, _, _, h3, by simp⟩))
        have HF := Lib.hid fin
        clear fin hw2 hb1 hfr h1 h2 h3 h4 H ho hg hsl c0 c1 c2 f0 f1 f2
        go_wp2
        go_roundw
        case rel => exact ⟨k + 1, hlt, by go_num, by rw [hdv.out], ⟨_, by show _ = _; rw [hsn.out, ← List.append_assoc, ← HM.out], (HF.out _ rfl).1⟩, (HF.out _ rfl).2⟩
        case measure => simp [intOf]; omega
    · obtain rfl : k = n := by omega
      go_wp2
      go_ret
      have := HM.out
      subst this
      exact ⟨_, rfl, rfl, HR.out, HFr.out⟩

/-- all that was taken, with bytes 0 behind it -/
theorem wdone_ok (base g : Nat) (bs : List Int) (room : Nat) (w : World) (hw : Wtr w base g bs room false) (h : bs.length ≤ room) (hr : room ≤ 65536) :
    Calls Tryd.prog 29 #[.pointer (some ⟨g, 0, none⟩)] w (Ret fun v' w' => ∃ u, v' = .tuple #[u, .int .i64 0] ∧ Sl e8 1 w' u (pad room bs) ∧ (∀ k, u.ownBlock = some k → w.heap.size ≤ k) ∧ Frm no w w') := by
  obtain ⟨h1, h2, vw, h3, h4⟩ := hw
  obtain ⟨aw, cw, rfl⟩ := own_shape h4
  obtain ⟨c0, c1, c2, f0, f1, f2⟩ := blk3 h3
  have hmk : ∀ w, (Instr.makeSlice 26 (.int .i64 room) (.int .i64 room)).run Tryd.prog w = .ok (.slice (some ⟨w.heap.size, 0, none⟩) room room) (w.alloc (.cells (madeCells #[.int .u8 0] room) 5)) := fun w => run_make_row' (P := Tryd.prog) 26 5 (.int .u8 0) 1 Tryd.underlying26 info_u8 rfl .i64 .i64 room (by omega) (by omega) w
  obtain ⟨zs, HZS⟩ : ∃ zs, Hid (zs = List.replicate room (Value.int .u8 0)) := ⟨_, rfl⟩
  have hzl : Hid (zs.length = room) := by show _ = _; rw [HZS.out, List.length_replicate]
  have hv : Sl e8 1 (w.alloc (.cells (madeCells #[.int .u8 0] room) 5)) (.slice aw bs.length cw) bs := (Sl.of_owns (by decide) e8_len h4).below ((Frm.refl no w).alloc _)
  have hno : Hid (∀ ad, aw = some ad → ∀ j u, (bs.flatMap e8)[j]? = some u → (w.alloc (.cells (madeCells #[.int .u8 0] room) 5)).cell? (ad.add j) = some u) := by
    intro ad e j u hu
    subst e
    rcases hv with ⟨h, _⟩ | ⟨g, off, c', h, h'⟩
    · simp at h
    · simp only [Value.slice.injEq, Option.some.injEq, true_and] at h
      obtain ⟨rfl, rfl⟩ := h
      have := (Sl.spec (by decide) e8_len (.inr ⟨g, off, _, rfl, h'⟩)).2.2.2.2 j u hu
      rw [Addr.add_lit]; exact this
  have hna : Hid (0 < bs.length → ∃ ad, aw = some ad) := by
    intro h0
    rcases hv with ⟨_, h⟩ | ⟨g, off, c', h, h'⟩
    · subst h; simp at h0
    · simp only [Value.slice.injEq, true_and] at h
      exact ⟨_, h.1⟩
  obtain ⟨cs, HCS⟩ : ∃ cs, Hid (bs.flatMap e8 = cs) := ⟨_, rfl⟩
  have HCL : Hid (cs.length = bs.length) := by show cs.length = bs.length; rw [← HCS.out, flatMap_length e8 1 e8_len, Nat.mul_one]
  have hzs : (w.alloc (.cells (madeCells #[.int .u8 0] room) 5)).heap[w.heap.size]? = some (.cells zs.toArray 5 (0, 0)) := by
    rw [heap_alloc_new, show madeCells #[.int .u8 0] room = zs.toArray from by apply Array.ext'; rw [toList_madeCells_one, HZS.out]]
  have HZ := Lib.hid hzs
  have HH := Lib.hid (And.intro h hr)
  have hgl := blk_lt h3
  clear hzs hv h hr h1 h2 h3 h4
  go_enter Tryd.func29, Tryd.ntmps29
  go_wp2_with (with_reducible refine wpList_copy_splice (o := ⟨some 23, _, _, _, _, _⟩) rfl (.tmp 18) (.tmp 22) 26 26 rfl 5 Tryd.underlying26 ?_ (some ⟨w.heap.size, 0, none⟩) aw room room bs.length cw ?_ ?_ w.heap.size 0 zs 5 HZ.out cs ?_ ?_ ?_ ?_ w.heap.size w ?_ (Nat.le_refl _) ?_)
  · kernel_rfl
  · rfl
  · rfl
  · rw [HCL.out]; exact (Nat.min_eq_left HH.out.1).symm
  · intro h0
    rw [HCL.out] at h0
    obtain ⟨ad, e⟩ := hna h0
    refine ⟨ad, e, ?_⟩
    rw [← HCS.out]
    exact hno.out ad e
  · have := HH.out; rw [HCL.out, hzl.out]; omega
  · intro u hu
    rw [← HCS.out] at hu
    obtain ⟨x, _, hx⟩ := List.mem_flatMap.1 hu
    exact e8_one x u hx
  · exact (Below.refl _ _).alloc (Nat.le_refl _) _
  · intro w1 hg hb
    have hlr := HH.out
    have hsp : splice zs 0 cs = (pad room bs).flatMap e8 := by
      rw [HZS.out, ← HCS.out, e8_map, e8_map]
      unfold splice pad
      simp [List.map_append, List.map_replicate, List.drop_replicate]
    have hg1 := hg.out
    rw [hsp] at hg1
    have hsl := Sl.of_blk (n := room) (c := room) (more := []) e8_len (by rw [List.append_nil]; exact hg1) (pad_len room bs hlr.1).symm (Nat.le_refl _) (by unfold maxLen; omega)
    have HF := Lib.hid (And.intro hsl (Frm.of_below hb))
    clear hsl hb hg1 hsp hg hlr
    go_wp2
    refine bodyPost_ret (results_tmp2 rfl _ _ _) rfl ?_
    refine ⟨_, rfl, _, rfl, HF.out.1, ?_, HF.out.2⟩
    intro k hk
    simp [Value.ownBlock] at hk
    omega

end Go.Proofs.YtgbcmkkbhbkfeaaDoor
