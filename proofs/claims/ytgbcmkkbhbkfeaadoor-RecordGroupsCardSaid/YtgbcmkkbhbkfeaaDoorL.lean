/- Encode: a record's sector. -/
import Derived.Test.YtgbcmkkbhbkfeaaDoorProg
import Derived.Test.YtgbcmkkbhbkfeaaDoorK
import Derived.Lib.SlBytesConst
import Derived.Deep.RegionHeld3
import Derived.Deep.DeepCutAuto
namespace Go.Proofs.YtgbcmkkbhbkfeaaDoor
open Go Go.RowKit

theorem Wtr.frm {w w' : World} {S : Nat → Prop} {base g : Nat} {bs : List Int} {room : Int} {bad : Bool} (h : Wtr w base g bs room bad) (hf : Frm S w w') (hs : ∀ k, S k → k < base) : Wtr w' base g bs room bad := by
  obtain ⟨h1, h2, v, h3, h4⟩ := h
  exact ⟨h1, Nat.le_trans h2 hf.size, v, blk_frm h3 hf (fun h => by have := hs g h; omega), own_frm h4 hf (fun k hk h => by have := hs k h; have := own_block h4 k hk; omega)⟩
theorem Wtr.frm_no {w w' : World} {base g : Nat} {bs : List Int} {room : Int} {bad : Bool} (h : Wtr w base g bs room bad) (hf : Frm no w w') : Wtr w' base g bs room bad := h.frm hf (fun _ h => h.elim)

theorem freeze_cell (w : World) (a p : Addr) (n : Nat) : (w.freeze a n).cell? p = w.cell? p := by
  unfold World.freeze
  split
  · rfl
  · simp only [World.cell?, Array.getElem?_modify]
    by_cases h : a.block = p.block
    · rw [if_pos h]
      cases hx : w.heap[p.block]? with
      | none => rfl
      | some o => cases o <;> rfl
    · rw [if_neg h]
theorem freeze_frm (w : World) (a : Addr) (n : Nat) : Frm (· = a.block) w (w.freeze a n) := by
  unfold World.freeze
  split
  · exact Frm.refl _ _
  · refine ⟨rfl, rfl, rfl, by simp, fun k _ hk => ?_⟩
    simp only [Array.getElem?_modify]
    rw [if_neg (fun e => hk e.symm)]
theorem run_convert_mark {P : Program} (w : World) (t e b off n c : Nat) (C : Array Value) (fr : Nat × Nat) (ht : P.underlying t = some (.slice e)) (he : P.underlying e = some (.int .u8)) (hb : w.heap[b]? = some (.cells C e fr)) :
    (convert t t (.slice (some ⟨b, off, none⟩) n c)).run P w = .ok (.slice (some ⟨b, off, none⟩) n c) (w.freeze ⟨b, C.size, none⟩ 1) := by
  have hsh : w.shape? b = some (e, C.size) := by unfold World.shape?; rw [hb]
  simp [convert, run_underlying ht, run_underlying he, markStringish, hsh]

/-- the head's bytes -/
def hdA (c : Bool) (n : Nat) : List Int := [74, 82] ++ leB 1 (if c then 1 else 0) ++ leB 1 n
def hdB (e s u : Int) : List Int := leB 4 e ++ leB 8 s ++ leB 8 u
def dlB (d : Dl) : List Int := leB 1 d.k ++ leB 1 d.z ++ leB 2 d.n ++ leB 4 d.a ++ leB 4 d.o ++ leB 4 0
theorem hdA_len (c : Bool) (n : Nat) : (hdA c n).length = 4 := by simp [hdA, leB_len]
theorem hdB_len (e s u : Int) : (hdB e s u).length = 20 := by simp [hdB, leB_len]
theorem dlB_len (d : Dl) : (dlB d).length = 16 := by simp [dlB, leB_len]

/-- all that a record's sector holds, behind the sum -/
def recB (e s : Int) (c : Bool) (u : Int) (ds : List Dl) : List Int := hdA c ds.length ++ hdB e s u ++ ds.flatMap dlB
theorem dlBs_len : ∀ ds : List Dl, (ds.flatMap dlB).length = 16 * ds.length
  | [] => rfl
  | d :: r => by simp only [List.flatMap_cons, List.length_append, dlB_len, dlBs_len r, List.length_cons]; omega
theorem recB_len (e s : Int) (c : Bool) (u : Int) (ds : List Dl) : (recB e s c u ds).length = 24 + 16 * ds.length := by
  simp only [recB, List.length_append, hdA_len, hdB_len, dlBs_len]
theorem mayD_bd (d : Dl) (h : mayD d = true) : (0 ≤ d.k ∧ d.k ≤ 4) ∧ (0 ≤ d.a ∧ d.a ≤ 4294967295) ∧ (0 ≤ d.n ∧ d.n ≤ 65535) ∧ (0 ≤ d.z ∧ d.z ≤ 255) ∧ (0 ≤ d.o ∧ d.o ≤ 1024) := by
  unfold mayD at h
  simp only [wi] at h
  split at h
  · simp at h; omega
  · split at h
    · simp at h; omega
    · split at h
      · simp at h; omega
      · split at h
        · simp at h; omega
        · simp at h
theorem Oct.append {a b : List Int} (ha : Oct a) (hb : Oct b) : Oct (a ++ b) := by
  intro x hx
  rcases List.mem_append.1 hx with h | h
  · exact ha x h
  · exact hb x h
theorem dlB_oct (d : Dl) : Oct (dlB d) := ((((leB_oct _ _).append (leB_oct _ _)).append (leB_oct _ _)).append (leB_oct _ _)).append (leB_oct _ _) |>.append (leB_oct _ _)
theorem recB_oct (e s : Int) (c : Bool) (u : Int) (ds : List Dl) : Oct (recB e s c u ds) := by
  refine (((Oct.append (by intro x hx; simp at hx; omega) (leB_oct _ _)).append (leB_oct _ _)).append (((leB_oct _ _).append (leB_oct _ _)).append (leB_oct _ _))).append ?_
  intro x hx
  obtain ⟨d, _, hd⟩ := List.mem_flatMap.1 hx
  exact dlB_oct d x hd

set_option maxRecDepth 100000 in
set_option maxHeartbeats 1600000 in
theorem encode_ok (r : Rc) (w : World) (hr : r.ok w) (hm : mayR r.e r.s r.u r.ds = true) (hn : Nibs w) :
    Calls Tryd.prog 9 #[r.val] w (Ret fun v' w' => ∃ x, v' = .tuple #[x, .int .i64 0] ∧ Sl e8 1 w' x (sealL (pad 124 (recB r.e r.s r.c r.u r.ds))) ∧ Frm no w w') := by
  have hmr := Lib.hid (fun W (h : Frm no w W) => mayR_any r W ⟨hr.1.below h, hr.2⟩)
  obtain ⟨e, s, c, u, v, ds⟩ := r
  obtain ⟨hv, hl⟩ := hr
  dsimp only at hv hl hm
  rw [hm] at hmr
  unfold Rc.val at hmr ⊢
  obtain ⟨a, cp, rfl⟩ := hv.shape
  have hmm := hm
  simp only [mayR, Bool.and_eq_true, decide_eq_true_eq] at hmm
  obtain ⟨⟨⟨⟨hd6, hdm⟩, h1⟩, h2⟩, h3⟩ := hmm
  have hu6 : IntKind.u64.wrap (ds.length : Int) = ds.length := by rw [IntKind.wrap_u64]; omega
  go_enter Tryd.func9, Tryd.ntmps9
  go_wp2_with (go_at_call 10; refine (hmr.out _ ((Frm.refl _ _).alloc _)).mono ?_; rintro e w1 ⟨rfl, hf1⟩; have hb0 := blk_frm (blk_new w _) hf1 (fun h => h))
  have hsz := Lib.hid (blk_lt hb0)
  obtain ⟨c0, c1, c2, c3, c4⟩ := blk5 hb0
  have HD := Lib.hid (And.intro hd6 (And.intro hdm (And.intro h1 (And.intro h2 (And.intro h3 (And.intro hn (And.intro hm (And.intro hf1 (And.intro hb0 hv)))))))))
  have hcur := Lib.hid (((Frm.refl no w).alloc _).trans_no hf1)
  clear hd6 hdm h1 h2 h3 hn hm hf1 hb0 hv hmr
  have kc := fun (w : World) (C : Array Value) (n c : Nat) => Lib.run_convert_bytes_const (P := Tryd.prog) w 26 5 C n c Tryd.underlying26 Tryd.underlying5
  obtain ⟨fl, HFL⟩ : ∃ fl : Int, Hid (fl = if c then 1 else 0) := ⟨_, rfl⟩
  have hfl0 : 0 ≤ fl := by rw [HFL.out]; split <;> omega
  have hflag := fun w => flag_any c w
  rw [← HFL.out] at hflag
  go_cut [4] (fun s4 wx => ∃ base g, s4 = .pointer (some ⟨g, 0, none⟩) ∧ Hid (w.heap.size < base ∧ Wtr wx base g (hdA c ds.length) 124 false ∧ Frm (typed [5, 82] base w1) w1 wx))
  case first =>
    --REGION3
    refine wp_region_held_drew (S := (fun w' => w'.cell? ⟨w.heap.size, 2, none⟩ = some (.bool c) ∧ w'.cell? ⟨w.heap.size, 4, none⟩ = some (.slice a ds.length cp))) (by kernel_rfl) ⟨c2, c4⟩ (fun hHeld => ?_)
    refine wpAnyH_take (i := 4) (oi := ⟨some 16, _, _, _, _, _⟩) (v := ?_) rfl (by kernel_rfl) (by kernel_rfl) (by kernel_rfl) (fun _ _ _ h => h) (Or.inl ⟨by rfl, ?_⟩) (by assumption) ?_
    rotate_left
    · (intro w hSw; (try dsimp only at hSw); go_simp; try with_reducible rfl)
    try simp only [Act.put, List.setIfInBounds_toArray, List.set_cons_zero, List.set_cons_succ]
    refine wpAnyH_take (i := 5) (oi := ⟨some 17, _, _, _, _, _⟩) (v := ?_) rfl (by kernel_rfl) (by kernel_rfl) (by kernel_rfl) (fun _ _ _ h => h) (Or.inl ⟨by rfl, ?_⟩) (by assumption) ?_
    rotate_left
    · (intro w hSw; (try dsimp only at hSw); go_simp; try with_reducible rfl)
    try simp only [Act.put, List.setIfInBounds_toArray, List.set_cons_zero, List.set_cons_succ]
    refine wpAnyH_take (i := 8) (oi := ⟨some 20, _, _, _, _, _⟩) (v := ?_) rfl (by kernel_rfl) (by kernel_rfl) (by kernel_rfl) (fun _ _ _ h => h) (Or.inl ⟨by rfl, ?_⟩) (by assumption) ?_
    rotate_left
    · (intro w hSw; (try dsimp only at hSw); go_simp; try with_reducible rfl)
    try simp only [Act.put, List.setIfInBounds_toArray, List.set_cons_zero, List.set_cons_succ]
    refine wpAnyH_take (i := 9) (oi := ⟨some 21, _, _, _, _, _⟩) (v := ?_) rfl (by kernel_rfl) (by kernel_rfl) (by kernel_rfl) (fun _ _ _ h => h) (Or.inl ⟨by rfl, ?_⟩) (by assumption) ?_
    rotate_left
    · (intro w hSw; (try dsimp only at hSw); go_simp; try with_reducible rfl)
    try simp only [Act.put, List.setIfInBounds_toArray, List.set_cons_zero, List.set_cons_succ]
    refine wpAnyH_take (i := 10) (oi := ⟨some 22, _, _, _, _, _⟩) (v := ?_) rfl (by kernel_rfl) (by kernel_rfl) (by kernel_rfl) (fun _ _ _ h => h) (Or.inl ⟨by rfl, ?_⟩) (by assumption) ?_
    rotate_left
    · (intro w hSw; (try dsimp only at hSw); go_simp; try with_reducible rfl)
    try simp only [Act.put, List.setIfInBounds_toArray, List.set_cons_zero, List.set_cons_succ]
    refine wpAnyH_take (i := 11) (oi := ⟨some 23, _, _, _, _, _⟩) (v := ?_) rfl (by kernel_rfl) (by kernel_rfl) (by kernel_rfl) (fun _ _ _ h => h) (Or.inl ⟨by rfl, ?_⟩) (by assumption) ?_
    rotate_left
    · (intro w hSw; (try dsimp only at hSw); go_simp; try with_reducible rfl)
    try simp only [Act.put, List.setIfInBounds_toArray, List.set_cons_zero, List.set_cons_succ]
    refine wpAnyH_ready (rs := [0, 1]) (by kernel_rfl) (by simp) ?_
    refine AllReadyH.cons (o := ⟨some 12, _, _, _, _, _⟩) rfl (fun K hK => ?_) ?_
    · go_simp
      refine (new_any 124 _ (by decide) (by decide)).mono ?_
      rintro e w2 ⟨v2, rfl, base, g, rfl, hb, hw, hf2⟩
      simp only []
      have hfN := Lib.hid hf2
      have hb1 : w1.heap.size ≤ base := hb
      have hbase : Hid (w.heap.size < base) := Nat.lt_of_lt_of_le hsz.out (hb1)
      have hbas1 := Lib.hid hb1
      clear hb hb1
      refine hK.out _ _ ⟨hf2.cell_is (p := ⟨w.heap.size, 2, none⟩) (fun h => h) hHeld.1, hf2.cell_is (p := ⟨w.heap.size, 4, none⟩) (fun h => h) hHeld.2⟩ (fun hHeld => ?_)
      clear hf2
      have K2 := Lib.hid hHeld
      clear hK K
      refine wpAnyH_ready (rs := [1]) (by kernel_rfl) (by simp) ?_
      refine AllReadyH.cons (o := ⟨some 13, _, _, _, _, _⟩) rfl (fun K hK => ?_) AllReadyH.nil
      go_simp
      skip
      refine hK.out _ _ ⟨((Frm.refl no w2).alloc (.cells #[.int .u8 74, .int .u8 82] 5)).cell_is (p := ⟨w.heap.size, 2, none⟩) (fun h => h) hHeld.1, ((Frm.refl no w2).alloc (.cells #[.int .u8 74, .int .u8 82] 5)).cell_is (p := ⟨w.heap.size, 4, none⟩) (fun h => h) hHeld.2⟩ (fun hHeld => ?_)
      clear hK K
      refine wpAnyH_ready (rs := [2]) (by kernel_rfl) (by simp) ?_
      refine AllReadyH.cons (o := ⟨some 14, _, _, _, _, _⟩) rfl (fun K hK => ?_) AllReadyH.nil
      go_simp
      skip
      refine hK.out _ _ ⟨((Frm.refl no w2).alloc (.cells #[.int .u8 74, .int .u8 82] 5 (2, 3))).cell_is (p := ⟨w.heap.size, 2, none⟩) (fun h => h) K2.out.1, ((Frm.refl no w2).alloc (.cells #[.int .u8 74, .int .u8 82] 5 (2, 3))).cell_is (p := ⟨w.heap.size, 4, none⟩) (fun h => h) K2.out.2⟩ (fun hHeld => ?_)
      have hsl := Sl.of_blk (xs := [74, 82]) (n := 2) (c := 2) (more := []) e8_len (blk_new w2 (.cells #[.int .u8 74, .int .u8 82] 5 (2, 3))) rfl (by decide) (by decide)
      have hw1 := hw.frm_no ((Frm.refl no w2).alloc (.cells #[.int .u8 74, .int .u8 82] 5 (2, 3)))
      clear hw
      have hw := hw1
      clear hw1
      clear hK K
      refine wpAnyH_ready (rs := [3]) (by kernel_rfl) (by simp) ?_
      refine AllReadyH.cons (o := ⟨some 15, _, _, _, _, _⟩) rfl (fun K hK => ?_) AllReadyH.nil
      go_simp
      refine (wbytes_ok base g [] 124 _ [74, 82] _ hw hsl (by decide) (by decide)).mono ?_
      rintro e w3 ⟨v3, rfl, rfl, hw3, hf3⟩
      simp only []
      refine hK.out _ _ ⟨hf3.cell_is (p := ⟨w.heap.size, 2, none⟩) (fun h => absurd h.1 (Nat.not_le.2 hbase.out)) hHeld.1, hf3.cell_is (p := ⟨w.heap.size, 4, none⟩) (fun h => absurd h.1 (Nat.not_le.2 hbase.out)) hHeld.2⟩ (fun hHeld => ?_)
      clear hw
      have hw := hw3
      clear hw3
      have HF3 := Lib.hid hf3
      clear hf3 hsl
      clear hK K
      refine wpAnyH_ready (rs := [6]) (by kernel_rfl) (by simp) ?_
      refine AllReadyH.cons (o := ⟨some 18, _, _, _, _, _⟩) rfl (fun K hK => ?_) AllReadyH.nil
      go_simp
      refine (hflag _).mono ?_
      rintro e w' ⟨rfl, rfl⟩
      simp only []
      refine hK.out _ _ hHeld (fun hHeld => ?_)
      clear hK K
      refine wpAnyH_ready (rs := [7]) (by kernel_rfl) (by simp) ?_
      refine AllReadyH.cons (o := ⟨some 19, _, _, _, _, _⟩) rfl (fun K hK => ?_) AllReadyH.nil
      go_simp
      refine (put_ok base g ([] ++ [74, 82]) 124 1 fl _ hw rfl (by simp) (by decide) hfl0).mono ?_
      rintro e w3 ⟨v3, rfl, rfl, hw3, hf3⟩
      simp only []
      refine hK.out _ _ ⟨hf3.cell_is (p := ⟨w.heap.size, 2, none⟩) (fun h => absurd h.1 (Nat.not_le.2 hbase.out)) hHeld.1, hf3.cell_is (p := ⟨w.heap.size, 4, none⟩) (fun h => absurd h.1 (Nat.not_le.2 hbase.out)) hHeld.2⟩ (fun hHeld => ?_)
      clear hw
      have hw := hw3
      clear hw3
      have HF4 := Lib.hid hf3
      clear hf3
      clear hK K
      refine wpAnyH_ready (rs := [12]) (by kernel_rfl) (by simp) ?_
      refine AllReadyH.cons (o := ⟨some 24, _, _, _, _, _⟩) rfl (fun K hK => ?_) AllReadyH.nil
      go_simp
      refine (put_ok base g ([] ++ [74, 82] ++ leB 1 fl) 124 1 ds.length _ hw rfl (by simp [leB_len]) (by decide) (Int.natCast_nonneg _)).mono ?_
      rintro e w3 ⟨v3, rfl, rfl, hw3, hf3⟩
      simp only []
      refine hK.out _ _ ⟨hf3.cell_is (p := ⟨w.heap.size, 2, none⟩) (fun h => absurd h.1 (Nat.not_le.2 hbase.out)) hHeld.1, hf3.cell_is (p := ⟨w.heap.size, 4, none⟩) (fun h => absurd h.1 (Nat.not_le.2 hbase.out)) hHeld.2⟩ (fun hHeld => ?_)
      clear hw
      have hw := hw3
      clear hw3
      have HF5 := Lib.hid hf3
      clear hf3
      clear hK K
      refine wpAnyH_take (i := 13) (oi := ⟨some 4, _, _, _, _, _⟩) (v := ?_) rfl (by kernel_rfl) (by kernel_rfl) (by kernel_rfl) (fun _ _ _ h => h) (Or.inl ⟨by rfl, ?_⟩) (by assumption) ?_
      rotate_left
      · (intro w hSw; (try dsimp only at hSw); go_simp; try with_reducible rfl)
      try simp only [Act.put, List.setIfInBounds_toArray, List.set_cons_zero, List.set_cons_succ]
      refine wpAnyH_done (by kernel_rfl) ?_ _
      go_wp2_with fail
      go_meet
      refine ⟨base, g, rfl, ?_⟩
      refine ⟨hbase.out, ?_, ?_⟩
      · have := hw; rw [HFL.out] at this; exact this
      · exact Frm.typed_no (((Frm.refl no w1).drew.trans_no hfN.out).alloc _) (HF3.out.typed_trans (HF4.out.typed_trans HF5.out))
    refine AllReadyH.cons (o := ⟨some 13, _, _, _, _, _⟩) rfl (fun K hK => ?_) ?_
    · go_simp
      skip
      refine hK.out _ _ ⟨((Frm.refl no w1).alloc (.cells #[.int .u8 74, .int .u8 82] 5)).drew.cell_is (p := ⟨w.heap.size, 2, none⟩) (fun h => h) hHeld.1, ((Frm.refl no w1).alloc (.cells #[.int .u8 74, .int .u8 82] 5)).drew.cell_is (p := ⟨w.heap.size, 4, none⟩) (fun h => h) hHeld.2⟩ (fun hHeld => ?_)
      have hsl := Sl.of_blk (w := (w1.alloc (.cells #[.int .u8 74, .int .u8 82] 5)).drew) (xs := [74, 82]) (n := 2) (c := 2) (more := []) e8_len (blk_new w1 (.cells #[.int .u8 74, .int .u8 82] 5)) rfl (by decide) (by decide)
      have kc2 := run_convert_mark (P := Tryd.prog) ((w1.alloc (.cells #[.int .u8 74, .int .u8 82] 5)).drew) 26 5 w1.heap.size 0 2 2 _ _ Tryd.underlying26 Tryd.underlying5 (blk_new w1 (.cells #[.int .u8 74, .int .u8 82] 5))
      clear hK K
      refine wpAnyH_ready (rs := [0, 2]) (by kernel_rfl) (by simp) ?_
      refine AllReadyH.cons (o := ⟨some 12, _, _, _, _, _⟩) rfl (fun K hK => ?_) ?_
      · go_simp
        refine (new_any 124 _ (by decide) (by decide)).mono ?_
        rintro e w2 ⟨v2, rfl, base, g, rfl, hb, hw, hf2⟩
        simp only []
        have hfN := Lib.hid hf2
        have hb1 : w1.heap.size + 1 ≤ base := (by simpa using hb)
        have hbase : Hid (w.heap.size < base) := Nat.lt_of_lt_of_le hsz.out (Nat.le_of_succ_le hb1)
        have hbas1 := Lib.hid hb1
        clear hb hb1
        have hbt := blk_frm (S := no) (w := (w1.alloc (.cells #[.int .u8 74, .int .u8 82] 5)).drew) (blk_new w1 (.cells #[.int .u8 74, .int .u8 82] 5)) hf2 (fun h => h)
        clear kc2
        have kc2 := run_convert_mark (P := Tryd.prog) w2 26 5 w1.heap.size 0 2 2 _ _ Tryd.underlying26 Tryd.underlying5 hbt
        clear hbt
        have hsl2 := hsl.below hf2
        clear hsl
        have hsl := hsl2
        clear hsl2
        refine hK.out _ _ ⟨hf2.cell_is (p := ⟨w.heap.size, 2, none⟩) (fun h => h) hHeld.1, hf2.cell_is (p := ⟨w.heap.size, 4, none⟩) (fun h => h) hHeld.2⟩ (fun hHeld => ?_)
        clear hf2
        have K2 := Lib.hid hHeld
        clear hK K
        refine wpAnyH_ready (rs := [2]) (by kernel_rfl) (by simp) ?_
        refine AllReadyH.cons (o := ⟨some 14, _, _, _, _, _⟩) rfl (fun K hK => ?_) AllReadyH.nil
        go_simp
        skip
        refine hK.out _ _ ⟨(freeze_cell _ _ _ _).trans hHeld.1, (freeze_cell _ _ _ _).trans hHeld.2⟩ (fun hHeld => ?_)
        have hsl1 := hsl.same (freeze_cell w2 ⟨w1.heap.size, 2, none⟩ · 1) (freeze_frm w2 ⟨w1.heap.size, 2, none⟩ 1).size
        clear hsl
        have hsl := hsl1
        clear hsl1 kc2
        have hw1 := hw.frm (freeze_frm w2 ⟨w1.heap.size, 2, none⟩ 1) (fun k e => by subst e; exact hbas1.out)
        clear hw
        have hw := hw1
        clear hw1
        clear hK K
        refine wpAnyH_ready (rs := [3]) (by kernel_rfl) (by simp) ?_
        refine AllReadyH.cons (o := ⟨some 15, _, _, _, _, _⟩) rfl (fun K hK => ?_) AllReadyH.nil
        go_simp
        refine (wbytes_ok base g [] 124 _ [74, 82] _ hw hsl (by decide) (by decide)).mono ?_
        rintro e w3 ⟨v3, rfl, rfl, hw3, hf3⟩
        simp only []
        refine hK.out _ _ ⟨hf3.cell_is (p := ⟨w.heap.size, 2, none⟩) (fun h => absurd h.1 (Nat.not_le.2 hbase.out)) hHeld.1, hf3.cell_is (p := ⟨w.heap.size, 4, none⟩) (fun h => absurd h.1 (Nat.not_le.2 hbase.out)) hHeld.2⟩ (fun hHeld => ?_)
        clear hw
        have hw := hw3
        clear hw3
        have HF3 := Lib.hid hf3
        clear hf3 hsl
        clear hK K
        refine wpAnyH_ready (rs := [6]) (by kernel_rfl) (by simp) ?_
        refine AllReadyH.cons (o := ⟨some 18, _, _, _, _, _⟩) rfl (fun K hK => ?_) AllReadyH.nil
        go_simp
        refine (hflag _).mono ?_
        rintro e w' ⟨rfl, rfl⟩
        simp only []
        refine hK.out _ _ hHeld (fun hHeld => ?_)
        clear hK K
        refine wpAnyH_ready (rs := [7]) (by kernel_rfl) (by simp) ?_
        refine AllReadyH.cons (o := ⟨some 19, _, _, _, _, _⟩) rfl (fun K hK => ?_) AllReadyH.nil
        go_simp
        refine (put_ok base g ([] ++ [74, 82]) 124 1 fl _ hw rfl (by simp) (by decide) hfl0).mono ?_
        rintro e w3 ⟨v3, rfl, rfl, hw3, hf3⟩
        simp only []
        refine hK.out _ _ ⟨hf3.cell_is (p := ⟨w.heap.size, 2, none⟩) (fun h => absurd h.1 (Nat.not_le.2 hbase.out)) hHeld.1, hf3.cell_is (p := ⟨w.heap.size, 4, none⟩) (fun h => absurd h.1 (Nat.not_le.2 hbase.out)) hHeld.2⟩ (fun hHeld => ?_)
        clear hw
        have hw := hw3
        clear hw3
        have HF4 := Lib.hid hf3
        clear hf3
        clear hK K
        refine wpAnyH_ready (rs := [12]) (by kernel_rfl) (by simp) ?_
        refine AllReadyH.cons (o := ⟨some 24, _, _, _, _, _⟩) rfl (fun K hK => ?_) AllReadyH.nil
        go_simp
        refine (put_ok base g ([] ++ [74, 82] ++ leB 1 fl) 124 1 ds.length _ hw rfl (by simp [leB_len]) (by decide) (Int.natCast_nonneg _)).mono ?_
        rintro e w3 ⟨v3, rfl, rfl, hw3, hf3⟩
        simp only []
        refine hK.out _ _ ⟨hf3.cell_is (p := ⟨w.heap.size, 2, none⟩) (fun h => absurd h.1 (Nat.not_le.2 hbase.out)) hHeld.1, hf3.cell_is (p := ⟨w.heap.size, 4, none⟩) (fun h => absurd h.1 (Nat.not_le.2 hbase.out)) hHeld.2⟩ (fun hHeld => ?_)
        clear hw
        have hw := hw3
        clear hw3
        have HF5 := Lib.hid hf3
        clear hf3
        clear hK K
        refine wpAnyH_take (i := 13) (oi := ⟨some 4, _, _, _, _, _⟩) (v := ?_) rfl (by kernel_rfl) (by kernel_rfl) (by kernel_rfl) (fun _ _ _ h => h) (Or.inl ⟨by rfl, ?_⟩) (by assumption) ?_
        rotate_left
        · (intro w hSw; (try dsimp only at hSw); go_simp; try with_reducible rfl)
        try simp only [Act.put, List.setIfInBounds_toArray, List.set_cons_zero, List.set_cons_succ]
        refine wpAnyH_done (by kernel_rfl) ?_ _
        go_wp2_with fail
        go_meet
        refine ⟨base, g, rfl, ?_⟩
        refine ⟨hbase.out, ?_, ?_⟩
        · have := hw; rw [HFL.out] at this; exact this
        · exact Frm.typed_no (((((Frm.refl no w1).alloc _).drew).trans_no hfN.out).trans (freeze_frm _ _ _) (fun i hi e => absurd e (Nat.ne_of_lt hi))) (HF3.out.typed_trans (HF4.out.typed_trans HF5.out))
      refine AllReadyH.cons (o := ⟨some 14, _, _, _, _, _⟩) rfl (fun K hK => ?_) ?_
      · go_simp
        skip
        refine hK.out _ _ ⟨(freeze_cell _ _ _ _).trans hHeld.1, (freeze_cell _ _ _ _).trans hHeld.2⟩ (fun hHeld => ?_)
        have hsl1 := hsl.same (freeze_cell ((w1.alloc (.cells #[.int .u8 74, .int .u8 82] 5)).drew) ⟨w1.heap.size, 2, none⟩ · 1) (freeze_frm ((w1.alloc (.cells #[.int .u8 74, .int .u8 82] 5)).drew) ⟨w1.heap.size, 2, none⟩ 1).size
        clear hsl
        have hsl := hsl1
        clear hsl1 kc2
        clear hK K
        refine wpAnyH_ready (rs := [0]) (by kernel_rfl) (by simp) ?_
        refine AllReadyH.cons (o := ⟨some 12, _, _, _, _, _⟩) rfl (fun K hK => ?_) AllReadyH.nil
        go_simp
        refine (new_any 124 _ (by decide) (by decide)).mono ?_
        rintro e w2 ⟨v2, rfl, base, g, rfl, hb, hw, hf2⟩
        simp only []
        have hfN := Lib.hid hf2
        have hb1 : w1.heap.size + 1 ≤ base := (Nat.le_trans (by simpa using (freeze_frm (w1.alloc (.cells #[.int .u8 74, .int .u8 82] 5)).drew ⟨w1.heap.size, 2, none⟩ 1).size) hb)
        have hbase : Hid (w.heap.size < base) := Nat.lt_of_lt_of_le hsz.out (Nat.le_of_succ_le hb1)
        have hbas1 := Lib.hid hb1
        clear hb hb1
        have hsl2 := hsl.below hf2
        clear hsl
        have hsl := hsl2
        clear hsl2
        refine hK.out _ _ ⟨hf2.cell_is (p := ⟨w.heap.size, 2, none⟩) (fun h => h) hHeld.1, hf2.cell_is (p := ⟨w.heap.size, 4, none⟩) (fun h => h) hHeld.2⟩ (fun hHeld => ?_)
        clear hf2
        have K2 := Lib.hid hHeld
        clear hK K
        refine wpAnyH_ready (rs := [3]) (by kernel_rfl) (by simp) ?_
        refine AllReadyH.cons (o := ⟨some 15, _, _, _, _, _⟩) rfl (fun K hK => ?_) AllReadyH.nil
        go_simp
        refine (wbytes_ok base g [] 124 _ [74, 82] _ hw hsl (by decide) (by decide)).mono ?_
        rintro e w3 ⟨v3, rfl, rfl, hw3, hf3⟩
        simp only []
        refine hK.out _ _ ⟨hf3.cell_is (p := ⟨w.heap.size, 2, none⟩) (fun h => absurd h.1 (Nat.not_le.2 hbase.out)) hHeld.1, hf3.cell_is (p := ⟨w.heap.size, 4, none⟩) (fun h => absurd h.1 (Nat.not_le.2 hbase.out)) hHeld.2⟩ (fun hHeld => ?_)
        clear hw
        have hw := hw3
        clear hw3
        have HF3 := Lib.hid hf3
        clear hf3 hsl
        clear hK K
        refine wpAnyH_ready (rs := [6]) (by kernel_rfl) (by simp) ?_
        refine AllReadyH.cons (o := ⟨some 18, _, _, _, _, _⟩) rfl (fun K hK => ?_) AllReadyH.nil
        go_simp
        refine (hflag _).mono ?_
        rintro e w' ⟨rfl, rfl⟩
        simp only []
        refine hK.out _ _ hHeld (fun hHeld => ?_)
        clear hK K
        refine wpAnyH_ready (rs := [7]) (by kernel_rfl) (by simp) ?_
        refine AllReadyH.cons (o := ⟨some 19, _, _, _, _, _⟩) rfl (fun K hK => ?_) AllReadyH.nil
        go_simp
        refine (put_ok base g ([] ++ [74, 82]) 124 1 fl _ hw rfl (by simp) (by decide) hfl0).mono ?_
        rintro e w3 ⟨v3, rfl, rfl, hw3, hf3⟩
        simp only []
        refine hK.out _ _ ⟨hf3.cell_is (p := ⟨w.heap.size, 2, none⟩) (fun h => absurd h.1 (Nat.not_le.2 hbase.out)) hHeld.1, hf3.cell_is (p := ⟨w.heap.size, 4, none⟩) (fun h => absurd h.1 (Nat.not_le.2 hbase.out)) hHeld.2⟩ (fun hHeld => ?_)
        clear hw
        have hw := hw3
        clear hw3
        have HF4 := Lib.hid hf3
        clear hf3
        clear hK K
        refine wpAnyH_ready (rs := [12]) (by kernel_rfl) (by simp) ?_
        refine AllReadyH.cons (o := ⟨some 24, _, _, _, _, _⟩) rfl (fun K hK => ?_) AllReadyH.nil
        go_simp
        refine (put_ok base g ([] ++ [74, 82] ++ leB 1 fl) 124 1 ds.length _ hw rfl (by simp [leB_len]) (by decide) (Int.natCast_nonneg _)).mono ?_
        rintro e w3 ⟨v3, rfl, rfl, hw3, hf3⟩
        simp only []
        refine hK.out _ _ ⟨hf3.cell_is (p := ⟨w.heap.size, 2, none⟩) (fun h => absurd h.1 (Nat.not_le.2 hbase.out)) hHeld.1, hf3.cell_is (p := ⟨w.heap.size, 4, none⟩) (fun h => absurd h.1 (Nat.not_le.2 hbase.out)) hHeld.2⟩ (fun hHeld => ?_)
        clear hw
        have hw := hw3
        clear hw3
        have HF5 := Lib.hid hf3
        clear hf3
        clear hK K
        refine wpAnyH_take (i := 13) (oi := ⟨some 4, _, _, _, _, _⟩) (v := ?_) rfl (by kernel_rfl) (by kernel_rfl) (by kernel_rfl) (fun _ _ _ h => h) (Or.inl ⟨by rfl, ?_⟩) (by assumption) ?_
        rotate_left
        · (intro w hSw; (try dsimp only at hSw); go_simp; try with_reducible rfl)
        try simp only [Act.put, List.setIfInBounds_toArray, List.set_cons_zero, List.set_cons_succ]
        refine wpAnyH_done (by kernel_rfl) ?_ _
        go_wp2_with fail
        go_meet
        refine ⟨base, g, rfl, ?_⟩
        refine ⟨hbase.out, ?_, ?_⟩
        · have := hw; rw [HFL.out] at this; exact this
        · exact Frm.typed_no (((((Frm.refl no w1).alloc _).drew).trans (freeze_frm _ _ _) (fun i hi e => absurd e (Nat.ne_of_lt hi))).trans_no hfN.out) (HF3.out.typed_trans (HF4.out.typed_trans HF5.out))
      exact AllReadyH.nil
    exact AllReadyH.nil
    --END3
  case rest =>
    obtain ⟨base, g, rfl, HC0⟩ := hcut
    obtain ⟨hbase, hw, hcut2⟩ := HC0.out
    have hbase := Lib.hid hbase
    clear HC0
    obtain ⟨hd6, hdm, h1, h2, h3, hn, hm, hf1, hb0, hv⟩ := HD.out
    have hbw := hcut2.typed_blk hb0 (by decide)
    have hp : 0 ≤ e ∧ 0 ≤ s ∧ 0 ≤ u := by simp [wi] at h1 h2 h3; omega
    have hue : IntKind.u64.wrap e = e := by simp [wi] at h1; rw [IntKind.wrap_u64]; omega
    have hus : IntKind.u64.wrap s = s := by simp [wi] at h2; rw [IntKind.wrap_u64]; omega
    have huu : IntKind.u64.wrap u = u := by simp [wi] at h3; rw [IntKind.wrap_u64]; omega
    clear hd6 hdm h1 h2 h3 hn hm hf1 hb0 hv
    go_wp2_with fail
    have hwd := hw.frm_no ((Frm.refl no wc).drew)
    clear hw
    have hw := hwd
    clear hwd
    --REGION4
    refine wp_region_held_drew (S := (fun w' => w'.heap[w.heap.size]? = some (.cells #[.int .i64 e, .int .i64 s, .bool c, .int .i64 u, .slice a ds.length cp] 24 (0, 0)))) (by kernel_rfl) hbw (fun hHeld => ?_)
    refine wpAnyH_take (i := 0) (oi := ⟨some 25, _, _, _, _, _⟩) (v := ?_) rfl (by kernel_rfl) (by kernel_rfl) (by kernel_rfl) (fun _ _ _ h => h) (Or.inl ⟨by rfl, ?_⟩) (by assumption) ?_
    rotate_left
    · (intro w hSw; (try dsimp only at hSw); obtain ⟨q0, q1, q2, q3, q4⟩ := blk5 hSw; go_simp; try with_reducible rfl)
    try simp only [Act.put, List.setIfInBounds_toArray, List.set_cons_zero, List.set_cons_succ]
    refine wpAnyH_take (i := 1) (oi := ⟨some 26, _, _, _, _, _⟩) (v := ?_) rfl (by kernel_rfl) (by kernel_rfl) (by kernel_rfl) (fun _ _ _ h => h) (Or.inl ⟨by rfl, ?_⟩) (by assumption) ?_
    rotate_left
    · (intro w hSw; (try dsimp only at hSw); obtain ⟨q0, q1, q2, q3, q4⟩ := blk5 hSw; go_simp; try with_reducible rfl)
    try simp only [Act.put, List.setIfInBounds_toArray, List.set_cons_zero, List.set_cons_succ]
    refine wpAnyH_take (i := 2) (oi := ⟨some 27, _, _, _, _, _⟩) (v := ?_) rfl (by kernel_rfl) (by kernel_rfl) (by kernel_rfl) (fun _ _ _ h => h) (Or.inl ⟨by rfl, ?_⟩) (by assumption) ?_
    rotate_left
    · (intro w hSw; (try dsimp only at hSw); obtain ⟨q0, q1, q2, q3, q4⟩ := blk5 hSw; go_simp; try with_reducible rfl)
    try simp only [Act.put, List.setIfInBounds_toArray, List.set_cons_zero, List.set_cons_succ]
    refine wpAnyH_take (i := 3) (oi := ⟨some 28, _, _, _, _, _⟩) (v := ?_) rfl (by kernel_rfl) (by kernel_rfl) (by kernel_rfl) (fun _ _ _ h => h) (Or.inl ⟨by rfl, ?_⟩) (by assumption) ?_
    rotate_left
    · (intro w hSw; (try dsimp only at hSw); obtain ⟨q0, q1, q2, q3, q4⟩ := blk5 hSw; go_simp; try with_reducible rfl)
    try simp only [Act.put, List.setIfInBounds_toArray, List.set_cons_zero, List.set_cons_succ]
    refine wpAnyH_take (i := 5) (oi := ⟨some 30, _, _, _, _, _⟩) (v := ?_) rfl (by kernel_rfl) (by kernel_rfl) (by kernel_rfl) (fun _ _ _ h => h) (Or.inl ⟨by rfl, ?_⟩) (by assumption) ?_
    rotate_left
    · (intro w hSw; (try dsimp only at hSw); obtain ⟨q0, q1, q2, q3, q4⟩ := blk5 hSw; go_simp; try with_reducible rfl)
    try simp only [Act.put, List.setIfInBounds_toArray, List.set_cons_zero, List.set_cons_succ]
    refine wpAnyH_take (i := 6) (oi := ⟨some 31, _, _, _, _, _⟩) (v := ?_) rfl (by kernel_rfl) (by kernel_rfl) (by kernel_rfl) (fun _ _ _ h => h) (Or.inl ⟨by rfl, ?_⟩) (by assumption) ?_
    rotate_left
    · (intro w hSw; (try dsimp only at hSw); obtain ⟨q0, q1, q2, q3, q4⟩ := blk5 hSw; go_simp; try with_reducible rfl)
    try simp only [Act.put, List.setIfInBounds_toArray, List.set_cons_zero, List.set_cons_succ]
    refine wpAnyH_take (i := 7) (oi := ⟨some 32, _, _, _, _, _⟩) (v := ?_) rfl (by kernel_rfl) (by kernel_rfl) (by kernel_rfl) (fun _ _ _ h => h) (Or.inl ⟨by rfl, ?_⟩) (by assumption) ?_
    rotate_left
    · (intro w hSw; (try dsimp only at hSw); obtain ⟨q0, q1, q2, q3, q4⟩ := blk5 hSw; go_simp; try with_reducible rfl)
    try simp only [Act.put, List.setIfInBounds_toArray, List.set_cons_zero, List.set_cons_succ]
    refine wpAnyH_take (i := 9) (oi := ⟨some 34, _, _, _, _, _⟩) (v := ?_) rfl (by kernel_rfl) (by kernel_rfl) (by kernel_rfl) (fun _ _ _ h => h) (Or.inl ⟨by rfl, ?_⟩) (by assumption) ?_
    rotate_left
    · (intro w hSw; (try dsimp only at hSw); obtain ⟨q0, q1, q2, q3, q4⟩ := blk5 hSw; go_simp; try with_reducible rfl)
    try simp only [Act.put, List.setIfInBounds_toArray, List.set_cons_zero, List.set_cons_succ]
    refine wpAnyH_take (i := 10) (oi := ⟨some 35, _, _, _, _, _⟩) (v := ?_) rfl (by kernel_rfl) (by kernel_rfl) (by kernel_rfl) (fun _ _ _ h => h) (Or.inl ⟨by rfl, ?_⟩) (by assumption) ?_
    rotate_left
    · (intro w hSw; (try dsimp only at hSw); obtain ⟨q0, q1, q2, q3, q4⟩ := blk5 hSw; go_simp; try with_reducible rfl)
    try simp only [Act.put, List.setIfInBounds_toArray, List.set_cons_zero, List.set_cons_succ]
    refine wpAnyH_take (i := 11) (oi := ⟨some 36, _, _, _, _, _⟩) (v := ?_) rfl (by kernel_rfl) (by kernel_rfl) (by kernel_rfl) (fun _ _ _ h => h) (Or.inl ⟨by rfl, ?_⟩) (by assumption) ?_
    rotate_left
    · (intro w hSw; (try dsimp only at hSw); obtain ⟨q0, q1, q2, q3, q4⟩ := blk5 hSw; go_simp; try with_reducible rfl)
    try simp only [Act.put, List.setIfInBounds_toArray, List.set_cons_zero, List.set_cons_succ]
    refine wpAnyH_ready (rs := [4]) (by kernel_rfl) (by simp) ?_
    refine AllReadyH.cons (o := ⟨some 29, _, _, _, _, _⟩) rfl (fun K hK => ?_) AllReadyH.nil
    go_simp
    refine (put_ok base g (hdA c ds.length) 124 4 e _ hw rfl (by (try simp only [hdA_len]); omega) (by decide) hp.1).mono ?_
    rintro e w3 ⟨v3, rfl, rfl, hw3, hf3⟩
    simp only []
    refine hK.out _ _ (hf3.typed_blk hHeld (by decide)) (fun hHeld => ?_)
    clear hw
    have hw := hw3
    clear hw3
    have G3 := Lib.hid hf3
    clear hf3
    clear hK K
    refine wpAnyH_ready (rs := [8]) (by kernel_rfl) (by simp) ?_
    refine AllReadyH.cons (o := ⟨some 33, _, _, _, _, _⟩) rfl (fun K hK => ?_) AllReadyH.nil
    go_simp
    refine (put_ok base g (hdA c ds.length ++ leB 4 e) 124 8 s _ hw rfl (by (try simp only [List.length_append, hdA_len, leB_len]); omega) (by decide) hp.2.1).mono ?_
    rintro e w3 ⟨v3, rfl, rfl, hw3, hf3⟩
    simp only []
    refine hK.out _ _ (hf3.typed_blk hHeld (by decide)) (fun hHeld => ?_)
    clear hw
    have hw := hw3
    clear hw3
    have G4 := Lib.hid hf3
    clear hf3
    clear hK K
    refine wpAnyH_ready (rs := [12]) (by kernel_rfl) (by simp) ?_
    refine AllReadyH.cons (o := ⟨some 37, _, _, _, _, _⟩) rfl (fun K hK => ?_) AllReadyH.nil
    go_simp
    refine (put_ok base g (hdA c ds.length ++ leB 4 e ++ leB 8 s) 124 8 u _ hw rfl (by (try simp only [List.length_append, hdA_len, leB_len]); omega) (by decide) hp.2.2).mono ?_
    rintro e w3 ⟨v3, rfl, rfl, hw3, hf3⟩
    simp only []
    refine hK.out _ _ (hf3.typed_blk hHeld (by decide)) (fun hHeld => ?_)
    clear hw
    have hw := hw3
    clear hw3
    have G5 := Lib.hid hf3
    clear hf3
    clear hK K
    refine wpAnyH_done (by kernel_rfl) ?_ _
    have hw4 := hw
    rw [show hdA c ds.length ++ leB 4 e ++ leB 8 s ++ leB 8 u = hdA c ds.length ++ hdB e s u from by simp only [hdB, List.append_assoc]] at hw4
    have HW := Lib.hid hw4
    have HC := Lib.hid (hcut2.typed_trans ((G3.out.typed_trans (G4.out.typed_trans G5.out)) |> Frm.typed_no ((Frm.refl no _).drew)))
    clear hw hw4 G3 G4 G5 hcut2
    --END4
    obtain ⟨q0, q1, q2, q3, q4⟩ := blk5 hHeld
    go_wp2_with fail
    clear q0 q1 q2 q3 q4
    have hsrc := Lib.hid (fun W (h : Frm (typed [5, 82] base w1) w1 W) => (show Sl eD 5 W (.slice a ds.length cp) ds from
      (HD.out.2.2.2.2.2.2.2.2.2.below (((Frm.refl no w).alloc _).trans_no HD.out.2.2.2.2.2.2.2.1)).frm h (fun k hk ht => by
        have h1 := HD.out.2.2.2.2.2.2.2.2.2.lt hk
        have h2 := ht.1
        have h3 := hbase.out
        omega)))
    go_loopw [41] (fun i wr => ∃ k : Nat, k ≤ ds.length ∧ i = .int .i64 k ∧ Hid (Wtr wr base g (hdA c ds.length ++ hdB e s u ++ (ds.take k).flatMap dlB) 124 false) ∧ Hid (Frm (typed [5, 82] base w1) w1 wr)) (fun i _ => ds.length - (intOf i).toNat)
    case atStart => exact ⟨0, Nat.zero_le _, rfl, by simpa using HW, HC⟩
    case round =>
      obtain ⟨k, hk, rfl, HW, HC⟩ := hrel
      by_cases hlt : k < ds.length
      · obtain ⟨d, hd⟩ : ∃ d, ds[k]? = some d := ⟨_, List.getElem?_eq_getElem hlt⟩
        obtain ⟨ga, off, rfl⟩ : ∃ g off, a = some ⟨g, off, none⟩ := by
          rcases hsrc.out wr HC.out with ⟨h, h0⟩ | ⟨g, off, c', h, _⟩
          · rw [h0] at hlt; simp at hlt
          · simp at h; exact ⟨_, _, h.1⟩
        obtain ⟨e0, e1, e2, e3, e4⟩ := (hsrc.out wr HC.out).delta hd
        have hmd := List.all_eq_true.1 HD.out.2.1 d (List.mem_of_getElem? hd)
        have hsn : Hid ((ds.take (k + 1)).flatMap dlB = (ds.take k).flatMap dlB ++ dlB d) := by
          show _ = _
          rw [List.take_add_one, hd, List.flatMap_append]; simp
        have hbdd := mayD_bd d hmd
        obtain ⟨dk, da, dm, dz, dO⟩ := d
        dsimp only at hbdd e0 e1 e2 e3 e4
        clear hd hmd
        have hq : 0 ≤ dk ∧ 0 ≤ dz ∧ 0 ≤ dm ∧ 0 ≤ da ∧ 0 ≤ dO := by omega
        have hw1 : IntKind.u64.wrap dk = dk := by rw [IntKind.wrap_u64]; omega
        have hw2 : IntKind.u64.wrap da = da := by rw [IntKind.wrap_u64]; omega
        have hw3 : IntKind.u64.wrap dm = dm := by rw [IntKind.wrap_u64]; omega
        have hw4 : IntKind.u64.wrap dz = dz := by rw [IntKind.wrap_u64]; omega
        have hw5 : IntKind.u64.wrap dO = dO := by rw [IntKind.wrap_u64]; omega
        clear hbdd
        have hBl : (hdA c ds.length ++ hdB e s u ++ (ds.take k).flatMap dlB).length ≤ 24 + 16 * 5 := by
          have := HD.out.1
          simp only [List.length_append, hdA_len, hdB_len, dlBs_len, List.length_take]
          omega
        have HW0 := HW.out
        obtain ⟨B0, HB⟩ : ∃ B0, Hid (hdA c ds.length ++ hdB e s u ++ (ds.take k).flatMap dlB = B0) := ⟨_, rfl⟩
        rw [HB.out] at HW0 hBl
        have HB0 := Lib.hid hBl
        have HW1 := Lib.hid HW0
        clear hBl HW0 HW
        go_wp2_with fail
        have hw := HW1.out.frm_no (((Frm.refl no wr).alloc (.cells #[.int .i64 dk, .int .i64 da, .int .i64 dm, .int .i64 dz, .int .i64 dO] 39)).drew)
        have hbd := blk_new wr (.cells #[.int .i64 dk, .int .i64 da, .int .i64 dm, .int .i64 dz, .int .i64 dO] 39)
        clear HW1
        --REGION8
        refine wp_region_held_drew (S := (fun w' => w'.heap[wr.heap.size]? = some (.cells #[.int .i64 dk, .int .i64 da, .int .i64 dm, .int .i64 dz, .int .i64 dO] 39 (0, 0)))) (by kernel_rfl) hbd (fun hHeld => ?_)
        refine wpAnyH_take (i := 0) (oi := ⟨some 45, _, _, _, _, _⟩) (v := ?_) rfl (by kernel_rfl) (by kernel_rfl) (by kernel_rfl) (fun _ _ _ h => h) (Or.inl ⟨by rfl, ?_⟩) (by assumption) ?_
        rotate_left
        · (intro w hSw; (try dsimp only at hSw); obtain ⟨q0, q1, q2, q3, q4⟩ := blk5 hSw; go_simp; try with_reducible rfl)
        try simp only [Act.put, List.setIfInBounds_toArray, List.set_cons_zero, List.set_cons_succ]
        refine wpAnyH_take (i := 1) (oi := ⟨some 46, _, _, _, _, _⟩) (v := ?_) rfl (by kernel_rfl) (by kernel_rfl) (by kernel_rfl) (fun _ _ _ h => h) (Or.inl ⟨by rfl, ?_⟩) (by assumption) ?_
        rotate_left
        · (intro w hSw; (try dsimp only at hSw); obtain ⟨q0, q1, q2, q3, q4⟩ := blk5 hSw; go_simp; try with_reducible rfl)
        try simp only [Act.put, List.setIfInBounds_toArray, List.set_cons_zero, List.set_cons_succ]
        refine wpAnyH_take (i := 2) (oi := ⟨some 47, _, _, _, _, _⟩) (v := ?_) rfl (by kernel_rfl) (by kernel_rfl) (by kernel_rfl) (fun _ _ _ h => h) (Or.inl ⟨by rfl, ?_⟩) (by assumption) ?_
        rotate_left
        · (intro w hSw; (try dsimp only at hSw); obtain ⟨q0, q1, q2, q3, q4⟩ := blk5 hSw; go_simp; try with_reducible rfl)
        try simp only [Act.put, List.setIfInBounds_toArray, List.set_cons_zero, List.set_cons_succ]
        refine wpAnyH_take (i := 3) (oi := ⟨some 48, _, _, _, _, _⟩) (v := ?_) rfl (by kernel_rfl) (by kernel_rfl) (by kernel_rfl) (fun _ _ _ h => h) (Or.inl ⟨by rfl, ?_⟩) (by assumption) ?_
        rotate_left
        · (intro w hSw; (try dsimp only at hSw); obtain ⟨q0, q1, q2, q3, q4⟩ := blk5 hSw; go_simp; try with_reducible rfl)
        try simp only [Act.put, List.setIfInBounds_toArray, List.set_cons_zero, List.set_cons_succ]
        refine wpAnyH_take (i := 5) (oi := ⟨some 50, _, _, _, _, _⟩) (v := ?_) rfl (by kernel_rfl) (by kernel_rfl) (by kernel_rfl) (fun _ _ _ h => h) (Or.inl ⟨by rfl, ?_⟩) (by assumption) ?_
        rotate_left
        · (intro w hSw; (try dsimp only at hSw); obtain ⟨q0, q1, q2, q3, q4⟩ := blk5 hSw; go_simp; try with_reducible rfl)
        try simp only [Act.put, List.setIfInBounds_toArray, List.set_cons_zero, List.set_cons_succ]
        refine wpAnyH_take (i := 6) (oi := ⟨some 51, _, _, _, _, _⟩) (v := ?_) rfl (by kernel_rfl) (by kernel_rfl) (by kernel_rfl) (fun _ _ _ h => h) (Or.inl ⟨by rfl, ?_⟩) (by assumption) ?_
        rotate_left
        · (intro w hSw; (try dsimp only at hSw); obtain ⟨q0, q1, q2, q3, q4⟩ := blk5 hSw; go_simp; try with_reducible rfl)
        try simp only [Act.put, List.setIfInBounds_toArray, List.set_cons_zero, List.set_cons_succ]
        refine wpAnyH_take (i := 7) (oi := ⟨some 52, _, _, _, _, _⟩) (v := ?_) rfl (by kernel_rfl) (by kernel_rfl) (by kernel_rfl) (fun _ _ _ h => h) (Or.inl ⟨by rfl, ?_⟩) (by assumption) ?_
        rotate_left
        · (intro w hSw; (try dsimp only at hSw); obtain ⟨q0, q1, q2, q3, q4⟩ := blk5 hSw; go_simp; try with_reducible rfl)
        try simp only [Act.put, List.setIfInBounds_toArray, List.set_cons_zero, List.set_cons_succ]
        refine wpAnyH_take (i := 9) (oi := ⟨some 54, _, _, _, _, _⟩) (v := ?_) rfl (by kernel_rfl) (by kernel_rfl) (by kernel_rfl) (fun _ _ _ h => h) (Or.inl ⟨by rfl, ?_⟩) (by assumption) ?_
        rotate_left
        · (intro w hSw; (try dsimp only at hSw); obtain ⟨q0, q1, q2, q3, q4⟩ := blk5 hSw; go_simp; try with_reducible rfl)
        try simp only [Act.put, List.setIfInBounds_toArray, List.set_cons_zero, List.set_cons_succ]
        refine wpAnyH_take (i := 10) (oi := ⟨some 55, _, _, _, _, _⟩) (v := ?_) rfl (by kernel_rfl) (by kernel_rfl) (by kernel_rfl) (fun _ _ _ h => h) (Or.inl ⟨by rfl, ?_⟩) (by assumption) ?_
        rotate_left
        · (intro w hSw; (try dsimp only at hSw); obtain ⟨q0, q1, q2, q3, q4⟩ := blk5 hSw; go_simp; try with_reducible rfl)
        try simp only [Act.put, List.setIfInBounds_toArray, List.set_cons_zero, List.set_cons_succ]
        refine wpAnyH_take (i := 11) (oi := ⟨some 56, _, _, _, _, _⟩) (v := ?_) rfl (by kernel_rfl) (by kernel_rfl) (by kernel_rfl) (fun _ _ _ h => h) (Or.inl ⟨by rfl, ?_⟩) (by assumption) ?_
        rotate_left
        · (intro w hSw; (try dsimp only at hSw); obtain ⟨q0, q1, q2, q3, q4⟩ := blk5 hSw; go_simp; try with_reducible rfl)
        try simp only [Act.put, List.setIfInBounds_toArray, List.set_cons_zero, List.set_cons_succ]
        refine wpAnyH_take (i := 13) (oi := ⟨some 58, _, _, _, _, _⟩) (v := ?_) rfl (by kernel_rfl) (by kernel_rfl) (by kernel_rfl) (fun _ _ _ h => h) (Or.inl ⟨by rfl, ?_⟩) (by assumption) ?_
        rotate_left
        · (intro w hSw; (try dsimp only at hSw); obtain ⟨q0, q1, q2, q3, q4⟩ := blk5 hSw; go_simp; try with_reducible rfl)
        try simp only [Act.put, List.setIfInBounds_toArray, List.set_cons_zero, List.set_cons_succ]
        refine wpAnyH_take (i := 14) (oi := ⟨some 59, _, _, _, _, _⟩) (v := ?_) rfl (by kernel_rfl) (by kernel_rfl) (by kernel_rfl) (fun _ _ _ h => h) (Or.inl ⟨by rfl, ?_⟩) (by assumption) ?_
        rotate_left
        · (intro w hSw; (try dsimp only at hSw); obtain ⟨q0, q1, q2, q3, q4⟩ := blk5 hSw; go_simp; try with_reducible rfl)
        try simp only [Act.put, List.setIfInBounds_toArray, List.set_cons_zero, List.set_cons_succ]
        refine wpAnyH_take (i := 15) (oi := ⟨some 60, _, _, _, _, _⟩) (v := ?_) rfl (by kernel_rfl) (by kernel_rfl) (by kernel_rfl) (fun _ _ _ h => h) (Or.inl ⟨by rfl, ?_⟩) (by assumption) ?_
        rotate_left
        · (intro w hSw; (try dsimp only at hSw); obtain ⟨q0, q1, q2, q3, q4⟩ := blk5 hSw; go_simp; try with_reducible rfl)
        try simp only [Act.put, List.setIfInBounds_toArray, List.set_cons_zero, List.set_cons_succ]
        refine wpAnyH_take (i := 17) (oi := ⟨some 62, _, _, _, _, _⟩) (v := ?_) rfl (by kernel_rfl) (by kernel_rfl) (by kernel_rfl) (fun _ _ _ h => h) (Or.inl ⟨by rfl, ?_⟩) (by assumption) ?_
        rotate_left
        · (intro w hSw; (try dsimp only at hSw); obtain ⟨q0, q1, q2, q3, q4⟩ := blk5 hSw; go_simp; try with_reducible rfl)
        try simp only [Act.put, List.setIfInBounds_toArray, List.set_cons_zero, List.set_cons_succ]
        refine wpAnyH_take (i := 18) (oi := ⟨some 63, _, _, _, _, _⟩) (v := ?_) rfl (by kernel_rfl) (by kernel_rfl) (by kernel_rfl) (fun _ _ _ h => h) (Or.inl ⟨by rfl, ?_⟩) (by assumption) ?_
        rotate_left
        · (intro w hSw; (try dsimp only at hSw); obtain ⟨q0, q1, q2, q3, q4⟩ := blk5 hSw; go_simp; try with_reducible rfl)
        try simp only [Act.put, List.setIfInBounds_toArray, List.set_cons_zero, List.set_cons_succ]
        refine wpAnyH_take (i := 19) (oi := ⟨some 64, _, _, _, _, _⟩) (v := ?_) rfl (by kernel_rfl) (by kernel_rfl) (by kernel_rfl) (fun _ _ _ h => h) (Or.inl ⟨by rfl, ?_⟩) (by assumption) ?_
        rotate_left
        · (intro w hSw; (try dsimp only at hSw); obtain ⟨q0, q1, q2, q3, q4⟩ := blk5 hSw; go_simp; try with_reducible rfl)
        try simp only [Act.put, List.setIfInBounds_toArray, List.set_cons_zero, List.set_cons_succ]
        refine wpAnyH_ready (rs := [4]) (by kernel_rfl) (by simp) ?_
        refine AllReadyH.cons (o := ⟨some 49, _, _, _, _, _⟩) rfl (fun K hK => ?_) AllReadyH.nil
        go_simp
        refine (put_ok base g (B0) 124 1 dk _ hw rfl (by (try simp only [List.length_append, hdA_len, hdB_len, leB_len, List.length_nil]); have := HB0.out; omega) (by decide) hq.1).mono ?_
        rintro e w3 ⟨v3, rfl, rfl, hw3, hf3⟩
        simp only []
        refine hK.out _ _ (hf3.typed_blk hHeld (by decide)) (fun hHeld => ?_)
        clear hw
        have hw := hw3
        clear hw3
        have J0 := Lib.hid hf3
        clear hf3
        clear hK K
        refine wpAnyH_ready (rs := [8]) (by kernel_rfl) (by simp) ?_
        refine AllReadyH.cons (o := ⟨some 53, _, _, _, _, _⟩) rfl (fun K hK => ?_) AllReadyH.nil
        go_simp
        refine (put_ok base g (B0 ++ leB 1 dk) 124 1 dz _ hw rfl (by (try simp only [List.length_append, leB_len]); have := HB0.out; omega) (by decide) hq.2.1).mono ?_
        rintro e w3 ⟨v3, rfl, rfl, hw3, hf3⟩
        simp only []
        refine hK.out _ _ (hf3.typed_blk hHeld (by decide)) (fun hHeld => ?_)
        clear hw
        have hw := hw3
        clear hw3
        have J1 := Lib.hid hf3
        clear hf3
        clear hK K
        refine wpAnyH_ready (rs := [12]) (by kernel_rfl) (by simp) ?_
        refine AllReadyH.cons (o := ⟨some 57, _, _, _, _, _⟩) rfl (fun K hK => ?_) AllReadyH.nil
        go_simp
        refine (put_ok base g (B0 ++ leB 1 dk ++ leB 1 dz) 124 2 dm _ hw rfl (by (try simp only [List.length_append, leB_len]); have := HB0.out; omega) (by decide) hq.2.2.1).mono ?_
        rintro e w3 ⟨v3, rfl, rfl, hw3, hf3⟩
        simp only []
        refine hK.out _ _ (hf3.typed_blk hHeld (by decide)) (fun hHeld => ?_)
        clear hw
        have hw := hw3
        clear hw3
        have J2 := Lib.hid hf3
        clear hf3
        clear hK K
        refine wpAnyH_ready (rs := [16]) (by kernel_rfl) (by simp) ?_
        refine AllReadyH.cons (o := ⟨some 61, _, _, _, _, _⟩) rfl (fun K hK => ?_) AllReadyH.nil
        go_simp
        refine (put_ok base g (B0 ++ leB 1 dk ++ leB 1 dz ++ leB 2 dm) 124 4 da _ hw rfl (by (try simp only [List.length_append, leB_len]); have := HB0.out; omega) (by decide) hq.2.2.2.1).mono ?_
        rintro e w3 ⟨v3, rfl, rfl, hw3, hf3⟩
        simp only []
        refine hK.out _ _ (hf3.typed_blk hHeld (by decide)) (fun hHeld => ?_)
        clear hw
        have hw := hw3
        clear hw3
        have J3 := Lib.hid hf3
        clear hf3
        clear hK K
        refine wpAnyH_ready (rs := [20]) (by kernel_rfl) (by simp) ?_
        refine AllReadyH.cons (o := ⟨some 65, _, _, _, _, _⟩) rfl (fun K hK => ?_) AllReadyH.nil
        go_simp
        refine (put_ok base g (B0 ++ leB 1 dk ++ leB 1 dz ++ leB 2 dm ++ leB 4 da) 124 4 dO _ hw rfl (by (try simp only [List.length_append, leB_len]); have := HB0.out; omega) (by decide) hq.2.2.2.2).mono ?_
        rintro e w3 ⟨v3, rfl, rfl, hw3, hf3⟩
        simp only []
        refine hK.out _ _ (hf3.typed_blk hHeld (by decide)) (fun hHeld => ?_)
        clear hw
        have hw := hw3
        clear hw3
        have J4 := Lib.hid hf3
        clear hf3
        clear hK K
        refine wpAnyH_ready (rs := [21]) (by kernel_rfl) (by simp) ?_
        refine AllReadyH.cons (o := ⟨some 66, _, _, _, _, _⟩) rfl (fun K hK => ?_) AllReadyH.nil
        go_simp
        refine (put_ok base g (B0 ++ leB 1 dk ++ leB 1 dz ++ leB 2 dm ++ leB 4 da ++ leB 4 dO) 124 4 0 _ hw rfl (by (try simp only [List.length_append, leB_len]); have := HB0.out; omega) (by decide) (by decide)).mono ?_
        rintro e w3 ⟨v3, rfl, rfl, hw3, hf3⟩
        simp only []
        refine hK.out _ _ (hf3.typed_blk hHeld (by decide)) (fun hHeld => ?_)
        clear hw
        have hw := hw3
        clear hw3
        have J5 := Lib.hid hf3
        clear hf3
        clear hK K
        refine wpAnyH_done (by kernel_rfl) ?_ _
        have HW1 := Lib.hid hw
        have HC1 := Lib.hid (HC.out.typed_trans (Frm.typed_no (((Frm.refl no wr).alloc _).drew) (J0.out.typed_trans (J1.out.typed_trans (J2.out.typed_trans (J3.out.typed_trans (J4.out.typed_trans J5.out)))))))
        clear hw J0 J1 J2 J3 J4 J5
        --END8
        go_wp2_with fail
        go_roundw
        case rel =>
          refine ⟨k + 1, hlt, by go_num, ?_, HC1⟩
          show Wtr _ base g (hdA c ds.length ++ hdB e s u ++ (ds.take (k + 1)).flatMap dlB) 124 false
          rw [hsn.out, ← List.append_assoc, HB.out]
          have := HW1.out
          unfold dlB
          simp only [List.append_assoc] at this ⊢
          exact this
        case measure => simp [intOf]; omega
      · obtain rfl : k = ds.length := by omega
        have hwf := HW.out
        rw [List.take_length, show hdA c ds.length ++ hdB e s u ++ ds.flatMap dlB = recB e s c u ds from rfl] at hwf
        have hrl : (recB e s c u ds).length ≤ 124 := by rw [recB_len]; have := HD.out.1; omega
        have hro := recB_oct e s c u ds
        generalize hR : recB e s c u ds = R at hwf hrl hro
        have HRR := Lib.hid hR
        clear hR
        have HWF := Lib.hid hwf
        have HRL := Lib.hid (And.intro hrl hro)
        have HFW : Hid (Frm no w wr) := ((((Frm.refl no w).alloc _).trans_no HD.out.2.2.2.2.2.2.2.1).trans HC.out (fun i hi ht => by have := ht.1; have := hbase.out; omega))
        clear hwf hrl hro HW
        go_wp2_with (go_at_call 29; refine (wdone_ok base g R 124 wr HWF.out HRL.out.1 (by decide)).mono ?_; rintro e w5 ⟨v5, rfl, ux, rfl, hs5, hb5, hf5⟩; have HS := Lib.hid (And.intro hs5 (And.intro hb5 hf5)); obtain ⟨a5, c5, rfl⟩ := hs5.shape; clear hs5 hb5 hf5)
        have hpl := pad_len 124 R HRL.out.1
        have hse := seal_any _ (pad 124 R) w5 (by omega) HS.out.1 (pad_oct _ _ HRL.out.2) ((HD.out.2.2.2.2.2.1.below HFW.out).below HS.out.2.2)
        have HSE := Lib.hid hse
        clear hse hpl
        go_wp2_with (go_at_call 30; refine HSE.out.mono ?_; rintro e w6 ⟨v6, rfl, ux, rfl, hs6, hb6, hf6⟩; have HS6 := Lib.hid (And.intro hs6 hf6); obtain ⟨a6, c6, rfl⟩ := hs6.shape; clear hs6 hb6 hf6)
        refine bodyPost_ret (results_tmp2 rfl _ _ _) rfl ?_
        exact ⟨_, rfl, _, rfl, by rw [HRR.out]; exact HS6.out.1, (HFW.out.trans_no HS.out.2.2).trans_no HS6.out.2⟩

end Go.Proofs.YtgbcmkkbhbkfeaaDoor
