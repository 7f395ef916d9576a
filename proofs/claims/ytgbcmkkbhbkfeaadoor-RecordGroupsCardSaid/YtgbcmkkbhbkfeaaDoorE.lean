/- The sealed sector of layer 2 (crc): Check and Seal. -/
import Derived.Test.YtgbcmkkbhbkfeaaDoorProg
import Derived.Test.YtgbcmkkbhbkfeaaDoorD
import Derived.Deep.OwnRows
namespace Go.Proofs.YtgbcmkkbhbkfeaaDoor
open Go Go.RowKit

/-- byte k of a sum -/
def sb (s : Int) (k : Nat) : Int := s / 2 ^ (8 * k) % 256
/-- are bytes a sealed sector? -/
def chk (bs : List Int) : Bool := bs.length == 128 && (List.range 4).all fun k => bs[k]? == some (sb (crcOn 0 (bs.drop 4)) k)

theorem check_any (v : Value) (bs : List Int) (w : World) (hv : Sl e8 1 w v bs) (ho : Oct bs) (hn : Nibs w) :
    Calls Tryd.prog 34 #[v] w (Ret fun v' w' => v' = .bool (chk bs) ∧ ∃ d, w' = w.drewN d) := by
  obtain ⟨a, c, rfl⟩ := hv.shape
  by_cases h128 : bs.length = 128
  · have hd := hv.drop' 4 (by omega)
    rcases hv.bytes with ⟨h, h0⟩ | ⟨g, off, c', h, h1, h2, h3, h4⟩
    · rw [h0] at h128; simp at h128
    · have hc : ¬ c = 4 := by have := hv.cap; omega
      simp only [Value.slice.injEq, true_and] at h
      obtain ⟨rfl, rfl⟩ := h
      rw [if_neg hc, h128] at hd
      simp only [Option.map_some, Addr.add_lit] at hd
      have HV := Lib.hid hv
      have H1 := Lib.hid h128
      rw [h128]
      clear h1 h2 h3 hv h128
      go_enter Tryd.func34, Tryd.ntmps34
      go_wp2_with (go_at_call 53; refine (sum_any _ (bs.drop 4) w (by rw [List.length_drop, H1.out]; decide) hd (fun b hb => ho b (List.mem_of_mem_drop hb)) hn).mono ?_; rintro e w1 ⟨rfl, rfl⟩)
      generalize hs : crcOn 0 (bs.drop 4) = s
      have HS := Lib.hid hs
      clear hs
      go_loopw [11] (fun i wr => ∃ k : Nat, k ≤ 4 ∧ i = .int .i64 k ∧ (∃ d, wr = w.drewN d) ∧ Hid (∀ j, j < k → bs[j]? = some (sb s j))) (fun i _ => 4 - (intOf i).toNat)
      case atStart => exact ⟨0, by omega, rfl, ⟨0, rfl⟩, fun j hj => absurd hj (Nat.not_lt_zero j)⟩
      case round =>
        obtain ⟨k, hk, rfl, ⟨d, rfl⟩, HP⟩ := hrel
        by_cases hlt : k < 4
        · obtain ⟨b, hb⟩ : ∃ b, bs[k]? = some b := ⟨_, List.getElem?_eq_getElem (by have := H1.out; omega)⟩
          have hc := h4 k b hb
          have HB := Lib.hid hb
          clear h4 hb
          go_wp2
          go_quiet (fail)
          go_wp2
          · have hbn : (b != s / 2 ^ (8 * k) % 256) = true := by assumption
            go_ret
            refine ⟨_, rfl, ?_, _, World.drewN_drewN _ _ _⟩
            have : chk bs = false := by
              unfold chk
              rw [HS.out, Bool.and_eq_false_iff, List.all_eq_false]
              refine .inr ⟨k, List.mem_range.2 hlt, ?_⟩
              rw [HB.out]
              simpa [sb] using hbn
            rw [this]; rfl
          · have hbn : (b != s / 2 ^ (8 * k) % 256) = false := by assumption
            go_roundw
            case rel =>
              refine ⟨k + 1, by omega, by go_num, ⟨_, rfl⟩, fun j hj => ?_⟩
              by_cases e : j = k
              · subst e; rw [HB.out]; simp at hbn; rw [hbn]; rfl
              · exact HP.out j (by omega)
            case measure => simp [intOf]; omega
        · obtain rfl : k = 4 := by omega
          clear h4
          go_wp2
          go_ret
          refine ⟨_, rfl, ?_, _, rfl⟩
          have : chk bs = true := by
            unfold chk
            rw [HS.out, H1.out, Bool.and_eq_true, List.all_eq_true]
            exact ⟨rfl, fun j hj => by rw [HP.out j (List.mem_range.1 hj)]; simp⟩
          rw [this]; rfl
  · have hf : chk bs = false := by unfold chk; simp [h128]
    have hn2 : ((bs.length : Int) != 128) = true := by simp; omega
    rw [hf]
    clear hf hv
    go_enter Tryd.func34, Tryd.ntmps34
    go_wp2
    go_ret
    exact ⟨_, rfl, rfl, 0, rfl⟩

/-- the sealed sector of bytes -/
def sealL (bs : List Int) : List Int :=
  let rest := bs ++ List.replicate (124 - bs.length) 0
  (List.range 4).map (sb (crcOn 0 rest)) ++ rest

/-- the sector while its first four bytes are being written -/
def sealS (s : Int) (rest : List Int) (k : Nat) : List Int := (List.range 4).map (fun j => if j < k then sb s j else 0) ++ rest
theorem sealS_step (s : Int) (rest : List Int) (k : Nat) (h : k < 4) : (sealS s rest k).set k (sb s k) = sealS s rest (k + 1) := by
  match k, h with
  | 0, _ => rfl
  | 1, _ => rfl
  | 2, _ => rfl
  | 3, _ => rfl
def pad (n : Nat) (bs : List Int) : List Int := bs ++ List.replicate (n - bs.length) 0

def zs128 : List Value := List.replicate 128 (.int .u8 0)
theorem pad_len (n : Nat) (bs : List Int) (h : bs.length ≤ n) : (pad n bs).length = n := by simp [pad]; omega
theorem pad_oct (n : Nat) (bs : List Int) (h : Oct bs) : Oct (pad n bs) := by
  intro b hb
  simp only [pad, List.mem_append, List.mem_replicate] at hb
  rcases hb with hb | hb
  · exact h b hb
  · rw [hb.2]; omega
theorem splice_seal (s : Int) (bs : List Int) (h : bs.length ≤ 124) : splice zs128 4 (bs.flatMap e8) = (sealS s (pad 124 bs) 0).flatMap e8 := by
  rw [e8_map, e8_map]
  unfold splice zs128 sealS pad
  simp only [List.map_append, List.map_replicate, List.length_map, List.take_replicate, List.drop_replicate]
  rw [show 128 - (4 + bs.length) = 124 - bs.length by omega, ← List.append_assoc, ← List.append_assoc]
  rfl

theorem seal_any (v : Value) (bs : List Int) (w : World) (hl : bs.length ≤ 124) (hv : Sl e8 1 w v bs) (ho : Oct bs) (hn : Nibs w) :
    Calls Tryd.prog 30 #[v] w (Ret fun v' w' => ∃ u, v' = .tuple #[u, .int .i64 0] ∧ Sl e8 1 w' u (sealL bs) ∧ (∀ k, u.ownBlock = some k → w.heap.size ≤ k) ∧ Frm no w w') := by
  obtain ⟨a, c, rfl⟩ := hv.shape
  have hmk : ∀ w, (Instr.makeSlice 26 (.int .i64 128) (.int .i64 128)).run Tryd.prog w = .ok (.slice (some ⟨w.heap.size, 0, none⟩) 128 128) (w.alloc (.cells (madeCells #[.int .u8 0] 128) 5)) := fun w => run_make_row' (P := Tryd.prog) 26 5 (.int .u8 0) 1 Tryd.underlying26 info_u8 rfl .i64 .i64 128 (by decide) (by decide) w
  have hno : Hid (∀ ad, a = some ad → ∀ j u, (bs.flatMap e8)[j]? = some u → (w.alloc (.cells (madeCells #[.int .u8 0] 128) 5)).cell? (ad.add j) = some u) := by
    intro ad e j u hu
    subst e
    rcases hv with ⟨h, _⟩ | ⟨g, off, c', h, h'⟩
    · simp at h
    · simp only [Value.slice.injEq, Option.some.injEq, true_and] at h
      obtain ⟨rfl, rfl⟩ := h
      have := (Sl.spec (by decide) e8_len (Sl.below (.inr ⟨g, off, _, rfl, h'⟩) ((Frm.refl no w).alloc (.cells (madeCells #[.int .u8 0] 128) 5)))).2.2.2.2 j u hu
      rw [Addr.add_lit]; exact this
  have hna : Hid (0 < bs.length → ∃ ad, a = some ad) := by
    intro h0
    rcases hv with ⟨_, h⟩ | ⟨g, off, c', h, h'⟩
    · subst h; simp at h0
    · simp only [Value.slice.injEq, true_and] at h
      exact ⟨_, h.1⟩
  go_enter Tryd.func30, Tryd.ntmps30
  have hzs : (w.alloc (.cells (madeCells #[.int .u8 0] 128) 5)).heap[w.heap.size]? = some (.cells zs128.toArray 5 (0, 0)) := by
    rw [heap_alloc_new, show madeCells #[.int .u8 0] 128 = zs128.toArray from by apply Array.ext'; rw [toList_madeCells_one]; rfl]
  have HZ := Lib.hid hzs
  obtain ⟨cs, HCS⟩ : ∃ cs, Hid (bs.flatMap e8 = cs) := ⟨_, rfl⟩
  have HCL : Hid (cs.length = bs.length) := by show cs.length = bs.length; rw [← HCS.out, flatMap_length e8 1 e8_len, Nat.mul_one]
  clear hzs hv
  go_wp2_with (with_reducible refine wpList_copy_splice (o := ⟨some 14, _, _, _, _, _⟩) rfl (.tmp 12) (.tmp 13) 26 26 rfl 5 Tryd.underlying26 ?_ (some ⟨w.heap.size, 4, none⟩) a 124 124 bs.length c ?_ ?_ w.heap.size 4 zs128 5 HZ.out cs ?_ ?_ ?_ ?_ w.heap.size w ?_ (Nat.le_refl _) ?_)
  · kernel_rfl
  · rfl
  · rfl
  · rw [HCL.out]; exact (Nat.min_eq_left (by omega)).symm
  · intro h0
    rw [HCL.out] at h0
    obtain ⟨ad, e⟩ := hna h0
    refine ⟨ad, e, ?_⟩
    rw [← HCS.out]
    exact hno.out ad e
  · rw [HCL.out]; simp [zs128]; omega
  · intro u hu
    rw [← HCS.out] at hu
    obtain ⟨x, _, hx⟩ := List.mem_flatMap.1 hu
    exact e8_one x u hx
  · exact (Below.refl _ _).alloc (Nat.le_refl _) _
  · intro w1 hg hb
    generalize hs : crcOn 0 (pad 124 bs) = s
    have hg1 := hg.out
    rw [← HCS.out, splice_seal s bs hl] at hg1
    have HG := Lib.hid hg1
    have hf1 := Lib.hid (Frm.of_below hb)
    have hsl := (Sl.of_blk (n := 128) (c := 128) (more := []) e8_len (by rw [List.append_nil]; exact hg1) (by simp [sealS, pad_len _ _ hl]) (by decide) (by decide)).drop 4 (by decide)
    have hdr : (sealS s (pad 124 bs) 0).drop 4 = pad 124 bs := by simp [sealS]
    rw [hdr] at hsl
    simp only [Nat.reduceSub, Nat.reduceMul, Nat.zero_add] at hsl
    have hn1 := hn.below (Frm.of_below hb)
    clear hg hb hg1 hdr
    go_wp2_with (go_at_call 53; refine (sum_any _ (pad 124 bs) w1 (by rw [pad_len _ _ hl]; decide) hsl (pad_oct _ _ ho) hn1).mono ?_; rw [hs]; rintro e w2 ⟨rfl, rfl⟩)
    go_loopw [18] (fun i wr => ∃ k : Nat, k ≤ 4 ∧ i = .int .i64 k ∧ Hid (wr.heap[w.heap.size]? = some (.cells ((sealS s (pad 124 bs) k).flatMap e8).toArray 5 (0, 0))) ∧ Hid (Frm no w wr)) (fun i _ => 4 - (intOf i).toNat)
    case atStart => exact ⟨0, by omega, rfl, HG, hf1⟩
    case round =>
      obtain ⟨k, hk, rfl, hg2, hf2⟩ := hrel
      by_cases hlt : k < 4
      · have hlen : k < ((sealS s (pad 124 bs) k).flatMap e8).toArray.size := by rw [List.size_toArray, flatMap_length e8 1 e8_len]; simp [sealS]; omega
        have hc := (blk_cell hg2.out k).trans (Array.getElem?_eq_getElem hlen)
        have hfr := blk_free hg2.out k
        generalize ((sealS s (pad 124 bs) k).flatMap e8).toArray[k] = old at hc
        clear hlen
        have hst := Lib.hid (sealS_step s (pad 124 bs) k hlt)
        have hset := Lib.hid (blk_set hg2.out k (.int .u8 (sb s k)))
        go_wp2
        go_roundw
        case rel =>
          refine ⟨k + 1, by omega, by go_num, ?_, hf2.out.setCell (p := ⟨w.heap.size, k, none⟩) (fun h => absurd h (Nat.lt_irrefl _)) _⟩
          show (wr.setCell ⟨w.heap.size, k, none⟩ (.int .u8 (sb s k))).heap[w.heap.size]? = _
          rw [hset.out, e8_map, e8_map, ← hst.out, List.map_set, List.setIfInBounds_toArray]
        case measure => simp [intOf]; omega
      · obtain rfl : k = 4 := by omega
        go_wp2
        refine bodyPost_ret (results_tmp2 rfl _ _ _) rfl ?_
        refine ⟨_, rfl, _, rfl, ?_, ?_, hf2.out⟩
        · have : sealL bs = sealS s (pad 124 bs) 4 := by
            show (List.range 4).map (sb (crcOn 0 (pad 124 bs))) ++ pad 124 bs = _
            rw [hs]
            rfl
          rw [this]
          exact Sl.of_blk (n := 128) (c := 128) (more := []) e8_len (by rw [List.append_nil]; exact hg2.out) (by simp [sealS, pad_len _ _ hl]) (by decide) (by decide)
        · intro k hk
          simp [Value.ownBlock] at hk
          omega

end Go.Proofs.YtgbcmkkbhbkfeaaDoor
