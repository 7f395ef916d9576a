/- The reference's sealed sector. -/
import Derived.Test.YtgbcmkkbhbkfeaaDoorProg
import Derived.Test.YtgbcmkkbhbkfeaaDoorST
import Derived.Test.YtgbcmkkbhbkfeaaDoorE
import Derived.Test.YtgbcmkkbhbkfeaaDoorZS
namespace Go.Proofs.YtgbcmkkbhbkfeaaDoor
open Go Go.RowKit

theorem refSeal_any (v : Value) (bs : List Int) (w : World) (hl : bs.length ≤ 124) (hv : Sl e8 1 w v bs) (ho : Oct bs) :
    Calls Tryd.prog 41 #[v] w (Ret fun v' w' => Sl e8 1 w' v' (sealL bs) ∧ (∀ k, v'.ownBlock = some k → w.heap.size ≤ k) ∧ Frm no w w') := by
  obtain ⟨a, c, rfl⟩ := hv.shape
  have HV := Lib.hid hv
  have HO := Lib.hid ho
  clear hv ho
  obtain ⟨i0, hi, hz0, hz1, hz2⟩ := info_parts info_u8
  have hown0 : (w.alloc (.cells #[] 5)).ownsRow w.heap.size 5 1 (.slice (some ⟨w.heap.size, 0, none⟩) 0 0) ([] : List Int).length (([] : List Int).flatMap e8) :=
    ⟨rfl, .inr ⟨w.heap.size, 0, #[], rfl, Nat.le_refl _, heap_alloc_new w _, Nat.le_refl _, Nat.zero_le _, rfl, rfl⟩⟩
  have HW0 := Lib.hid (And.intro hown0 (HV.out.below ((Frm.refl no w).alloc (.cells #[] 5))))
  clear hown0
  go_enter Tryd.func41, Tryd.ntmps41
  go_wp2_with (at_builtin; refine wpList_app _ rfl _ _ 26 rfl w.heap.size 5 i0 (.int .u8 0) 1 1 Tryd.underlying26 hi hz0 hz1 hz2 rfl (by decide) e8_len e8_one _ ([] : List Int) rfl HW0.out.1 _ bs rfl HW0.out.2 ?_ ?_ ?_ ?_)
  · unfold maxLen; simp; omega
  · simp; omega
  · simp
  · intro v1 w1 ho1 hg1
    have hf1 : Frm no w w1 := ((Frm.refl no w).alloc (.cells #[] 5)).grown hg1 (fun k hk e => by simp [Value.ownBlock] at e; omega)
    try simp only [List.nil_append] at ho1
    have HW1 := Lib.hid (And.intro ho1 hf1)
    clear ho1 hg1 hf1
    obtain ⟨m, hm⟩ : ∃ m : Nat, (124 : Int) - (bs.length : Int) = (m : Int) := ⟨124 - bs.length, by omega⟩
    have hm2 : Hid (m = 124 - bs.length) := by show _ = _; omega
    go_wp2_with (at_builtin; refine wpList_zeros _ rfl _ _ 26 3 rfl w.heap.size 5 i0 (.int .u8 0) .i64 .i64 1 1 Tryd.underlying26 Tryd.underlying3 hi hz0 hz1 hz2 rfl (by decide) v1 bs.length (bs.flatMap e8) rfl HW1.out.1 m rfl _ (zeros1 (.int .u8 0) rfl m) ?_ ?_ ?_ ?_ ?_)
    · intro u hu
      rw [List.eq_of_mem_replicate hu]; rfl
    · have := hm2.out; unfold maxLen; omega
    · have := hm2.out; omega
    · exact HW1.out.2.size
    · intro v2 w2 ho2 hg2
      have hf2 : Frm no w w2 := HW1.out.2.grown hg2 (fun k hk e => by have := own_block HW1.out.1 k e; omega)
      have ho2' : w2.ownsRow w.heap.size 5 1 v2 (pad 124 bs).length ((pad 124 bs).flatMap e8) := by
        rw [pad_len _ _ hl, e8_map]
        have e1 : (pad 124 bs).map (Value.int .u8) = bs.flatMap e8 ++ List.replicate m (.int .u8 0) := by rw [e8_map, hm2.out]; simp [pad]
        rw [e1]
        have e2 : bs.length + m = 124 := by have := hm2.out; omega
        rw [← e2]; exact ho2
      have hs2 : Sl e8 1 w2 v2 (pad 124 bs) := Sl.of_owns (by decide) e8_len ho2'
      have hsum := Lib.hid (refSum_any v2 (pad 124 bs) w2 (by rw [pad_len _ _ hl]; decide) hs2 (pad_oct _ _ HO.out))
      generalize hs : crcOn 0 (pad 124 bs) = s at hsum
      have HS := Lib.hid hs
      have H2 := Lib.hid (And.intro hs2 hf2)
      clear hs ho2 ho2' hs2 hg2 hf2 hm
      have hrow := blk_new w2 (.cells #[.int .u8 (s % 256), .int .u8 (s / 256 % 256), .int .u8 (s / 65536 % 256), .int .u8 (s / 16777216 % 256)] 5)
      go_wp2_with (first
        | (go_at_call 60; refine hsum.out.mono ?_; rintro e w' ⟨rfl, rfl⟩)
        | (at_builtin; refine wpList_app _ rfl _ _ 26 rfl w.heap.size 5 i0 (.int .u8 0) 1 1 Tryd.underlying26 hi hz0 hz1 hz2 rfl (by decide) e8_len e8_one _ [s % 256, s / 256 % 256, s / 65536 % 256, s / 16777216 % 256] rfl ?_ _ (pad 124 bs) rfl ?_ ?_ ?_ ?_ ?_))
      · exact ⟨rfl, .inr ⟨w2.heap.size, 4, _, rfl, H2.out.2.size, hrow, Nat.le_refl _, by decide, rfl, rfl⟩⟩
      · exact H2.out.1.below ((Frm.refl no w2).alloc _)
      · have := pad_len 124 bs hl; unfold maxLen; simp; omega
      · have := pad_len 124 bs hl; simp; omega
      · have := H2.out.2.size; simp; omega
      · intro v3 w3 ho3 hg3
        have hf3 : Frm no w w3 := (H2.out.2.alloc _).grown hg3 (fun k hk e => by have := H2.out.2.size; simp [Value.ownBlock] at e; omega)
        have hsl : sealL bs = [s % 256, s / 256 % 256, s / 65536 % 256, s / 16777216 % 256] ++ pad 124 bs := by
          show (List.range 4).map (sb (crcOn 0 (pad 124 bs))) ++ pad 124 bs = _
          rw [HS.out]
          have h0 : sb s 0 = s % 256 := by simp [sb]
          have h1 : sb s 1 = s / 256 % 256 := by simp [sb]
          have h2 : sb s 2 = s / 65536 % 256 := by simp [sb]
          have h3 : sb s 3 = s / 16777216 % 256 := by simp [sb]
          show [sb s 0, sb s 1, sb s 2, sb s 3] ++ _ = _
          rw [h0, h1, h2, h3]
        replace ho3 : w3.ownsRow w.heap.size 5 1 v3 (sealL bs).length ((sealL bs).flatMap e8) := by rw [hsl]; exact ho3
        have HF := Lib.hid (show Sl e8 1 w3 v3 (sealL bs) ∧ (∀ k, v3.ownBlock = some k → w.heap.size ≤ k) ∧ Frm no w w3 from ⟨Sl.of_owns (by decide) e8_len ho3, own_block ho3, hf3⟩)
        clear ho3 hg3 hf3 hsl hrow
        go_wp2
        go_ret
        exact ⟨_, rfl, HF.out⟩

end Go.Proofs.YtgbcmkkbhbkfeaaDoor
