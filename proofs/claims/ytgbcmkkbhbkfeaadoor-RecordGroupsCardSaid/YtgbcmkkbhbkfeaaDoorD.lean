/- The reader's end, and the sealed sector of layer 2 (crc). -/
import Derived.Test.YtgbcmkkbhbkfeaaDoorProg
import Derived.Test.YtgbcmkkbhbkfeaaDoorC
namespace Go.Proofs.YtgbcmkkbhbkfeaaDoor
open Go Go.RowKit

/-- the library's IndexFunc at bytes, asked for a byte that is not 0 -/
theorem indexB_any (v : Value) (bs : List Int) (w : World) (hl : bs.length ≤ 140737488355328) (hv : Sl e8 1 w v bs) :
    Calls Tryd.prog 63 #[v, .func (.func 58) #[] #[]] w (Ret fun v' w' => w = w' ∧ ∃ i : Int, v' = .int .i64 i ∧ (0 ≤ i ↔ ∃ b ∈ bs, b ≠ 0)) := by
  rcases hv.bytes with ⟨rfl, rfl⟩ | ⟨g, off, c, rfl, h1, h2, h3, h4⟩
  · go_enter Tryd.func63, Tryd.ntmps63
    go_wp2
    refine wp_loop_once ?_
    go_wp2
    go_ret
    exact ⟨_, rfl, rfl, _, rfl, by simp⟩
  · clear h1 h2 h3 hv
    go_enter Tryd.func63, Tryd.ntmps63
    go_wp2
    go_loop [8] (fun i => ∃ k : Nat, k ≤ bs.length ∧ i = .int .i64 k ∧ Hid (∀ b ∈ bs.take k, b = 0)) (fun i => bs.length - (intOf i).toNat)
    case atStart => exact ⟨0, Nat.zero_le _, rfl, by intro b hb; simp at hb⟩
    case round =>
      obtain ⟨k, hk, rfl, HZ⟩ := hrel
      by_cases hlt : k < bs.length
      · obtain ⟨b, hb⟩ : ∃ b, bs[k]? = some b := ⟨_, List.getElem?_eq_getElem hlt⟩
        have hc := h4 k b hb
        have HB := Lib.hid hb
        clear h4 hb
        go_wp2
        · have hbn : (b != 0) = true := by assumption
          go_ret
          exact ⟨_, rfl, rfl, _, rfl, ⟨fun _ => ⟨b, List.mem_of_getElem? HB.out, by simpa using hbn⟩, fun _ => by omega⟩⟩
        · have hbn : (b != 0) = false := by assumption
          go_round
          case rel => exact ⟨k + 1, by omega, by go_num, by rw [List.take_add_one, HB.out]; intro x hx; simp at hx hbn; rcases hx with hx | hx; exact HZ.out x hx; rw [hx]; exact hbn⟩
          case measure => simp [intOf]; omega
      · obtain rfl : k = bs.length := by omega
        clear h4
        go_wp2
        go_ret
        exact ⟨_, rfl, rfl, _, rfl, by have := HZ.out; simp at this ⊢; exact this⟩

theorem containsB_any (v : Value) (bs : List Int) (w : World) (hl : bs.length ≤ 140737488355328) (hv : Sl e8 1 w v bs) :
    Calls Tryd.prog 57 #[v, .func (.func 58) #[] #[]] w fun e w' => e = .returned (.bool (decide (∃ b ∈ bs, b ≠ 0))) ∧ w = w' := by
  go_enter Tryd.func57, Tryd.ntmps57
  go_wp2_with (go_at_call 63; refine (indexB_any v bs w hl hv).mono ?_; rintro e w1 ⟨v1, rfl, rfl, i, rfl, hi⟩; have HI := Lib.hid hi; clear hi)
  go_ret
  exact ⟨by simp only [← HI.out]; rfl, rfl⟩

theorem done_any (g : Nat) (bs : List Int) (bad : Bool) (w : World) (hl : bs.length ≤ 140737488355328) (hr : Rdr w g bs bad) :
    Calls Tryd.prog 38 #[.pointer (some ⟨g, 0, none⟩)] w fun e w' => e = .returned (.int .i64 (if bad || decide (∃ b ∈ bs, b ≠ 0) then 10 else 0)) ∧ w = w' := by
  obtain ⟨v, h1, h2, h3⟩ := hr
  obtain ⟨a, c, rfl⟩ := h2.shape
  obtain ⟨c0, c1, f0, f1⟩ := blk2 h1
  clear h1 h3 f0 f1
  cases bad
  · cases hz : decide (∃ b ∈ bs, b ≠ 0)
    all_goals
      go_enter Tryd.func38, Tryd.ntmps38
      go_wp2_with (go_at_call 57; refine (containsB_any _ bs w hl h2).mono ?_; rw [hz]; rintro e w1 ⟨rfl, rfl⟩)
      go_ret
      exact ⟨rfl, rfl⟩
  · go_enter Tryd.func38, Tryd.ntmps38
    go_wp2_with fail
    go_ret
    exact ⟨rfl, rfl⟩

end Go.Proofs.YtgbcmkkbhbkfeaaDoor
