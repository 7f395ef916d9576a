/- Bytes, bit rows and sums: the contracts of the leaves (layer 1, 2, the library's generic ones at bytes). -/
import Derived.Test.YtgbcmkkbhbkfeaaDoorProg
import Derived.Test.YtgbcmkkbhbkfeaaDoorW
import Derived.WalkKit
import Derived.WalkSpells
import Derived.Deep.QuietTactic
import Derived.BigQuiet
namespace Go.Proofs.YtgbcmkkbhbkfeaaDoor
open Go Go.RowKit

def e8 (b : Int) : List Value := [.int .u8 b]
theorem e8_len (b : Int) : (e8 b).length = 1 := rfl
theorem e8_one (b : Int) : ∀ u ∈ e8 b, u.oneCell' = true := by simp [e8, Value.oneCell']

theorem e8_map (bs : List Int) : bs.flatMap e8 = bs.map (Value.int .u8) := by
  induction bs with
  | nil => rfl
  | cons b r ih => simp only [List.flatMap_cons, ih, List.map_cons]; rfl

/-- the bytes are bytes -/
def Oct (bs : List Int) : Prop := ∀ b ∈ bs, 0 ≤ b ∧ b < 256

theorem Sl.bytes {w : World} {v : Value} {bs : List Int} (h : Sl e8 1 w v bs) : (v = .slice none 0 0 ∧ bs = []) ∨ ∃ g off c, v = .slice (some ⟨g, off, none⟩) bs.length c ∧ bs.length ≤ c ∧ c ≤ maxLen ∧ g < w.heap.size ∧ ∀ k b, bs[k]? = some b → w.cell? ⟨g, off + k, none⟩ = some (.int .u8 b) := by
  rcases h with h | ⟨g, off, c, h0, h1, h2, h3, h4⟩
  · exact .inl h
  · exact .inr ⟨g, off, c, h0, h1, h2, h3, fun k b hb => by simpa [e8] using h4 k b 0 _ hb rfl⟩

theorem info_u8 : (Tryd.prog.info? 5).map (fun i => (i.zero, i.size, i.bytes)) = some (some (.int .u8 0), 1, 1) := by kernel_rfl

def nibL : List Int := [0, 274646895, 549293790, 820201905, 1098587580, 1361435347, 1640403810, 1905808397, 2197175160, 2460548119, 2722870694, 2987750089, 3280807620, 3553878443, 3811616794, 4084100981]
def nib (i : Int) : Int := nibL[i.toNat]?.getD 0
/-- the table stands where the program's text lays it -/
def Nibs (w : World) : Prop := 0 < w.heap.size ∧ ∀ k, k < 16 → w.cell? ⟨0, k, none⟩ = some (.int .u32 (nibL[k]?.getD 0))
theorem Nibs.frm {S : Nat → Prop} {w w' : World} (h : Nibs w) (hf : Frm S w w') (hs : ¬ S 0) : Nibs w' :=
  ⟨Nat.lt_of_lt_of_le h.1 hf.size, fun k hk => by rw [hf.cell h.1 hs]; exact h.2 k hk⟩
theorem Nibs.below {w w' : World} (h : Nibs w) (hf : Frm no w w') : Nibs w' := h.frm hf (fun h => h)

def onHalf (r : Int) : Int := bits .xor .u32 (r / 16) (nib (bits .and .u32 r 15))
def onStep (r b : Int) : Int := onHalf (onHalf (bits .xor .u32 r b))
def reg (s : Int) (bs : List Int) : Int := bs.foldl onStep (bits .xor .u32 IntKind.u32.max s)
def crcOn (s : Int) (bs : List Int) : Int := bits .xor .u32 IntKind.u32.max (reg s bs)

theorem and15 (x : Int) : 0 ≤ bits .and .u32 x 15 ∧ bits .and .u32 x 15 < 16 := by
  have h : (BitVec.ofInt 32 x &&& BitVec.ofInt 32 15).toNat < 16 := by
    rw [BitVec.toNat_and]
    exact Nat.lt_of_le_of_lt Nat.and_le_right (by decide)
  show 0 ≤ IntKind.u32.wrap ((BitVec.ofInt 32 x &&& BitVec.ofInt 32 15).toNat : Int) ∧ IntKind.u32.wrap ((BitVec.ofInt 32 x &&& BitVec.ofInt 32 15).toNat : Int) < 16
  rw [IntKind.wrap_u32']
  omega

theorem reg_snoc (s : Int) (bs : List Int) (k : Nat) (b : Int) (h : bs[k]? = some b) : reg s (bs.take (k + 1)) = onStep (reg s (bs.take k)) b := by
  unfold reg
  rw [List.take_add_one, h]
  simp

theorem on_any (s : Int) (v : Value) (bs : List Int) (w : World) (hl : bs.length ≤ 281474976710656) (hv : Sl e8 1 w v bs) (ho : Oct bs) (hn : Nibs w) :
    Calls Tryd.prog 62 #[.int .u32 s, v] w fun e w' => e = .returned (.int .u32 (crcOn s bs)) ∧ w = w' := by
  have hn := hn.2
  rcases hv.bytes with ⟨rfl, rfl⟩ | ⟨g, off, c, rfl, h1, h2, h3, h4⟩
  · go_enter Tryd.func62, Tryd.ntmps62
    go_wp2
    refine wp_loop_once ?_
    go_wp2
    go_ret
    exact ⟨rfl, rfl⟩
  · clear h1 h2 h3
    go_enter Tryd.func62, Tryd.ntmps62
    go_wp2
    go_loop [5, 12] (fun r i => ∃ k : Nat, k ≤ bs.length ∧ i = .int .i64 k ∧ r = .int .u32 (reg s (bs.take k))) (fun _ i => bs.length - (intOf i).toNat)
    case atStart => exact ⟨0, Nat.zero_le _, rfl, rfl⟩
    case round =>
      obtain ⟨k, hk, rfl, rfl⟩ := hrel
      by_cases hlt : k < bs.length
      · obtain ⟨b, hb⟩ : ∃ b, bs[k]? = some b := ⟨_, List.getElem?_eq_getElem hlt⟩
        have hc := h4 k b hb
        have hs := Lib.hid (reg_snoc s bs k b hb)
        have hb2 := ho b (List.mem_of_getElem? hb)
        clear h4 ho hb
        generalize hx : reg s (bs.take k) = x at hs
        have hx' := Lib.hid hx
        clear hx
        go_wp2
        all_goals (try (exact absurd (and15 _) (by assumption)))
        go_round
        case rel => exact ⟨k + 1, by omega, by go_num, by rw [hs.out]; rfl⟩
        case measure => simp [intOf]; omega
      · obtain rfl : k = bs.length := by omega
        go_wp2
        go_ret
        exact ⟨rfl, rfl⟩

theorem sum_any (v : Value) (bs : List Int) (w : World) (hl : bs.length ≤ 281474976710656) (hv : Sl e8 1 w v bs) (ho : Oct bs) (hn : Nibs w) :
    Calls Tryd.prog 53 #[v] w fun e w' => e = .returned (.int .u32 (crcOn 0 bs)) ∧ w = w' := by
  go_enter Tryd.func53, Tryd.ntmps53
  go_wp2_with (go_at_call 62; refine (on_any 0 v bs w hl hv ho hn).mono ?_; rintro e w' ⟨rfl, rfl⟩)
  go_ret
  exact ⟨rfl, rfl⟩

/-- slices.Clone at bytes -/
theorem cloneB_any (v : Value) (bs : List Int) (w : World) (hl : bs.length ≤ 140737488355328) (hv : Sl e8 1 w v bs) :
    Calls Tryd.prog 55 #[v] w (Ret fun v' w' => w'.ownsRow w.heap.size 5 1 v' bs.length (bs.flatMap e8) ∧ Frm no w w') := by
  have HL := Lib.hid hl
  clear hl
  have hne := fun a n l c c' => Lib.run_eql_slice_nil (P := Tryd.prog) w 26 5 a n l c c' Tryd.underlying26
  rcases hv.bytes with ⟨rfl, rfl⟩ | ⟨g, off, c, rfl, h1, h2, h3, h4⟩
  · clear HL hv
    go_enter Tryd.func55, Tryd.ntmps55
    go_wp2_with fail
    go_ret
    exact ⟨_, rfl, ⟨rfl, .inl ⟨rfl, rfl⟩⟩, Frm.refl _ _⟩
  · clear h1 h2 h4
    go_enter Tryd.func55, Tryd.ntmps55
    obtain ⟨i0, hi, hz0, hz1, hz2⟩ := info_parts info_u8
    have hw : Sl e8 1 (w.alloc (.cells #[] 5)) (.slice (some ⟨g, off, none⟩) bs.length c) bs := hv.below ((Frm.refl _ _).alloc _)
    go_wp2_with (at_builtin; refine wpList_app _ rfl _ _ 26 rfl w.heap.size 5 i0 (.int .u8 0) 1 1 Tryd.underlying26 hi hz0 hz1 hz2 rfl (by decide) e8_len e8_one _ ([] : List Int) rfl ?_ _ bs rfl hw ?_ ?_ ?_ ?_)
    · exact ⟨rfl, .inr ⟨w.heap.size, 0, #[], rfl, Nat.le_refl _, heap_alloc_new w _, Nat.le_refl _, Nat.zero_le _, rfl, rfl⟩⟩
    · have := HL.out; unfold maxLen; simp; omega
    · have := HL.out; simp; omega
    · simp
    · intro v' w' ho hg
      go_wp2
      go_ret
      refine ⟨_, rfl, ho, ((Frm.refl _ _).alloc _).grown hg ?_⟩
      intro k hk e
      simp [Value.ownBlock] at e
      omega

end Go.Proofs.YtgbcmkkbhbkfeaaDoor
