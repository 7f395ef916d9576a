/- The reader's calls as one plain function each. -/
import Derived.Test.YtgbcmkkbhbkfeaaDoorProg
import Derived.Test.YtgbcmkkbhbkfeaaDoorL
namespace Go.Proofs.YtgbcmkkbhbkfeaaDoor
open Go Go.RowKit

/-- a reader: what is left, and whether it is at fault -/
abbrev St := List Int × Bool
def rBy (st : St) (n : Int) : List Int × St := if rdOk st.1 st.2 n then (st.1.take n.toNat, (st.1.drop n.toNat, false)) else ([], (st.1, true))
def rInt (st : St) (n l m : Int) : Int × St :=
  if isSz n && rdOk st.1 st.2 n then
    (if l ≤ wrap64 (num (st.1.take n.toNat)) ∧ wrap64 (num (st.1.take n.toNat)) ≤ m then (wrap64 (num (st.1.take n.toNat)), (st.1.drop n.toNat, false)) else (0, (st.1.drop n.toNat, true)))
  else (0, (st.1, true))
/-- its bytes are bytes, and not too many -/
def St.fine (st : St) : Prop := Oct st.1 ∧ st.1.length ≤ 140737488355328
theorem Oct.drop {bs : List Int} (h : Oct bs) (n : Nat) : Oct (bs.drop n) := fun b hb => h b (List.mem_of_mem_drop hb)
theorem rBy_fine {st : St} (h : st.fine) (n : Int) : (rBy st n).2.fine := by
  unfold rBy
  split
  · exact ⟨h.1.drop _, by have := h.2; simp only [List.length_drop]; omega⟩
  · exact h
theorem rInt_fine {st : St} (h : st.fine) (n l m : Int) : (rInt st n l m).2.fine := by
  unfold rInt
  split
  · split <;> exact ⟨h.1.drop _, by have := h.2; simp only [List.length_drop]; omega⟩
  · exact h
theorem rInt_bd (st : St) (n l m : Int) (hl : l ≤ 0) (hm : 0 ≤ m) : l ≤ (rInt st n l m).1 ∧ (rInt st n l m).1 ≤ m := by
  unfold rInt
  split
  · split
    · assumption
    · exact ⟨hl, hm⟩
  · exact ⟨hl, hm⟩

theorem rBy_any (g : Nat) (st : St) (n : Int) (w : World) (hf : st.fine) (hr : Rdr w g st.1 st.2) :
    Calls Tryd.prog 36 #[.pointer (some ⟨g, 0, none⟩), .int .i64 n] w (Ret fun v' w' => Sl e8 1 w' v' (rBy st n).1 ∧ (∀ k, v'.ownBlock = some k → w.heap.size ≤ k) ∧ Rdr w' g (rBy st n).2.1 (rBy st n).2.2 ∧ Frm (· = g) w w') := by
  obtain ⟨bs, bad⟩ := st
  unfold rBy
  dsimp only at hr ⊢
  by_cases h : rdOk bs bad n = true
  · rw [if_pos h]
    simp only [rdOk, Bool.and_eq_true, decide_eq_true_eq, Bool.not_eq_true'] at h
    obtain ⟨⟨rfl, h1⟩, h2⟩ := h
    obtain ⟨k, rfl⟩ := Int.eq_ofNat_of_zero_le h1
    exact rbytes_ok g bs k w hf.2 hr (by omega)
  · rw [if_neg h]
    refine (rbytes_bad g bs bad n w hr (by simpa using h)).mono ?_
    rintro e w' ⟨v', rfl, rfl, h1, h2⟩
    exact ⟨_, rfl, Sl.nil _ _ _, fun k hk => by simp [Value.ownBlock] at hk, h1, h2⟩

theorem int_any (g : Nat) (st : St) (n l m : Int) (w : World) (hf : st.fine) (hr : Rdr w g st.1 st.2) :
    Calls Tryd.prog 37 #[.pointer (some ⟨g, 0, none⟩), .int .i64 n, .int .i64 l, .int .i64 m] w (Ret fun v' w' => v' = .int .i64 (rInt st n l m).1 ∧ Rdr w' g (rInt st n l m).2.1 (rInt st n l m).2.2 ∧ Frm (· = g) w w') := by
  obtain ⟨bs, bad⟩ := st
  unfold rInt
  dsimp only at hr ⊢
  by_cases h : (isSz n && rdOk bs bad n) = true
  · rw [if_pos h]
    simp only [rdOk, Bool.and_eq_true, decide_eq_true_eq, Bool.not_eq_true'] at h
    obtain ⟨hz, ⟨rfl, h1⟩, h2⟩ := h
    obtain ⟨k, rfl⟩ := Int.eq_ofNat_of_zero_le h1
    by_cases hb : l ≤ wrap64 (num (bs.take (k : Int).toNat)) ∧ wrap64 (num (bs.take (k : Int).toNat)) ≤ m
    · rw [if_pos hb]
      exact int_ok g bs k l m w hf.2 hr hz (by omega) hf.1 hb.1 hb.2
    · rw [if_neg hb]
      exact int_bad2 g bs k l m w hf.2 hr hz (by omega) hf.1 (by
        rcases Int.lt_or_le (wrap64 (num (bs.take (k : Int).toNat))) l with h | h
        · exact .inl h
        · exact .inr (by rcases Int.lt_or_le m (wrap64 (num (bs.take (k : Int).toNat))) with h' | h'; exact h'; exact absurd ⟨h, h'⟩ hb))
  · rw [if_neg h]
    exact int_bad1 g bs bad n l m w hr (by simpa using h)

end Go.Proofs.YtgbcmkkbhbkfeaaDoor
