/- The reference's Decode is the program's: plain laws. -/
import Derived.Test.YtgbcmkkbhbkfeaaDoorProg
import Derived.Test.YtgbcmkkbhbkfeaaDoorRQ
namespace Go.Proofs.YtgbcmkkbhbkfeaaDoor
open Go Go.RowKit

theorem rInt_true (xs : List Int) (n l m : Int) : rInt (xs, true) n l m = (0, (xs, true)) := by
  unfold rInt rdOk
  simp
theorem rGe_true (xs : List Int) (n : Int) : rGe (xs, true) n = (0, (xs, true)) := by
  unfold rGe rBy rdOk
  cases isSz n <;> simp [num]
theorem rdDls_true (xs : List Int) : ∀ k, (rdDls k (xs, true)).2 = (xs, true)
  | 0 => rfl
  | k + 1 => by
    rw [rdDls]
    dsimp only
    rw [rdDls_true xs k]
    simp [rdDl, rInt_true]
theorem rdDl_bad (st : St) (h : st.2 = true) : (rdDl st).2 = st := by
  obtain ⟨xs, b⟩ := st
  obtain rfl : b = true := h
  simp [rdDl, rInt_true]
theorem rgDls_true (xs : List Int) : ∀ k, ∃ ds, rgDls k (xs, true) = some (ds, (xs, true))
  | 0 => ⟨[], rfl⟩
  | k + 1 => by
    obtain ⟨ds, h⟩ := rgDls_true xs k
    rw [rgDls, h, Option.bind_some]
    simp [rgDl, rGe_true]
theorem fin_bad (h : Hd) (ds : List Dl) (xs : List Int) : fin h ds (xs, true) = none := by
  unfold fin; simp

theorem num_take_bd {xs : List Int} (h : Oct xs) (n : Nat) (hn : n ≤ xs.length) : 0 ≤ num (xs.take n) ∧ num (xs.take n) < 256 ^ n := by
  have := num_bd (xs.take n) (fun b hb => h b (List.mem_of_mem_take hb))
  rwa [List.length_take, Nat.min_eq_left hn] at this
theorem rInt_raw {xs : List Int} (n : Nat) (l m : Int) (hz : isSz n = true) (hn : n ≤ xs.length) :
    rInt (xs, false) n l m = if l ≤ wrap64 (num (xs.take n)) ∧ wrap64 (num (xs.take n)) ≤ m then (wrap64 (num (xs.take n)), (xs.drop n, false)) else (0, (xs.drop n, true)) := by
  have hr : rdOk xs false (n : Int) = true := by simp [rdOk]; omega
  unfold rInt
  dsimp only
  rw [hz, hr, Bool.and_self, if_pos rfl, Int.toNat_natCast]
theorem rGe_raw {xs : List Int} (n : Nat) (hz : isSz n = true) (hn : n ≤ xs.length) : rGe (xs, false) n = (num (xs.take n), (xs.drop n, false)) := by
  have hr : rdOk xs false (n : Int) = true := by simp [rdOk]; omega
  unfold rGe rBy
  rw [if_pos hz]
  dsimp only
  rw [if_pos hr, Int.toNat_natCast]
theorem wrap_small {x : Int} (h0 : 0 ≤ x) (h1 : x ≤ 9223372036854775807) : wrap64 x = x := by simp only [wrap64]; omega
theorem rInt_full {xs : List Int} (ho : Oct xs) (n : Nat) (m : Int) (hz : isSz n = true) (hn : n ≤ xs.length) (h4 : n ≤ 4) (hm : (256 : Int) ^ n ≤ m + 1) :
    rInt (xs, false) n 0 m = (num (xs.take n), (xs.drop n, false)) ∧ wrap64 (num (xs.take n)) = num (xs.take n) := by
  have hb := num_take_bd ho n hn
  have hp : (256 : Int) ^ n ≤ 256 ^ 4 := by
    have h1 : 256 ^ n ≤ 256 ^ 4 := Nat.pow_le_pow_right (by decide) h4
    have h2 := Int.ofNat_le.2 h1
    simpa using h2
  have hw : wrap64 (num (xs.take n)) = num (xs.take n) := wrap_small hb.1 (by omega)
  refine ⟨?_, hw⟩
  rw [rInt_raw n 0 m hz hn, hw, if_pos ⟨hb.1, by omega⟩]

/-- one delta: both read the same, or the code is at fault where the reference gives up -/
theorem rgDl_rd {xs : List Int} (ho : Oct xs) (hl : 16 ≤ xs.length) :
    (∃ d, rdDl (xs, false) = (d, (xs.drop 16, false)) ∧ rgDl (xs, false) = (0, d, (xs.drop 16, false))) ∨ ((rdDl (xs, false)).2 = (xs.drop 16, true) ∧ (rgDl (xs, false)).1 ≠ 0) := by
  obtain ⟨a1, b1⟩ := rInt_full (xs := xs) ho 1 255 rfl (by omega) (by decide) (by decide)
  obtain ⟨a2, b2⟩ := rInt_full (xs := xs.drop 1) (ho.drop 1) 1 255 rfl (by simp; omega) (by decide) (by decide)
  obtain ⟨a3, b3⟩ := rInt_full (xs := (xs.drop 1).drop 1) ((ho.drop 1).drop 1) 2 65535 rfl (by simp; omega) (by decide) (by decide)
  obtain ⟨a4, b4⟩ := rInt_full (xs := ((xs.drop 1).drop 1).drop 2) (((ho.drop 1).drop 1).drop 2) 4 4294967295 rfl (by simp; omega) (by decide) (by decide)
  obtain ⟨a5, b5⟩ := rInt_full (xs := (((xs.drop 1).drop 1).drop 2).drop 4) ((((ho.drop 1).drop 1).drop 2).drop 4) 4 4294967295 rfl (by simp; omega) (by decide) (by decide)
  have c1 := rGe_raw (xs := xs) 1 rfl (by omega)
  have c2 := rGe_raw (xs := xs.drop 1) 1 rfl (by simp; omega)
  have c3 := rGe_raw (xs := (xs.drop 1).drop 1) 2 rfl (by simp; omega)
  have c4 := rGe_raw (xs := ((xs.drop 1).drop 1).drop 2) 4 rfl (by simp; omega)
  have c5 := rGe_raw (xs := (((xs.drop 1).drop 1).drop 2).drop 4) 4 rfl (by simp; omega)
  have c6 := rGe_raw (xs := ((((xs.drop 1).drop 1).drop 2).drop 4).drop 4) 4 rfl (by simp; omega)
  have a6 := rInt_raw (xs := ((((xs.drop 1).drop 1).drop 2).drop 4).drop 4) 4 0 0 rfl (by simp; omega)
  have hp := num_take_bd (xs := ((((xs.drop 1).drop 1).drop 2).drop 4).drop 4) (((((ho.drop 1).drop 1).drop 2).drop 4).drop 4) 4 (by simp; omega)
  have hd : (((((xs.drop 1).drop 1).drop 2).drop 4).drop 4).drop 4 = xs.drop 16 := by simp [List.drop_drop]
  rw [hd] at a6 c6
  generalize num (xs.take 1) = x1 at *
  generalize num ((xs.drop 1).take 1) = x2 at *
  generalize num (((xs.drop 1).drop 1).take 2) = x3 at *
  generalize num ((((xs.drop 1).drop 1).drop 2).take 4) = x4 at *
  generalize num (((((xs.drop 1).drop 1).drop 2).drop 4).take 4) = x5 at *
  generalize num ((((((xs.drop 1).drop 1).drop 2).drop 4).drop 4).take 4) = x6 at *
  have hw6 : wrap64 x6 = x6 := wrap_small hp.1 (by have := hp.2; omega)
  rw [hw6] at a6
  replace a1 : rInt (xs, false) 1 0 255 = _ := a1
  replace a2 : rInt (xs.drop 1, false) 1 0 255 = _ := a2
  replace a3 : rInt ((xs.drop 1).drop 1, false) 2 0 65535 = _ := a3
  replace a4 : rInt (((xs.drop 1).drop 1).drop 2, false) 4 0 4294967295 = _ := a4
  replace a5 : rInt ((((xs.drop 1).drop 1).drop 2).drop 4, false) 4 0 4294967295 = _ := a5
  replace a6 : rInt (((((xs.drop 1).drop 1).drop 2).drop 4).drop 4, false) 4 0 0 = _ := a6
  replace c1 : rGe (xs, false) 1 = _ := c1
  replace c2 : rGe (xs.drop 1, false) 1 = _ := c2
  replace c3 : rGe ((xs.drop 1).drop 1, false) 2 = _ := c3
  replace c4 : rGe (((xs.drop 1).drop 1).drop 2, false) 4 = _ := c4
  replace c5 : rGe ((((xs.drop 1).drop 1).drop 2).drop 4, false) 4 = _ := c5
  replace c6 : rGe (((((xs.drop 1).drop 1).drop 2).drop 4).drop 4, false) 4 = _ := c6
  have e1 : rdDl (xs, false) = (⟨x1, x4, x3, x2, x5⟩, (rInt ((((((xs.drop 1).drop 1).drop 2).drop 4).drop 4), false) 4 0 0).2) := by
    unfold rdDl
    simp only [a1, a2, a3, a4, a5]
  have e2 : rgDl (xs, false) = (x6, ⟨x1, x4, x3, x2, x5⟩, (xs.drop 16, false)) := by
    unfold rgDl
    simp only [c1, c2, c3, c4, c5, c6, b1, b2, b3, b4, b5]
  by_cases h0 : x6 = 0
  · subst h0
    refine .inl ⟨_, ?_, e2⟩
    rw [e1, a6, if_pos (by decide)]
  · refine .inr ⟨?_, by rw [e2]; exact h0⟩
    rw [e1, a6, if_neg (fun h => h0 (by omega))]

theorem rgDls_rd {xs : List Int} (ho : Oct xs) : ∀ k, 16 * k ≤ xs.length →
    (rgDls k (xs, false) = some (rdDls k (xs, false)) ∧ (rdDls k (xs, false)).2 = (xs.drop (16 * k), false)) ∨ (rgDls k (xs, false) = none ∧ (rdDls k (xs, false)).2.2 = true)
  | 0, _ => .inl ⟨rfl, rfl⟩
  | k + 1, h => by
    rcases rgDls_rd ho k (by omega) with ⟨h1, h2⟩ | ⟨h1, h2⟩
    · have hs := rgDl_rd (xs := xs.drop (16 * k)) (ho.drop _) (by simp; omega)
      rw [rgDls, rdDls, h1, Option.bind_some, h2]
      rw [List.drop_drop, show 16 * k + 16 = 16 * (k + 1) by omega] at hs
      rcases hs with ⟨d, e1, e2⟩ | ⟨e1, e2⟩
      · refine .inl ⟨?_, by rw [e1]⟩
        rw [e1, e2]
        rfl
      · exact .inr ⟨by rw [if_neg e2], by dsimp only; rw [e1]⟩
    · refine .inr ⟨by rw [rgDls, h1]; rfl, ?_⟩
      rw [rdDls]
      dsimp only
      rw [rdDl_bad _ h2]; exact h2

theorem rInt_state (xs : List Int) (n : Nat) (l m : Int) (hz : isSz n = true) (hn : n ≤ xs.length) (b : Bool) : ∃ v c, rInt (xs, b) n l m = (v, (if b then xs else xs.drop n, c)) ∧ (b = true → c = true) := by
  cases b
  · rw [rInt_raw n l m hz hn]
    split
    · exact ⟨_, _, rfl, fun h => by cases h⟩
    · exact ⟨_, _, rfl, fun _ => rfl⟩
  · exact ⟨0, true, by rw [rInt_true]; rfl, fun _ => rfl⟩

theorem rInt_epoch (s : St) : rInt s 4 1 2147483648 = rInt s 4 0 2147483648 ∨ ((rInt s 4 1 2147483648).2.2 = true ∧ (rInt s 4 0 2147483648).1 = 0) := by
  unfold rInt
  cases h : (isSz 4 && rdOk s.1 s.2 4)
  · simp only [Bool.false_eq_true, if_false]
    exact .inl trivial
  · simp only [if_true]
    generalize wrap64 (num (s.1.take (4 : Int).toNat)) = v
    by_cases h1 : 1 ≤ v
    · have h0 : 0 ≤ v := by omega
      by_cases h2 : v ≤ 2147483648
      · rw [if_pos ⟨h1, h2⟩, if_pos ⟨h0, h2⟩]; exact .inl rfl
      · rw [if_neg (fun h => h2 h.2), if_neg (fun h => h2 h.2)]; exact .inl rfl
    · by_cases h0 : v = 0
      · rw [if_neg (fun h => h1 h.1), if_pos ⟨by omega, by omega⟩]
        exact .inr ⟨rfl, h0⟩
      · rw [if_neg (fun h => h1 h.1), if_neg (fun h => by omega)]
        exact .inl rfl
/-- the head: both the same, or the reference is at fault and the epoch is 0 -/
theorem rgHd_rd (st : St) : rgHd st = rdHd st ∨ ((rgHd st).2.2 = true ∧ (rdHd st).1.e = 0) := by
  unfold rgHd rdHd
  dsimp only
  rcases rInt_epoch (rInt (rInt st 1 0 1).2 1 0 6).2 with h | ⟨h1, h2⟩
  · rw [h]; exact .inl rfl
  · refine .inr ⟨?_, h2⟩
    have h3 : (rInt (rInt (rInt st 1 0 1).2 1 0 6).2 4 1 2147483648).2 = ((rInt (rInt (rInt st 1 0 1).2 1 0 6).2 4 1 2147483648).2.1, true) := by rw [← h1]
    rw [h3, rInt_true, rInt_true]

theorem refDec_eq (bs : List Int) (ho : Oct bs) : refDec bs = dec bs := by
  unfold refDec dec
  by_cases hc : chk bs = true
  · rw [if_pos hc, if_pos hc]
    have hlen : bs.length = 128 := by
      simp only [chk, Bool.and_eq_true, beq_iff_eq] at hc
      exact hc.1
    by_cases hL : (rBy (bs.drop 4, false) 2).1 = [74, 82]
    · rw [if_pos hL, if_pos hL]
      have hs : (rBy (bs.drop 4, false) 2).2 = ((bs.drop 4).drop 2, false) := by
        have hr : rdOk (bs.drop 4) false 2 = true := by simp [rdOk]; omega
        unfold rBy
        dsimp only
        rw [if_pos hr]; rfl
      rw [hs]
      generalize hxs : (bs.drop 4).drop 2 = xs
      have hox : Oct xs := by rw [← hxs]; exact (ho.drop 4).drop 2
      have hlx : xs.length = 122 := by rw [← hxs]; simp [hlen]
      clear hs hxs
      rcases rgHd_rd (xs, false) with hh | ⟨hb, he⟩
      · rw [hh]
        -- where the head leaves the reader
        have hst : ∃ h b, rdHd (xs, false) = (h, ((if b then (rdHd (xs, false)).2.1 else xs.drop 22), b)) := by
          unfold rdHd
          dsimp only
          obtain ⟨v1, b1, e1, _⟩ := rInt_state xs 1 0 1 rfl (by omega) false
          simp only [Bool.false_eq_true, if_false] at e1
          rw [show ((1 : Nat) : Int) = 1 from rfl] at e1
          rw [e1]
          dsimp only
          cases b1
          rotate_left
          · simp only [rInt_true]; exact ⟨_, true, rfl⟩
          obtain ⟨v2, b2, e2, _⟩ := rInt_state (xs.drop 1) 1 0 6 rfl (by simp; omega) false
          simp only [Bool.false_eq_true, if_false] at e2
          rw [show ((1 : Nat) : Int) = 1 from rfl] at e2
          rw [e2]
          dsimp only
          cases b2
          rotate_left
          · simp only [rInt_true]; exact ⟨_, true, rfl⟩
          obtain ⟨v3, b3, e3, _⟩ := rInt_state ((xs.drop 1).drop 1) 4 0 2147483648 rfl (by simp; omega) false
          simp only [Bool.false_eq_true, if_false] at e3
          rw [show ((4 : Nat) : Int) = 4 from rfl] at e3
          rw [e3]
          dsimp only
          cases b3
          rotate_left
          · simp only [rInt_true]; exact ⟨_, true, rfl⟩
          obtain ⟨v4, b4, e4, _⟩ := rInt_state (((xs.drop 1).drop 1).drop 4) 8 0 1099511627776 rfl (by simp; omega) false
          simp only [Bool.false_eq_true, if_false] at e4
          rw [show ((8 : Nat) : Int) = 8 from rfl] at e4
          rw [e4]
          dsimp only
          cases b4
          rotate_left
          · simp only [rInt_true]; exact ⟨_, true, rfl⟩
          obtain ⟨v5, b5, e5, _⟩ := rInt_state ((((xs.drop 1).drop 1).drop 4).drop 8) 8 0 1099511627776 rfl (by simp; omega) false
          simp only [Bool.false_eq_true, if_false] at e5
          rw [show ((8 : Nat) : Int) = 8 from rfl] at e5
          rw [e5]
          dsimp only
          cases b5
          · exact ⟨⟨v1, v2, v3, v4, v5⟩, false, by simp [List.drop_drop]⟩
          · exact ⟨_, true, rfl⟩
        have hn6 : (rdHd (xs, false)).1.n ≤ 6 ∧ 0 ≤ (rdHd (xs, false)).1.n := by
          unfold rdHd
          dsimp only
          have := rInt_bd (rInt (xs, false) 1 0 1).2 1 0 6 (by decide) (by decide)
          exact ⟨this.2, this.1⟩
        obtain ⟨h, b, e⟩ := hst
        dsimp only
        cases b
        · rw [e] at hn6 ⊢
          dsimp only at hn6 ⊢
          simp only [Bool.false_eq_true, if_false]
          rcases rgDls_rd (xs := xs.drop 22) (hox.drop 22) h.n.toNat (by simp; omega) with ⟨h1, h2⟩ | ⟨h1, h2⟩
          · rw [h1]; rfl
          · rw [h1]
            have h3 : (rdDls h.n.toNat (xs.drop 22, false)).2 = ((rdDls h.n.toNat (xs.drop 22, false)).2.1, true) := by rw [← h2]
            rw [h3, fin_bad]; rfl
        · rw [e]
          dsimp only
          simp only [if_true]
          obtain ⟨ds, h1⟩ := rgDls_true (rdHd (xs, false)).2.1 h.n.toNat
          rw [h1, rdDls_true, Option.bind_some, fin_bad, fin_bad]
      · have h3 : (rgHd (xs, false)).2 = ((rgHd (xs, false)).2.1, true) := by rw [← hb]
        rw [h3]
        obtain ⟨ds, h1⟩ := rgDls_true (rgHd (xs, false)).2.1 (rgHd (xs, false)).1.n.toNat
        rw [h1, Option.bind_some, fin_bad]
        dsimp only
        unfold fin
        rw [he]
        have hm : ∀ s u ds, mayR 0 s u ds = false := fun s u ds => by simp [mayR, wi]
        rw [hm]
        simp
    · rw [if_neg hL, if_neg hL]
  · rw [if_neg hc, if_neg hc]

end Go.Proofs.YtgbcmkkbhbkfeaaDoor
