/- What was encoded is decoded: plain laws. -/
import Derived.Test.YtgbcmkkbhbkfeaaDoorProg
import Derived.Test.YtgbcmkkbhbkfeaaDoorN
namespace Go.Proofs.YtgbcmkkbhbkfeaaDoor
open Go Go.RowKit

theorem num_leB : ∀ (k : Nat) (x : Int), 0 ≤ x → x < 256 ^ k → num (leB k x) = x
  | 0, x, h0, h1 => by simp at h1; simp [leB, num]; omega
  | k + 1, x, h0, h1 => by
    rw [Int.pow_succ] at h1
    have h2 := num_leB k (x / 256) (by omega) (by omega)
    simp only [leB, num, h2]
    omega
theorem rInt_enc (n : Nat) (x l m : Int) (rest : List Int) (hz : isSz n = true) (h0 : 0 ≤ x) (h1 : x < 256 ^ n) (h64 : x ≤ 9223372036854775807) (hl : l ≤ x) (hm : x ≤ m) : rInt (leB n x ++ rest, false) n l m = (x, (rest, false)) := by
  have hn : num ((leB n x ++ rest).take (n : Int).toNat) = x := by
    rw [Int.toNat_natCast, List.take_append_of_le_length (by rw [leB_len]; exact Nat.le_refl _), List.take_of_length_le (by rw [leB_len]; exact Nat.le_refl _)]
    exact num_leB n x h0 h1
  have hw : wrap64 x = x := by simp only [wrap64]; omega
  have hr : rdOk (leB n x ++ rest) false (n : Int) = true := by simp [rdOk, leB_len]; omega
  unfold rInt
  dsimp only
  rw [hn, hw, hz, hr, Bool.and_self, if_pos rfl, if_pos ⟨hl, hm⟩, Int.toNat_natCast]
  rw [List.drop_append_of_le_length (by rw [leB_len]; exact Nat.le_refl _), List.drop_of_length_le (by rw [leB_len]; exact Nat.le_refl _)]
  rfl
theorem rdDl_enc (d : Dl) (rest : List Int) (hd : mayD d = true) : rdDl (dlB d ++ rest, false) = (d, (rest, false)) := by
  obtain ⟨h1, h2, h3, h4, h5⟩ := mayD_bd d hd
  unfold rdDl dlB
  simp only [List.append_assoc]
  have e1 : ∀ r, rInt (leB 1 d.k ++ r, false) 1 0 255 = (d.k, (r, false)) := fun r => rInt_enc 1 d.k 0 255 r rfl h1.1 (by omega) (by omega) h1.1 (by omega)
  have e2 : ∀ r, rInt (leB 1 d.z ++ r, false) 1 0 255 = (d.z, (r, false)) := fun r => rInt_enc 1 d.z 0 255 r rfl h4.1 (by omega) (by omega) h4.1 (by omega)
  have e3 : ∀ r, rInt (leB 2 d.n ++ r, false) 2 0 65535 = (d.n, (r, false)) := fun r => rInt_enc 2 d.n 0 65535 r rfl h3.1 (by omega) (by omega) h3.1 (by omega)
  have e4 : ∀ r, rInt (leB 4 d.a ++ r, false) 4 0 4294967295 = (d.a, (r, false)) := fun r => rInt_enc 4 d.a 0 4294967295 r rfl h2.1 (by omega) (by omega) h2.1 (by omega)
  have e5 : ∀ r, rInt (leB 4 d.o ++ r, false) 4 0 4294967295 = (d.o, (r, false)) := fun r => rInt_enc 4 d.o 0 4294967295 r rfl h5.1 (by omega) (by omega) h5.1 (by omega)
  have e6 : ∀ r, rInt (leB 4 0 ++ r, false) 4 0 0 = (0, (r, false)) := fun r => rInt_enc 4 0 0 0 r rfl (by omega) (by omega) (by omega) (by omega) (by omega)
  simp only [e1, e2, e3, e4, e5, e6]

theorem rdDls_enc (ds : List Dl) (rest : List Int) (hd : ds.all mayD = true) : ∀ k, k ≤ ds.length → rdDls k (ds.flatMap dlB ++ rest, false) = (ds.take k, ((ds.drop k).flatMap dlB ++ rest, false))
  | 0, _ => by simp [rdDls]
  | k + 1, hk => by
    have ih := rdDls_enc ds rest hd k (by omega)
    obtain ⟨d, hdk⟩ : ∃ d, ds[k]? = some d := ⟨_, List.getElem?_eq_getElem (by omega)⟩
    have hm : mayD d = true := List.all_eq_true.1 hd d (List.mem_of_getElem? hdk)
    have hdrop : ds.drop k = d :: ds.drop (k + 1) := by
      rw [List.drop_eq_getElem_cons (by omega)]
      have := (List.getElem?_eq_some_iff.1 hdk).2
      rw [this]
    rw [rdDls, ih, hdrop, List.flatMap_cons, List.append_assoc, rdDl_enc d _ hm, List.take_add_one, hdk]
    rfl

theorem chk_seal (bs : List Int) (h : bs.length = 124) : chk (sealL bs) = true ∧ (sealL bs).drop 4 = bs := by
  have hs : sealL bs = (List.range 4).map (sb (crcOn 0 bs)) ++ bs := by simp [sealL, h]
  have hd : (sealL bs).drop 4 = bs := by rw [hs]; simp [List.drop_append]
  refine ⟨?_, hd⟩
  unfold chk
  rw [hd, Bool.and_eq_true]
  refine ⟨by rw [hs]; simp [h], ?_⟩
  rw [List.all_eq_true]
  intro k hk
  have hk4 : k < 4 := List.mem_range.1 hk
  rw [hs, List.getElem?_append_left (by simpa using hk4), List.getElem?_map, List.getElem?_range hk4]
  simp
theorem dec_enc (e s : Int) (c : Bool) (u : Int) (ds : List Dl) (hm : mayR e s u ds = true) : dec (sealL (pad 124 (recB e s c u ds))) = some (e, s, c, u, ds) := by
  have hmm := hm
  simp only [mayR, Bool.and_eq_true, decide_eq_true_eq] at hmm
  obtain ⟨⟨⟨⟨hd6, hda⟩, h1⟩, h2⟩, h3⟩ := hmm
  simp only [wi, Bool.and_eq_true, decide_eq_true_eq] at h1 h2 h3
  have hlen : (pad 124 (recB e s c u ds)).length = 124 := pad_len _ _ (by rw [recB_len]; omega)
  obtain ⟨hc, hdr⟩ := chk_seal _ hlen
  unfold dec
  rw [if_pos hc, hdr]
  obtain ⟨Z, hZ⟩ : ∃ Z, Z = List.replicate (124 - (recB e s c u ds).length) (0 : Int) := ⟨_, rfl⟩
  have hz : ∀ b ∈ Z, b = 0 := fun b hb => by rw [hZ] at hb; exact List.eq_of_mem_replicate hb
  have hB : pad 124 (recB e s c u ds) = [74, 82] ++ (leB 1 (if c then 1 else 0) ++ (leB 1 ds.length ++ (leB 4 e ++ (leB 8 s ++ (leB 8 u ++ (ds.flatMap dlB ++ Z)))))) := by
    rw [hZ]; simp [pad, recB, hdA, hdB, List.append_assoc]
  have hby : rBy (pad 124 (recB e s c u ds), false) 2 = ([74, 82], (leB 1 (if c then 1 else 0) ++ (leB 1 ds.length ++ (leB 4 e ++ (leB 8 s ++ (leB 8 u ++ (ds.flatMap dlB ++ Z))))), false)) := by
    unfold rBy
    rw [if_pos (by simp [rdOk, hlen])]
    rw [hB]; rfl
  rw [hby]
  have hc01 : 0 ≤ (if c then (1 : Int) else 0) ∧ (if c then (1 : Int) else 0) ≤ 1 := by cases c <;> simp
  have e1 : ∀ r, rInt (leB 1 (if c then 1 else 0) ++ r, false) 1 0 1 = ((if c then 1 else 0), (r, false)) := fun r => rInt_enc 1 _ 0 1 r rfl hc01.1 (by omega) (by omega) hc01.1 hc01.2
  have e2 : ∀ r, rInt (leB 1 ds.length ++ r, false) 1 0 6 = ((ds.length : Int), (r, false)) := fun r => rInt_enc 1 ds.length 0 6 r rfl (by omega) (by omega) (by omega) (by omega) (by omega)
  have e3 : ∀ r, rInt (leB 4 e ++ r, false) 4 0 2147483648 = (e, (r, false)) := fun r => rInt_enc 4 e 0 _ r rfl (by omega) (by omega) (by omega) (by omega) (by omega)
  have e4 : ∀ r, rInt (leB 8 s ++ r, false) 8 0 1099511627776 = (s, (r, false)) := fun r => rInt_enc 8 s 0 _ r rfl (by omega) (by omega) (by omega) (by omega) (by omega)
  have e5 : ∀ r, rInt (leB 8 u ++ r, false) 8 0 1099511627776 = (u, (r, false)) := fun r => rInt_enc 8 u 0 _ r rfl (by omega) (by omega) (by omega) (by omega) (by omega)
  have hh : rdHd (leB 1 (if c then 1 else 0) ++ (leB 1 ds.length ++ (leB 4 e ++ (leB 8 s ++ (leB 8 u ++ (ds.flatMap dlB ++ Z))))), false) = (⟨(if c then 1 else 0), ds.length, e, s, u⟩, (ds.flatMap dlB ++ Z, false)) := by
    unfold rdHd
    simp only [e1, e2, e3, e4, e5]
  have hds := rdDls_enc ds Z hda ds.length (Nat.le_refl _)
  rw [List.take_length, List.drop_length] at hds
  dsimp only
  rw [if_pos rfl, hh]
  dsimp only
  rw [Int.toNat_natCast, hds]
  unfold fin
  have hex : decide (∃ b ∈ ([] : List Dl).flatMap dlB ++ Z, b ≠ 0) = false := by
    rw [decide_eq_false_iff_not]
    rintro ⟨b, hb, hn⟩
    exact hn (hz b (by simpa using hb))
  dsimp only
  rw [hex, hm]
  cases c <;> rfl

end Go.Proofs.YtgbcmkkbhbkfeaaDoor
