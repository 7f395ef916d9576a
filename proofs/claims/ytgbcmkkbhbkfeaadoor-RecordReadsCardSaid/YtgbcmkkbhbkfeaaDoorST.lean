/- The reference's crc, bit by bit. -/
import Derived.Test.YtgbcmkkbhbkfeaaDoorProg
import Derived.Test.YtgbcmkkbhbkfeaaDoorB
namespace Go.Proofs.YtgbcmkkbhbkfeaaDoor
open Go Go.RowKit

def stepF (r b : Int) : Int := if r % 2 = b then r / 2 else bits .xor .u32 (r / 2) 2197175160
theorem step_any (r b : Int) (w : World) (hr : 0 ≤ r ∧ r < 4294967296) :
    Calls Tryd.prog 65 #[.int .u32 r, .int .u32 b] w fun e w' => e = .returned (.int .u32 (stepF r b)) ∧ w = w' := by
  have hw : IntKind.u32.wrap (r % 2) = r % 2 := by rw [IntKind.wrap_u32]; omega
  have hw2 : IntKind.u32.wrap (r / 2) = r / 2 := by rw [IntKind.wrap_u32]; omega
  by_cases h : r % 2 = b
  all_goals
    go_enter Tryd.func65, Tryd.ntmps65
    go_wp2_with fail
    go_ret
    refine ⟨?_, rfl⟩
    unfold stepF
    first | (rw [if_pos h]; rfl) | (rw [if_neg h]; rfl)

-- the table by nibbles is eight steps by bits: on natural numbers first
def pN : Nat := 2197175160
def nibN : List Nat := [0, 274646895, 549293790, 820201905, 1098587580, 1361435347, 1640403810, 1905808397, 2197175160, 2460548119, 2722870694, 2987750089, 3280807620, 3553878443, 3811616794, 4084100981]
def sN (y : Nat) : Nat := if y % 2 = 0 then y / 2 else (y / 2) ^^^ pN
def stepN (r b : Nat) : Nat := if r % 2 = b then r / 2 else (r / 2) ^^^ pN
def halfN (r : Nat) : Nat := r / 16 ^^^ nibN[r % 16]?.getD 0
theorem sN_lin (x y : Nat) : sN (x ^^^ (2 * y)) = sN x ^^^ y := by
  have h1 : (x ^^^ (2*y)) % 2 = x % 2 := by
    have := Nat.xor_mod_two_eq_one (a := x) (b := 2*y)
    omega
  have h2 : (x ^^^ (2*y)) / 2 = x / 2 ^^^ y := by rw [Nat.xor_div_two]; congr 1; omega
  unfold sN
  rw [h1, h2]
  split
  · rfl
  · rw [Nat.xor_assoc, Nat.xor_comm y pN, ← Nat.xor_assoc]
theorem step_sN (r b : Nat) (hb : b < 2) : stepN r b = sN (r ^^^ b) := by
  have h1 := Nat.xor_mod_two_eq_one (a := r) (b := b)
  have h2 : (r ^^^ b) / 2 = r / 2 := by rw [Nat.xor_div_two, show b / 2 = 0 by omega, Nat.xor_zero]
  unfold sN stepN
  rw [h2]
  by_cases h : r % 2 = b
  · rw [if_pos h, if_pos (by omega)]
  · rw [if_neg h, if_neg (by omega)]
theorem split2 (b : Nat) (k : Nat) : b = b % 2 ^ k ^^^ 2 ^ k * (b / 2 ^ k) := by
  apply Nat.eq_of_testBit_eq
  intro i
  rw [Nat.testBit_xor, Nat.testBit_mod_two_pow, Nat.testBit_two_pow_mul, Nat.testBit_div_two_pow]
  by_cases hi : i < k
  · simp [hi, Nat.not_le.2 hi]
  · simp [hi, Nat.not_lt.1 hi]
theorem sN_step (r b : Nat) : sN (r ^^^ b) = stepN r (b % 2) ^^^ (b / 2) := by
  have h := split2 b 1
  simp only [Nat.pow_one] at h
  rw [step_sN r (b % 2) (Nat.mod_lt _ (by decide)), ← sN_lin, Nat.xor_assoc, ← h]
def bitsN (r b : Nat) : Nat → Nat
  | 0 => r
  | k + 1 => stepN (bitsN r b k) (b / 2 ^ k % 2)
def skN : Nat → Nat → Nat
  | 0, x => x
  | k + 1, x => sN (skN k x)
theorem skN_bits (r b : Nat) : ∀ k, skN k (r ^^^ b) = bitsN r b k ^^^ b / 2 ^ k
  | 0 => by simp [skN, bitsN]
  | k + 1 => by
    rw [skN, skN_bits r b k, sN_step, bitsN, Nat.div_div_eq_div_mul, ← Nat.pow_succ]
theorem s4_nib : ∀ a, a < 16 → skN 4 a = nibN[a]?.getD 0 := by decide
theorem s4_half (x : Nat) : skN 4 x = halfN x := by
  have h := split2 x 4
  simp only [show 2 ^ 4 = 16 from rfl] at h
  have h1 : ∀ a z, skN 4 (a ^^^ 16 * z) = skN 4 a ^^^ z := fun a z => by
    simp only [skN]
    rw [show 16 * z = 2 * (8 * z) by omega, sN_lin, show 8 * z = 2 * (4 * z) by omega, sN_lin, show 4 * z = 2 * (2 * z) by omega, sN_lin, sN_lin]
  rw [h, h1, ← h, s4_nib _ (Nat.mod_lt _ (by decide)), halfN, Nat.xor_comm]
theorem byte_eq (r b : Nat) (hb : b < 256) : bitsN r b 8 = halfN (halfN (r ^^^ b)) := by
  have h := skN_bits r b 8
  rw [show b / 2 ^ 8 = 0 by omega, Nat.xor_zero] at h
  rw [← h, ← s4_half, ← s4_half]
  rfl

-- and on Go's numbers
theorem ofInt32 (a : Nat) (ha : a < 4294967296) : (BitVec.ofInt 32 (a : Int)).toNat = a := by
  rw [BitVec.ofInt_natCast, BitVec.toNat_ofNat]; exact Nat.mod_eq_of_lt (by omega)
theorem xor32_lt {a b : Nat} (ha : a < 4294967296) (hb : b < 4294967296) : a ^^^ b < 4294967296 := Nat.xor_lt_two_pow (n := 32) (by omega) (by omega)
theorem xor32 (a b : Nat) (ha : a < 4294967296) (hb : b < 4294967296) : bits .xor .u32 (a : Int) (b : Int) = ((a ^^^ b : Nat) : Int) := by
  have hx := xor32_lt ha hb
  show IntKind.u32.wrap ((BitVec.ofInt 32 (a : Int) ^^^ BitVec.ofInt 32 (b : Int)).toNat : Int) = _
  rw [BitVec.toNat_xor, ofInt32 a ha, ofInt32 b hb, IntKind.wrap_u32]
  omega
theorem and15_mod (r : Nat) (hr : r < 4294967296) : bits .and .u32 (r : Int) 15 = ((r % 16 : Nat) : Int) := by
  show IntKind.u32.wrap ((BitVec.ofInt 32 (r : Int) &&& BitVec.ofInt 32 ((15 : Nat) : Int)).toNat : Int) = _
  rw [BitVec.toNat_and, ofInt32 r hr, ofInt32 15 (by decide), IntKind.wrap_u32, show (15 : Nat) = 2 ^ 4 - 1 from rfl, Nat.and_two_pow_sub_one_eq_mod]
  omega
theorem nib_nat : ∀ i, i < 16 → nib ((i : Nat) : Int) = ((nibN[i]?.getD 0 : Nat) : Int) ∧ nibN[i]?.getD 0 < 4294967296 := by decide
theorem half_lt (r : Nat) (hr : r < 4294967296) : halfN r < 4294967296 := xor32_lt (by omega) (nib_nat (r % 16) (Nat.mod_lt _ (by decide))).2
theorem half_nat (r : Nat) (hr : r < 4294967296) : onHalf (r : Int) = ((halfN r : Nat) : Int) := by
  have hn := nib_nat (r % 16) (Nat.mod_lt _ (by decide))
  unfold onHalf halfN
  rw [and15_mod r hr, hn.1, show (r : Int) / 16 = ((r / 16 : Nat) : Int) by simp, xor32 _ _ (by omega) hn.2]
theorem stepN_lt (r b : Nat) (hr : r < 4294967296) : stepN r b < 4294967296 := by
  unfold stepN; split
  · omega
  · exact xor32_lt (by omega) (by decide)
theorem step_nat (r b : Nat) (hr : r < 4294967296) : stepF (r : Int) (b : Int) = ((stepN r b : Nat) : Int) := by
  have h2 : (r : Int) / 2 = ((r / 2 : Nat) : Int) := by simp
  unfold stepF stepN
  rw [h2, show (2197175160 : Int) = ((pN : Nat) : Int) from rfl, xor32 _ _ (by omega) (by decide)]
  by_cases h : r % 2 = b
  · rw [if_pos (by omega), if_pos h]
  · rw [if_neg (by omega), if_neg h]
/-- k steps with the bits of b -/
def bitsF (r b : Int) : Nat → Int
  | 0 => r
  | k + 1 => stepF (bitsF r b k) (b / 2 ^ k % 2)
theorem bitsN_lt (r b : Nat) (hr : r < 4294967296) : ∀ k, bitsN r b k < 4294967296
  | 0 => hr
  | k + 1 => stepN_lt _ _ (bitsN_lt r b hr k)
theorem bits_nat (r b : Nat) (hr : r < 4294967296) : ∀ k, bitsF (r : Int) (b : Int) k = ((bitsN r b k : Nat) : Int)
  | 0 => rfl
  | k + 1 => by
    rw [bitsF, bits_nat r b hr k, bitsN, ← step_nat _ _ (bitsN_lt r b hr k)]
    congr 1
theorem bitsF_bd (r b : Int) (hr : 0 ≤ r ∧ r < 4294967296) (hb : 0 ≤ b ∧ b < 256) (k : Nat) : 0 ≤ bitsF r b k ∧ bitsF r b k < 4294967296 := by
  obtain ⟨R, rfl⟩ := Int.eq_ofNat_of_zero_le hr.1
  obtain ⟨B, rfl⟩ := Int.eq_ofNat_of_zero_le hb.1
  have h := bitsN_lt R B (by omega) k
  show 0 ≤ bitsF (R : Int) (B : Int) k ∧ bitsF (R : Int) (B : Int) k < 4294967296
  rw [bits_nat R B (by omega) k]
  omega
theorem bitsF_on (r b : Int) (hr : 0 ≤ r ∧ r < 4294967296) (hb : 0 ≤ b ∧ b < 256) : bitsF r b 8 = onStep r b := by
  obtain ⟨R, rfl⟩ := Int.eq_ofNat_of_zero_le hr.1
  obtain ⟨B, rfl⟩ := Int.eq_ofNat_of_zero_le hb.1
  have hR : R < 4294967296 := by omega
  have hB : B < 256 := by omega
  show bitsF (R : Int) (B : Int) 8 = onStep (R : Int) (B : Int)
  have hx := xor32_lt hR (show B < 4294967296 by omega)
  rw [bits_nat R B hR, byte_eq R B hB]
  unfold onStep
  rw [xor32 R B hR (by omega), half_nat _ hx, half_nat _ (half_lt _ hx)]
theorem onStep_bd (r b : Int) (hr : 0 ≤ r ∧ r < 4294967296) (hb : 0 ≤ b ∧ b < 256) : 0 ≤ onStep r b ∧ onStep r b < 4294967296 := by
  rw [← bitsF_on r b hr hb]; exact bitsF_bd r b hr hb 8

theorem reg_bd (s : Int) (bs : List Int) (ho : Oct bs) : 0 ≤ reg s bs ∧ reg s bs < 4294967296 := by
  unfold reg
  have h0 : 0 ≤ bits .xor .u32 IntKind.u32.max s ∧ bits .xor .u32 IntKind.u32.max s < 4294967296 := by
    have h1 := bits_lo_u32 .xor IntKind.u32.max s
    have h2 := bits_hi_u32 .xor IntKind.u32.max s
    omega
  revert h0
  generalize bits .xor .u32 IntKind.u32.max s = r
  induction bs generalizing r with
  | nil => exact fun h => h
  | cons b l ih => exact fun h => ih (fun x hx => ho x (by simp [hx])) _ (onStep_bd r b h (ho b (by simp)))

theorem refOn_any (s : Int) (v : Value) (bs : List Int) (w : World) (hl : bs.length ≤ 281474976710656) (hv : Sl e8 1 w v bs) (ho : Oct bs) :
    Calls Tryd.prog 64 #[.int .u32 s, v] w fun e w' => e = .returned (.int .u32 (crcOn s bs)) ∧ w = w' := by
  rcases hv.bytes with ⟨rfl, rfl⟩ | ⟨g, off, c, rfl, h1, h2, h3, h4⟩
  · go_enter Tryd.func64, Tryd.ntmps64
    go_wp2
    refine wp_loop_once ?_
    go_wp2
    go_ret
    exact ⟨rfl, rfl⟩
  · clear h1 h2 h3 hv
    have H4 := Lib.hid h4
    have HO := Lib.hid ho
    clear h4 ho
    go_enter Tryd.func64, Tryd.ntmps64
    go_wp2
    go_loop [5, 6, 7] (fun r i _ => ∃ k : Nat, k ≤ bs.length ∧ i = .int .i64 k ∧ r = .int .u32 (reg s (bs.take k))) (fun _ i _ => bs.length - (intOf i).toNat)
    case atStart => exact ⟨0, Nat.zero_le _, rfl, rfl⟩
    case round =>
      obtain ⟨k, hk, rfl, rfl⟩ := hrel
      by_cases hlt : k < bs.length
      · obtain ⟨b, hb⟩ : ∃ b, bs[k]? = some b := ⟨_, List.getElem?_eq_getElem hlt⟩
        have hc := H4.out k b hb
        have hs := Lib.hid (reg_snoc s bs k b hb)
        have hb2 := HO.out b (List.mem_of_getElem? hb)
        have hrb := reg_bd s (bs.take k) (fun x hx => HO.out x (List.mem_of_mem_take hx))
        clear hb
        generalize reg s (bs.take k) = x at hs hrb ⊢
        have hon := Lib.hid (bitsF_on x b hrb hb2)
        have hbd := Lib.hid (bitsF_bd x b hrb hb2)
        go_wp2
        go_loop [5, 7] (fun r j => ∃ q : Nat, q ≤ 8 ∧ j = .int .i64 q ∧ r = .int .u32 (bitsF x b q)) (fun _ j => 8 - (intOf j).toNat)
        case atStart => exact ⟨0, by omega, rfl, rfl⟩
        case round =>
          obtain ⟨q, hq, rfl, rfl⟩ := hrel
          by_cases hlq : q < 8
          · have hyb := hbd.out q
            have hst : Hid (bitsF x b (q + 1) = stepF (bitsF x b q) (b / 2 ^ q % 2)) := rfl
            generalize bitsF x b q = y at hyb hst ⊢
            go_wp2_with (go_at_call 65; refine (step_any _ _ _ hyb).mono ?_; rintro e w' ⟨rfl, rfl⟩)
            go_round
            case rel => exact ⟨q + 1, by omega, by go_num, by rw [hst.out]⟩
            case measure => simp [intOf]; omega
          · obtain rfl : q = 8 := by omega
            go_wp2
            go_round
            case rel => exact ⟨k + 1, by omega, by go_num, by rw [hs.out, hon.out]⟩
            case measure => simp [intOf]; omega
      · obtain rfl : k = bs.length := by omega
        go_wp2
        go_ret
        exact ⟨rfl, rfl⟩

theorem refSum_any (v : Value) (bs : List Int) (w : World) (hl : bs.length ≤ 281474976710656) (hv : Sl e8 1 w v bs) (ho : Oct bs) :
    Calls Tryd.prog 60 #[v] w fun e w' => e = .returned (.int .u32 (crcOn 0 bs)) ∧ w = w' := by
  go_enter Tryd.func60, Tryd.ntmps60
  go_wp2_with (go_at_call 64; refine (refOn_any 0 v bs w hl hv ho).mono ?_; rintro e w' ⟨rfl, rfl⟩)
  go_ret
  exact ⟨rfl, rfl⟩

end Go.Proofs.YtgbcmkkbhbkfeaaDoor
