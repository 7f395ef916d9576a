/- Plain laws: numbers as bytes. -/
import Derived.Test.YtgbcmkkbhbkfeaaDoorB
namespace Go.Proofs.YtgbcmkkbhbkfeaaDoor
open Go Go.RowKit

/-- the number that bytes tell, the least first -/
def num : List Int → Int
  | [] => 0
  | b :: r => b + 256 * num r

theorem num_bd : ∀ bs : List Int, Oct bs → 0 ≤ num bs ∧ num bs < 256 ^ bs.length
  | [], _ => by simp [num]
  | b :: r, h => by
    have h1 := h b (by simp)
    have h2 := num_bd r (fun x hx => h x (by simp [hx]))
    simp only [num, List.length_cons, Int.pow_succ]
    omega

theorem num_snoc : ∀ (bs : List Int) (k : Nat) (b : Int), bs[k]? = some b → num (bs.take (k + 1)) = num (bs.take k) + b * 256 ^ k
  | [], k, b, h => by simp at h
  | x :: r, 0, b, h => by simp at h; subst h; simp [num]
  | x :: r, k + 1, b, h => by
    have := num_snoc r k b (by simpa using h)
    simp only [List.take_succ_cons, num, this, Int.pow_succ]
    rw [Int.mul_add, Int.add_assoc, ← Int.mul_assoc, Int.mul_comm 256 b, Int.mul_assoc, Int.mul_comm 256 (256 ^ k)]

theorem or_step (y b : Int) (k : Nat) (hk : k < 8) (hy : 0 ≤ y) (hy2 : y < 256 ^ k) (hb : 0 ≤ b) (hb2 : b < 256) :
    bits .or .u64 y (IntKind.u64.wrap (b * 2 ^ (8 * k))) = y + b * 256 ^ k := by
  obtain ⟨Y, rfl⟩ := Int.eq_ofNat_of_zero_le hy
  obtain ⟨B, rfl⟩ := Int.eq_ofNat_of_zero_le hb
  have e : (2 : Int) ^ (8 * k) = ((256 ^ k : Nat) : Int) := by
    rw [Int.pow_mul]; simp
  have e2 : (256 : Int) ^ k = ((256 ^ k : Nat) : Int) := by simp
  rw [e2] at hy2 ⊢
  rw [e, ← Int.natCast_mul]
  have hY : Y < 256 ^ k := Int.ofNat_lt.1 hy2
  have hB : B < 256 := Int.ofNat_lt.1 hb2
  have hp : 256 ^ k ≤ 256 ^ 7 := Nat.pow_le_pow_right (by decide) (by omega)
  have hm : B * 256 ^ k ≤ 255 * 256 ^ 7 := Nat.mul_le_mul (by omega) hp
  have h1 : B * 256 ^ k < 18446744073709551616 := Nat.lt_of_le_of_lt hm (by decide)
  have h2 : Y < 18446744073709551616 := Nat.lt_of_lt_of_le hY (Nat.le_trans hp (by decide))
  have hw : IntKind.u64.wrap ((B * 256 ^ k : Nat) : Int) = ((B * 256 ^ k : Nat) : Int) := by
    rw [IntKind.wrap_u64]; exact Int.emod_eq_of_lt (Int.natCast_nonneg _) (Int.ofNat_lt.2 h1)
  rw [hw, u64_or_nat _ _ h2 h1]
  have h256 : 256 ^ k = 2 ^ (8 * k) := by rw [Nat.pow_mul]
  have := Nat.shiftLeft_add_eq_or_of_lt (b := Y) (i := 8 * k) (by rw [← h256]; exact hY) B
  rw [Nat.shiftLeft_eq, ← h256] at this
  rw [Nat.or_comm, ← this]
  rw [Int.natCast_add, Int.add_comm]

end Go.Proofs.YtgbcmkkbhbkfeaaDoor
