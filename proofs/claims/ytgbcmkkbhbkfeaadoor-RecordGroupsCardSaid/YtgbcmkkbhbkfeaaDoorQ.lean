/- slices.Chunk: what its function value hands to a loop's rounds. -/
import Derived.Test.YtgbcmkkbhbkfeaaDoorProg
import Derived.Test.YtgbcmkkbhbkfeaaDoorN
import Derived.RangeFuncNested
import Derived.RangeFuncBound
import Derived.RangeFuncCalls
import Derived.RangeFuncLeaves
import Derived.RangeFuncBox
import Derived.Shelf.Abstract
import Derived.WalkKit
import Derived.OwnWalkIn
import Derived.TacticsInMore
import Derived.LoopNIn
import Derived.LoopIn
namespace Go.Proofs.YtgbcmkkbhbkfeaaDoor
open Go Go.RowKit

/-- a shorter room behind the same slice -/
theorem Sl.room {α : Type} {enc : α → List Value} {sz : Nat} {w : World} {a : Addr} {n c : Nat} {xs : List α} (h : Sl enc sz w (.slice (some a) n c) xs) {c' : Nat} (h1 : n ≤ c') (h2 : c' ≤ c) : Sl enc sz w (.slice (some a) n c') xs := by
  rcases h with ⟨h, _⟩ | ⟨g, off, c0, h, q1, q2, q3, q4⟩
  · simp at h
  · simp only [Value.slice.injEq, Option.some.injEq] at h
    obtain ⟨rfl, rfl, rfl⟩ := h
    exact .inr ⟨g, off, c', rfl, h1, Nat.le_trans h2 q2, q3, q4⟩

def ckI (n k : Nat) : Nat := min (6 * k) n
def ckM (n k : Nat) : Nat := min 6 (n - ckI n k)
/-- the k-th chunk of a slice of n -/
def ckV (g off n k : Nat) : Value := .slice (some ⟨g, off + ckI n k * 5, none⟩) (ckM n k) (ckM n k)
def ckL (ds : List Dl) (k : Nat) : List Dl := (ds.drop (ckI ds.length k)).take (ckM ds.length k)
theorem ck_sl {w : World} {g off n c : Nat} {ds : List Dl} (h : Sl eD 5 w (.slice (some ⟨g, off, none⟩) n c) ds) (k : Nat) : Sl eD 5 w (ckV g off n k) (ckL ds k) := by
  obtain ⟨rfl, hc⟩ := h.cap
  have h1 : ckI ds.length k ≤ ds.length := Nat.min_le_right _ _
  have h2 : ckM ds.length k ≤ ds.length - ckI ds.length k := Nat.min_le_right _ _
  exact ((h.drop _ h1).take _ h2).room (Nat.le_refl _) (by omega)

/-- what a round must keep for the iterator -/
def Kp2 (Bs Bn : Nat) (A B : World) : Prop := B.heap[Bs]? = A.heap[Bs]? ∧ B.heap[Bn]? = A.heap[Bn]?
theorem Kp2.trans {Bs Bn : Nat} {A B C : World} (h : Kp2 Bs Bn A B) (k : Kp2 Bs Bn B C) : Kp2 Bs Bn A C := ⟨k.1.trans h.1, k.2.trans h.2⟩

theorem chunk_any (a : Option Addr) (n c : Nat) (w : World) :
    Calls Tryd.prog 49 #[.slice a n c, .int .i64 6] w fun e w' => e = .returned (.func (.func 61) #[] #[.pointer (some ⟨w.heap.size, 0, none⟩), .pointer (some ⟨w.heap.size + 1, 0, none⟩)]) ∧ w' = (w.alloc (.cells #[.slice a n c] 22)).alloc (.cells #[.int .i64 6] 3) := by
  go_enter Tryd.func49, Tryd.ntmps49
  go_wp2
  go_ret
  exact ⟨rfl, rfl⟩

set_option maxRecDepth 100000 in
theorem chunkF_in (m l Bs Bn : Nat) (a : Option Addr) (g off n c : Nat) (hc : n ≤ c) (hn : n ≤ 6000) (hA : 0 < n → a = some ⟨g, off, none⟩) (J Jx : List Nat → World → Prop) (hJ : ∀ s A d, J s A → J s (World.drewN A d))
    (hY : ∀ pre x W, J pre W → pre.length < (n + 5) / 6 → YieldAt Fence.wide (m - 1) Tryd.prog l #[ckV g off n x] W fun e W' =>
      (e = .returned (.bool true) ∧ J (pre ++ [x]) W' ∧ Kp2 Bs Bn W W') ∨ (e = .returned (.bool false) ∧ Jx (pre ++ [x]) W'))
    (W : World) (hBs : W.heap[Bs]? = some (.cells #[.slice a n c] 22 (0, 0))) (hBn : W.heap[Bn]? = some (.cells #[.int .i64 6] 3 (0, 0))) (h0 : J [] W) :
    CallsIn Fence.wide m Tryd.prog 61 #[.func (.yield l) #[] #[], .pointer (some ⟨Bs, 0, none⟩), .pointer (some ⟨Bn, 0, none⟩)] W fun e W' => (∃ v, e = .returned v) ∧
      ((∃ ys, ys = List.range ((n + 5) / 6) ∧ J ys W') ∨ (∃ pre, (∃ k, k ≤ (n + 5) / 6 ∧ pre = List.range k) ∧ Jx pre W')) := by
  refine callsIn_of_wp Tryd.func61 rfl trivial ?_ rfl
  simp only [Tryd.ntmps61, List.size_toArray, List.length_cons, List.length_nil, Nat.reduceAdd, Nat.reduceSub, Array.replicate_succ, Array.replicate_zero, List.push_toArray, List.append_toArray, List.nil_append, List.cons_append]
  have HB := Lib.hid (And.intro hBs (And.intro hBn (And.intro h0 hY)))
  clear hBs hBn h0 hY
  gi_wp2
  gi_loopw [4] (fun i wr => ∃ k : Nat, k ≤ (n + 5) / 6 ∧ i = .int .i64 (6 * k : Nat) ∧ Hid (J (List.range k) wr) ∧ Hid (Kp2 Bs Bn W wr)) (fun i _ => n + 6 - (intOf i).toNat)
  case atStart => exact ⟨0, Nat.zero_le _, rfl, HB.out.2.2.1, ⟨rfl, rfl⟩⟩
  case round =>
    obtain ⟨k, hk, rfl, HJ, HK⟩ := hrel
    have b1 := blk_cell (HK.out.1.trans HB.out.1) 0
    have b2 := blk_cell (HK.out.2.trans HB.out.2.1) 0
    simp at b1 b2
    by_cases hlt : 6 * k < n
    · have hkk : k < (n + 5) / 6 := by omega
      have hi : ckI n k = 6 * k := by unfold ckI; omega
      obtain rfl := hA (by omega)
      obtain ⟨e, he⟩ : ∃ e, Hid (ckM n k = e) := ⟨_, rfl⟩
      have he1 : e ≤ 6 ∧ 6 * k + e ≤ n ∧ e = min 6 (n - 6 * k) := by rw [← he.out]; unfold ckM; rw [hi]; omega
      have hik : IntKind.i64.wrap (6 * (k : Int)) = 6 * k := IntWalk.i64_in _ (by omega)
      have hie : IntKind.i64.wrap (6 * (k : Int) + e) = 6 * k + e := IntWalk.i64_in _ (by omega)
      have hik6 : IntKind.i64.wrap (6 * (k : Int) + 6) = 6 * k + 6 := IntWalk.i64_in _ (by omega)
      gi_wp2
      refine wpIn_wide.2 ?_
      go_quiet (fail)
      have hif : (if ((n - 6 * k : Nat) : Int) < 6 then ((n - 6 * k : Nat) : Int) else 6) = (e : Int) := by split <;> omega
      rw [hif]
      clear hif
      obtain ⟨he2, he3, he4⟩ := he1
      have he5 : 0 < e := by omega
      have HE := Lib.hid he4
      clear he4
      obtain ⟨fn, tmps, assign, body, hy, hR⟩ := HB.out.2.2.2 (List.range k) k (wr.drewN nq) (hJ _ _ _ HJ.out) (by simpa using hkk)
      unfold ckV at hy
      rw [hi, he.out] at hy
      have hRR := Lib.hid hR
      clear hR
      gi_wp2
      refine ⟨fun h => by simp [Fence.wide] at h, hRR.out.mono ?_⟩
      rintro e W3 (⟨rfl, hJ3, hk3⟩ | ⟨rfl, hJx3⟩)
      · have HJ3 := Lib.hid hJ3
        have HK3 : Hid (Kp2 Bs Bn W W3) := HK.out.trans (Kp2.trans ⟨rfl, rfl⟩ hk3)
        have b3 := blk_cell (HK3.out.1.trans HB.out.1) 0
        have b4 := blk_cell (HK3.out.2.trans HB.out.2.1) 0
        simp at b3 b4
        clear hJ3 hk3
        gi_wp2
        go_roundw
        case rel => exact ⟨k + 1, by omega, by simp; omega, by rw [List.range_succ]; exact HJ3.out, HK3.out⟩
        case measure => simp [intOf]; omega
      · have HJ3 := Lib.hid hJx3
        clear hJx3
        gi_wp2
        refine bodyPost_ret (results_none rfl _ _ _) rfl ?_
        exact ⟨⟨_, rfl⟩, .inr ⟨_, ⟨k + 1, by omega, List.range_succ.symm⟩, HJ3.out⟩⟩
    · obtain rfl : k = (n + 5) / 6 := by omega
      gi_wp2
      refine bodyPost_end (results_none rfl _ _ _) rfl ?_
      exact ⟨⟨_, rfl⟩, .inl ⟨_, rfl, HJ.out⟩⟩

end Go.Proofs.YtgbcmkkbhbkfeaaDoor
