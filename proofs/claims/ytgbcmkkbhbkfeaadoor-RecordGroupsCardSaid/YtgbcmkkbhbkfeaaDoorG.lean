/- Deltas and records of layer 9: which may be; the library's generic ones at deltas. -/
import Derived.Test.YtgbcmkkbhbkfeaaDoorProg
import Derived.Test.YtgbcmkkbhbkfeaaDoorF
namespace Go.Proofs.YtgbcmkkbhbkfeaaDoor
open Go Go.RowKit

structure Dl where
  k : Int
  a : Int
  n : Int
  z : Int
  o : Int
  deriving DecidableEq

def eD (d : Dl) : List Value := [.int .i64 d.k, .int .i64 d.a, .int .i64 d.n, .int .i64 d.z, .int .i64 d.o]
def Dl.v (d : Dl) : Value := .agg #[.int .i64 d.k, .int .i64 d.a, .int .i64 d.n, .int .i64 d.z, .int .i64 d.o]
theorem eD_len (d : Dl) : (eD d).length = 5 := rfl
theorem eD_one (d : Dl) : ∀ u ∈ eD d, u.oneCell' = true := by simp [eD, Value.oneCell']
theorem Sl.delta {w : World} {g off n c : Nat} {ds : List Dl} (h : Sl eD 5 w (.slice (some ⟨g, off, none⟩) n c) ds) {k : Nat} {d : Dl} (hk : ds[k]? = some d) :
    w.cell? ⟨g, off + k * 5, none⟩ = some (.int .i64 d.k) ∧ w.cell? ⟨g, off + k * 5 + 1, none⟩ = some (.int .i64 d.a) ∧ w.cell? ⟨g, off + k * 5 + 2, none⟩ = some (.int .i64 d.n) ∧ w.cell? ⟨g, off + k * 5 + 3, none⟩ = some (.int .i64 d.z) ∧ w.cell? ⟨g, off + k * 5 + 4, none⟩ = some (.int .i64 d.o) := by
  rcases h with ⟨h, _⟩ | ⟨g', off', c', h, h1, h2, h3, h4⟩
  · simp at h
  · simp only [Value.slice.injEq, Option.some.injEq, Addr.mk.injEq, and_true] at h
    obtain ⟨⟨rfl, rfl⟩, rfl, rfl⟩ := h
    exact ⟨h4 k d 0 _ hk rfl, h4 k d 1 _ hk rfl, h4 k d 2 _ hk rfl, h4 k d 3 _ hk rfl, h4 k d 4 _ hk rfl⟩
theorem info_delta : (Tryd.prog.info? 39).map (fun i => (i.zero, i.size, i.bytes)) = some (some (Dl.v ⟨0, 0, 0, 0, 0⟩), 5, 40) := by kernel_rfl

def wi (n l m : Int) : Bool := decide (l ≤ n) && decide (n ≤ m)
def mayD (d : Dl) : Bool :=
  if d.k = 1 then wi d.a 0 4294967295 && wi d.n 1 65535 && wi d.z 0 143 && (wi d.o 0 0 || wi d.o 0 1024)
  else if d.k = 2 then wi d.a 0 4294967295 && wi d.n 1 65535 && wi d.z 0 0 && wi d.o 0 0
  else if d.k = 3 then wi d.a 0 4294967295 && d.n == 0 && d.o == 0 && (wi d.z 0 143 || d.z == 255)
  else if d.k = 4 then d.a == 0 && d.n == 0 && d.o == 0 && wi d.z 0 143
  else false

theorem within_any (n l m : Int) (w : World) :
    Calls Tryd.prog 33 #[.int .i64 n, .int .i64 l, .int .i64 m] w fun e w' => e = .returned (.bool (wi n l m)) ∧ w = w' := by
  go_enter Tryd.func33, Tryd.ntmps33
  go_wp2
  all_goals (go_ret; refine ⟨?_, rfl⟩)
  all_goals (unfold wi; simp_all)
  all_goals omega

theorem flag_any (b : Bool) (w : World) :
    Calls Tryd.prog 28 #[.bool b] w fun e w' => e = .returned (.int .u64 (if b then 1 else 0)) ∧ w = w' := by
  cases b
  all_goals
    go_enter Tryd.func28, Tryd.ntmps28
    go_wp2
    go_ret
    exact ⟨rfl, rfl⟩

theorem mayDelta_any (d : Dl) (w : World) :
    Calls Tryd.prog 16 #[d.v] w fun e w' => e = .returned (.bool (mayD d)) ∧ Frm no w w' := by
  unfold Dl.v
  go_enter Tryd.func16, Tryd.ntmps16
  go_wp2_with (go_at_call 33; refine (within_any _ _ _ _).mono ?_; rintro e w' ⟨rfl, rfl⟩)
  all_goals (go_ret; refine ⟨?_, (Frm.refl _ _).alloc _⟩)
  all_goals simp_all [mayD]

theorem notMay_any (d : Dl) (w : World) :
    Calls Tryd.prog 32 #[d.v] w fun e w' => e = .returned (.bool (!mayD d)) ∧ Frm no w w' := by
  obtain ⟨k, a, n, z, o⟩ := d
  have hm := Lib.hid (fun w => mayDelta_any ⟨k, a, n, z, o⟩ w)
  unfold Dl.v at hm ⊢
  go_enter Tryd.func32, Tryd.ntmps32
  go_wp2_with (go_at_call 16; refine (hm.out _).mono ?_; rintro e w1 ⟨rfl, hf⟩)
  go_ret
  exact ⟨rfl, ((Frm.refl _ _).alloc _).trans_no hf⟩

theorem notGroup_any (d : Dl) (w : World) :
    Calls Tryd.prog 48 #[d.v] w fun e w' => e = .returned (.bool (!mayD d)) ∧ Frm no w w' := by
  obtain ⟨k, a, n, z, o⟩ := d
  have hm := Lib.hid (fun w => mayDelta_any ⟨k, a, n, z, o⟩ w)
  unfold Dl.v at hm ⊢
  go_enter Tryd.func48, Tryd.ntmps48
  go_wp2_with (go_at_call 16; refine (hm.out _).mono ?_; rintro e w1 ⟨rfl, hf⟩)
  go_ret
  exact ⟨rfl, ((Frm.refl _ _).alloc _).trans_no hf⟩

end Go.Proofs.YtgbcmkkbhbkfeaaDoor
