/- Whether deltas, and records, are the same: the code's and the reference's word. -/
import Derived.Test.YtgbcmkkbhbkfeaaDoorProg
import Derived.Test.YtgbcmkkbhbkfeaaDoorH
namespace Go.Proofs.YtgbcmkkbhbkfeaaDoor
open Go Go.RowKit

def Dl.l (d : Dl) : List Int := [d.k, d.a, d.n, d.z, d.o]
theorem Dl.l_inj (d x : Dl) : d.l = x.l ↔ d = x := by
  obtain ⟨dk, da, dn, dz, dO⟩ := d
  obtain ⟨xk, xa, xn, xz, xO⟩ := x
  simp [Dl.l]

theorem neq_delta (d x : Dl) (w : World) : (binOp .neq 39 d.v x.v).run Tryd.prog w = .ok (.bool (!decide (d = x))) w := by
  have h := (run_eq_ints (P := Tryd.prog) w 39 d.l x.l (by kernel_rfl) (by kernel_rfl) (by kernel_rfl) rfl).2
  rw [show decide (d.l = x.l) = decide (d = x) from by simp only [Dl.l_inj]] at h
  exact h

theorem equalD_any (v u : Value) (ds es : List Dl) (w : World) (hl : ds.length ≤ 140737488355328) (hv : Sl eD 5 w v ds) (hu : Sl eD 5 w u es) :
    Calls Tryd.prog 47 #[v, u] w (Ret fun v' w' => v' = .bool (decide (ds = es)) ∧ ∃ d, w' = w.drewN d) := by
  obtain ⟨a, c, rfl⟩ := hv.shape
  obtain ⟨b, c', rfl⟩ := hu.shape
  by_cases hlen : ds.length = es.length
  · rw [← hlen] at hu ⊢
    have HN := Lib.hid hlen
    clear hlen
    go_enter Tryd.func47, Tryd.ntmps47
    go_wp2
    go_loopw [13] (fun i wr => ∃ k : Nat, k ≤ ds.length ∧ i = .int .i64 k ∧ Hid (ds.take k = es.take k) ∧ ∃ d, wr = w.drewN d) (fun i _ => ds.length - (intOf i).toNat)
    case atStart => exact ⟨0, Nat.zero_le _, rfl, rfl, 0, rfl⟩
    case round =>
      obtain ⟨k, hk, rfl, HZ, dn, rfl⟩ := hrel
      have HV := Lib.hid hv
      have HU := Lib.hid hu
      clear hv hu
      by_cases hlt : k < ds.length
      · obtain ⟨d, hd⟩ : ∃ d, ds[k]? = some d := ⟨_, List.getElem?_eq_getElem hlt⟩
        obtain ⟨x, hx⟩ : ∃ x, es[k]? = some x := ⟨_, List.getElem?_eq_getElem (by rw [← HN.out]; exact hlt)⟩
        obtain ⟨g, off, rfl⟩ : ∃ g off, a = some ⟨g, off, none⟩ := by
          rcases HV.out with ⟨h, h0⟩ | ⟨g, off, c', h, _⟩
          · rw [h0] at hlt; simp at hlt
          · simp at h; exact ⟨_, _, h.1⟩
        obtain ⟨g', off', rfl⟩ : ∃ g off, b = some ⟨g, off, none⟩ := by
          rcases HU.out with ⟨h, h0⟩ | ⟨g, off, c', h, _⟩
          · have := HN.out; rw [h0] at this; simp at this; rw [this] at hlt; simp at hlt
          · simp at h; exact ⟨_, _, h.1⟩
        obtain ⟨e0, e1, e2, e3, e4⟩ := HV.out.delta hd
        obtain ⟨f0, f1, f2, f3, f4⟩ := HU.out.delta hx
        have HB := Lib.hid (And.intro hd hx)
        have hneq := neq_delta d x
        generalize hq : decide (d = x) = q at hneq
        have HQ := Lib.hid hq
        clear hd hx hq
        obtain ⟨dk, da, dm, dz, dO⟩ := d
        obtain ⟨xk, xa, xm, xz, xO⟩ := x
        unfold Dl.v at hneq
        cases q
        · go_wp2
          go_quiet (fail)
          go_wp2
          go_ret
          refine ⟨_, rfl, ?_, _, World.drewN_drewN _ _ _⟩
          have : decide (ds = es) = false := by
            rw [decide_eq_false_iff_not]
            intro e
            have h1 := HB.out.1
            rw [e, HB.out.2] at h1
            have h2 := HQ.out
            simp only [Option.some.injEq] at h1
            rw [h1] at h2
            simp at h2
          rw [this]; rfl
        · go_wp2
          go_quiet (fail)
          go_wp2
          go_roundw
          case rel =>
            refine ⟨k + 1, hlt, by go_num, ?_, _, rfl⟩
            have h2 := HQ.out
            show ds.take (k + 1) = es.take (k + 1)
            rw [decide_eq_true_eq] at h2
            rw [List.take_add_one, List.take_add_one, HB.out.1, HB.out.2, HZ.out, h2]
          case measure => simp [intOf]; omega
      · obtain rfl : k = ds.length := by omega
        go_wp2
        go_ret
        refine ⟨_, rfl, ?_, _, rfl⟩
        have : decide (ds = es) = true := by
          have h1 := HZ.out
          rw [decide_eq_true_eq]
          rw [List.take_length, HN.out, List.take_length] at h1
          exact h1
        rw [this]; rfl
  · have hf : decide (ds = es) = false := by rw [decide_eq_false_iff_not]; intro e; exact hlen (by rw [e])
    have hn2 : ((ds.length : Int) != es.length) = true := by simp; omega
    rw [hf]
    clear hf hl hv hu hlen
    go_enter Tryd.func47, Tryd.ntmps47
    go_wp2
    go_ret
    exact ⟨_, rfl, rfl, 0, rfl⟩

theorem sameDs_any (v u : Value) (ds es : List Dl) (w : World) (hl : ds.length ≤ 140737488355328) (hv : Sl eD 5 w v ds) (hu : Sl eD 5 w u es) :
    Calls Tryd.prog 22 #[v, u] w (Ret fun v' w' => v' = .bool (decide (ds = es)) ∧ ∃ d, w' = w.drewN d) := by
  obtain ⟨a, c, rfl⟩ := hv.shape
  obtain ⟨b, c', rfl⟩ := hu.shape
  by_cases hlen : ds.length = es.length
  · rw [← hlen] at hu ⊢
    have HN := Lib.hid hlen
    clear hlen
    go_enter Tryd.func22, Tryd.ntmps22
    go_wp2
    go_loopw [5] (fun i wr => ∃ k : Nat, k ≤ ds.length ∧ i = .int .i64 k ∧ Hid (ds.take k = es.take k) ∧ ∃ d, wr = w.drewN d) (fun i _ => ds.length - (intOf i).toNat)
    case atStart => exact ⟨0, Nat.zero_le _, rfl, rfl, 0, rfl⟩
    case round =>
      obtain ⟨k, hk, rfl, HZ, dn, rfl⟩ := hrel
      have HV := Lib.hid hv
      have HU := Lib.hid hu
      clear hv hu
      by_cases hlt : k < ds.length
      · obtain ⟨d, hd⟩ : ∃ d, ds[k]? = some d := ⟨_, List.getElem?_eq_getElem hlt⟩
        obtain ⟨x, hx⟩ : ∃ x, es[k]? = some x := ⟨_, List.getElem?_eq_getElem (by rw [← HN.out]; exact hlt)⟩
        obtain ⟨g, off, rfl⟩ : ∃ g off, a = some ⟨g, off, none⟩ := by
          rcases HV.out with ⟨h, h0⟩ | ⟨g, off, c', h, _⟩
          · rw [h0] at hlt; simp at hlt
          · simp at h; exact ⟨_, _, h.1⟩
        obtain ⟨g', off', rfl⟩ : ∃ g off, b = some ⟨g, off, none⟩ := by
          rcases HU.out with ⟨h, h0⟩ | ⟨g, off, c', h, _⟩
          · have := HN.out; rw [h0] at this; simp at this; rw [this] at hlt; simp at hlt
          · simp at h; exact ⟨_, _, h.1⟩
        obtain ⟨e0, e1, e2, e3, e4⟩ := HV.out.delta hd
        obtain ⟨f0, f1, f2, f3, f4⟩ := HU.out.delta hx
        have HB := Lib.hid (And.intro hd hx)
        have hneq := neq_delta d x
        generalize hq : decide (d = x) = q at hneq
        have HQ := Lib.hid hq
        clear hd hx hq
        obtain ⟨dk, da, dm, dz, dO⟩ := d
        obtain ⟨xk, xa, xm, xz, xO⟩ := x
        unfold Dl.v at hneq
        cases q
        · go_wp2
          go_quiet (fail)
          go_wp2
          go_ret
          refine ⟨_, rfl, ?_, _, World.drewN_drewN _ _ _⟩
          have : decide (ds = es) = false := by
            rw [decide_eq_false_iff_not]
            intro e
            have h1 := HB.out.1
            rw [e, HB.out.2] at h1
            have h2 := HQ.out
            simp only [Option.some.injEq] at h1
            rw [h1] at h2
            simp at h2
          rw [this]; rfl
        · go_wp2
          go_quiet (fail)
          go_wp2
          go_roundw
          case rel =>
            refine ⟨k + 1, hlt, by go_num, ?_, _, rfl⟩
            have h2 := HQ.out
            show ds.take (k + 1) = es.take (k + 1)
            rw [decide_eq_true_eq] at h2
            rw [List.take_add_one, List.take_add_one, HB.out.1, HB.out.2, HZ.out, h2]
          case measure => simp [intOf]; omega
      · obtain rfl : k = ds.length := by omega
        go_wp2
        go_ret
        refine ⟨_, rfl, ?_, _, rfl⟩
        have : decide (ds = es) = true := by
          have h1 := HZ.out
          rw [decide_eq_true_eq]
          rw [List.take_length, HN.out, List.take_length] at h1
          exact h1
        rw [this]; rfl
  · have hf : decide (ds = es) = false := by rw [decide_eq_false_iff_not]; intro e; exact hlen (by rw [e])
    have hn2 : ((ds.length : Int) != es.length) = true := by simp; omega
    rw [hf]
    clear hf hl hv hu hlen
    go_enter Tryd.func22, Tryd.ntmps22
    go_wp2
    go_ret
    exact ⟨_, rfl, rfl, 0, rfl⟩

end Go.Proofs.YtgbcmkkbhbkfeaaDoor
