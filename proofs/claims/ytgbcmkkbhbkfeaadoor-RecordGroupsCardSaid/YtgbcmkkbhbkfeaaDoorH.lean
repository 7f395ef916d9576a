/- The library's generic ones at deltas; which records may be. -/
import Derived.Test.YtgbcmkkbhbkfeaaDoorProg
import Derived.Test.YtgbcmkkbhbkfeaaDoorG
namespace Go.Proofs.YtgbcmkkbhbkfeaaDoor
open Go Go.RowKit

theorem indexD_any (f : Nat) (hf : ∀ d w, Calls Tryd.prog f #[d.v] w fun e w' => e = .returned (.bool (!mayD d)) ∧ Frm no w w') (hcf : ∀ args (w : World), Sem.run Tryd.prog (callFunc f args) w = .ok (.enter f args) w) (v : Value) (ds : List Dl) (w : World) (hl : ds.length ≤ 140737488355328) (hv : Sl eD 5 w v ds) :
    Calls Tryd.prog 54 #[v, .func (.func f) #[] #[]] w (Ret fun v' w' => Frm no w w' ∧ ∃ i : Int, v' = .int .i64 i ∧ (0 ≤ i ↔ ∃ d ∈ ds, mayD d = false)) := by
  obtain ⟨a, c, rfl⟩ := hv.shape
  have HF := Lib.hid hf
  clear hf
  go_enter Tryd.func54, Tryd.ntmps54
  go_wp2
  go_loopw [8] (fun i wr => ∃ k : Nat, k ≤ ds.length ∧ i = .int .i64 k ∧ Hid (∀ d ∈ ds.take k, mayD d = true) ∧ Hid (Frm no w wr)) (fun i _ => ds.length - (intOf i).toNat)
  case atStart => exact ⟨0, Nat.zero_le _, rfl, by intro d hd; simp at hd, Frm.refl _ _⟩
  case round =>
    obtain ⟨k, hk, rfl, HZ, HR⟩ := hrel
    have HV := Lib.hid hv
    clear hv
    by_cases hlt : k < ds.length
    · obtain ⟨d, hd⟩ : ∃ d, ds[k]? = some d := ⟨_, List.getElem?_eq_getElem hlt⟩
      obtain ⟨g, off, rfl⟩ : ∃ g off, a = some ⟨g, off, none⟩ := by
        rcases HV.out with ⟨h, h0⟩ | ⟨g, off, c', h, _⟩
        · rw [h0] at hlt; simp at hlt
        · simp at h; exact ⟨_, _, h.1⟩
      obtain ⟨e0, e1, e2, e3, e4⟩ := (HV.out.below HR.out).delta hd
      have HB := Lib.hid hd
      have hm := Lib.hid (HF.out d)
      clear hd
      obtain ⟨dk, da, dn, dz, dO⟩ := d
      unfold Dl.v at hm
      go_wp2_with fail
      refine (hm.out wr).mono ?_
      rintro e w1 ⟨rfl, hf1⟩
      have HR1 := Lib.hid (HR.out.trans_no hf1)
      clear hf1 hm HF
      generalize hmd : mayD ⟨dk, da, dn, dz, dO⟩ = md
      have HMD := Lib.hid hmd
      clear hmd e0 e1 e2 e3 e4
      cases md
      · go_wp2
        go_ret
        exact ⟨_, rfl, HR1.out, _, rfl, ⟨fun _ => ⟨_, List.mem_of_getElem? HB.out, HMD.out⟩, fun _ => by omega⟩⟩
      · go_wp2
        go_roundw
        case rel => exact ⟨k + 1, by omega, by go_num, by rw [List.take_add_one, HB.out]; intro x hx; simp at hx; rcases hx with hx | hx; exact HZ.out x hx; rw [hx]; exact HMD.out, HR1.out⟩
        case measure => simp [intOf]; omega
    · obtain rfl : k = ds.length := by omega
      go_wp2
      go_ret
      exact ⟨_, rfl, HR.out, _, rfl, by have := HZ.out; simp at this ⊢; exact this⟩

theorem enter_may : ∀ args (w : World), Sem.run Tryd.prog (callFunc 32 args) w = .ok (.enter 32 args) w := fun _ _ => by kernel_rfl
theorem enter_group : ∀ args (w : World), Sem.run Tryd.prog (callFunc 48 args) w = .ok (.enter 48 args) w := fun _ _ => by kernel_rfl

theorem containsD_any (f : Nat) (hf : ∀ d w, Calls Tryd.prog f #[d.v] w fun e w' => e = .returned (.bool (!mayD d)) ∧ Frm no w w') (hcf : ∀ args (w : World), Sem.run Tryd.prog (callFunc f args) w = .ok (.enter f args) w) (v : Value) (ds : List Dl) (w : World) (hl : ds.length ≤ 140737488355328) (hv : Sl eD 5 w v ds) :
    Calls Tryd.prog 31 #[v, .func (.func f) #[] #[]] w fun e w' => e = .returned (.bool (!ds.all mayD)) ∧ Frm no w w' := by
  go_enter Tryd.func31, Tryd.ntmps31
  go_wp2_with (go_at_call 54; refine (indexD_any f hf hcf v ds w hl hv).mono ?_; rintro e w1 ⟨v1, rfl, hf1, i, rfl, hi⟩; have HI := Lib.hid hi; clear hi)
  go_ret
  refine ⟨?_, hf1⟩
  have : (!ds.all mayD) = decide (0 ≤ i) := by
    rw [Bool.eq_iff_iff]
    simp only [Bool.not_eq_true', List.all_eq_false, decide_eq_true_eq, HI.out]
    simp
  rw [this]; rfl

/-- a record: its deltas' slice is v -/
structure Rc where
  e : Int
  s : Int
  c : Bool
  u : Int
  v : Value
  ds : List Dl
def Rc.val (r : Rc) : Value := .agg #[.int .i64 r.e, .int .i64 r.s, .bool r.c, .int .i64 r.u, r.v]
def Rc.ok (w : World) (r : Rc) : Prop := Sl eD 5 w r.v r.ds ∧ r.ds.length ≤ 140737488355328
def mayR (e s u : Int) (ds : List Dl) : Bool := decide (ds.length ≤ 6) && ds.all mayD && wi e 1 2147483648 && wi s 0 1099511627776 && wi u 0 1099511627776

theorem mayR_any (r : Rc) (w : World) (hr : r.ok w) :
    Calls Tryd.prog 10 #[r.val] w fun e w' => e = .returned (.bool (mayR r.e r.s r.u r.ds)) ∧ Frm no w w' := by
  obtain ⟨e, s, c, u, v, ds⟩ := r
  obtain ⟨hv, hl⟩ := hr
  dsimp only at hv hl ⊢
  unfold Rc.val
  obtain ⟨a, cp, rfl⟩ := hv.shape
  have hv1 := hv.below ((Frm.refl no w).alloc (.cells #[.int .i64 e, .int .i64 s, .bool c, .int .i64 u, .slice a ds.length cp] 24))
  cases hd : ds.all mayD
  · have hfalse : mayR e s u ds = false := by simp [mayR, hd]
    rw [hfalse]
    go_enter Tryd.func10, Tryd.ntmps10
    go_wp2_with (go_at_call 31; refine (containsD_any _ notMay_any enter_may _ ds _ hl hv1).mono ?_; rw [hd]; rintro e w1 ⟨rfl, hf1⟩)
    all_goals
      go_ret
      first | exact ⟨rfl, ((Frm.refl _ _).alloc _).trans_no hf1⟩ | exact ⟨rfl, (Frm.refl _ _).alloc _⟩
  · by_cases hn : ds.length ≤ 6
    · have hm : mayR e s u ds = (wi e 1 2147483648 && wi s 0 1099511627776 && wi u 0 1099511627776) := by simp [mayR, hd, hn]
      rw [hm]
      clear hm
      go_enter Tryd.func10, Tryd.ntmps10
      go_wp2_with (first | (go_at_call 31; refine (containsD_any _ notMay_any enter_may _ ds _ hl hv1).mono ?_; rw [hd]; rintro e w1 ⟨rfl, hf1⟩; obtain ⟨c0, c1, c2, c3, c4⟩ := blk5 (blk_frm (blk_new w _) hf1 (fun h => h))) | (go_at_call 33; refine (within_any _ _ _ _).mono ?_; rintro e w' ⟨rfl, rfl⟩))
      all_goals (go_ret; refine ⟨?_, ((Frm.refl _ _).alloc _).trans_no hf1⟩)
      all_goals simp_all
    · have hm : mayR e s u ds = false := by simp [mayR, hn]
      have hn' : (6 : Int) < ds.length := by omega
      rw [hm]
      clear hm hn
      go_enter Tryd.func10, Tryd.ntmps10
      go_wp2_with fail
      go_ret
      exact ⟨rfl, (Frm.refl _ _).alloc _⟩

theorem clone_info : Tryd.prog.info? 39 = Tryd.prog.info? 39 := rfl

/-- slices.Clone at deltas -/
theorem cloneD_any (v : Value) (ds : List Dl) (w : World) (hl : ds.length * 40 ≤ 140737488355328) (hv : Sl eD 5 w v ds) :
    Calls Tryd.prog 50 #[v] w (Ret fun v' w' => w'.ownsRow w.heap.size 39 5 v' ds.length (ds.flatMap eD) ∧ Frm no w w') := by
  have HL := Lib.hid hl
  clear hl
  have hne := fun a n l c c' => Lib.run_eql_slice_nil (P := Tryd.prog) w 22 39 a n l c c' Tryd.underlying22
  obtain ⟨a, c, rfl⟩ := hv.shape
  cases a with
  | none =>
    obtain ⟨_, _, rfl⟩ := hv.nil_iff
    have := hv.cap
    clear HL hv this
    go_enter Tryd.func50, Tryd.ntmps50
    go_wp2_with fail
    go_ret
    exact ⟨_, rfl, ⟨rfl, .inl ⟨rfl, rfl⟩⟩, Frm.refl _ _⟩
  | some ad =>
    obtain ⟨i0, hi, hz0, hz1, hz2⟩ := info_parts info_delta
    have hw : Sl eD 5 (w.alloc (.cells #[] 39)) (.slice (some ad) ds.length c) ds := hv.below ((Frm.refl _ _).alloc _)
    go_enter Tryd.func50, Tryd.ntmps50
    go_wp2_with (at_builtin; refine wpList_app _ rfl _ _ 22 rfl w.heap.size 39 i0 (Dl.v ⟨0, 0, 0, 0, 0⟩) 5 40 Tryd.underlying22 hi hz0 hz1 hz2 rfl (by decide) eD_len eD_one _ ([] : List Dl) rfl ?_ _ ds rfl hw ?_ ?_ ?_ ?_)
    · exact ⟨rfl, .inr ⟨w.heap.size, 0, #[], rfl, Nat.le_refl _, heap_alloc_new w _, Nat.le_refl _, Nat.zero_le _, rfl, rfl⟩⟩
    · have := HL.out; unfold maxLen; simp; omega
    · have := HL.out; simp; omega
    · simp
    · intro v' w' ho hg
      go_wp2
      go_ret
      refine ⟨_, rfl, ho, ((Frm.refl _ _).alloc _).grown hg ?_⟩
      intro k hk e
      simp [Value.ownBlock] at e
      omega

end Go.Proofs.YtgbcmkkbhbkfeaaDoor
