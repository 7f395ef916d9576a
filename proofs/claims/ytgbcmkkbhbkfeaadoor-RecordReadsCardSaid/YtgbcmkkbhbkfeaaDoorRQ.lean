/- The reference's Decode: the walk. -/
import Derived.Test.YtgbcmkkbhbkfeaaDoorProg
import Derived.Test.YtgbcmkkbhbkfeaaDoorN
import Derived.Test.YtgbcmkkbhbkfeaaDoorCK
import Derived.Test.YtgbcmkkbhbkfeaaDoorRR
import Derived.Test.YtgbcmkkbhbkfeaaDoorRM
import Derived.Deep.DeepCutAuto
namespace Go.Proofs.YtgbcmkkbhbkfeaaDoor
open Go Go.RowKit

def rgDl (st : St) : Int × Dl × St :=
  let k := rGe st 1
  let z := rGe k.2 1
  let n := rGe z.2 2
  let a := rGe n.2 4
  let o := rGe a.2 4
  let p := rGe o.2 4
  (p.1, ⟨wrap64 k.1, wrap64 a.1, wrap64 n.1, wrap64 z.1, wrap64 o.1⟩, p.2)
def rgDls : Nat → St → Option (List Dl × St)
  | 0, st => some ([], st)
  | n + 1, st => (rgDls n st).bind fun x => if (rgDl x.2).1 = 0 then some (x.1 ++ [(rgDl x.2).2.1], (rgDl x.2).2.2) else none
theorem rgDls_none {st : St} {k : Nat} (h : rgDls k st = none) : ∀ j, rgDls (k + j) st = none
  | 0 => h
  | j + 1 => by rw [← Nat.add_assoc, rgDls, rgDls_none h j]; rfl
def rgHd (st : St) : Hd × St :=
  let c := rInt st 1 0 1
  let n := rInt c.2 1 0 6
  let e := rInt n.2 4 1 2147483648
  let s := rInt e.2 8 0 1099511627776
  let u := rInt s.2 8 0 1099511627776
  (⟨c.1, n.1, e.1, s.1, u.1⟩, u.2)
def refDec (bs : List Int) : Option RcD :=
  if chk bs then
    (if (rBy (bs.drop 4, false) 2).1 = [74, 82] then
      ((rgDls (rgHd (rBy (bs.drop 4, false) 2).2).1.n.toNat (rgHd (rBy (bs.drop 4, false) 2).2).2).bind fun d => fin (rgHd (rBy (bs.drop 4, false) 2).2).1 d.1 d.2)
    else none)
  else none

/-- what holds throughout the reference's Decode: a reader at g, the result's box -/
structure RInv (w : World) (g : Nat) (wr : World) (st : St) : Prop where
  fine : st.fine
  rdr : RR wr g st.1 st.2
  frm : Frm no w wr
  box : wr.heap[w.heap.size]? = some (.cells #[.int .i64 0, .int .i64 0, .bool false, .int .i64 0, .slice none 0 0] 24 (0, 0))
  gt : w.heap.size < g
theorem RInv.far {S : Nat → Prop} {w wr w' : World} {g : Nat} {st : St} (h : RInv w g wr st) (hf : Frm S wr w') (hs : ∀ k, S k → g < k) : RInv w g w' st :=
  ⟨h.fine, h.rdr.far hf hs, h.frm.trans hf (fun i hi k => absurd (hs i k) (by have := h.gt; omega)), blk_frm h.box hf (fun k => by have := hs _ k; have := h.gt; omega), h.gt⟩
theorem rint_st (g : Nat) (st : St) (n l m : Int) (w0 w : World) (hI : Hid (RInv w0 g w st)) :
    Calls Tryd.prog 44 #[.pointer (some ⟨g, 0, none⟩), .int .i64 n, .int .i64 l, .int .i64 m] w (Ret fun v' w' => ∃ q : Int × St, v' = .int .i64 q.1 ∧ Hid (rInt st n l m = q) ∧ Hid (RInv w0 g w' q.2) ∧ Hid (Frm (· = g) w w')) := by
  refine (rrint_any g st n l m w hI.out.fine hI.out.rdr).mono ?_
  rintro e w' ⟨v', rfl, rfl, h1, h2⟩
  exact ⟨_, rfl, _, rfl, rfl, ⟨rInt_fine hI.out.fine n l m, h1, hI.out.frm.trans h2 (fun i hi k => by have := hI.out.gt; subst k; omega), blk_frm hI.out.box h2 (fun k => by have := hI.out.gt; omega), hI.out.gt⟩, h2⟩
theorem rget_st (g : Nat) (st : St) (n : Int) (w0 w : World) (hI : Hid (RInv w0 g w st)) :
    Calls Tryd.prog 45 #[.pointer (some ⟨g, 0, none⟩), .int .i64 n] w (Ret fun v' w' => ∃ q : Int × St, v' = .int .u64 q.1 ∧ Hid (rGe st n = q) ∧ Hid (RInv w0 g w' q.2) ∧ Hid (Frm (· = g) w w')) := by
  refine (rrget_any g st n w hI.out.fine hI.out.rdr).mono ?_
  rintro e w' ⟨v', rfl, rfl, h1, h2⟩
  exact ⟨_, rfl, _, rfl, rfl, ⟨rGe_fine hI.out.fine n, h1, hI.out.frm.trans h2 (fun i hi k => by have := hI.out.gt; subst k; omega), blk_frm hI.out.box h2 (fun k => by have := hI.out.gt; omega), hI.out.gt⟩, h2⟩

/-- what the reference's Decode gives -/
def RDecR (w : World) (o : Option RcD) (v' : Value) (w' : World) : Prop :=
  ∃ r : Rc, v' = .tuple #[r.val, .bool o.isSome] ∧ r.ok w' ∧ Frm no w w' ∧ r.d = o.getD (0, 0, false, 0, [])
theorem rdec_no {w w1 : World} {x t : Nat} {a0 b0 c0 d0 e0 : Value} {o : Option RcD} {tmps : Array Value} (hp : tmps.getD 2 undef = .pointer (some ⟨x, 0, none⟩)) (h3 : tmps.getD 3 undef = .bool false)
    (hb : w1.heap[x]? = some (.cells #[a0, b0, c0, d0, e0] t (0, 0))) (hx : w.heap.size ≤ x) (hf : Frm no w w1) (hd : o = none) :
    bodyPost Tryd.prog Tryd.f15 (Ret (RDecR w o)) .ret { tmps := tmps, defers := [] } (((((w1.setCell ⟨x, 0, none⟩ (.int .i64 0)).setCell ⟨x, 1, none⟩ (.int .i64 0)).setCell ⟨x, 2, none⟩ (.bool false)).setCell ⟨x, 3, none⟩ (.int .i64 0)).setCell ⟨x, 4, none⟩ (.slice none 0 0)) := by
  subst hd
  refine bodyPost_ret (v := .tuple #[.agg #[.int .i64 0, .int .i64 0, .bool false, .int .i64 0, .slice none 0 0], .bool false]) ?_ rfl ⟨_, rfl, ⟨0, 0, false, 0, .slice none 0 0, []⟩, rfl, ⟨Sl.nil _ _ _, by simp⟩, set5_frm hf (fun h => absurd hx (Nat.not_le.2 h)) _ _ _ _ _, rfl⟩
  rw [ret_rec rfl hp (set5 hb _ _ _ _ _) rfl, h3]

set_option maxRecDepth 100000 in
set_option maxHeartbeats 4000000 in
theorem refDecode_any (v : Value) (bs : List Int) (w : World) (hv : Sl e8 1 w v bs) (ho : Oct bs) :
    Calls Tryd.prog 15 #[v] w (Ret (RDecR w (refDec bs))) := by
  have HW := Lib.hid (fun W (h : Frm no w W) => refCheck_any v bs W (hv.below h) ho)
  by_cases hc : chk bs = true
  · have hlen : bs.length = 128 := by
      have := hc
      simp only [chk, Bool.and_eq_true, beq_iff_eq] at this
      exact this.1
    rw [hc] at HW
    have HS := Lib.hid (fun W (h : Frm no w W) => hv.below h)
    obtain ⟨st0, H0⟩ : ∃ st0 : St, Hid (st0 = (bs.drop 4, false)) := ⟨_, rfl⟩
    have hf0 : Hid st0.fine := by rw [H0.out]; exact ⟨ho.drop 4, by simp; omega⟩
    rcases hv.bytes with ⟨_, h⟩ | ⟨g0, off, c, rfl, hcap, q1, q2, q3⟩
    · rw [h] at hlen; simp at hlen
    clear q1 q2 q3
    rw [hlen] at hcap
    rw [hlen] at HW HS ⊢
    have hg0w := Lib.hid (hv.lt (k := g0) rfl)
    clear hv
    have hcc4 : ¬ c = 4 := by omega
    have HSL : Hid (∀ W, Frm no w W → Sl e8 1 W (.slice (some ⟨g0, off + 4 * 1, none⟩) (128 - 4) (c - 4)) st0.1) := by
      intro W h
      rw [H0.out]
      exact (HS.out W h).drop 4 (by omega)
    simp only [Nat.reduceSub, Nat.reduceMul] at HSL
    obtain ⟨L, HL⟩ : ∃ L, Hid ((rBy st0 2).1 = L) := ⟨_, rfl⟩
    obtain ⟨st1, HS1⟩ : ∃ st1, Hid ((rBy st0 2).2 = st1) := ⟨_, rfl⟩
    have hby := Lib.hid (fun g W (hr : RR W g st0.1 st0.2) => rrby_any g st0 2 W hr)
    rw [HL.out, HS1.out] at hby
    have hfi1 : Hid st1.fine := by rw [← HS1.out]; exact rBy_fine hf0.out 2
    have hLO : Oct L := by rw [← HL.out]; exact rBy_oct hf0.out 2
    have HD0 : Hid (refDec bs = if L = [74, 82] then ((rgDls (rgHd st1).1.n.toNat (rgHd st1).2).bind fun d => fin (rgHd st1).1 d.1 d.2) else none) := by
      show _ = _
      unfold refDec
      rw [if_pos hc, ← H0.out, HL.out, HS1.out]
    obtain ⟨W1, hW1⟩ : ∃ W1, w.alloc (.cells #[.int .i64 0, .int .i64 0, .bool false, .int .i64 0, .slice none 0 0] 24) = W1 := ⟨_, rfl⟩
    have hf1 : Frm no w W1 := by rw [← hW1]; exact (Frm.refl _ _).alloc _
    have hb1 : W1.heap[w.heap.size]? = some (.cells #[.int .i64 0, .int .i64 0, .bool false, .int .i64 0, .slice none 0 0] 24 (0, 0)) := by rw [← hW1]; exact blk_new _ _
    have HF1 := Lib.hid (And.intro hf1 hb1)
    clear hf1 hb1 hlen ho hc
    have HO := Lib.hid hLO
    clear hLO
    go_enter Tryd.func15, Tryd.ntmps15
    go_upto_region 4 with (first
      | (go_at_call 42; refine (HW.out _ HF1.out.1).mono ?_; rintro e w2 ⟨_, rfl, rfl, hf2⟩))
    have hf2 := HF1.out.1.trans_no hf2
    have hb2 := blk_frm HF1.out.2 ‹Frm no W1 w2› (fun h => h)
    obtain ⟨W3, hW3⟩ : ∃ W3, w2.alloc (.cells #[.slice (some ⟨g0, off + 4, none⟩) 124 (c - 4), .bool false] 75) = W3 := ⟨_, rfl⟩
    have hf3 : Frm no w W3 := by rw [← hW3]; exact hf2.alloc _
    have hb3 : W3.heap[w.heap.size]? = some (.cells #[.int .i64 0, .int .i64 0, .bool false, .int .i64 0, .slice none 0 0] 24 (0, 0)) := by rw [← hW3]; exact blk_alloc hb2 _
    obtain ⟨g, hg⟩ : ∃ g, w2.heap.size = g := ⟨_, rfl⟩
    have hr3 : RR W3 g st0.1 st0.2 := by
      rw [← hW3, ← hg]
      refine ⟨.slice (some ⟨g0, off + 4, none⟩) 124 (c - 4), ?_, HSL.out _ (hf2.alloc _), fun k hk => ?_⟩
      · rw [blk_new]; rw [H0.out]
      · simp only [Value.ownBlock, Option.some.injEq] at hk
        subst hk
        exact Nat.lt_of_lt_of_le hg0w.out hf2.size
    have hgt : w.heap.size < g := by rw [← hg]; exact blk_lt hb2
    have HF3 := Lib.hid (And.intro hf3 (And.intro hb3 (And.intro hr3 hgt)))
    try rw [hW3]
    try rw [hg]
    clear hf2 hb2 hf3 hb3 hr3 hgt hW3 hg hcap
    by_cases hL : L = [74, 82]
    · have HD1 : Hid (refDec bs = ((rgDls (rgHd st1).1.n.toNat (rgHd st1).2).bind fun d => fin (rgHd st1).1 d.1 d.2)) := by
        show _ = _
        rw [HD0.out, if_pos hL]
      obtain ⟨hd, hhd⟩ : ∃ hd, Hid (rgHd st1 = hd) := ⟨_, rfl⟩
      rw [hhd.out] at HD1
      have hq : ((strOfNums L).toList == [74, 82]) = true := by rw [hL]; kernel_rfl
      clear hL
      go_upto_region 6 with (first
        | (go_at_call 43; refine (hby.out g _ HF3.out.2.2.1).mono ?_; rintro e w4 ⟨_, rfl, hs4, hr4, hf4⟩; have hcv := hs4.str; obtain ⟨a3, c3, rfl⟩ := hs4.shape))
      have hI : Hid (RInv w g w4 st1) := ⟨hfi1.out, hr4, HF3.out.1.trans hf4 (fun i hi k => by have := HF3.out.2.2.2; subst k; omega), blk_frm HF3.out.2.1 hf4 (fun k => by have := HF3.out.2.2.2; omega), HF3.out.2.2.2⟩
      clear hcv hs4 hr4 hf4
      go_upto_region 7 with (first
        | (go_at_call 44; refine (rint_st g st1 1 0 1 w _ hI).mono ?_; rintro e w5 ⟨_, rfl, ⟨c1, st2⟩, rfl, hq1, hI5, hf5⟩))
      clear hI hf5
      try dsimp only at hI5
      obtain ⟨x, hx⟩ : ∃ x, w5.heap.size = x := ⟨_, rfl⟩
      obtain ⟨W6, hW6⟩ : ∃ W6, w5.alloc (.cells #[.int .i64 0, .int .i64 0, .bool (c1 == 1), .int .i64 0, .slice none 0 0] 24) = W6 := ⟨_, rfl⟩
      have hI6 : Hid (RInv w g W6 st2) := by rw [← hW6]; exact hI5.out.far ((Frm.refl no w5).alloc _) (fun _ h => h.elim)
      have hx6 : Hid (W6.heap[x]? = some (.cells #[.int .i64 0, .int .i64 0, .bool (c1 == 1), .int .i64 0, .slice none 0 0] 24 (0, 0))) := by show _ = _; rw [← hW6, ← hx]; exact blk_new _ _
      have hgx : Hid (g < x) := by show g < x; rw [← hx]; exact hI5.out.rdr.lt
      try rw [hW6]
      try rw [hx]
      clear hW6 hx hI5
      go_upto_region 8 with (first
        | (go_at_call 44; refine (rint_st g st2 1 0 6 w _ hI6).mono ?_; rintro e w7 ⟨_, rfl, ⟨n1, st3⟩, rfl, hq2, hI7, hf7⟩))
      have hnb := rInt_bd st2 1 0 6 (by decide) (by decide)
      rw [hq2.out] at hnb
      try dsimp only at hnb
      try dsimp only at hI7
      obtain ⟨N, rfl⟩ := Int.eq_ofNat_of_zero_le hnb.1
      have hn6 : N ≤ 6 := by omega
      clear hnb
      have hx7 := Lib.hid (blk_frm hx6.out hf7.out (fun h => absurd h (Nat.ne_of_gt hgx.out)))
      clear hf7 hI6 hx6
      obtain ⟨k0, k1, k2, k3, k4⟩ := blk5 hx7.out
      have kf := fun i => blk_free hx7.out i
      go_upto_region 9 with (first
        | (go_at_call 44; refine (rint_st g st3 4 1 2147483648 w _ hI7).mono ?_; rintro e wq ⟨_, rfl, ⟨e1, st4⟩, rfl, hq8, hIq, hfq⟩; have hxq := Lib.hid (blk_frm hx7.out hfq.out (fun h => absurd h (Nat.ne_of_gt hgx.out))); clear k0 k1 k2 k3 k4 kf; obtain ⟨k0, k1, k2, k3, k4⟩ := blk5 hxq.out; have kf := fun i => blk_free hxq.out i))
      try dsimp only at hIq
      obtain ⟨V8, hV⟩ : ∃ V, wq.setCell ⟨x, 0, none⟩ (.int .i64 e1) = V := ⟨_, rfl⟩
      have hfx : Frm (· = x) wq V8 := by rw [← hV]; exact (Frm.refl (· = x) wq).setCell (p := ⟨x, 0, none⟩) (fun _ => rfl) _
      have hI8 : Hid (RInv w g V8 st4) := hIq.out.far hfx (fun k h => by have := hgx.out; omega)
      have hx8 : Hid (V8.heap[x]? = some (.cells #[.int .i64 e1, .int .i64 0, .bool (c1 == 1), .int .i64 0, .slice none 0 0] 24 (0, 0))) := by
        show _ = _
        rw [← hV]
        have := blk_set hxq.out 0 (.int .i64 e1)
        simpa using this
      try rw [hV]
      clear k0 k1 k2 k3 k4 kf hV hfx hfq hIq hxq hI7 hx7
      obtain ⟨k0, k1, k2, k3, k4⟩ := blk5 hx8.out
      have kf := fun i => blk_free hx8.out i
      go_upto_region 10 with (first
        | (go_at_call 44; refine (rint_st g st4 8 0 1099511627776 w _ hI8).mono ?_; rintro e wq ⟨_, rfl, ⟨s1, st5⟩, rfl, hq9, hIq, hfq⟩; have hxq := Lib.hid (blk_frm hx8.out hfq.out (fun h => absurd h (Nat.ne_of_gt hgx.out))); clear k0 k1 k2 k3 k4 kf; obtain ⟨k0, k1, k2, k3, k4⟩ := blk5 hxq.out; have kf := fun i => blk_free hxq.out i))
      try dsimp only at hIq
      obtain ⟨V9, hV⟩ : ∃ V, wq.setCell ⟨x, 1, none⟩ (.int .i64 s1) = V := ⟨_, rfl⟩
      have hfx : Frm (· = x) wq V9 := by rw [← hV]; exact (Frm.refl (· = x) wq).setCell (p := ⟨x, 1, none⟩) (fun _ => rfl) _
      have hI9 : Hid (RInv w g V9 st5) := hIq.out.far hfx (fun k h => by have := hgx.out; omega)
      have hx9 : Hid (V9.heap[x]? = some (.cells #[.int .i64 e1, .int .i64 s1, .bool (c1 == 1), .int .i64 0, .slice none 0 0] 24 (0, 0))) := by
        show _ = _
        rw [← hV]
        have := blk_set hxq.out 1 (.int .i64 s1)
        simpa using this
      try rw [hV]
      clear k0 k1 k2 k3 k4 kf hV hfx hfq hIq hxq hI8 hx8
      obtain ⟨k0, k1, k2, k3, k4⟩ := blk5 hx9.out
      have kf := fun i => blk_free hx9.out i
      go_upto_region 11 with (first
        | (go_at_call 44; refine (rint_st g st5 8 0 1099511627776 w _ hI9).mono ?_; rintro e wq ⟨_, rfl, ⟨u1, st6⟩, rfl, hq10, hIq, hfq⟩; have hxq := Lib.hid (blk_frm hx9.out hfq.out (fun h => absurd h (Nat.ne_of_gt hgx.out))); clear k0 k1 k2 k3 k4 kf; obtain ⟨k0, k1, k2, k3, k4⟩ := blk5 hxq.out; have kf := fun i => blk_free hxq.out i))
      try dsimp only at hIq
      obtain ⟨V10, hV⟩ : ∃ V, wq.setCell ⟨x, 3, none⟩ (.int .i64 u1) = V := ⟨_, rfl⟩
      have hfx : Frm (· = x) wq V10 := by rw [← hV]; exact (Frm.refl (· = x) wq).setCell (p := ⟨x, 3, none⟩) (fun _ => rfl) _
      have hI10 : Hid (RInv w g V10 st6) := hIq.out.far hfx (fun k h => by have := hgx.out; omega)
      have hx10 : Hid (V10.heap[x]? = some (.cells #[.int .i64 e1, .int .i64 s1, .bool (c1 == 1), .int .i64 u1, .slice none 0 0] 24 (0, 0))) := by
        show _ = _
        rw [← hV]
        have := blk_set hxq.out 3 (.int .i64 u1)
        simpa using this
      try rw [hV]
      clear k0 k1 k2 k3 k4 kf hV hfx hfq hIq hxq hI9 hx9
      have hhd2 : Hid (rgHd st1 = (⟨c1, N, e1, s1, u1⟩, st6)) := by
        show _ = _
        unfold rgHd; simp only [hq1.out, hq2.out, hq8.out, hq9.out, hq10.out]
      have HD2 : Hid (refDec bs = ((rgDls N st6).bind fun d => fin ⟨c1, N, e1, s1, u1⟩ d.1 d.2)) := by
        show _ = _
        rw [HD1.out, ← hhd.out, hhd2.out]; rfl
      clear hq1 hq2 hq8 hq9 hq10 hhd2 hhd HD1 HD0 HF1 HF3 HW HS H0 hf0 HSL HL HS1 hby hfi1 hq HO hg0w hcc4
      obtain ⟨Y0, hY0⟩ : ∃ Y0, Hid (V10.heap.size = Y0) := ⟨_, rfl⟩
      have hxY : Hid (x < Y0) := by show x < Y0; rw [← hY0.out]; exact blk_lt hx10.out
      obtain ⟨i0, hi, hz0, hz1, hz2⟩ := info_parts info_delta
      go_wp2_with fail
      go_loopw [7, 8] (fun i _ wr => ∃ k : Nat, k ≤ N ∧ i = .int .i64 k ∧ ∃ (va : Value) (L : List Dl) (st : St), Hid (rgDls k st6 = some (L, st) ∧ L.length = k) ∧ Hid (RInv w g wr st) ∧ Hid (wr.heap[x]? = some (.cells #[.int .i64 e1, .int .i64 s1, .bool (c1 == 1), .int .i64 u1, va] 24 (0, 0))) ∧ Hid (wr.ownsRow Y0 39 5 va L.length (L.flatMap eD)) ∧ Hid (Y0 ≤ wr.heap.size)) (fun i _ _ => N - (intOf i).toNat)
      case atStart => exact ⟨0, Nat.zero_le _, rfl, .slice none 0 0, [], st6, ⟨rfl, rfl⟩, hI10, hx10, own_nil _ _ _ _, by show Y0 ≤ _; rw [← hY0.out]; exact Nat.le_refl _⟩
      case round =>
        obtain ⟨k, hk, rfl, va, L, st, HRD, HI, HX, HW, HS⟩ := hrel
        clear hI10 hx10
        by_cases hlt : k < N
        · obtain ⟨xa, xc, rfl⟩ := own_shape HW.out
          go_upto_region 15 with (first
            | (go_at_call 45; refine (rget_st g st 1 w wr HI).mono ?_; rintro e r1 ⟨_, rfl, ⟨dk, t1⟩, rfl, hp1, hJq, hfq⟩))
          try dsimp only at hJq
          obtain ⟨y, hy⟩ : ∃ y, r1.heap.size = y := ⟨_, rfl⟩
          obtain ⟨U1, hU⟩ : ∃ U, r1.alloc (.cells #[.int .i64 (wrap64 dk), .int .i64 0, .int .i64 0, .int .i64 0, .int .i64 0] 39) = U := ⟨_, rfl⟩
          have hJ1 : Hid (RInv w g U1 t1) := by rw [← hU]; exact hJq.out.far ((Frm.refl no r1).alloc _) (fun _ h => h.elim)
          have hd1 : Hid (U1.heap[y]? = some (.cells #[.int .i64 (wrap64 dk), .int .i64 0, .int .i64 0, .int .i64 0, .int .i64 0] 39 (0, 0))) := by show _ = _; rw [← hU, ← hy]; exact blk_new _ _
          have hyN : Hid (wr.heap.size ≤ y) := by show wr.heap.size ≤ y; rw [← hy]; exact hfq.out.size
          have hyY : Hid (Y0 ≤ y) := Nat.le_trans HS.out hyN.out
          have hG1 : Hid (Frm (fun k => k = g ∨ k = y) wr U1) := by
            rw [← hU]
            exact (hfq.out.mono (fun _ _ h => .inl h)).alloc _
          try rw [hU]
          try rw [hy]
          clear hU hy hJq hfq
          obtain ⟨k0, k1, k2, k3, k4⟩ := blk5 hd1.out
          have kf := fun i => blk_free hd1.out i
          go_upto_region 16 with (first
            | (go_at_call 45; refine (rget_st g t1 1 w _ hJ1).mono ?_; rintro e wq ⟨_, rfl, ⟨dz, t2⟩, rfl, hp2, hJq, hfq⟩; have hxq := Lib.hid (blk_frm hd1.out hfq.out (fun h => absurd h (by have := hyY.out; have := hxY.out; have := hgx.out; omega))); clear k0 k1 k2 k3 k4 kf; obtain ⟨k0, k1, k2, k3, k4⟩ := blk5 hxq.out; have kf := fun i => blk_free hxq.out i))
          try dsimp only at hJq
          obtain ⟨U2, hV⟩ : ∃ V, wq.setCell ⟨y, 3, none⟩ (.int .i64 (wrap64 dz)) = V := ⟨_, rfl⟩
          have hfx : Frm (· = y) wq U2 := by rw [← hV]; exact (Frm.refl (· = y) wq).setCell (p := ⟨y, 3, none⟩) (fun _ => rfl) _
          have hJ2 : Hid (RInv w g U2 t2) := hJq.out.far hfx (fun k h => by have := hyY.out; have := hxY.out; have := hgx.out; omega)
          have hd2 : Hid (U2.heap[y]? = some (.cells #[.int .i64 (wrap64 dk), .int .i64 0, .int .i64 0, .int .i64 (wrap64 dz), .int .i64 0] 39 (0, 0))) := by
            show _ = _
            rw [← hV]
            have := blk_set hxq.out 3 (.int .i64 (wrap64 dz))
            simpa using this
          have hG2 : Hid (Frm (fun k => k = g ∨ k = y) wr U2) := (hG1.out.trans hfq.out (fun _ _ h => .inl h)).trans hfx (fun _ _ h => .inr h)
          try rw [hV]
          clear k0 k1 k2 k3 k4 kf hV hfx hfq hJq hxq hJ1 hd1 hG1
          obtain ⟨k0, k1, k2, k3, k4⟩ := blk5 hd2.out
          have kf := fun i => blk_free hd2.out i
          go_upto_region 17 with (first
            | (go_at_call 45; refine (rget_st g t2 2 w _ hJ2).mono ?_; rintro e wq ⟨_, rfl, ⟨dn, t3⟩, rfl, hp3, hJq, hfq⟩; have hxq := Lib.hid (blk_frm hd2.out hfq.out (fun h => absurd h (by have := hyY.out; have := hxY.out; have := hgx.out; omega))); clear k0 k1 k2 k3 k4 kf; obtain ⟨k0, k1, k2, k3, k4⟩ := blk5 hxq.out; have kf := fun i => blk_free hxq.out i))
          try dsimp only at hJq
          obtain ⟨U3, hV⟩ : ∃ V, wq.setCell ⟨y, 2, none⟩ (.int .i64 (wrap64 dn)) = V := ⟨_, rfl⟩
          have hfx : Frm (· = y) wq U3 := by rw [← hV]; exact (Frm.refl (· = y) wq).setCell (p := ⟨y, 2, none⟩) (fun _ => rfl) _
          have hJ3 : Hid (RInv w g U3 t3) := hJq.out.far hfx (fun k h => by have := hyY.out; have := hxY.out; have := hgx.out; omega)
          have hd3 : Hid (U3.heap[y]? = some (.cells #[.int .i64 (wrap64 dk), .int .i64 0, .int .i64 (wrap64 dn), .int .i64 (wrap64 dz), .int .i64 0] 39 (0, 0))) := by
            show _ = _
            rw [← hV]
            have := blk_set hxq.out 2 (.int .i64 (wrap64 dn))
            simpa using this
          have hG3 : Hid (Frm (fun k => k = g ∨ k = y) wr U3) := (hG2.out.trans hfq.out (fun _ _ h => .inl h)).trans hfx (fun _ _ h => .inr h)
          try rw [hV]
          clear k0 k1 k2 k3 k4 kf hV hfx hfq hJq hxq hJ2 hd2 hG2
          obtain ⟨k0, k1, k2, k3, k4⟩ := blk5 hd3.out
          have kf := fun i => blk_free hd3.out i
          go_upto_region 18 with (first
            | (go_at_call 45; refine (rget_st g t3 4 w _ hJ3).mono ?_; rintro e wq ⟨_, rfl, ⟨da, t4⟩, rfl, hp4, hJq, hfq⟩; have hxq := Lib.hid (blk_frm hd3.out hfq.out (fun h => absurd h (by have := hyY.out; have := hxY.out; have := hgx.out; omega))); clear k0 k1 k2 k3 k4 kf; obtain ⟨k0, k1, k2, k3, k4⟩ := blk5 hxq.out; have kf := fun i => blk_free hxq.out i))
          try dsimp only at hJq
          obtain ⟨U4, hV⟩ : ∃ V, wq.setCell ⟨y, 1, none⟩ (.int .i64 (wrap64 da)) = V := ⟨_, rfl⟩
          have hfx : Frm (· = y) wq U4 := by rw [← hV]; exact (Frm.refl (· = y) wq).setCell (p := ⟨y, 1, none⟩) (fun _ => rfl) _
          have hJ4 : Hid (RInv w g U4 t4) := hJq.out.far hfx (fun k h => by have := hyY.out; have := hxY.out; have := hgx.out; omega)
          have hd4 : Hid (U4.heap[y]? = some (.cells #[.int .i64 (wrap64 dk), .int .i64 (wrap64 da), .int .i64 (wrap64 dn), .int .i64 (wrap64 dz), .int .i64 0] 39 (0, 0))) := by
            show _ = _
            rw [← hV]
            have := blk_set hxq.out 1 (.int .i64 (wrap64 da))
            simpa using this
          have hG4 : Hid (Frm (fun k => k = g ∨ k = y) wr U4) := (hG3.out.trans hfq.out (fun _ _ h => .inl h)).trans hfx (fun _ _ h => .inr h)
          try rw [hV]
          clear k0 k1 k2 k3 k4 kf hV hfx hfq hJq hxq hJ3 hd3 hG3
          obtain ⟨k0, k1, k2, k3, k4⟩ := blk5 hd4.out
          have kf := fun i => blk_free hd4.out i
          go_upto_region 19 with (first
            | (go_at_call 45; refine (rget_st g t4 4 w _ hJ4).mono ?_; rintro e wq ⟨_, rfl, ⟨d_, t5⟩, rfl, hp5, hJq, hfq⟩; have hxq := Lib.hid (blk_frm hd4.out hfq.out (fun h => absurd h (by have := hyY.out; have := hxY.out; have := hgx.out; omega))); clear k0 k1 k2 k3 k4 kf; obtain ⟨k0, k1, k2, k3, k4⟩ := blk5 hxq.out; have kf := fun i => blk_free hxq.out i))
          try dsimp only at hJq
          obtain ⟨U5, hV⟩ : ∃ V, wq.setCell ⟨y, 4, none⟩ (.int .i64 (wrap64 d_)) = V := ⟨_, rfl⟩
          have hfx : Frm (· = y) wq U5 := by rw [← hV]; exact (Frm.refl (· = y) wq).setCell (p := ⟨y, 4, none⟩) (fun _ => rfl) _
          have hJ5 : Hid (RInv w g U5 t5) := hJq.out.far hfx (fun k h => by have := hyY.out; have := hxY.out; have := hgx.out; omega)
          have hd5 : Hid (U5.heap[y]? = some (.cells #[.int .i64 (wrap64 dk), .int .i64 (wrap64 da), .int .i64 (wrap64 dn), .int .i64 (wrap64 dz), .int .i64 (wrap64 d_)] 39 (0, 0))) := by
            show _ = _
            rw [← hV]
            have := blk_set hxq.out 4 (.int .i64 (wrap64 d_))
            simpa using this
          have hG5 : Hid (Frm (fun k => k = g ∨ k = y) wr U5) := (hG4.out.trans hfq.out (fun _ _ h => .inl h)).trans hfx (fun _ _ h => .inr h)
          try rw [hV]
          clear k0 k1 k2 k3 k4 kf hV hfx hfq hJq hxq hJ4 hd4 hG4
          go_upto_if 64 with (first
            | (go_at_call 45; refine (rget_st g t5 4 w _ hJ5).mono ?_; rintro e U6 ⟨_, rfl, ⟨p6, t6⟩, rfl, hp6, hJ6, hfq⟩))
          try dsimp only at hJ6
          have hdl : Hid (rgDl st = (p6, ⟨wrap64 dk, wrap64 da, wrap64 dn, wrap64 dz, wrap64 d_⟩, t6)) := by
            show _ = _
            unfold rgDl; simp only [hp1.out, hp2.out, hp3.out, hp4.out, hp5.out, hp6.out]
          have hd6 := Lib.hid (blk_frm hd5.out hfq.out (fun h => absurd h (by have := hyY.out; have := hxY.out; have := hgx.out; omega)))
          have hG6 : Hid (Frm (fun k => k = g ∨ k = y) wr U6) := hG5.out.trans hfq.out (fun _ _ h => .inl h)
          have hX6 := Lib.hid (blk_frm HX.out hG6.out (fun h => by have := hyY.out; have := hxY.out; have := hgx.out; omega))
          clear hp1 hp2 hp3 hp4 hp5 hp6 hJ5 hd5 hG5 hfq
          by_cases hp0 : p6 = 0
          · have hnx : Hid (rgDls (k + 1) st6 = some (L ++ [⟨wrap64 dk, wrap64 da, wrap64 dn, wrap64 dz, wrap64 d_⟩], t6)) := by
              show _ = _
              rw [rgDls, HRD.out.1, Option.bind_some]
              dsimp only
              rw [hdl.out, if_pos hp0]
            have hp0' : (p6 != 0) = false := by simpa using hp0
            clear hp0
            obtain ⟨k0, k1, k2, k3, k4⟩ := blk5 hd6.out
            obtain ⟨j0, j1, j2, j3, j4⟩ := blk5 hX6.out
            go_wp2_with (at_builtin; refine wpList_app _ rfl _ _ 22 rfl Y0 39 i0 (Dl.v ⟨0, 0, 0, 0, 0⟩) 5 40 Tryd.underlying22 hi hz0 hz1 hz2 rfl (by decide) eD_len eD_one _ L rfl ?_ _ [⟨wrap64 dk, wrap64 da, wrap64 dn, wrap64 dz, wrap64 d_⟩] rfl ?_ ?_ ?_ ?_ ?_)
            · exact own_frm HW.out (hG6.out.alloc _) (fun k hk h => by
                rcases h with h | h
                · have := own_block HW.out k hk; have := hgx.out; have := hxY.out; omega
                · have h1 := (HW.out.lt k hk).2
                  have h3 := hyN.out
                  omega)
            · exact Sl.of_blk (more := []) (xs := [(⟨wrap64 dk, wrap64 da, wrap64 dn, wrap64 dz, wrap64 d_⟩ : Dl)]) eD_len (blk_new U6 (.cells #[.int .i64 (wrap64 dk), .int .i64 (wrap64 da), .int .i64 (wrap64 dn), .int .i64 (wrap64 dz), .int .i64 (wrap64 d_)] 39)) rfl (Nat.le_refl _) (by decide)
            · have hlk := HRD.out.2; simp only [List.length_singleton]; unfold maxLen; omega
            · have hlk := HRD.out.2; simp only [List.length_singleton]; omega
            · have h1 := HS.out; have h2 := hG6.out.size; simp; omega
            · intro v' q1 ho hg
              have hA : Hid (Frm (fun k => Y0 ≤ k) (U6.alloc (.cells #[.int .i64 (wrap64 dk), .int .i64 (wrap64 da), .int .i64 (wrap64 dn), .int .i64 (wrap64 dz), .int .i64 (wrap64 d_)] 39)) q1) := (Frm.refl _ _).grown hg (fun k _ e => own_block HW.out k (by simpa using e))
              have HO := Lib.hid ho
              have hX7 := Lib.hid (blk_frm (blk_alloc hX6.out (.cells #[.int .i64 (wrap64 dk), .int .i64 (wrap64 da), .int .i64 (wrap64 dn), .int .i64 (wrap64 dz), .int .i64 (wrap64 d_)] 39)) hA.out (fun h => absurd hxY.out (Nat.not_lt.2 h)))
              have hsz : Hid (Y0 ≤ q1.heap.size) := by
                have h1 := HS.out; have h2 := hG6.out.size; have h3 := hA.out.size
                simp at h3
                exact Nat.le_trans (Nat.le_trans h1 h2) (Nat.le_trans (Nat.le_succ _) h3)
              have hJ7 : Hid (RInv w g q1 t6) := (hJ6.out.far ((Frm.refl no U6).alloc (.cells #[.int .i64 (wrap64 dk), .int .i64 (wrap64 da), .int .i64 (wrap64 dn), .int .i64 (wrap64 dz), .int .i64 (wrap64 d_)] 39)) (fun _ h => h.elim)).far hA.out (fun k h => by have := hgx.out; have := hxY.out; omega)
              clear ho hg hX6 hd6 hJ6 j0 j1 j2 j3 j4 k0 k1 k2 k3 k4 hA
              obtain ⟨va', vc', rfl⟩ := own_shape HO.out
              obtain ⟨k0, k1, k2, k3, k4⟩ := blk5 hX7.out
              have kf := fun i => blk_free hX7.out i
              go_wp2
              have hfx : Frm (· = x) q1 (q1.setCell ⟨x, 4, none⟩ (.slice va' (L.length + 1) vc')) := (Frm.refl (· = x) q1).setCell (p := ⟨x, 4, none⟩) (fun _ => rfl) _
              go_roundw
              case rel =>
                refine ⟨k + 1, hlt, by go_num, .slice va' (L.length + 1) vc', L ++ [⟨wrap64 dk, wrap64 da, wrap64 dn, wrap64 dz, wrap64 d_⟩], t6, ?_, hJ7.out.far hfx (fun k h => by have := hgx.out; omega), ?_, ?_, ?_⟩
                · exact ⟨hnx.out, by simp; exact HRD.out.2⟩
                · show _ = _
                  have := blk_set hX7.out 4 (.slice va' (L.length + 1) vc')
                  simpa using this
                · show World.ownsRow _ _ _ _ _ _ _
                  refine own_frm ?_ hfx (fun k hk (h : k = x) => by have := own_block HO.out k hk; have := hxY.out; omega)
                  have := HO.out
                  simpa using this
                · show _ ≤ _
                  simpa using hsz.out
              case measure => simp [intOf]; omega
          · have hno : Hid (refDec bs = none) := by
              show _ = _
              rw [HD2.out]
              have h1 : rgDls (k + 1) st6 = none := by
                rw [rgDls, HRD.out.1, Option.bind_some]
                dsimp only
                rw [hdl.out, if_neg hp0]
              have h2 := rgDls_none h1 (N - (k + 1))
              rw [show k + 1 + (N - (k + 1)) = N by omega] at h2
              rw [h2]; rfl
            have hp0' : (p6 != 0) = true := by simpa using hp0
            clear hp0
            obtain ⟨k0, k1, k2, k3, k4⟩ := blk5 hJ6.out.box
            have kf := fun i => blk_free hJ6.out.box i
            go_wp2_with fail
            exact rdec_no rfl rfl hJ6.out.box (Nat.le_refl _) hJ6.out.frm hno.out
        · obtain rfl : k = N := by omega
          obtain ⟨va1, vc1, rfl⟩ := own_shape HW.out
          have hdn := Lib.hid (fun W (h : Frm no wr W) => rrdone_any g st.1 st.2 W HI.out.fine.2 (HI.out.far h (fun _ h => h.elim)).rdr)
          obtain ⟨k0, k1, k2, k3, k4⟩ := blk5 HX.out
          have hbx := Lib.hid HI.out.box
          obtain ⟨i0', i1', i2', i3', i4'⟩ := blk5 HI.out.box
          have kf := fun i => blk_free HI.out.box i
          have hrd := HRD.out.1
          have hsl : Sl eD 5 wr (.slice va1 L.length vc1) L := Sl.of_owns (by decide) eD_len HW.out
          have hfn : refDec bs = fin ⟨c1, k, e1, s1, u1⟩ L st := by have h := HD2.out; rw [hrd] at h; exact h
          unfold fin at hfn
          dsimp only at hfn
          have hok := Lib.hid (fun W (h : Frm no wr W) => (⟨hsl.below h, by have := HRD.out.2; dsimp only; omega⟩ : Rc.ok W ⟨e1, s1, c1 == 1, u1, .slice va1 L.length vc1, L⟩))
          have hmr := Lib.hid (fun W (h : Frm no wr W) => refMay_any ⟨e1, s1, c1 == 1, u1, .slice va1 L.length vc1, L⟩ W (hok.out W h))
          clear hrd hsl
          by_cases hbad : (st.2 || decide (∃ b ∈ st.1, b ≠ 0)) = true
          · rw [hbad] at hdn hfn
            have hd : Hid (refDec bs = none) := hfn
            clear hbad hfn
            go_wp2_with (go_at_call 46; refine (hdn.out _ (Frm.refl _ _)).mono ?_; rintro e r1 ⟨rfl, rfl⟩)
            exact rdec_no rfl rfl hbx.out (Nat.le_refl _) HI.out.frm hd.out
          · have hbad' : (st.2 || decide (∃ b ∈ st.1, b ≠ 0)) = false := by simpa using hbad
            rw [hbad'] at hdn hfn
            rw [Bool.false_or] at hfn
            obtain ⟨my, hmy⟩ : ∃ my, Hid (mayR e1 s1 u1 L = my) := ⟨_, rfl⟩
            rw [hmy.out] at hmr hfn
            clear hbad hbad'
            have hfn1 := Lib.hid hfn
            clear hfn
            cases my
            all_goals
              have hfn := hfn1.out
              clear hfn1
            · have hd : Hid (refDec bs = none) := hfn
              clear hfn
              go_wp2_with (first
                | (go_at_call 46; refine (hdn.out _ (Frm.refl _ _)).mono ?_; rintro e r1 ⟨rfl, rfl⟩)
                | (go_at_call 11; refine (hmr.out _ (Frm.refl _ _)).mono ?_; rintro e r2 ⟨rfl, hf2⟩; have hb2 := Lib.hid (blk_frm hbx.out hf2 (fun h => h)); have hF2 := Lib.hid (HI.out.frm.trans_no hf2); clear hf2; obtain ⟨q0, q1, q2, q3, q4⟩ := blk5 hb2.out; have kf := fun i => blk_free hb2.out i))
              exact rdec_no rfl rfl hb2.out (Nat.le_refl _) hF2.out hd.out
            · have hd : Hid (refDec bs = some (e1, s1, c1 == 1, u1, L)) := hfn
              clear hfn
              go_wp2_with (first
                | (go_at_call 46; refine (hdn.out _ (Frm.refl _ _)).mono ?_; rintro e r1 ⟨rfl, rfl⟩)
                | (go_at_call 11; refine (hmr.out _ (Frm.refl _ _)).mono ?_; rintro e r2 ⟨rfl, hf2⟩; have hb2 := Lib.hid (blk_frm hbx.out hf2 (fun h => h)); have hX2 := Lib.hid (blk_frm HX.out hf2 (fun h => h)); have hF2 := Lib.hid (HI.out.frm.trans_no hf2); have hok2 := Lib.hid (hok.out _ hf2); clear hf2; obtain ⟨q0, q1, q2, q3, q4⟩ := blk5 hb2.out; have kf := fun i => blk_free hb2.out i; obtain ⟨p0, p1, p2, p3, p4⟩ := blk5 hX2.out))
              refine bodyPost_ret (v := .tuple #[.agg #[.int .i64 e1, .int .i64 s1, .bool (c1 == 1), .int .i64 u1, .slice va1 L.length vc1], .bool true]) ?_ rfl ⟨_, rfl, ⟨⟨e1, s1, c1 == 1, u1, .slice va1 L.length vc1, L⟩, by rw [hd.out]; rfl, ?_, set5_frm hF2.out (fun h => absurd h (Nat.lt_irrefl _)) _ _ _ _ _, by rw [hd.out]; rfl⟩⟩
              · rw [ret_rec rfl rfl (set5 hb2.out _ _ _ _ _) rfl]; rfl
              · refine ⟨Sl.frm hok2.out.1 (set5_frm (S := (· = w.heap.size)) (Frm.refl _ _) (fun _ => rfl) _ _ _ _ _) (fun k hk (h : k = _) => ?_), hok2.out.2⟩
                have := own_block HW.out k hk
                have h1 := hgx.out; have h2 := hxY.out; have h3 := HI.out.gt
                omega
    · have hno : Hid (refDec bs = none) := by
        show _ = _
        rw [HD0.out, if_neg hL]
      have hq : ((strOfNums L).toList == [74, 82]) = false := str_ne HO.out hL
      clear hL
      go_upto_if 20 with (first
        | (go_at_call 43; refine (hby.out g _ HF3.out.2.2.1).mono ?_; rintro e w4 ⟨_, rfl, hs4, hr4, hf4⟩; have hcv := hs4.str; obtain ⟨a3, c3, rfl⟩ := hs4.shape))
      have hb4 := Lib.hid (And.intro (blk_frm HF3.out.2.1 hf4 (fun k => by have := HF3.out.2.2.2; omega)) (HF3.out.1.trans hf4 (fun i hi k => by have := HF3.out.2.2.2; subst k; omega)))
      obtain ⟨k0, k1, k2, k3, k4⟩ := blk5 hb4.out.1
      have kf := fun i => blk_free hb4.out.1 i
      clear hcv hs4 hr4 hf4
      go_wp2_with fail
      exact rdec_no rfl rfl hb4.out.1 (Nat.le_refl _) hb4.out.2 hno.out
  · have hno : Hid (refDec bs = none) := by show _ = _; unfold refDec; rw [if_neg hc]
    have hc' : chk bs = false := by simpa using hc
    rw [hc'] at HW
    obtain ⟨a, c, rfl⟩ := hv.shape
    clear hc hc' hv ho
    go_enter Tryd.func15, Tryd.ntmps15
    go_wp2_with (go_at_call 42; refine (HW.out _ ((Frm.refl _ _).alloc _)).mono ?_; rintro e w1 ⟨_, rfl, rfl, hf1⟩; have hb1 := Lib.hid (And.intro (blk_frm (blk_new w (.cells #[.int .i64 0, .int .i64 0, .bool false, .int .i64 0, .slice none 0 0] 24)) hf1 (fun h => h)) (((Frm.refl no w).alloc (.cells #[.int .i64 0, .int .i64 0, .bool false, .int .i64 0, .slice none 0 0] 24)).trans_no hf1)); clear hf1; obtain ⟨k0, k1, k2, k3, k4⟩ := blk5 hb1.out.1; have kf := fun i => blk_free hb1.out.1 i)
    exact rdec_no rfl rfl hb1.out.1 (Nat.le_refl _) hb1.out.2 hno.out

end Go.Proofs.YtgbcmkkbhbkfeaaDoor
