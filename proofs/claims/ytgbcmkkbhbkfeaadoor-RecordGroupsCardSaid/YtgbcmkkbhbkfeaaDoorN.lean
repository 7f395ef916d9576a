/- Decode: what any bytes are as a record. -/
import Derived.Test.YtgbcmkkbhbkfeaaDoorProg
import Derived.Test.YtgbcmkkbhbkfeaaDoorM
import Derived.Test.YtgbcmkkbhbkfeaaDoorBS
import Derived.Laws.BytesArg
namespace Go.Proofs.YtgbcmkkbhbkfeaaDoor
open Go Go.RowKit

def rdDl (st : St) : Dl × St :=
  let k := rInt st 1 0 255
  let z := rInt k.2 1 0 255
  let n := rInt z.2 2 0 65535
  let a := rInt n.2 4 0 4294967295
  let o := rInt a.2 4 0 4294967295
  (⟨k.1, a.1, n.1, z.1, o.1⟩, (rInt o.2 4 0 0).2)
def rdDls : Nat → St → List Dl × St
  | 0, st => ([], st)
  | n + 1, st => ((rdDls n st).1 ++ [(rdDl (rdDls n st).2).1], (rdDl (rdDls n st).2).2)
structure Hd where
  c : Int
  n : Int
  e : Int
  s : Int
  u : Int
def rdHd (st : St) : Hd × St :=
  let c := rInt st 1 0 1
  let n := rInt c.2 1 0 6
  let e := rInt n.2 4 0 2147483648
  let s := rInt e.2 8 0 1099511627776
  let u := rInt s.2 8 0 1099511627776
  (⟨c.1, n.1, e.1, s.1, u.1⟩, u.2)
abbrev RcD := Int × Int × Bool × Int × List Dl
def fin (h : Hd) (ds : List Dl) (st : St) : Option RcD :=
  if (st.2 || decide (∃ b ∈ st.1, b ≠ 0)) || !mayR h.e h.s h.u ds then none else some (h.e, h.s, h.c == 1, h.u, ds)
def dec (bs : List Int) : Option RcD :=
  if chk bs then
    (if (rBy (bs.drop 4, false) 2).1 = [74, 82] then
      (let h := rdHd (rBy (bs.drop 4, false) 2).2
       let d := rdDls h.1.n.toNat h.2
       fin h.1 d.1 d.2)
    else none)
  else none
def Rc.d (r : Rc) : RcD := (r.e, r.s, r.c, r.u, r.ds)

theorem rBy_oct {st : St} (h : st.fine) (n : Int) : Oct (rBy st n).1 := by
  unfold rBy
  split
  · exact fun b hb => h.1 b (List.mem_of_mem_take hb)
  · intro b hb; simp at hb
theorem str_ne {L : List Int} (ho : Oct L) (h : L ≠ [74, 82]) : ((strOfNums L).toList == [74, 82]) = false := by
  rw [beq_eq_false_iff_ne]
  intro h1
  have h2 : strOfNums L = strOfNums [74, 82] := ByteArray.ext (Array.toList_inj.1 (by rw [← ByteArray.toList_eq, h1]; rfl))
  exact h (strOfNums_inj ho (by intro b hb; simp at hb; omega) h2)
theorem Rdr.far {S : Nat → Prop} {w w' : World} {g : Nat} {bs : List Int} {bad : Bool} (h : Rdr w g bs bad) (hf : Frm S w w') (hs : ∀ k, S k → g < k) : Rdr w' g bs bad := by
  obtain ⟨v, h1, h2, h3⟩ := h
  exact ⟨v, blk_frm h1 hf (fun h => Nat.lt_irrefl _ (hs g h)), h2.frm hf (fun k hk h => by have := h3 k hk; have := hs k h; omega), h3⟩
theorem Rdr.lt {w : World} {g : Nat} {bs : List Int} {bad : Bool} (h : Rdr w g bs bad) : g < w.heap.size := by
  obtain ⟨v, h1, h2, h3⟩ := h
  exact blk_lt h1

/-- what holds throughout Decode: a reader at g, the result's box -/
structure Inv (w : World) (g : Nat) (wr : World) (st : St) : Prop where
  fine : st.fine
  rdr : Rdr wr g st.1 st.2
  frm : Frm no w wr
  box : wr.heap[w.heap.size]? = some (.cells #[.int .i64 0, .int .i64 0, .bool false, .int .i64 0, .slice none 0 0] 24 (0, 0))
  gt : w.heap.size < g
theorem Inv.far {S : Nat → Prop} {w wr w' : World} {g : Nat} {st : St} (h : Inv w g wr st) (hf : Frm S wr w') (hs : ∀ k, S k → g < k) : Inv w g w' st :=
  ⟨h.fine, h.rdr.far hf hs, h.frm.trans hf (fun i hi k => absurd (hs i k) (by have := h.gt; omega)), blk_frm h.box hf (fun k => by have := hs _ k; have := h.gt; omega), h.gt⟩

theorem int_st (g : Nat) (st : St) (n l m : Int) (w0 w : World) (hI : Hid (Inv w0 g w st)) (hl : l ≤ 0) (hm : 0 ≤ m) :
    Calls Tryd.prog 37 #[.pointer (some ⟨g, 0, none⟩), .int .i64 n, .int .i64 l, .int .i64 m] w (Ret fun v' w' => ∃ q : Int × St, v' = .int .i64 q.1 ∧ Hid (rInt st n l m = q) ∧ Hid (Inv w0 g w' q.2) ∧ Hid (Frm (· = g) w w') ∧ l ≤ q.1 ∧ q.1 ≤ m) := by
  refine (int_any g st n l m w hI.out.fine hI.out.rdr).mono ?_
  rintro e w' ⟨v', rfl, rfl, h1, h2⟩
  exact ⟨_, rfl, _, rfl, rfl, ⟨rInt_fine hI.out.fine n l m, h1, hI.out.frm.trans h2 (fun i hi k => by have := hI.out.gt; subst k; omega), blk_frm hI.out.box h2 (fun k => by have := hI.out.gt; omega), hI.out.gt⟩, h2, rInt_bd st n l m hl hm⟩

theorem set3_frm {S : Nat → Prop} {w0 w : World} (hf : Frm S w0 w) {x : Nat} (hx : x < w0.heap.size → S x) (a b d : Value) :
    Frm S w0 (((w.setCell ⟨x, 0, none⟩ a).setCell ⟨x, 1, none⟩ b).setCell ⟨x, 3, none⟩ d) :=
  ((hf.setCell (p := ⟨x, 0, none⟩) hx _).setCell (p := ⟨x, 1, none⟩) hx _).setCell (p := ⟨x, 3, none⟩) hx _
theorem set3 {w : World} {x t : Nat} {a0 b0 c0 d0 e0 : Value} (h : w.heap[x]? = some (.cells #[a0, b0, c0, d0, e0] t (0, 0))) (a b d : Value) :
    (((w.setCell ⟨x, 0, none⟩ a).setCell ⟨x, 1, none⟩ b).setCell ⟨x, 3, none⟩ d).heap[x]? = some (.cells #[a, b, c0, d, e0] t (0, 0)) := by
  have := blk_set (blk_set (blk_set h 0 a) 1 b) 3 d
  simpa using this
/-- what Decode gives -/
def DecR (w : World) (bs : List Int) (v' : Value) (w' : World) : Prop :=
  ∃ (r : Rc) (er : Int), v' = .tuple #[r.val, .int .i64 er] ∧ r.ok w' ∧ Frm no w w' ∧ er = (if (dec bs).isSome then 0 else 10) ∧ r.d = (dec bs).getD (0, 0, false, 0, [])
theorem DecR.no_ {w w' : World} {bs : List Int} (h : dec bs = none) (hf : Frm no w w') : DecR w bs (.tuple #[.agg #[.int .i64 0, .int .i64 0, .bool false, .int .i64 0, .slice none 0 0], .int .i64 10]) w' :=
  ⟨⟨0, 0, false, 0, .slice none 0 0, []⟩, 10, rfl, ⟨Sl.nil _ _ _, by simp⟩, hf, by rw [h]; rfl, by rw [h]; rfl⟩

theorem set5 {w : World} {x t : Nat} {a0 b0 c0 d0 e0 : Value} (h : w.heap[x]? = some (.cells #[a0, b0, c0, d0, e0] t (0, 0))) (a b c d e : Value) :
    (((((w.setCell ⟨x, 0, none⟩ a).setCell ⟨x, 1, none⟩ b).setCell ⟨x, 2, none⟩ c).setCell ⟨x, 3, none⟩ d).setCell ⟨x, 4, none⟩ e).heap[x]? = some (.cells #[a, b, c, d, e] t (0, 0)) := by
  have := blk_set (blk_set (blk_set (blk_set (blk_set h 0 a) 1 b) 2 c) 3 d) 4 e
  simpa using this
theorem set5_frm {S : Nat → Prop} {w0 w : World} (hf : Frm S w0 w) {x : Nat} (hx : x < w0.heap.size → S x) (a b c d e : Value) :
    Frm S w0 (((((w.setCell ⟨x, 0, none⟩ a).setCell ⟨x, 1, none⟩ b).setCell ⟨x, 2, none⟩ c).setCell ⟨x, 3, none⟩ d).setCell ⟨x, 4, none⟩ e) :=
  ((((hf.setCell (p := ⟨x, 0, none⟩) hx _).setCell (p := ⟨x, 1, none⟩) hx _).setCell (p := ⟨x, 2, none⟩) hx _).setCell (p := ⟨x, 3, none⟩) hx _).setCell (p := ⟨x, 4, none⟩) hx _
theorem info_rec : (Tryd.prog.info? 24).map (·.size) = some 5 := by kernel_rfl
theorem ret_rec {fn : Func} (h : fn.results = #[.cell 2 24, .tmp 3]) {tmps : Array Value} {w : World} {x t : Nat} {cs : Array Value} {fr : Nat × Nat} (hp : tmps.getD 2 undef = .pointer (some ⟨x, 0, none⟩)) (hb : w.heap[x]? = some (.cells cs t fr)) (hs : cs.size = 5) :
    (results fn tmps).run Tryd.prog w = .ok (.tuple #[.agg cs, tmps.getD 3 undef]) w := by
  rw [results_cell_tmp h]
  have h1 : (asAddr (tmps.getD 2 undef)).run Tryd.prog w = .ok ⟨x, 0, none⟩ w := by rw [hp]; rfl
  rw [h1]
  show ((loadVar _ _).run Tryd.prog w).andThen _ = _
  rw [run_loadVar_row w x t _ cs fr _ hb Tryd.underlying24 rfl (by rw [info_rec, hs])]
  rfl
/-- Decode ends at fault -/
theorem dec_no {w w1 : World} {x t : Nat} {a0 b0 c0 d0 e0 : Value} {bs : List Int} {tmps : Array Value} (hp : tmps.getD 2 undef = .pointer (some ⟨x, 0, none⟩)) (h3 : tmps.getD 3 undef = .int .i64 10)
    (hb : w1.heap[x]? = some (.cells #[a0, b0, c0, d0, e0] t (0, 0))) (hx : w.heap.size ≤ x) (hf : Frm no w w1) (hd : dec bs = none) :
    bodyPost Tryd.prog Tryd.f12 (Ret (DecR w bs)) .ret { tmps := tmps, defers := [] } (((((w1.setCell ⟨x, 0, none⟩ (.int .i64 0)).setCell ⟨x, 1, none⟩ (.int .i64 0)).setCell ⟨x, 2, none⟩ (.bool false)).setCell ⟨x, 3, none⟩ (.int .i64 0)).setCell ⟨x, 4, none⟩ (.slice none 0 0)) := by
  refine bodyPost_ret (v := .tuple #[.agg #[.int .i64 0, .int .i64 0, .bool false, .int .i64 0, .slice none 0 0], .int .i64 10]) ?_ rfl ⟨_, rfl, DecR.no_ hd (set5_frm hf (fun h => absurd hx (Nat.not_le.2 h)) _ _ _ _ _)⟩
  rw [ret_rec rfl hp (set5 hb _ _ _ _ _) rfl, h3]

theorem decode_any (v : Value) (bs : List Int) (w : World) (hl : bs.length ≤ 140737488355328) (hv : Sl e8 1 w v bs) (ho : Oct bs) (hn : Nibs w) :
    Calls Tryd.prog 12 #[v] w (Ret (DecR w bs)) := by
  have _ := hl
  have hW : ∀ W, Frm no w W → Calls Tryd.prog 34 #[v] W (Ret fun v' w' => v' = .bool (chk bs) ∧ ∃ d, w' = W.drewN d) := fun W h => check_any v bs W (hv.below h) ho (hn.below h)
  have HW := Lib.hid hW
  clear hW
  by_cases hc : chk bs = true
  · have hlen : bs.length = 128 := by
      have := hc
      simp only [chk, Bool.and_eq_true, beq_iff_eq] at this
      exact this.1
    rw [hc] at HW
    have HS := Lib.hid (fun W (h : Frm no w W) => hv.below h)
    obtain ⟨st0, H0⟩ : ∃ st0 : St, Hid (st0 = (bs.drop 4, false)) := ⟨_, rfl⟩
    have hf0 : Hid st0.fine := by rw [H0.out]; exact ⟨ho.drop 4, by simp; omega⟩
    rcases hv.bytes with ⟨_, h⟩ | ⟨g0, off, c, rfl, hcap, q1, q2, q3⟩
    · rw [h] at hlen; simp at hlen
    clear q1 q2 q3
    rw [hlen] at hcap
    rw [hlen] at HW HS ⊢
    clear hv
    have ht : Hid (∀ W, Frm no w W → Calls Tryd.prog 35 #[.slice (some ⟨g0, off + 4 * 1, none⟩) (128 - 4) (c - 4)] W (Ret fun v' w' => ∃ g, v' = .pointer (some ⟨g, 0, none⟩) ∧ W.heap.size ≤ g ∧ Rdr w' g st0.1 st0.2 ∧ Frm no W w')) := by
      intro W h
      rw [H0.out]
      exact take_any _ (bs.drop 4) W (by simp; omega) ((HS.out W h).drop 4 (by omega))
    by_cases hL : (rBy st0 2).1 = [74, 82]
    · have HL := Lib.hid hL
      have HD0 : Hid (dec bs = (let h := rdHd (rBy st0 2).2; let d := rdDls h.1.n.toNat h.2; fin h.1 d.1 d.2)) := by
        unfold dec
        rw [if_pos hc, ← H0.out, if_pos hL]; rfl
      have hby := Lib.hid (fun g W (hr : Rdr W g st0.1 st0.2) => rBy_any g st0 2 W hf0.out hr)
      obtain ⟨L, hLL⟩ : ∃ L, Hid (L = ([74, 82] : List Int)) := ⟨_, rfl⟩
      have hq : ((strOfNums L).toList == [74, 82]) = true := by rw [hLL.out]; kernel_rfl
      have hfi1 := Lib.hid (rBy_fine hf0.out 2)
      rw [hL, ← hLL.out] at hby
      obtain ⟨st1, HS1⟩ : ∃ st1, Hid ((rBy st0 2).2 = st1) := ⟨_, rfl⟩
      rw [HS1.out] at hby hfi1 HD0
      clear hc hL ho hn hl hlen
      go_enter Tryd.func12, Tryd.ntmps12
      go_wp2_with (first
        | (go_at_call 34; refine (HW.out _ ((Frm.refl _ _).alloc _)).mono ?_; rintro e w1 ⟨_, rfl, rfl, d, rfl⟩)
        | (go_at_call 35; refine (ht.out _ (((Frm.refl _ _).alloc _).drewN _)).mono ?_; rintro e w2 ⟨_, rfl, g, rfl, hg, hr, hf2⟩)
        | (go_at_call 36; refine (hby.out g w2 hr).mono ?_; rintro e w3 ⟨_, rfl, hs3, h31, h32, hf3⟩; have hcv := hs3.str; obtain ⟨a3, c3, rfl⟩ := hs3.shape; have hg' : w.heap.size < g := Nat.lt_of_lt_of_le (Nat.lt_succ_self _) (by simpa using hg); have hI3 : Hid (Inv w g w3 st1) := ⟨hfi1.out, h32, ((((Frm.refl no w).alloc _).drewN _).trans_no hf2).trans hf3 (fun i hi k => by have : i = g := k; omega), blk_frm (blk_frm (show ((w.alloc (.cells #[.int .i64 0, .int .i64 0, .bool false, .int .i64 0, .slice none 0 0] 24)).drewN d).heap[w.heap.size]? = _ from blk_new w _) hf2 (fun h => h)) hf3 (fun h => Nat.ne_of_lt hg' h), hg'⟩; clear hs3 h31 h32 hf3 hf2 hr hg hg')
        | (go_at_call 37; refine (int_st g st1 1 0 1 w w3 hI3 (by decide) (by decide)).mono ?_; rintro e w4 ⟨_, rfl, ⟨c1, st2⟩, rfl, hq1, hI4, hf4, hc0, hc1⟩; have hx1 := Lib.hid hI4.out.rdr.lt; clear hf4 hI3; dsimp only at hc0 hc1)
        | (go_at_call 37; have hI4' : Hid (Inv w g (w4.alloc (.cells #[.int .i64 0, .int .i64 0, .bool (c1 == 1), .int .i64 0, .slice none 0 0] 24)) st2) := hI4.out.far ((Frm.refl no w4).alloc _) (fun _ h => h.elim); refine (int_st g st2 1 0 6 w _ hI4' (by decide) (by decide)).mono ?_; rintro e w5 ⟨_, rfl, ⟨n1, st3⟩, rfl, hq2, hI5, hf5, hn0, hn1⟩; have hx5 := Lib.hid (blk_frm (blk_new w4 (.cells #[.int .i64 0, .int .i64 0, .bool (c1 == 1), .int .i64 0, .slice none 0 0] 24)) hf5.out (fun h => absurd h (Nat.ne_of_gt hx1.out))); clear hf5 hI4 hI4'; dsimp only at hn0 hn1; obtain ⟨N, rfl⟩ := Int.eq_ofNat_of_zero_le hn0)
        | (go_at_call 37; refine (int_st g st3 4 0 2147483648 w w5 hI5 (by decide) (by decide)).mono ?_; rintro e w6 ⟨_, rfl, ⟨e1, st4⟩, rfl, hq3, hI6, hf6, _, _⟩; have hx6 := Lib.hid (blk_frm hx5.out hf6.out (fun h => absurd h (Nat.ne_of_gt hx1.out))); clear hf6 hI5)
        | (go_at_call 37; refine (int_st g st4 8 0 1099511627776 w w6 hI6 (by decide) (by decide)).mono ?_; rintro e w7 ⟨_, rfl, ⟨s1, st5⟩, rfl, hq4, hI7, hf7, _, _⟩; have hx7 := Lib.hid (blk_frm hx6.out hf7.out (fun h => absurd h (Nat.ne_of_gt hx1.out))); clear hf7 hI6)
        | (go_at_call 37; refine (int_st g st5 8 0 1099511627776 w w7 hI7 (by decide) (by decide)).mono ?_; rintro e w8 ⟨_, rfl, ⟨u1, st6⟩, rfl, hq5, hI8, hf8, _, _⟩; have hx8 := Lib.hid (blk_frm hx7.out hf8.out (fun h => absurd h (Nat.ne_of_gt hx1.out))); clear hf8 hI7; obtain ⟨k0, k1, k2, k3, k4⟩ := blk5 hx8.out; have kf := fun i => blk_free hx8.out i))
      have hgx : Hid (g < w4.heap.size) := hx1
      have hhd : Hid (rdHd st1 = (⟨c1, N, e1, s1, u1⟩, st6)) := by
        show _ = _
        unfold rdHd; simp only [hq1.out, hq2.out, hq3.out, hq4.out, hq5.out]
      have HD1 : Hid (dec bs = fin ⟨c1, N, e1, s1, u1⟩ (rdDls N st6).1 (rdDls N st6).2) := by
        have h := HD0.out; rw [hhd.out] at h; exact h
      have hfw : Hid (Frm (fun k => g < k) w8 (((w8.setCell ⟨w4.heap.size, 0, none⟩ (.int .i64 e1)).setCell ⟨w4.heap.size, 1, none⟩ (.int .i64 s1)).setCell ⟨w4.heap.size, 3, none⟩ (.int .i64 u1))) := set3_frm (Frm.refl _ _) (fun _ => hgx.out) _ _ _
      have hI9 := Lib.hid (hI8.out.far hfw.out (fun _ h => h))
      have hx9 := Lib.hid (set3 hx8.out (.int .i64 e1) (.int .i64 s1) (.int .i64 u1))
      clear hq1 hq2 hq3 hq4 hq5 hhd hx5 hx6 hx7 hx8 hI8 k0 k1 k2 k3 k4 kf hcv hby HW HS ht HD0 hfw hx1 HS1 hfi1 hLL hq HL hf0 H0
      obtain ⟨x, hxx⟩ : ∃ x, Hid (w4.heap.size = x) := ⟨_, rfl⟩
      rw [hxx.out] at hx9 hgx hI9 ⊢
      generalize (((w8.setCell ⟨x, 0, none⟩ (.int .i64 e1)).setCell ⟨x, 1, none⟩ (.int .i64 s1)).setCell ⟨x, 3, none⟩ (.int .i64 u1)) = w9 at hI9 hx9 ⊢
      obtain ⟨i0, hi, hz0, hz1, hz2⟩ := info_parts info_delta
      have hx9l : Hid (x < w9.heap.size) := blk_lt hx9.out
      go_loopw [36] (fun i wr => ∃ k : Nat, k ≤ N ∧ i = .int .i64 k ∧ ∃ (va : Value) (L : List Dl) (st : St), Hid (rdDls k st6 = (L, st) ∧ L.length = k) ∧ Hid (Inv w g wr st) ∧ Hid (wr.heap[x]? = some (.cells #[.int .i64 e1, .int .i64 s1, .bool (c1 == 1), .int .i64 u1, va] 24 (0, 0))) ∧ Hid (wr.ownsRow w9.heap.size 39 5 va L.length (L.flatMap eD)) ∧ Hid (w9.heap.size ≤ wr.heap.size)) (fun i _ => N - (intOf i).toNat)
      case atStart => exact ⟨0, Nat.zero_le _, rfl, .slice none 0 0, [], st6, ⟨rfl, rfl⟩, hI9, hx9, own_nil _ _ _ _, Nat.le_refl _⟩
      case round =>
        obtain ⟨k, hk, rfl, va, L, st, HRD, HI, HX, HW, HS⟩ := hrel
        by_cases hlt : k < N
        · obtain ⟨xa, xc, rfl⟩ := own_shape HW.out
          go_wp2_with (first
            | (go_at_call 37; refine (int_st g st 1 0 255 w wr HI (by decide) (by decide)).mono ?_; rintro e r1 ⟨_, rfl, ⟨dk, t1⟩, rfl, hp1, hJ1, hg1, _, _⟩; clear HI)
            | (go_at_call 37; refine (int_st g t1 1 0 255 w r1 hJ1 (by decide) (by decide)).mono ?_; rintro e r2 ⟨_, rfl, ⟨dz, t2⟩, rfl, hp2, hJ2, hg2, _, _⟩; clear hJ1)
            | (go_at_call 37; refine (int_st g t2 2 0 65535 w r2 hJ2 (by decide) (by decide)).mono ?_; rintro e r3 ⟨_, rfl, ⟨dn, t3⟩, rfl, hp3, hJ3, hg3, _, _⟩; clear hJ2)
            | (go_at_call 37; refine (int_st g t3 4 0 4294967295 w r3 hJ3 (by decide) (by decide)).mono ?_; rintro e r4 ⟨_, rfl, ⟨da, t4⟩, rfl, hp4, hJ4, hg4, _, _⟩; clear hJ3)
            | (go_at_call 37; refine (int_st g t4 4 0 4294967295 w r4 hJ4 (by decide) (by decide)).mono ?_; rintro e r5 ⟨_, rfl, ⟨d_, t5⟩, rfl, hp5, hJ5, hg5, _, _⟩; clear hJ4))
          have hG5 : Hid (Frm (· = g) wr r5) := ((((hg1.out.trans hg2.out (fun _ _ h => h)).trans hg3.out (fun _ _ h => h)).trans hg4.out (fun _ _ h => h)).trans hg5.out (fun _ _ h => h))
          have hdl : Hid (rdDl st = (⟨dk, da, dn, dz, d_⟩, (rInt t5 4 0 0).2)) := by
            show _ = _
            unfold rdDl; simp only [hp1.out, hp2.out, hp3.out, hp4.out, hp5.out]
          clear hg1 hg2 hg3 hg4 hg5 hp1 hp2 hp3 hp4 hp5
          have hJ5' : Hid (Inv w g (r5.alloc (.cells #[.int .i64 dk, .int .i64 da, .int .i64 dn, .int .i64 dz, .int .i64 d_] 39)) t5) := hJ5.out.far ((Frm.refl no r5).alloc _) (fun _ h => h.elim)
          go_wp2_with (first
            | (go_at_call 37; refine (int_st g t5 4 0 0 w _ hJ5' (by decide) (by decide)).mono ?_; rintro e r6 ⟨_, rfl, ⟨p6, t6⟩, rfl, hp6, hJ6, hg6, _, _⟩; have hG6 : Hid (Frm (· = g) wr r6) := (hG5.out.alloc _).trans hg6.out (fun _ _ h => h); have hX6 := Lib.hid (blk_frm HX.out hG6.out (fun h => absurd h (Nat.ne_of_gt hgx.out))); have hD6 := Lib.hid (blk_frm (blk_new r5 (.cells #[.int .i64 dk, .int .i64 da, .int .i64 dn, .int .i64 dz, .int .i64 d_] 39)) hg6.out (fun h => absurd h (Nat.ne_of_gt (Nat.lt_of_lt_of_le hgx.out (Nat.le_trans (Nat.le_of_lt hx9l.out) (Nat.le_trans HS.out hG5.out.size)))))); clear hg6 hJ5 hJ5'; obtain ⟨k0, k1, k2, k3, k4⟩ := blk5 hX6.out; obtain ⟨j0, j1, j2, j3, j4⟩ := blk5 hD6.out; clear k0 k1 k2 k3)
            | (at_builtin; refine wpList_app _ rfl _ _ 22 rfl w9.heap.size 39 i0 (Dl.v ⟨0, 0, 0, 0, 0⟩) 5 40 Tryd.underlying22 hi hz0 hz1 hz2 rfl (by decide) eD_len eD_one _ L rfl ?_ _ [⟨dk, da, dn, dz, d_⟩] rfl ?_ ?_ ?_ ?_ ?_))
          · exact own_frm HW.out (hG6.out.alloc _) (fun k hk (h : k = g) => by have := own_block HW.out k hk; have := hgx.out; have := hx9l.out; omega)
          · exact Sl.of_blk (more := []) (xs := [(⟨dk, da, dn, dz, d_⟩ : Dl)]) eD_len (blk_new r6 (.cells #[.int .i64 dk, .int .i64 da, .int .i64 dn, .int .i64 dz, .int .i64 d_] 39)) rfl (Nat.le_refl _) (by decide)
          · have hlk := HRD.out.2; simp only [List.length_singleton]; unfold maxLen; omega
          · have hlk := HRD.out.2; simp only [List.length_singleton]; omega
          · have h1 := HS.out; have h2 := hG6.out.size; simp; omega
          · intro v' q1 ho hg
            have hA : Hid (Frm (fun k => w9.heap.size ≤ k) (r6.alloc (.cells #[.int .i64 dk, .int .i64 da, .int .i64 dn, .int .i64 dz, .int .i64 d_] 39)) q1) := (Frm.refl _ _).grown hg (fun k _ e => own_block HW.out k (by simpa using e))
            have HO := Lib.hid ho
            have hX7 := Lib.hid (blk_frm (blk_alloc hX6.out (.cells #[.int .i64 dk, .int .i64 da, .int .i64 dn, .int .i64 dz, .int .i64 d_] 39)) hA.out (fun h => absurd hx9l.out (Nat.not_lt.2 h)))
            have hsz : Hid (w9.heap.size ≤ q1.heap.size) := by
              have h1 := HS.out; have h2 := hG6.out.size; have h3 := hA.out.size
              simp at h3
              exact Nat.le_trans (Nat.le_trans h1 h2) (Nat.le_trans (Nat.le_succ _) h3)
            have hJ7 : Hid (Inv w g q1 t6) := (hJ6.out.far ((Frm.refl no r6).alloc (.cells #[.int .i64 dk, .int .i64 da, .int .i64 dn, .int .i64 dz, .int .i64 d_] 39)) (fun _ h => h.elim)).far hA.out (fun k h => by have := hgx.out; have := hx9l.out; omega)
            clear ho hg hX6 hD6 hJ6 j0 j1 j2 j3 j4 k4 hA
            obtain ⟨va', vc', rfl⟩ := own_shape HO.out
            obtain ⟨k0, k1, k2, k3, k4⟩ := blk5 hX7.out
            have kf := fun i => blk_free hX7.out i
            go_wp2
            have hfx : Frm (· = x) q1 (q1.setCell ⟨x, 4, none⟩ (.slice va' (L.length + 1) vc')) := (Frm.refl (· = x) q1).setCell (p := ⟨x, 4, none⟩) (fun _ => rfl) _
            go_roundw
            case rel =>
              refine ⟨k + 1, hlt, by go_num, .slice va' (L.length + 1) vc', L ++ [⟨dk, da, dn, dz, d_⟩], t6, ?_, hJ7.out.far hfx (fun k h => by have := hgx.out; omega), ?_, ?_, ?_⟩
              · refine ⟨?_, by simp; exact HRD.out.2⟩
                rw [rdDls, HRD.out.1, hdl.out, hp6.out]
              · show _ = _
                have := blk_set hX7.out 4 (.slice va' (L.length + 1) vc')
                simpa using this
              · show World.ownsRow _ _ _ _ _ _ _
                refine own_frm ?_ hfx (fun k hk (h : k = x) => by have := own_block HO.out k hk; have := hx9l.out; omega)
                have := HO.out
                simpa using this
              · show _ ≤ _
                simpa using hsz.out
            case measure => simp [intOf]; omega
        · obtain rfl : k = N := by omega
          obtain ⟨va1, vc1, rfl⟩ := own_shape HW.out
          have hdn := Lib.hid (fun W (h : Frm no wr W) => done_any g st.1 st.2 W HI.out.fine.2 (HI.out.far h (fun _ h => h.elim)).rdr)
          obtain ⟨k0, k1, k2, k3, k4⟩ := blk5 HX.out
          have hbx := Lib.hid HI.out.box
          obtain ⟨i0', i1', i2', i3', i4'⟩ := blk5 HI.out.box
          have kf := fun i => blk_free HI.out.box i
          have hrd := HRD.out.1
          have hsl : Sl eD 5 wr (.slice va1 L.length vc1) L := Sl.of_owns (by decide) eD_len HW.out
          have hfn : dec bs = fin ⟨c1, k, e1, s1, u1⟩ L st := by have h := HD1.out; rw [hrd] at h; exact h
          unfold fin at hfn
          dsimp only at hfn
          have hok := Lib.hid (fun W (h : Frm no wr W) => (⟨hsl.below h, by have := HRD.out.2; dsimp only; omega⟩ : Rc.ok W ⟨e1, s1, c1 == 1, u1, .slice va1 L.length vc1, L⟩))
          have hmr := Lib.hid (fun W (h : Frm no wr W) => mayR_any ⟨e1, s1, c1 == 1, u1, .slice va1 L.length vc1, L⟩ W (hok.out W h))
          clear hrd hsl
          by_cases hbad : (st.2 || decide (∃ b ∈ st.1, b ≠ 0)) = true
          · rw [hbad] at hdn hfn
            have hd : Hid (dec bs = none) := hfn
            clear hbad hfn
            go_wp2_with (go_at_call 38; refine (hdn.out _ (Frm.refl _ _)).mono ?_; rintro e r1 ⟨rfl, rfl⟩)
            exact dec_no rfl rfl hbx.out (Nat.le_refl _) HI.out.frm hd.out
          · have hbad' : (st.2 || decide (∃ b ∈ st.1, b ≠ 0)) = false := by simpa using hbad
            rw [hbad'] at hdn hfn
            rw [Bool.false_or] at hfn
            obtain ⟨my, hmy⟩ : ∃ my, Hid (mayR e1 s1 u1 L = my) := ⟨_, rfl⟩
            rw [hmy.out] at hmr hfn
            clear hbad hbad'
            have hfn1 := Lib.hid hfn
            clear hfn
            cases my
            all_goals
              have hfn := hfn1.out
              clear hfn1
            · have hd : Hid (dec bs = none) := hfn
              clear hfn
              go_wp2_with (first
                | (go_at_call 38; refine (hdn.out _ (Frm.refl _ _)).mono ?_; rintro e r1 ⟨rfl, rfl⟩)
                | (go_at_call 10; refine (hmr.out _ (Frm.refl _ _)).mono ?_; rintro e r2 ⟨rfl, hf2⟩; have hb2 := Lib.hid (blk_frm hbx.out hf2 (fun h => h)); have hF2 := Lib.hid (HI.out.frm.trans_no hf2); clear hf2; obtain ⟨q0, q1, q2, q3, q4⟩ := blk5 hb2.out; have kf := fun i => blk_free hb2.out i))
              exact dec_no rfl rfl hb2.out (Nat.le_refl _) hF2.out hd.out
            · have hd : Hid (dec bs = some (e1, s1, c1 == 1, u1, L)) := hfn
              clear hfn
              go_wp2_with (first
                | (go_at_call 38; refine (hdn.out _ (Frm.refl _ _)).mono ?_; rintro e r1 ⟨rfl, rfl⟩)
                | (go_at_call 10; refine (hmr.out _ (Frm.refl _ _)).mono ?_; rintro e r2 ⟨rfl, hf2⟩; have hb2 := Lib.hid (blk_frm hbx.out hf2 (fun h => h)); have hX2 := Lib.hid (blk_frm HX.out hf2 (fun h => h)); have hF2 := Lib.hid (HI.out.frm.trans_no hf2); have hok2 := Lib.hid (hok.out _ hf2); clear hf2; obtain ⟨q0, q1, q2, q3, q4⟩ := blk5 hb2.out; have kf := fun i => blk_free hb2.out i; obtain ⟨p0, p1, p2, p3, p4⟩ := blk5 hX2.out))
              refine bodyPost_ret (v := .tuple #[.agg #[.int .i64 e1, .int .i64 s1, .bool (c1 == 1), .int .i64 u1, .slice va1 L.length vc1], .int .i64 0]) ?_ rfl ⟨_, rfl, ⟨⟨e1, s1, c1 == 1, u1, .slice va1 L.length vc1, L⟩, 0, rfl, ?_, set5_frm hF2.out (fun h => absurd h (Nat.lt_irrefl _)) _ _ _ _ _, by rw [hd.out]; rfl, by rw [hd.out]; rfl⟩⟩
              · rw [ret_rec rfl rfl (set5 hb2.out _ _ _ _ _) rfl]; rfl
              · refine ⟨Sl.frm hok2.out.1 (set5_frm (S := (· = w.heap.size)) (Frm.refl _ _) (fun _ => rfl) _ _ _ _ _) (fun k hk (h : k = _) => ?_), hok2.out.2⟩
                have := own_block HW.out k hk
                have h1 := hgx.out; have h2 := hx9l.out; have h3 := HI.out.gt
                omega
    · have hd : Hid (dec bs = none) := by unfold dec; rw [if_pos hc, if_neg (by rw [← H0.out]; exact hL)]; rfl
      have HC := Lib.hid hc
      have HO := Lib.hid ho
      have HN := Lib.hid hn
      obtain ⟨L, HL⟩ : ∃ L, Hid (L = (rBy st0 2).1) := ⟨_, rfl⟩
      have hby := Lib.hid (fun g W (hr : Rdr W g st0.1 st0.2) => rBy_any g st0 2 W hf0.out hr)
      have hLO : Oct L := by rw [HL.out]; exact rBy_oct hf0.out 2
      have hq : ((strOfNums L).toList == [74, 82]) = false := str_ne hLO (by rw [HL.out]; exact hL)
      rw [← HL.out] at hby
      clear hc hL ho hn hl hlen hLO
      go_enter Tryd.func12, Tryd.ntmps12
      go_wp2_with (first
        | (go_at_call 34; refine (HW.out _ ((Frm.refl _ _).alloc _)).mono ?_; rintro e w1 ⟨_, rfl, rfl, d, rfl⟩)
        | (go_at_call 35; refine (ht.out _ (((Frm.refl _ _).alloc _).drewN _)).mono ?_; rintro e w2 ⟨_, rfl, g, rfl, hg, hr, hf2⟩)
        | (go_at_call 36; refine (hby.out g w2 hr).mono ?_; rintro e w3 ⟨_, rfl, hs3, h31, h32, hf3⟩; have hcv := hs3.str; obtain ⟨a3, c3, rfl⟩ := hs3.shape; have hb3 := blk_frm (blk_frm (show ((w.alloc (.cells #[.int .i64 0, .int .i64 0, .bool false, .int .i64 0, .slice none 0 0] 24)).drewN d).heap[w.heap.size]? = _ from blk_new w _) hf2 (fun h => h)) hf3 (fun h => Nat.ne_of_lt (Nat.lt_of_lt_of_le (Nat.lt_succ_self _) (by simpa using hg)) h); have hb3f := Lib.hid hb3; obtain ⟨k0, k1, k2, k3, k4⟩ := blk5 hb3; have kf := fun i => blk_free hb3 i; have HS3 := Lib.hid (And.intro hg (And.intro hf2 hf3)); clear hs3 h31 h32 hf3 hf2 hr hb3 hg))
      exact dec_no rfl rfl hb3f.out (Nat.le_refl _) (((((Frm.refl no w).alloc _).drewN _).trans_no HS3.out.2.1).trans HS3.out.2.2 (fun i hi e => by have := HS3.out.1; subst e; simp at this; omega)) hd.out
  · have hc' : chk bs = false := by simpa using hc
    obtain ⟨a, c, rfl⟩ := hv.shape
    have hd : Hid (dec bs = none) := by unfold dec; rw [if_neg hc]; rfl
    rw [hc'] at HW
    clear hc hc' hv ho hn hl
    go_enter Tryd.func12, Tryd.ntmps12
    go_wp2_with (go_at_call 34; refine (HW.out _ ((Frm.refl _ _).alloc _)).mono ?_; rintro e w1 ⟨_, rfl, rfl, d, rfl⟩)
    exact dec_no rfl rfl (by exact blk_new w _) (Nat.le_refl _) (((Frm.refl no w).alloc _).drewN _) hd.out

end Go.Proofs.YtgbcmkkbhbkfeaaDoor
