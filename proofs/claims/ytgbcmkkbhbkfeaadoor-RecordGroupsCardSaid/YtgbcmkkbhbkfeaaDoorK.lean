/- A group's records: whether one goes on behind another; joined. -/
import Derived.Test.YtgbcmkkbhbkfeaaDoorProg
import Derived.Test.YtgbcmkkbhbkfeaaDoorJ
import Derived.StillTailTactics
namespace Go.Proofs.YtgbcmkkbhbkfeaaDoor
open Go Go.RowKit

def eR (r : Rc) : List Value := [.int .i64 r.e, .int .i64 r.s, .bool r.c, .int .i64 r.u, r.v]
theorem eR_len (r : Rc) : (eR r).length = 5 := rfl
theorem Sl.rec_ {w : World} {g off n c : Nat} {rs : List Rc} (h : Sl eR 5 w (.slice (some ⟨g, off, none⟩) n c) rs) {k : Nat} {r : Rc} (hk : rs[k]? = some r) :
    w.cell? ⟨g, off + k * 5, none⟩ = some (.int .i64 r.e) ∧ w.cell? ⟨g, off + k * 5 + 1, none⟩ = some (.int .i64 r.s) ∧ w.cell? ⟨g, off + k * 5 + 2, none⟩ = some (.bool r.c) ∧ w.cell? ⟨g, off + k * 5 + 3, none⟩ = some (.int .i64 r.u) ∧ w.cell? ⟨g, off + k * 5 + 4, none⟩ = some r.v := by
  rcases h with ⟨h, _⟩ | ⟨g', off', c', h, h1, h2, h3, h4⟩
  · simp at h
  · simp only [Value.slice.injEq, Option.some.injEq, Addr.mk.injEq, and_true] at h
    obtain ⟨⟨rfl, rfl⟩, rfl, rfl⟩ := h
    exact ⟨h4 k r 0 _ hk rfl, h4 k r 1 _ hk rfl, h4 k r 2 _ hk rfl, h4 k r 3 _ hk rfl, h4 k r 4 _ hk rfl⟩

def goB (a b : Rc) : Bool := !a.c && a.ds.length == 6 && a.e == b.e && a.u == b.u && decide (a.s < b.s) && wrap64 (b.s - a.s) == 1

theorem goesOn_yes (r q : Rc) (w : World) (hr : r.ok w) (hq : q.ok w) (h : goB r q = true) :
    Calls Tryd.prog 51 #[r.val, q.val] w (Ret fun v' w' => v' = .bool true ∧ Frm no w w') := by
  obtain ⟨e, s, c, u, v, ds⟩ := r
  obtain ⟨e', s', c', u', v', ds'⟩ := q
  obtain ⟨hv, hl⟩ := hr
  obtain ⟨hv', _⟩ := hq
  dsimp only at hv hl hv'
  unfold Rc.val
  obtain ⟨a, cp, rfl⟩ := hv.shape
  obtain ⟨a', cp', rfl⟩ := hv'.shape
  simp only [goB, Bool.and_eq_true, Bool.not_eq_true', beq_iff_eq, decide_eq_true_eq] at h
  obtain ⟨⟨⟨⟨⟨rfl, h2⟩, rfl⟩, rfl⟩, h5⟩, h6⟩ := h
  have h6' : (wrap64 (s' - s) == 1) = true := by simpa using h6
  have h2' : ((ds.length : Int) == 6) = true := by rw [h2]; rfl
  clear h6 hv hv' hl
  rw [h2]
  clear h2 h2'
  go_enter Tryd.func51, Tryd.ntmps51
  go_wp2
  all_goals (go_ret; exact ⟨_, rfl, by simp_all, ((Frm.refl _ _).alloc _).alloc _⟩)

theorem join_nil (w : World) : Calls Tryd.prog 24 #[.slice none 0 0] w fun e w' => e = .returned (.tuple #[.slice none 0 0, .bool false]) ∧ w = w' := by
  go_enter Tryd.func24, Tryd.ntmps24
  go_wp2
  refine wp_loop_once ?_
  go_wp2
  go_ret2
  exact ⟨rfl, rfl⟩

theorem joinLen (k : Nat) (rs : List Rc) (hl : (rs.flatMap Rc.ds).length * 40 ≤ 140737488355328) {r : Rc} (hr : rs[k]? = some r) : (((rs.take k).flatMap Rc.ds).length + r.ds.length) * 40 ≤ 140737488355328 := by
  have h1 : (rs.take (k + 1)).flatMap Rc.ds = (rs.take k).flatMap Rc.ds ++ r.ds := by
    rw [List.take_add_one, hr, List.flatMap_append]; simp
  have h2 : (rs.flatMap Rc.ds).length = ((rs.take (k + 1)).flatMap Rc.ds).length + ((rs.drop (k + 1)).flatMap Rc.ds).length := by
    rw [← List.length_append, ← List.flatMap_append, List.take_append_drop]
  rw [h1, List.length_append] at h2
  omega

theorem join_ok (v : Value) (rs : List Rc) (w : World) (hlr : rs.length ≤ 140737488355328) (hv : Sl eR 5 w v rs) (hok : ∀ r ∈ rs, r.ok w) (hl : (rs.flatMap Rc.ds).length * 40 ≤ 140737488355328)
    (hgo : ∀ k a b, rs[k]? = some a → rs[k + 1]? = some b → goB a b = true) (hlast : ∃ b, rs.getLast? = some b ∧ b.c = true) :
    Calls Tryd.prog 24 #[v] w (Ret fun v' w' => ∃ u, v' = .tuple #[u, .bool true] ∧ Sl eD 5 w' u (rs.flatMap Rc.ds) ∧ Frm no w w') := by
  obtain ⟨a, c, rfl⟩ := hv.shape
  have hne : 0 < rs.length := by
    obtain ⟨b, hb, _⟩ := hlast
    cases rs with
    | nil => simp at hb
    | cons => simp
  obtain ⟨g, off, rfl⟩ : ∃ g off, a = some ⟨g, off, none⟩ := by
    rcases hv with ⟨h, h0⟩ | ⟨g, off, c', h, _⟩
    · rw [h0] at hne; simp at hne
    · simp at h; exact ⟨_, _, h.1⟩
  obtain ⟨i0, hi, hz0, hz1, hz2⟩ := info_parts info_delta
  have HV := Lib.hid hv
  have HO := Lib.hid (And.intro hok (And.intro hl (And.intro hgo hlast)))
  clear hv hok hl hgo hlast
  go_enter Tryd.func24, Tryd.ntmps24
  go_wp2
  go_loopw [4, 9] (fun x i wr => ∃ k : Nat, k ≤ rs.length ∧ i = .int .i64 k ∧ (∃ L, Hid ((rs.take k).flatMap Rc.ds = L) ∧ Hid (wr.ownsRow w.heap.size 39 5 x L.length (L.flatMap eD))) ∧ Hid (Frm no w wr)) (fun _ i _ => rs.length - (intOf i).toNat)
  case atStart => exact ⟨0, Nat.zero_le _, rfl, ⟨[], rfl, own_nil _ _ _ _⟩, Frm.refl _ _⟩
  case round =>
    obtain ⟨k, hk, rfl, ⟨L, HL, HW⟩, HF⟩ := hrel
    by_cases hlt : k < rs.length
    · obtain ⟨r, hr⟩ : ∃ r, rs[k]? = some r := ⟨_, List.getElem?_eq_getElem hlt⟩
      obtain ⟨e0, e1, e2, e3, e4⟩ := (HV.out.below HF.out).rec_ hr
      have HR := Lib.hid hr
      have hok := HO.out.1 r (List.mem_of_getElem? hr)
      clear hr
      obtain ⟨re, rsq, rc, ru, rv, rds⟩ := r
      obtain ⟨ra, rcap, hrv⟩ := hok.1.shape
      dsimp only at hrv
      subst hrv
      have HOK := Lib.hid hok
      clear hok
      dsimp only at e0 e1 e2 e3 e4
      obtain ⟨xa, xc, rfl⟩ := own_shape HW.out
      have hla := joinLen k rs HO.out.2.1 HR.out
      rw [HL.out] at hla
      dsimp only at hla
      have HLA := Lib.hid hla
      have hrel' : Hid ((rs.take (k + 1)).flatMap Rc.ds = L ++ rds) := by
        show _ = _
        rw [List.take_add_one, HR.out, List.flatMap_append, HL.out]; simp
      clear hla
      -- what the round does behind the test
      have fin : ∀ (W W1 : World) (v' : Value), Frm no wr W → W1.ownsRow w.heap.size 39 5 v' (L ++ rds).length ((L ++ rds).flatMap eD) → W.grownBy W1 (Value.slice xa L.length xc).ownBlock → Frm no w W1 := by
        intro W W1 v' h _ hg
        exact (HF.out.trans_no h).grown hg (fun i hi e => by have := own_block HW.out i e; omega)
      have HFin := Lib.hid fin
      clear fin
      have hbk := blk_new wr (.cells #[.int .i64 re, .int .i64 rsq, .bool rc, .int .i64 ru, .slice ra rds.length rcap] 24)
      have hfw : Frm no wr (wr.alloc (.cells #[.int .i64 re, .int .i64 rsq, .bool rc, .int .i64 ru, .slice ra rds.length rcap] 24)) := (Frm.refl _ _).alloc _
      have hsz : wr.heap.size < (wr.alloc (.cells #[.int .i64 re, .int .i64 rsq, .bool rc, .int .i64 ru, .slice ra rds.length rcap] 24)).heap.size := by simp
      have HBK := Lib.hid (And.intro hbk (And.intro hfw hsz))
      clear hbk hfw hsz
      by_cases hk0 : k = 0
      · have hk0' : (k : Int) ≤ 0 := by omega
        have hd1 : decide (0 < k) = false := by simp; omega
        have hd2 : decide ((0 : Int) < k) = false := by simp; omega
        clear hk0 hk0'
        go_wp2
        generalize wr.alloc (.cells #[.int .i64 re, .int .i64 rsq, .bool rc, .int .i64 ru, .slice ra rds.length rcap] 24) = W at HBK ⊢
        obtain ⟨b0, b1, b2, b3, b4⟩ := blk5 HBK.out.1
        go_quiet (fail)
        go_wp2_with (at_builtin; refine wpList_app _ rfl _ _ 22 rfl w.heap.size 39 i0 (Dl.v ⟨0, 0, 0, 0, 0⟩) 5 40 Tryd.underlying22 hi hz0 hz1 hz2 rfl (by decide) eD_len eD_one _ L rfl ?_ _ rds rfl ((HOK.out.1.below (HF.out.trans_no HBK.out.2.1)).below ((Frm.refl _ _).drewN _)) ?_ ?_ ?_ ?_)
        · exact own_frm HW.out (HBK.out.2.1.drewN _) (fun _ _ h => h)
        · have := HLA.out; unfold maxLen; omega
        · exact HLA.out
        · have h1 := HF.out.size; have h2 := HBK.out.2.2; simp; omega
        · intro v' w1 ho hg
          have HG := Lib.hid (HFin.out _ w1 v' (HBK.out.2.1.drewN _) (by rw [List.length_append, List.flatMap_append]; exact ho) hg)
          have HO1 := Lib.hid ho
          clear ho hg
          go_wp2
          go_roundw
          case rel => exact ⟨k + 1, hlt, by go_num, ⟨_, hrel', by rw [List.length_append, List.flatMap_append]; exact HO1.out⟩, HG⟩
          case measure => simp [intOf]; omega
      · obtain ⟨j, rfl⟩ : ∃ j, k = j + 1 := ⟨k - 1, by omega⟩
        obtain ⟨q, hq⟩ : ∃ q, rs[j]? = some q := ⟨_, List.getElem?_eq_getElem (by omega)⟩
        obtain ⟨f0, f1, f2, f3, f4⟩ := ((HV.out.below HF.out).below HBK.out.2.1).rec_ hq
        have hgo := HO.out.2.2.1 j q ⟨re, rsq, rc, ru, .slice ra rds.length rcap, rds⟩ hq HR.out
        have hokq := HO.out.1 q (List.mem_of_getElem? hq)
        clear hq
        obtain ⟨qe, qs, qc, qu, qv, qds⟩ := q
        obtain ⟨qa, qcap, hqv⟩ := hokq.1.shape
        dsimp only at hqv
        subst hqv
        dsimp only at f0 f1 f2 f3 f4
        have hcall := Lib.hid (fun W (h : Frm no wr W) => goesOn_yes ⟨qe, qs, qc, qu, .slice qa qds.length qcap, qds⟩ ⟨re, rsq, rc, ru, .slice ra rds.length rcap, rds⟩ W ⟨hokq.1.below (HF.out.trans_no h), hokq.2⟩ ⟨HOK.out.1.below (HF.out.trans_no h), HOK.out.2⟩ hgo)
        clear hk0 hgo hokq
        go_wp2
        generalize wr.alloc (.cells #[.int .i64 re, .int .i64 rsq, .bool rc, .int .i64 ru, .slice ra rds.length rcap] 24) = W at HBK f0 f1 f2 f3 f4 ⊢
        obtain ⟨b0, b1, b2, b3, b4⟩ := blk5 HBK.out.1
        refine wp_region_tail 9 (by kernel_rfl) (by kernel_rfl) ?_
        simp only [List.take_succ_cons, List.take_zero, List.drop_succ_cons, List.drop_zero]
        have hjj : IntKind.i64.wrap (j : Int) = j := IntWalk.i64_in _ (by omega)
        have hjl : (j : Int) < rs.length := by omega
        have hj0 : (0 : Int) ≤ j := by omega
        have hd3 : decide (0 < j + 1) = true := decide_eq_true (by omega)
        have hd4 : decide ((0 : Int) < (j : Int) + 1) = true := decide_eq_true (by omega)
        repeat still_step
        refine wpStill_nil ?_
        go_wp2_with (first | (go_at_call 51; refine (hcall.out _ HBK.out.2.1.drew).mono ?_; rintro e w2 ⟨v2, rfl, rfl, hf2⟩; obtain ⟨d0, d1, d2, d3, d4⟩ := blk5 (blk_frm HBK.out.1 (Frm.drew (Frm.refl no W) |>.trans_no hf2) (fun h => h))) | (at_builtin; refine wpList_app _ rfl _ _ 22 rfl w.heap.size 39 i0 (Dl.v ⟨0, 0, 0, 0, 0⟩) 5 40 Tryd.underlying22 hi hz0 hz1 hz2 rfl (by decide) eD_len eD_one _ L rfl ?_ _ rds rfl (HOK.out.1.below (((HF.out.trans_no HBK.out.2.1).drew).trans_no hf2)) ?_ ?_ ?_ ?_))
        · exact own_frm HW.out ((HBK.out.2.1.drew).trans_no hf2) (fun _ _ h => h)
        · have := HLA.out; unfold maxLen; omega
        · exact HLA.out
        · have h1 := HF.out.size; have h2 := HBK.out.2.2; have h3 := hf2.size; simp at h3; omega
        · intro v' w1 ho hg
          have HG := Lib.hid (HFin.out _ w1 v' ((HBK.out.2.1.drew).trans_no hf2) (by rw [List.length_append, List.flatMap_append]; exact ho) hg)
          have HO1 := Lib.hid ho
          clear ho hg
          go_wp2
          go_roundw
          case rel => exact ⟨j + 1 + 1, hlt, by go_num, ⟨_, hrel', by rw [List.length_append, List.flatMap_append]; exact HO1.out⟩, HG⟩
          case measure => simp [intOf]; omega
    · obtain rfl : k = rs.length := by omega
      have hl1 := HL.out
      rw [List.take_length] at hl1
      obtain ⟨b, hb, hbc⟩ := HO.out.2.2.2
      rw [List.getLast?_eq_getElem?] at hb
      obtain ⟨e0, e1, e2, e3, e4⟩ := (HV.out.below HF.out).rec_ hb
      rw [hbc] at e2
      clear e0 e1 e3 e4 hb hbc
      obtain ⟨xa, xc, rfl⟩ := own_shape HW.out
      have hne' : ((rs.length : Int) == 0) = false := beq_eq_false_iff_ne.2 (by omega)
      go_wp2
      refine bodyPost_ret (results_tmp2 rfl _ _ _) rfl ?_
      refine ⟨_, rfl, _, rfl, ?_, HF.out⟩
      rw [hl1]
      exact Sl.of_owns (by decide) eD_len HW.out

end Go.Proofs.YtgbcmkkbhbkfeaaDoor
