/- The law of RecordGroups. -/
import Derived.Test.YtgbcmkkbhbkfeaaDoorProg
import Derived.Test.YtgbcmkkbhbkfeaaDoorRG
import Derived.Test.YtgbcmkkbhbkfeaaDoorGB
import Derived.Test.YtgbcmkkbhbkfeaaDoorRD
import Derived.Test.YtgbcmkkbhbkfeaaDoorU
import Derived.Deep.DeepCutAuto
namespace Go.Proofs.YtgbcmkkbhbkfeaaDoor
open Go Go.RowKit

def rgtN (ds : List Dl) (ep sq up : Int) : Bool := wi sq 0 (1099511627776 - needs ds.length + 1) && wi ep 1 2147483648 && wi up 0 1099511627776
def GR (ds : List Dl) (ep sq up : Int) (R : Bool) (w' : World) (u : Value) (er : Int) (rs : List Rc) : Prop :=
  Sl eR 5 w' u rs ∧ (R = true → er = 0 ∧ (∀ r ∈ rs, r.ok w') ∧ rs.map Rc.d = groupL ds ep sq up) ∧ (R = false → er = 1 ∧ rs = [])
theorem group_any (v : Value) (ds : List Dl) (ep sq up : Int) (w : World) (hl : ds.length ≤ 6000) (hv : Sl eD 5 w v ds) :
    Calls Tryd.prog 19 #[v, .int .i64 ep, .int .i64 sq, .int .i64 up] w (Ret fun v' w' => ∃ u er rs, v' = .tuple #[u, .int .i64 er] ∧ Hid (GR ds ep sq up (rgtN ds ep sq up && ds.all mayD) w' u er rs) ∧ Frm no w w') := by
  have bad : ∀ {R : Bool}, R = false → Calls Tryd.prog 19 #[v, .int .i64 ep, .int .i64 sq, .int .i64 up] w (Ret fun v' w' => v' = .tuple #[.slice none 0 0, .int .i64 1] ∧ Frm no w w') →
      Calls Tryd.prog 19 #[v, .int .i64 ep, .int .i64 sq, .int .i64 up] w (Ret fun v' w' => ∃ u er rs, v' = .tuple #[u, .int .i64 er] ∧ Hid (GR ds ep sq up R w' u er rs) ∧ Frm no w w') := by
    rintro R rfl h
    refine h.mono ?_
    rintro e w' ⟨_, rfl, rfl, hf⟩
    exact ⟨_, rfl, _, _, [], rfl, ⟨Sl.nil _ _ _, (fun h => by cases h), fun _ => ⟨rfl, rfl⟩⟩, hf⟩
  have hc : rgtN ds ep sq up = (wi ep 1 2147483648 && wi sq 0 (1099511627776 - needs ds.length + 1) && wi up 0 1099511627776) := by
    unfold rgtN; cases wi ep 1 2147483648 <;> cases wi sq 0 (1099511627776 - needs ds.length + 1) <;> rfl
  rw [hc]
  cases hr : (wi ep 1 2147483648 && wi sq 0 (1099511627776 - needs ds.length + 1) && wi up 0 1099511627776)
  · exact bad (Bool.false_and _) (group_bad1 v ds ep sq up w hl hv hr)
  · simp only [Bool.and_eq_true] at hr
    cases hm : ds.all mayD
    · exact bad (Bool.and_false _) (group_bad2 v ds ep sq up w hl hv hm hr.1.1 hr.1.2 hr.2)
    · refine (group_ok v ds ep sq up w hl hv hm hr.1.1 hr.1.2 hr.2).mono ?_
      rintro e w' ⟨_, rfl, u, rs, rfl, h1, h2, h3, hf⟩
      exact ⟨_, rfl, _, _, rs, rfl, ⟨h1, fun _ => ⟨rfl, h2, h3⟩, (fun h => by cases h)⟩, hf⟩

/-- the records of deltas, joined, are the deltas; each goes on behind the one ahead -/
theorem ck_flat (ds : List Dl) : ∀ k, ((List.range k).map fun j => ckL ds j).flatten = ds.take (6 * k)
  | 0 => by simp
  | k + 1 => by
    rw [List.range_succ, List.map_append, List.flatten_append, ck_flat ds k]
    simp only [List.map_cons, List.map_nil, List.flatten_cons, List.flatten_nil, List.append_nil]
    unfold ckL ckM ckI
    rcases Nat.le_total (6 * k) ds.length with h | h
    · rw [Nat.min_eq_left h]
      apply List.ext_getElem?
      intro i
      rw [List.getElem?_append]
      simp only [List.length_take, List.getElem?_take, List.getElem?_drop]
      split
      · rename_i h1
        rw [if_pos (by omega), if_pos (by omega)]
      · rename_i h1
        by_cases h2 : i < ds.length
        · rw [show 6 * k + (i - min (6 * k) ds.length) = i by omega]
          by_cases h3 : i < 6 * (k + 1)
          · rw [if_pos (by omega), if_pos h3]
          · rw [if_neg (by omega), if_neg h3]
        · have h4 : ds[6 * k + (i - min (6 * k) ds.length)]? = none := List.getElem?_eq_none (by omega)
          have h5 : ds[i]? = none := List.getElem?_eq_none (by omega)
          rw [h4, h5]
          simp
    · rw [Nat.min_eq_right h, List.drop_length, List.take_of_length_le (by omega : ds.length ≤ 6 * k), List.take_of_length_le (by omega : ds.length ≤ 6 * (k + 1))]
      simp
theorem flat_ds {rs : List Rc} {ds : List Dl} {ep sq up : Int} (h : rs.map Rc.d = groupL ds ep sq up) : rs.flatMap Rc.ds = ds := by
  have h1 : rs.map Rc.ds = (groupL ds ep sq up).map (fun x => x.2.2.2.2) := by
    rw [← h, List.map_map]; rfl
  have h2 : rs.flatMap Rc.ds = (rs.map Rc.ds).flatten := by rw [List.flatMap]
  rw [h2, h1]
  unfold groupL
  rw [List.map_map]
  have h3 := ck_flat ds (groupN ds.length)
  have h4 : ds.take (6 * groupN ds.length) = ds := List.take_of_length_le (by unfold groupN; omega)
  rw [h4] at h3
  exact h3
theorem d_at {rs : List Rc} {ds : List Dl} {ep sq up : Int} (h : rs.map Rc.d = groupL ds ep sq up) {k : Nat} {r : Rc} (hr : rs[k]? = some r) : k < groupN ds.length ∧ r.d = (ep, sq + (k : Int), k + 1 == groupN ds.length, up, ckL ds k) := by
  have h1 : (rs.map Rc.d)[k]? = some r.d := by rw [List.getElem?_map, hr]; rfl
  rw [h] at h1
  unfold groupL at h1
  rw [List.getElem?_map] at h1
  rcases Nat.lt_or_ge k (groupN ds.length) with hlt | hge
  · rw [List.getElem?_range hlt] at h1
    simp only [Option.map_some, Option.some.injEq] at h1
    exact ⟨hlt, h1.symm⟩
  · rw [List.getElem?_eq_none (by simpa using hge)] at h1; cases h1
theorem go_on {rs : List Rc} {ds : List Dl} {ep sq up : Int} (h : rs.map Rc.d = groupL ds ep sq up) (k : Nat) (a b : Rc) (ha : rs[k]? = some a) (hb : rs[k + 1]? = some b) : goB a b = true := by
  obtain ⟨h1, e1⟩ := d_at h ha
  obtain ⟨h2, e2⟩ := d_at h hb
  obtain ⟨ae, as', ac, au, av, ads⟩ := a
  obtain ⟨be, bs', bc, bu, bv, bds⟩ := b
  simp only [Rc.d, Prod.mk.injEq] at e1 e2
  obtain ⟨rfl, rfl, rfl, rfl, rfl⟩ := e1
  obtain ⟨rfl, rfl, rfl, rfl, rfl⟩ := e2
  have hl : (ckL ds k).length = 6 := by
    unfold groupN at h2
    unfold ckL ckM ckI
    simp only [List.length_take, List.length_drop]
    omega
  have hc : (k + 1 == groupN ds.length) = false := by rw [beq_eq_false_iff_ne]; omega
  unfold goB
  dsimp only
  rw [hl, hc]
  have hs : sq + ((k + 1 : Nat) : Int) - (sq + (k : Int)) = 1 := by omega
  rw [hs]
  simp only [Bool.not_false, beq_self_eq_true, Bool.true_and, Bool.and_eq_true, decide_eq_true_eq]
  exact ⟨by omega, by simp [wrap64]⟩
theorem last_c {rs : List Rc} {ds : List Dl} {ep sq up : Int} (h : rs.map Rc.d = groupL ds ep sq up) : ∃ b, rs.getLast? = some b ∧ b.c = true := by
  have hlen : rs.length = groupN ds.length := by have := congrArg List.length h; simpa [groupL] using this
  have hpos : 0 < groupN ds.length := by unfold groupN; omega
  obtain ⟨b, hb⟩ : ∃ b, rs[rs.length - 1]? = some b := ⟨_, List.getElem?_eq_getElem (by omega)⟩
  refine ⟨b, by rw [List.getLast?_eq_getElem?]; exact hb, ?_⟩
  obtain ⟨_, e⟩ := d_at h hb
  have := congrArg (fun x => x.2.2.1) e
  have h2 : b.c = (rs.length - 1 + 1 == groupN ds.length) := this
  rw [h2, beq_iff_eq]; omega

theorem sameR_of_d' {r q : Rc} (h : r.d = q.d) : sameR r q = true := by
  obtain ⟨e, s, c, u, v, ds⟩ := r
  obtain ⟨e', s', c', u', v', ds'⟩ := q
  simp only [Rc.d, Prod.mk.injEq] at h
  obtain ⟨rfl, rfl, rfl, rfl, rfl⟩ := h
  simp [sameR]
theorem groups_long (v : Value) (ds : List Dl) (ep sq up : Int) (w : World) (hv : Sl eD 5 w v ds) (hn : Nibs w) (hl : 300 < ds.length) :
    Calls Tryd.prog 6 #[v, .int .i64 ep, .int .i64 sq, .int .i64 up] w fun e w' => e = .returned (.bool true) ∧ Frm no w w' := by
  obtain ⟨a, c, rfl⟩ := hv.shape
  have hL := Lib.hid (lives_any _ hn)
  have hl' : (300 : Int) < ds.length := by omega
  clear hv hn hl
  go_enter Tryd.func6, Tryd.ntmps6
  go_wp2_with (go_at_call 8; refine hL.out.mono ?_; rintro e w1 ⟨rfl, hf⟩)
  go_ret
  exact ⟨rfl, hf⟩

set_option maxRecDepth 100000 in
set_option maxHeartbeats 3000000 in
theorem groups_short (v : Value) (ds : List Dl) (ep sq up : Int) (w : World) (hv : Sl eD 5 w v ds) (hn : Nibs w) (hl : ds.length ≤ 300) :
    Calls Tryd.prog 6 #[v, .int .i64 ep, .int .i64 sq, .int .i64 up] w fun e w' => e = .returned (.bool true) ∧ Frm no w w' := by
  have HV := Lib.hid (fun W (h : Frm no w W) => hv.below h)
  have HN := Lib.hid hn
  have HL := Lib.hid hl
  obtain ⟨a, c, rfl⟩ := hv.shape
  obtain ⟨i0, hi, hz0, hz1, hz2⟩ := info_parts info_delta
  have hown0 : (w.alloc (.cells #[] 39)).ownsRow w.heap.size 39 5 (.slice (some ⟨w.heap.size, 0, none⟩) 0 0) ([] : List Dl).length (([] : List Dl).flatMap eD) :=
    ⟨rfl, .inr ⟨w.heap.size, 0, #[], rfl, Nat.le_refl _, heap_alloc_new w _, Nat.le_refl _, Nat.zero_le _, rfl, rfl⟩⟩
  have HW0 := Lib.hid hown0
  have hl' : (ds.length : Int) ≤ 300 := by omega
  clear hown0 hv hn
  go_enter Tryd.func6, Tryd.ntmps6
  go_wp2_with (at_builtin; refine wpList_app _ rfl _ _ 22 rfl w.heap.size 39 i0 (Dl.v ⟨0, 0, 0, 0, 0⟩) 5 40 Tryd.underlying22 hi hz0 hz1 hz2 rfl (by decide) eD_len eD_one _ ([] : List Dl) rfl HW0.out _ ds rfl (HV.out _ ((Frm.refl no w).alloc _)) ?_ ?_ ?_ ?_)
  · unfold maxLen; simp; omega
  · simp; omega
  · simp
  intro v1 w1 ho1 hg1
  have hf1 : Frm no w w1 := ((Frm.refl no w).alloc (.cells #[] 39)).grown hg1 (fun k hk e => by simp [Value.ownBlock] at e; omega)
  have hs1 : Sl eD 5 w1 v1 ds := Sl.of_owns (by decide) eD_len ho1
  have HS1 := Lib.hid (fun W (h : Frm no w1 W) => hs1.below h)
  obtain ⟨a1, c1, rfl⟩ := hs1.shape
  have HF1 := Lib.hid hf1
  obtain ⟨R, hR⟩ : ∃ R, Hid (rgtN ds ep sq up = R) := ⟨_, rfl⟩
  have hgr := Lib.hid (group_any (.slice a1 ds.length c1) ds ep sq up w1 (by omega) hs1)
  rw [hR.out] at hgr
  clear ho1 hg1 hf1 hs1 HW0
  go_upto_region 5 with (go_at_call 19; refine hgr.out.mono ?_; rintro e w2 ⟨_, rfl, u, er, rs, rfl, hg2, hf2⟩; obtain ⟨ua, uc, rfl⟩ := hg2.out.1.shape)
  have HF2 := Lib.hid hf2
  have hL := Lib.hid (lives_any w2 (HN.out.below (HF1.out.trans_no hf2)))
  have hsd := Lib.hid (fun W (h : Frm no w2 W) => (by
    have h1 := sameDs_any (.slice a1 ds.length c1) (.slice a ds.length c) ds ds W (by have := HL.out; omega) (HS1.out W (HF2.out.trans_no h)) (HV.out W ((HF1.out.trans_no HF2.out).trans_no h))
    rw [decide_eq_true rfl] at h1
    exact h1 : Calls Tryd.prog 22 #[.slice a1 ds.length c1, .slice a ds.length c] W (Ret fun v' w' => v' = .bool true ∧ ∃ d, w' = W.drewN d)))
  obtain ⟨nd, hnd⟩ : ∃ nd : Int, Hid (needs ds.length = nd) := ⟨_, rfl⟩
  have hnd0 : 0 ≤ nd ∧ nd ≤ 1001 := by rw [← hnd.out]; unfold needs; split <;> (try split) <;> omega
  have hn1 := Lib.hid (fun W => needs_any ds.length W (by have := HL.out; omega))
  have hn2 := Lib.hid (fun W => refNeeds_any ds.length W (by have := HL.out; omega))
  rw [hnd.out] at hn1 hn2
  clear hf2 hgr
  go_upto_region 7 with (first
    | (go_at_call 8; refine hL.out.mono ?_; rintro e w3 ⟨rfl, hf3⟩)
    | (go_at_call 20; refine (hn1.out _).mono ?_; rintro e w' ⟨rfl, rfl⟩)
    | (go_at_call 21; refine (hn2.out _).mono ?_; rintro e w' ⟨rfl, rfl⟩)
    | (go_at_call 22; refine (hsd.out _ hf3).mono ?_; rintro e w' ⟨_, rfl, rfl, dd, rfl⟩))
  obtain ⟨W4, hW4⟩ : ∃ W4, w3.drewN dd = W4 := ⟨_, rfl⟩
  have HF4 : Hid (Frm no w2 W4) := by show Frm _ _ _; rw [← hW4]; exact hf3.drewN _
  try rw [hW4]
  clear hf3 hW4 hsd hL hn1
  have hR2 : Hid ((wi sq 0 (1099511627776 - nd + 1) && wi ep 1 2147483648 && wi up 0 1099511627776) = R) := by
    show _ = _
    rw [← hR.out, ← hnd.out]; rfl
  go_cut [12] (fun s12 wx => s12 = .bool R ∧ wx = W4)
  case first =>
    go_wp2_with (go_at_call 21; refine (hn2.out _).mono ?_; rintro e w' ⟨rfl, rfl⟩)
    all_goals
      go_meet
      refine ⟨?_, rfl⟩
      rw [← hR2.out]
      simp only [wi, Value.bool.injEq]
      first
        | (rw [Bool.eq_iff_iff]; simp; omega)
        | (simp; omega)
        | trace_state
  case rest =>
  obtain ⟨rfl, hw⟩ := hcut
  replace hw := hw.symm
  subst hw
  go_wp2_with fail
  go_loopw [12, 13] (fun r i wr => ∃ k : Nat, k ≤ ds.length ∧ i = .int .i64 k ∧ (∃ b, r = .bool b ∧ Hid ((R && (ds.take k).all mayD) = b)) ∧ Hid (Frm no W4 wr)) (fun _ i _ => ds.length - (intOf i).toNat)
  case atStart => exact ⟨0, Nat.zero_le _, rfl, ⟨_, rfl, by show _ = _; simp⟩, Frm.refl _ _⟩
  case round =>
    obtain ⟨k, hk, rfl, ⟨b, rfl, HB⟩, HR⟩ := hrel
    by_cases hlt : k < ds.length
    · obtain ⟨d, hd⟩ : ∃ d, ds[k]? = some d := ⟨_, List.getElem?_eq_getElem hlt⟩
      have hsn : Hid ((R && (ds.take (k + 1)).all mayD) = (b && mayD d)) := by
        show _ = _
        rw [List.take_add_one, hd, ← HB.out, List.all_append]
        simp [Bool.and_assoc]
      cases b
      · clear hd
        go_wp2
        go_roundw
        case rel => exact ⟨k + 1, hlt, by go_num, ⟨_, rfl, hsn⟩, HR⟩
        case measure => simp [intOf]; omega
      · have hsl := HV.out wr (((HF1.out.trans_no HF2.out).trans_no HF4.out).trans_no HR.out)
        obtain ⟨g, off, rfl⟩ : ∃ g off, a = some ⟨g, off, none⟩ := by
          rcases hsl with ⟨h, h0⟩ | ⟨g, off, c', h, _⟩
          · rw [h0] at hlt; simp at hlt
          · simp at h; exact ⟨_, _, h.1⟩
        obtain ⟨e0, e1, e2, e3, e4⟩ := hsl.delta hd
        have hm := Lib.hid (fun w => refMayDelta_any d w)
        clear hsl hd
        obtain ⟨dk, da, dn, dz, dO⟩ := d
        unfold Dl.v at hm
        go_wp2_with (go_at_call 17; refine (hm.out wr).mono ?_; rintro e w5 ⟨rfl, hf5⟩)
        go_roundw
        case rel => exact ⟨k + 1, hlt, by go_num, ⟨_, rfl, hsn⟩, HR.out.trans_no hf5⟩
        case measure => simp [intOf]; omega
    · obtain rfl : k = ds.length := by omega
      rw [List.take_length] at HB
      have HG := hg2.out
      rw [HB.out] at HG
      have HFA := Lib.hid ((HF1.out.trans_no HF2.out).trans_no (HF4.out.trans_no HR.out))
      have HF2R := Lib.hid (HF4.out.trans_no HR.out)
      cases b
      · obtain ⟨h1, h2⟩ := HG.2.2 rfl
        subst h1
        subst h2
        simp only [List.length_nil] at *
        go_wp2_with fail
        go_ret
        exact ⟨rfl, HFA.out⟩
      · obtain ⟨h1, h2, h3⟩ := HG.2.1 rfl
        subst h1
        have hRt : R = true := by have := HB.out; simp only [Bool.and_eq_true] at this; exact this.1
        have hsq : 0 ≤ sq ∧ sq ≤ 1099511627776 := by
          have h := hR2.out
          rw [hRt] at h
          have hn1 : 1 ≤ nd := by rw [← hnd.out]; unfold needs; split <;> (try split) <;> omega
          simp [wi] at h
          omega
        have HU := Lib.hid (And.intro HG.1 (And.intro h2 h3))
        have hrg := Lib.hid (refGroup_ok (.slice a ds.length c) ds ep sq up wr HL.out (HV.out wr HFA.out) hsq)
        clear h2 h3 HG hsq hRt hg2 HF1 HF4
        go_wp2_with (go_at_call 23; refine hrg.out.mono ?_; rintro e w6 ⟨v6, rfl, qs, hq6, hok6, hmap6, hf6⟩; obtain ⟨qa, qc, rfl⟩ := hq6.shape; have hql : qs.length = rs.length := (by have h1 := congrArg List.length hmap6; have h2 := congrArg List.length HU.out.2.2; simp at h1 h2; omega); rw [hql])
        have HQ := Lib.hid (And.intro hq6 (And.intro hok6 hmap6))
        have HF6 := Lib.hid hf6
        have hjo := Lib.hid (fun W (h : Frm no wr W) => (by
          have hfl := flat_ds HU.out.2.2
          have h1 := join_ok (.slice ua rs.length uc) rs W (by have := congrArg List.length HU.out.2.2; simp [groupL, groupN] at this; have := HL.out; omega) ((HU.out.1.below HF2R.out).below h) (fun r hr => ⟨(((HU.out.2.1 r hr).1.below HF2R.out).below h), (HU.out.2.1 r hr).2⟩) (by rw [hfl]; have := HL.out; omega) (go_on HU.out.2.2) (last_c HU.out.2.2)
          rw [hfl] at h1
          exact h1 : Calls Tryd.prog 24 #[.slice ua rs.length uc] W (Ret fun v' w' => ∃ u, v' = .tuple #[u, .bool true] ∧ Sl eD 5 w' u ds ∧ Frm no W w')))
        have hsj := Lib.hid (fun u W (hu : Sl eD 5 W u ds) (h : Frm no wr W) => (by
          have h1 := sameDs_any u (.slice a ds.length c) ds ds W (by have := HL.out; omega) hu (HV.out W (HFA.out.trans_no h))
          rw [decide_eq_true rfl] at h1
          exact h1 : Calls Tryd.prog 22 #[u, .slice a ds.length c] W (Ret fun v' w' => v' = .bool true ∧ ∃ d, w' = W.drewN d)))
        have hrl : rs.length ≤ 51 := by have h1 := congrArg List.length HU.out.2.2; simp [groupL, groupN] at h1; have := HL.out; omega
        clear hq6 hok6 hmap6 hf6 hrg
        obtain ⟨wo, rfl⟩ : ∃ wo : World, wo = wr := ⟨_, rfl⟩
        go_wp2_with fail
        go_loopw [15] (fun i wk => ∃ j : Nat, j ≤ rs.length ∧ i = .int .i64 j ∧ Hid (Frm no w6 wk)) (fun i _ => rs.length - (intOf i).toNat)
        case atStart => exact ⟨0, Nat.zero_le _, rfl, Frm.refl _ _⟩
        case round =>
          obtain ⟨j, hj, rfl, HK⟩ := hrel
          by_cases hlj : j < rs.length
          · obtain ⟨r, hr⟩ : ∃ r, rs[j]? = some r := ⟨_, List.getElem?_eq_getElem hlj⟩
            obtain ⟨q, hq⟩ : ∃ q, qs[j]? = some q := ⟨_, List.getElem?_eq_getElem (by omega)⟩
            have FW : Frm no wo wr := HF6.out.trans_no HK.out
            have hsr := (HU.out.1.below HF2R.out).below FW
            have hsq := HQ.out.1.below HK.out
            obtain ⟨g1, o1, rfl⟩ : ∃ g off, ua = some ⟨g, off, none⟩ := by
              rcases hsr with ⟨h, h0⟩ | ⟨g, off, c', h, _⟩
              · rw [h0] at hlj; simp at hlj
              · simp at h; exact ⟨_, _, h.1⟩
            obtain ⟨g2, o2, rfl⟩ : ∃ g off, qa = some ⟨g, off, none⟩ := by
              rcases hsq with ⟨h, h0⟩ | ⟨g, off, c', h, _⟩
              · rw [h0] at hq; simp at hq
              · simp at h; exact ⟨_, _, h.1⟩
            obtain ⟨x0, x1, x2, x3, x4⟩ := hsr.rec_ hr
            obtain ⟨y0, y1, y2, y3, y4⟩ := (show Sl eR 5 wr (.slice (some ⟨g2, o2, none⟩) rs.length qc) qs by rw [← hql]; exact hsq).rec_ hq
            have hsm : sameR r q = true := sameR_of_d' ((d_at HU.out.2.2 hr).2.trans (d_at HQ.out.2.2 hq).2.symm)
            have hokr := HU.out.2.1 r (List.mem_of_getElem? hr)
            have hokq := HQ.out.2.1 q (List.mem_of_getElem? hq)
            have cS := Lib.hid (fun d os => quiet_of (by
              have h := refSameR_any r q (Sort.grow (redrawn wr d) os) ⟨((hokr.1.below HF2R.out).below FW).below (grow_frm wr d os), hokr.2⟩ ⟨(hokq.1.below HK.out).below (grow_frm wr d os), hokq.2⟩
              rw [hsm] at h; exact h))
            obtain ⟨re, rsq, rc, ru, rv, rds⟩ := r
            obtain ⟨qe, qsq, qc', qu, qv, qds⟩ := q
            dsimp only at x0 x1 x2 x3 x4 y0 y1 y2 y3 y4
            dsimp only [Rc.val] at cS
            have p0 := fun d os => cell_regrown x0 d os
            have p1 := fun d os => cell_regrown x1 d os
            have p2 := fun d os => cell_regrown x2 d os
            have p3 := fun d os => cell_regrown x3 d os
            have p4 := fun d os => cell_regrown x4 d os
            have q0 := fun d os => cell_regrown y0 d os
            have q1 := fun d os => cell_regrown y1 d os
            have q2 := fun d os => cell_regrown y2 d os
            have q3 := fun d os => cell_regrown y3 d os
            have q4 := fun d os => cell_regrown y4 d os
            clear x0 x1 x2 x3 x4 y0 y1 y2 y3 y4 hsr hsq hokr hokq hsm hr hq FW
            go_wp2
            refine wp_region_quiet_below (by kernel_rfl) (by kernel_rfl) ?_
            repeat (quiet_step ((go_at_call 14; exact cS.out _ _)))
            refine wpQuiet_nil ?_
            intro _ hw'
            obtain ⟨⟨dq, osq⟩, hw''⟩ := hw'
            subst hw''
            go_wp2
            go_roundw
            case rel => exact ⟨j + 1, hlj, by go_num, HK.out.trans_no (grow_frm wr dq osq)⟩
            case measure => simp [intOf]; omega
          · obtain rfl : j = rs.length := by omega
            go_wp2_with (first
              | (go_at_call 24; refine (hjo.out _ (HF6.out.trans_no HK.out)).mono ?_; rintro e w8 ⟨_, rfl, u8, rfl, hu8, hf8⟩; obtain ⟨a8, c8, rfl⟩ := hu8.shape)
              | (go_at_call 22; refine (hsj.out _ _ hu8 ((HF6.out.trans_no HK.out).trans_no hf8)).mono ?_; rintro e w9 ⟨_, rfl, rfl, d9, rfl⟩))
            go_ret
            exact ⟨rfl, (((HFA.out.trans_no HF6.out).trans_no HK.out).trans_no hf8).drewN _⟩

theorem groups_law (v : Value) (ds : List Dl) (ep sq up : Int) (w : World) (hv : Sl eD 5 w v ds) (hn : Nibs w) :
    Calls Tryd.prog 6 #[v, .int .i64 ep, .int .i64 sq, .int .i64 up] w fun e w' => e = .returned (.bool true) ∧ Frm no w w' := by
  by_cases hl : 300 < ds.length
  · exact groups_long v ds ep sq up w hv hn hl
  · exact groups_short v ds ep sq up w hv hn (by omega)

end Go.Proofs.YtgbcmkkbhbkfeaaDoor
