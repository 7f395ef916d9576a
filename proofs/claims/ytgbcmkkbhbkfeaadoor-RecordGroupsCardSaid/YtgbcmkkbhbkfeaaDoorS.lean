/- Group: deltas as records. -/
import Derived.Test.YtgbcmkkbhbkfeaaDoorProg
import Derived.Test.YtgbcmkkbhbkfeaaDoorR
namespace Go.Proofs.YtgbcmkkbhbkfeaaDoor
open Go Go.RowKit

theorem within_is {n l m : Int} {b : Bool} (h : wi n l m = b) (w : World) :
    Calls Tryd.prog 33 #[.int .i64 n, .int .i64 l, .int .i64 m] w fun e w' => e = .returned (.bool b) ∧ w' = w :=
  (within_any n l m w).mono (by rintro e w' ⟨rfl, rfl⟩; rw [h]; exact ⟨rfl, rfl⟩)
theorem needs_is {n k : Int} (h : needs n = k) (hn : n ≤ 9223372036854775807) (w : World) :
    Calls Tryd.prog 20 #[.int .i64 n] w fun e w' => e = .returned (.int .i64 k) ∧ w' = w :=
  (needs_any n w hn).mono (by rintro e w' ⟨rfl, rfl⟩; rw [h]; exact ⟨rfl, rfl⟩)

/-- the records of deltas -/
def groupN (n : Nat) : Nat := max 1 ((n + 5) / 6)
def groupL (ds : List Dl) (ep sq up : Int) : List RcD := (List.range (groupN ds.length)).map fun (k : Nat) => (ep, sq + (k : Int), k + 1 == groupN ds.length, up, ckL ds k)

/-- append of what a slice shows onto a row of the call's own: what is new is of one cell each -/
theorem wpList_app1 {α : Type} {enc : α → List Value} {P : Program} (w : World) {ops : Array Oper} {rest : List Oper} {o : Oper} {a : Act} {Q : Exit → Act → World → Prop} (hgd : o.guard = none) (s x : Operand) (t : TypeId)
    (ho : o.op = .call { callee := .builtin .append, args := #[s, x], argTypes := #[t, t] })
    (base : Nat) (e : TypeId) (i : TypeInfo) (z : Value) (size bytes : Nat) (ht : P.underlying t = some (.slice e)) (hi : P.info? e = some i) (hz : i.zero = some z)
    (hsize : i.size = size) (hby : i.bytes = bytes) (hzs : z.cells.size = size) (hsz : 0 < size) (hl : ∀ x, (enc x).length = size)
    (v : Value) (xs : List α) (hs : a.eval s = v) (hown : w.ownsRow base e size v xs.length (xs.flatMap enc))
    (u : Value) (news : List α) (h1 : ∀ x ∈ news, ∀ u ∈ enc x, u.oneCell' = true) (hx : a.eval x = u) (hu : Sl enc size w u news)
    (h63 : xs.length + news.length ≤ maxLen) (hbytes : (xs.length + news.length) * bytes ≤ 140737488355328) (hbase : base ≤ w.heap.size)
    (h : ∀ v' w', w'.ownsRow base e size v' (xs ++ news).length ((xs ++ news).flatMap enc) → w.grownBy w' v.ownBlock → wpList P ops Q rest (a.put o.dst v') w') : wpList P ops Q (o :: rest) a w := by
  rcases hu with ⟨rfl, rfl⟩ | ⟨g, off, c, rfl, h2, h3, h4, h5⟩
  · exact wpList_append_own_none hgd s x t ho base e i size ht hi v xs.length (xs.flatMap enc) hs hown hx (h v w (by simpa using hown) (World.grownBy.refl _ _))
  · refine wpList_append_own w hgd s x t ho base e i z size bytes ht hi hz hsize hby hzs hsz v xs.length (xs.flatMap enc) hs hown ⟨g, off, none⟩ news.length c (news.flatMap enc) hx (flatMap_length enc size hl news) ?_ ?_ h63 hbytes hbase ?_
    · intro j u hu
      obtain ⟨x, hx, hu'⟩ := flatMap_split enc size hsz hl news j u hu
      have := h5 _ x _ u hx hu'
      rw [Nat.mul_comm, Nat.div_add_mod] at this
      rw [Addr.add_lit]; exact this
    · intro u hu
      obtain ⟨x, hx0, hx⟩ := List.mem_flatMap.1 hu
      exact h1 x hx0 u hx
    · intro v' w' ho' hg' _
      exact h v' w' (by rw [List.length_append, List.flatMap_append]; exact ho') hg'

theorem blk_kept {A B : World} {row : Option Nat} {k t : Nat} {cs : Array Value} {fr : Nat × Nat} (h : A.heap[k]? = some (.cells cs t fr)) (hg : A.grownBy B row) (hr : ∀ r, row = some r → ∃ o : Obj, A.heap[r]? = some o ∧ o.isCells = false) : B.heap[k]? = some (.cells cs t fr) := by
  refine (hg.block k (blk_lt h) fun e => ?_).trans h
  obtain ⟨o, ho, hc⟩ := hr k e.symm
  rw [h] at ho
  cases ho
  cases hc
theorem Sl.kept {α : Type} {enc : α → List Value} {sz : Nat} {A B : World} {row : Option Nat} {v : Value} {xs : List α} (h : Sl enc sz A v xs) (hg : A.grownBy B row) (hr : ∀ r, row = some r → ∃ o : Obj, A.heap[r]? = some o ∧ o.isCells = false) : Sl enc sz B v xs := by
  rcases h with h | ⟨g, off, c, h1, h2, h3, h4, h5⟩
  · exact .inl h
  · exact .inr ⟨g, off, c, h1, h2, h3, Nat.lt_of_lt_of_le h4 hg.size, fun k x j u hx hu => cell_kept (h5 k x j u hx hu) hg hr⟩
theorem own_kept {A B : World} {row : Option Nat} {base e sz n : Nat} {v : Value} {xs : List Value} (h : A.ownsRow base e sz v n xs) (hg : A.grownBy B row) (hr : ∀ r, row = some r → ∃ o : Obj, A.heap[r]? = some o ∧ o.isCells = false) : B.ownsRow base e sz v n xs := by
  refine h.kept hg ?_
  cases hb : v.ownBlock with
  | none => exact .inl rfl
  | some k =>
    refine .inr fun e' => ?_
    obtain ⟨_, cs, hk⟩ := own_blk h k hb
    obtain ⟨o, ho, hc⟩ := hr k e'.symm
    rw [hk] at ho
    cases ho
    cases hc
theorem KeepsOthers.of_frm {S : Nat → Prop} {A B : World} (h : Frm S A B) (hS : ∀ k o, S k → A.heap[k]? = some o → o.isCells = true) : KeepsOthers A B :=
  ⟨h.size, fun k o hk ho => by
    by_cases hs : S k
    · have := hS k o hs hk
      rw [ho] at this
      cases this
    · exact blk_frm hk h hs⟩

/-- what holds between two rounds of Group's loop: the records so far -/
structure GI (ep sq up : Int) (ds : List Dl) (Bo : Nat) (W0 : World) (pre : List Nat) (W : World) (vo : Value) (rs : List Rc) : Prop where
  box : W.heap[Bo]? = some (.cells #[vo] 42 (0, 0))
  row : W.ownsRow W0.heap.size 24 5 vo rs.length (rs.flatMap eR)
  len : rs.length = pre.length
  dat : ∀ (j : Nat) (r : Rc), rs[j]? = some r → ∃ x, pre[j]? = some x ∧ r.d = (ep, sq + (j : Int), false, up, ckL ds x)
  sl : ∀ r ∈ rs, Sl eD 5 W r.v r.ds
  far : ∀ r ∈ rs, ∀ k, r.v.ownBlock = some k → W0.heap.size ≤ k ∧ ∃ cs, W.heap[k]? = some (.cells cs 39 (0, 0))
  frm : Frm (· = Bo) W0 W
theorem GI.own {ep sq up : Int} {ds : List Dl} {Bo : Nat} {W0 : World} : OwnFrom W0.heap.size fun (pre : List Nat) W => ∃ vo rs, GI ep sq up ds Bo W0 pre W vo rs := by
  rintro pre A B row ⟨vo, rs, h⟩ hg hr
  have hr' := fun r e => (hr r e).2
  refine ⟨vo, rs, blk_kept h.box hg hr', own_kept h.row hg hr', h.len, h.dat, fun r hm => (h.sl r hm).kept hg hr', fun r hm k hk => ?_, h.frm.grown hg (fun k hk e => absurd (hr k e).1 (Nat.not_le.2 hk))⟩
  obtain ⟨h1, cs, h2⟩ := h.far r hm k hk
  exact ⟨h1, cs, blk_kept h2 hg hr'⟩

/-- one round: the clone, the record, the append, the store into the box -/
theorem GI.step {ep sq up : Int} {ds : List Dl} {Bo : Nat} {W0 W w3 w4 : World} {pre : List Nat} {vo v3 v4 : Value} {rs : List Rc} {x : Nat} (h : GI ep sq up ds Bo W0 pre W vo rs) (hBo : Bo < W0.heap.size)
    (h3 : w3.ownsRow W.heap.size 39 5 v3 (ckL ds x).length ((ckL ds x).flatMap eD)) (f3 : Frm no W w3) (o : Obj)
    (h4 : w4.ownsRow W0.heap.size 24 5 v4 (rs ++ [(⟨ep, sq + (rs.length : Int), false, up, v3, ckL ds x⟩ : Rc)]).length ((rs ++ [(⟨ep, sq + (rs.length : Int), false, up, v3, ckL ds x⟩ : Rc)]).flatMap eR)) (hg : (w3.alloc o).grownBy w4 vo.ownBlock) :
    GI ep sq up ds Bo W0 (pre ++ [x]) (w4.setCell ⟨Bo, 0, none⟩ v4) v4 (rs ++ [(⟨ep, sq + (rs.length : Int), false, up, v3, ckL ds x⟩ : Rc)]) ∧
      Frm (fun k => k = Bo ∨ some k = vo.ownBlock) W (w4.setCell ⟨Bo, 0, none⟩ v4) := by
  have hW : W0.heap.size ≤ W.heap.size := h.frm.size
  have hne : ∀ k, some k = vo.ownBlock → W0.heap.size ≤ k ∧ ∃ cs, W.heap[k]? = some (.cells cs 24 (0, 0)) := fun k e => own_blk h.row k e.symm
  have F4 : Frm (fun k => k = Bo ∨ some k = vo.ownBlock) W w4 := ((f3.alloc o).mono (fun _ _ h => h.elim)).grown hg (fun k _ e => .inr e.symm)
  have F5 : Frm (fun k => k = Bo ∨ some k = vo.ownBlock) W (w4.setCell ⟨Bo, 0, none⟩ v4) := F4.setCell (p := ⟨Bo, 0, none⟩) (fun _ => .inl rfl) _
  have FB : Frm (· = Bo) w4 (w4.setCell ⟨Bo, 0, none⟩ v4) := (Frm.refl (· = Bo) w4).setCell (p := ⟨Bo, 0, none⟩) (fun _ => rfl) _
  have hb4 : w4.heap[Bo]? = some (.cells #[vo] 42 (0, 0)) := by
    refine (hg.block Bo (Nat.lt_of_lt_of_le (blk_lt h.box) (Nat.le_trans f3.size (by simp))) fun e => ?_).trans (blk_alloc (blk_frm h.box f3 (fun h => h)) o)
    have := (hne Bo e).1
    omega
  have hv3 := own_blk h3
  refine ⟨⟨?_, ?_, by simp [h.len], ?_, ?_, ?_, ?_⟩, F5⟩
  · have := blk_set hb4 0 v4
    simpa using this
  · exact own_frm h4 FB (fun k hk (e : k = Bo) => by have := own_block h4 k hk; omega)
  · intro j r hj
    by_cases hlt : j < rs.length
    · rw [List.getElem?_append_left hlt] at hj
      obtain ⟨y, hy, hd⟩ := h.dat j r hj
      exact ⟨y, by rw [List.getElem?_append_left (by rw [← h.len]; exact hlt)]; exact hy, hd⟩
    · rw [List.getElem?_append_right (Nat.le_of_not_lt hlt)] at hj
      have hj0 : j - rs.length = 0 := by
        rcases Nat.eq_zero_or_pos (j - rs.length) with h | h
        · exact h
        · rw [List.getElem?_eq_none (by simp only [List.length_singleton]; omega)] at hj; cases hj
      rw [hj0] at hj
      simp only [List.getElem?_cons_zero, Option.some.injEq] at hj
      subst hj
      have : j = rs.length := by omega
      subst this
      exact ⟨x, by rw [List.getElem?_append_right (by rw [h.len]; exact Nat.le_refl _), h.len]; simp, rfl⟩
  · intro r hm
    rcases List.mem_append.1 hm with hm | hm
    · refine (h.sl r hm).frm F5 (fun k hk e => ?_)
      obtain ⟨h1, cs, h2⟩ := h.far r hm k hk
      rcases e with e | e
      · omega
      · obtain ⟨_, cs', h3⟩ := hne k e
        rw [h2] at h3
        simp at h3
    · simp only [List.mem_singleton] at hm
      subst hm
      have hs3 : Sl eD 5 w3 v3 (ckL ds x) := Sl.of_owns (by decide) eD_len h3
      have F34 : Frm (fun k => k < W.heap.size) w3 (w4.setCell ⟨Bo, 0, none⟩ v4) :=
        (((Frm.refl (fun k => k < W.heap.size) w3).alloc o).grown hg (fun k _ e => blk_lt (hne k e.symm).2.choose_spec)).setCell (p := ⟨Bo, 0, none⟩) (fun _ => blk_lt h.box) _
      exact hs3.frm F34 (fun k hk e => by have := (hv3 k hk).1; omega)
  · intro r hm k hk
    rcases List.mem_append.1 hm with hm | hm
    · obtain ⟨h1, cs, h2⟩ := h.far r hm k hk
      refine ⟨h1, cs, blk_frm h2 F5 (fun e => ?_)⟩
      rcases e with e | e
      · omega
      · obtain ⟨_, cs', h3⟩ := hne k e
        rw [h2] at h3
        simp at h3
    · simp only [List.mem_singleton] at hm
      subst hm
      obtain ⟨h1, cs, h2⟩ := hv3 k hk
      refine ⟨by omega, cs, ?_⟩
      have F34 : Frm (fun k => k < W.heap.size) w3 (w4.setCell ⟨Bo, 0, none⟩ v4) :=
        (((Frm.refl (fun k => k < W.heap.size) w3).alloc o).grown hg (fun k _ e => blk_lt (hne k e.symm).2.choose_spec)).setCell (p := ⟨Bo, 0, none⟩) (fun _ => blk_lt h.box) _
      exact blk_frm h2 F34 (fun e => by omega)
  · exact h.frm.trans F5 (fun i hi e => e.elim id (fun e => absurd (hne i e).1 (Nat.not_le.2 hi)))

theorem Sl.commit {w : World} {g off n c : Nat} {rs : List Rc} {k : Nat} {r : Rc} (h : Sl eR 5 w (.slice (some ⟨g, off, none⟩) n c) rs) (hk : rs[k]? = some r) :
    Sl eR 5 (w.setCell ⟨g, off + (k * 5 + 2), none⟩ (.bool true)) (.slice (some ⟨g, off, none⟩) n c) (rs.set k { r with c := true }) := by
  have hc := (h.rec_ hk).2.2.1
  rcases h with ⟨h, _⟩ | ⟨g', off', c', h, h1, h2, h3, h4⟩
  · simp at h
  · simp only [Value.slice.injEq, Option.some.injEq, Addr.mk.injEq, and_true] at h
    obtain ⟨⟨rfl, rfl⟩, rfl, rfl⟩ := h
    refine .inr ⟨g, off, c, by simp, by simpa using h1, h2, by simpa using h3, fun k' x j u hx hu => ?_⟩
    by_cases hkk : k' = k
    · subst hkk
      rw [List.getElem?_set_self (by exact (List.getElem?_eq_some_iff.1 hk).1)] at hx
      simp only [Option.some.injEq] at hx
      subst hx
      by_cases hj : j = 2
      · subst hj
        have hu' : Value.bool true = u := by simpa [eR] using hu
        rw [← hu']
        exact World.cell?_setCell_same' _ _ _ (by rw [← Nat.add_assoc, hc]; rfl)
      · have hne : (⟨g, off + (k' * 5 + 2), none⟩ : Addr) ≠ ⟨g, off + (k' * 5 + j), none⟩ := by
          simp only [ne_eq, Addr.mk.injEq, and_true, true_and]; omega
        rw [World.cell?_setCell_other _ _ _ _ hne]
        refine h4 k' r j u hk ?_
        rcases j with _ | _ | _ | _ | _ | j <;> first | exact hu | exact absurd rfl hj
    · rw [List.getElem?_set_ne (Ne.symm hkk)] at hx
      have hj5 : j < 5 := by
        rcases Nat.lt_or_ge j 5 with h | h
        · exact h
        · rw [List.getElem?_eq_none (by rw [eR_len]; exact h)] at hu; cases hu
      have hne : (⟨g, off + (k * 5 + 2), none⟩ : Addr) ≠ ⟨g, off + (k' * 5 + j), none⟩ := by
        simp only [ne_eq, Addr.mk.injEq, and_true, true_and]; omega
      rw [World.cell?_setCell_other _ _ _ _ hne]
      exact h4 k' x j u hx hu

theorem ckL_len (ds : List Dl) (k : Nat) : (ckL ds k).length ≤ 6 := by
  unfold ckL ckM
  simp only [List.length_take, List.length_drop]
  omega

/-- Group's end: the last record is marked -/
theorem GI.fin {ep sq up : Int} {ds : List Dl} {Bo : Nat} {w W0 W : World} {rs : List Rc} {gr k1 xc D : Nat} {r : Rc} (h : GI ep sq up ds Bo W0 (List.range (groupN ds.length)) W (.slice (some ⟨gr, 0, none⟩) (k1 + 1) xc) rs)
    (hk1 : rs.length = k1 + 1) (hr : rs[k1]? = some r) (hN : groupN ds.length = k1 + 1) (hD : W0.heap.size ≤ D) (hK : W.heap[D]? = some (.deferred (some []))) (F0 : Frm no w W0) (hw : w.heap.size ≤ Bo) :
    Sl eR 5 ((W.setCell ⟨gr, k1 * 5 + 2, none⟩ (.bool true)).putObj D (.deferred none)) (.slice (some ⟨gr, 0, none⟩) (k1 + 1) xc) (rs.set k1 { r with c := true }) ∧
    (∀ q ∈ rs.set k1 { r with c := true }, q.ok ((W.setCell ⟨gr, k1 * 5 + 2, none⟩ (.bool true)).putObj D (.deferred none))) ∧ (rs.set k1 { r with c := true }).map Rc.d = groupL ds ep sq up ∧
    Frm no w ((W.setCell ⟨gr, k1 * 5 + 2, none⟩ (.bool true)).putObj D (.deferred none)) := by
  have hgb := own_blk h.row gr rfl
  have hsl : Sl eR 5 W (.slice (some ⟨gr, 0, none⟩) (k1 + 1) xc) rs := Sl.of_owns (by decide) eR_len (by have := h.row; exact this)
  have hcm := hsl.commit hr
  rw [Nat.zero_add] at hcm
  have hK' := (KeepsOthers.setCell W ⟨gr, k1 * 5 + 2, none⟩ (.bool true)).same D _ hK rfl
  have hg := grownBy_putObj' (W.setCell ⟨gr, k1 * 5 + 2, none⟩ (.bool true)) D (.deferred none)
  have hrow : ∀ r, some D = some r → ∃ o : Obj, (W.setCell ⟨gr, k1 * 5 + 2, none⟩ (.bool true)).heap[r]? = some o ∧ o.isCells = false := fun r e => by
    cases e
    exact ⟨_, hK', rfl⟩
  have FS : Frm (· = gr) W (W.setCell ⟨gr, k1 * 5 + 2, none⟩ (.bool true)) := (Frm.refl (· = gr) W).setCell (p := ⟨gr, k1 * 5 + 2, none⟩) (fun _ => rfl) _
  have one : ∀ q ∈ rs, Sl eD 5 ((W.setCell ⟨gr, k1 * 5 + 2, none⟩ (.bool true)).putObj D (.deferred none)) q.v q.ds ∧ q.ds.length ≤ 6 := fun q hq => by
    refine ⟨((h.sl q hq).frm FS (fun k hk (e : k = gr) => ?_)).kept hg hrow, ?_⟩
    · obtain ⟨_, cs, h1⟩ := h.far q hq k hk
      obtain ⟨_, cs', h2⟩ := hgb
      subst e
      rw [h1] at h2
      simp at h2
    · obtain ⟨j, hj⟩ := List.getElem?_of_mem hq
      obtain ⟨x, _, hd⟩ := h.dat j q hj
      have : q.ds = ckL ds x := congrArg (fun t => t.2.2.2.2) hd
      rw [this]
      exact ckL_len ds x
  refine ⟨hcm.kept hg hrow, fun q hq => ?_, ?_, ?_⟩
  · rcases List.mem_or_eq_of_mem_set hq with hq | rfl
    · exact ⟨(one q hq).1, Nat.le_trans (one q hq).2 (by decide)⟩
    · have hm := List.mem_of_getElem? hr
      exact ⟨(one r hm).1, Nat.le_trans (one r hm).2 (by decide)⟩
  · apply List.ext_getElem?
    intro j
    unfold groupL
    rw [List.getElem?_map, List.getElem?_map]
    by_cases hj : j < k1 + 1
    · obtain ⟨q, hq⟩ : ∃ q, rs[j]? = some q := ⟨_, List.getElem?_eq_getElem (by omega)⟩
      obtain ⟨x, hx, hd⟩ := h.dat j q hq
      rw [List.getElem?_range (by omega)] at hx ⊢
      simp only [Option.some.injEq] at hx
      subst hx
      by_cases hjk : j = k1
      · subst hjk
        rw [List.getElem?_set_self (by omega)]
        rw [hr] at hq
        simp only [Option.some.injEq] at hq
        subst hq
        simp only [Rc.d, Prod.mk.injEq] at hd
        obtain ⟨h1, h2, h3, h4, h5⟩ := hd
        simp [Rc.d, h1, h2, h4, h5, hN]
      · rw [List.getElem?_set_ne (Ne.symm hjk), hq]
        have : (j + 1 == groupN ds.length) = false := by rw [beq_eq_false_iff_ne]; omega
        simp [hd, this]
    · rw [List.getElem?_eq_none (by rw [List.length_set]; omega), List.getElem?_eq_none (by rw [List.length_range]; omega)]
      rfl
  · have F1 : Frm no w W := F0.trans h.frm (fun i hi (e : i = Bo) => by omega)
    have F2 : Frm no w (W.setCell ⟨gr, k1 * 5 + 2, none⟩ (.bool true)) := F1.setCell (p := ⟨gr, k1 * 5 + 2, none⟩) (fun hlt => by have h0 : gr < w.heap.size := hlt; have h1 := hgb.1; have h2 := F0.size; exact absurd h0 (by omega)) _
    exact F2.grown hg (fun k hk e => by cases e; have := F0.size; omega)

end Go.Proofs.YtgbcmkkbhbkfeaaDoor
