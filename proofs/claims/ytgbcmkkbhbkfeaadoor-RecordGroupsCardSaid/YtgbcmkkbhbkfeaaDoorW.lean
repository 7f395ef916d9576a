/- General words over any program: what a slice's value shows of memory, what a call leaves alone, and the walk's laws for append, copy and make in that form. -/
import Derived.WalkKit
import Derived.WalkSpells
import Derived.Laws.AppendOwnNone
import Derived.Laws.CopyOwn
import Derived.Deep.Draws
import Derived.Lib.Hide
import Derived.ScopeJumps
import Derived.StillTailTactics
import Derived.Laws.StructEq
namespace Go.Proofs.YtgbcmkkbhbkfeaaDoor
open Go Go.RowKit

/-- a call that comes back with a value of which R tells -/
def Ret (R : Value → World → Prop) (e : Ending) (w : World) : Prop := ∃ v, e = .returned v ∧ R v w

/-- a region that draws its order: reads, and then a tail in one order -/
theorem wp_region_tail {P : Program} {a : Act} {w : World} {Q : Exit → Act → World → Prop} {id : Nat} {l : List Oper} (n : Nat) (hm : P.follows .mixedOrders = true) (hB : Region.lexTailB .any l.toArray n = true)
    (h : wpStill P l.toArray w.drew (fun a' => wpList P l.toArray Q (l.drop n) a' w.drew) (l.take n) a) : (Code.region id l.toArray true).wp P Q a w :=
  wp_region_still_tail n hm hB h
/-- a scope with one label that lies ahead: the goto goes on with what stands behind the label -/
theorem wp_scope_fwd {P : Program} {a : Act} {w : World} {Q : Exit → Act → World → Prop} {c rest : Code} (l : Nat) (hf : findLabel c l = some rest)
    (h : c.wp P (Exit.jump l (fun a w => rest.wp P (Exit.noGoto Q) a w) Q) a w) : (Code.scope c).wp P Q a w :=
  wp_scope_jumps l _ (fun _ _ => 0) hf h fun _ _ hJ => Code.wp_mono (fun e a w q => by cases e <;> first | exact q | exact q.elim) hJ
theorem jump_ret {l : Nat} {J : Act → World → Prop} {Q : Exit → Act → World → Prop} {a : Act} {w : World} : Exit.jump l J Q .ret a w = Q .ret a w := rfl
theorem jump_goto {l : Nat} {J : Act → World → Prop} {Q : Exit → Act → World → Prop} {a : Act} {w : World} : Exit.jump l J Q (.goto l) a w = (l = l ∧ J a w) := rfl

/-- below w's end all blocks but those of S are as they were -/
structure Frm (S : Nat → Prop) (w w' : World) : Prop where
  os : w'.os = w.os
  tape : w'.tape = w.tape
  output : w'.output = w.output
  size : w.heap.size ≤ w'.heap.size
  block : ∀ k, k < w.heap.size → ¬ S k → w'.heap[k]? = w.heap[k]?

def no (_ : Nat) : Prop := False

theorem Frm.refl (S : Nat → Prop) (w : World) : Frm S w w := ⟨rfl, rfl, rfl, Nat.le_refl _, fun _ _ _ => rfl⟩
theorem Frm.trans {S T : Nat → Prop} {a b c : World} (h : Frm S a b) (k : Frm T b c) (hT : ∀ i, i < a.heap.size → T i → S i) : Frm S a c :=
  ⟨k.os.trans h.os, k.tape.trans h.tape, k.output.trans h.output, Nat.le_trans h.size k.size,
    fun i hi hs => (k.block i (Nat.lt_of_lt_of_le hi h.size) (fun ht => hs (hT i hi ht))).trans (h.block i hi hs)⟩
theorem Frm.trans_no {S : Nat → Prop} {a b c : World} (h : Frm S a b) (k : Frm no b c) : Frm S a c := h.trans k (fun _ _ h => h.elim)
theorem Frm.mono {S T : Nat → Prop} {a b : World} (h : Frm S a b) (hT : ∀ i, i < a.heap.size → S i → T i) : Frm T a b :=
  ⟨h.os, h.tape, h.output, h.size, fun i hi ht => h.block i hi fun hs => ht (hT i hi hs)⟩
theorem Frm.drew {S : Nat → Prop} {a w : World} (h : Frm S a w) : Frm S a w.drew := ⟨h.os, h.tape, h.output, h.size, h.block⟩
theorem Frm.drewN {S : Nat → Prop} {a w : World} (h : Frm S a w) (n : Nat) : Frm S a (w.drewN n) := ⟨h.os, h.tape, h.output, h.size, h.block⟩
theorem Frm.alloc {S : Nat → Prop} {a w : World} (h : Frm S a w) (o : Obj) : Frm S a (w.alloc o) :=
  h.trans (T := no) ⟨rfl, rfl, rfl, by simp, fun k hk _ => Below.heap_alloc _ _ _ hk⟩ (fun _ _ h => h.elim)
theorem Frm.setCell {S : Nat → Prop} {a w : World} (h : Frm S a w) {p : Addr} (hp : p.block < a.heap.size → S p.block) (u : Value) : Frm S a (w.setCell p u) :=
  h.trans (T := fun k => k = p.block) ⟨rfl, rfl, rfl, by simp [World.setCell], fun k _ hk => Below.heap_setCell _ _ _ _ hk⟩ (fun i hi e => by subst e; exact hp hi)
theorem Frm.grown {S : Nat → Prop} {a w w' : World} {row : Option Nat} (h : Frm S a w) (hg : w.grownBy w' row) (hr : ∀ k, k < a.heap.size → row = some k → S k) : Frm S a w' :=
  h.trans (T := fun k => row = some k) ⟨hg.os, hg.tape, hg.output, hg.size, fun k hk hn => hg.block k hk (fun e => hn e.symm)⟩ hr
theorem Frm.of_below {w w' : World} (h : Below w.heap.size w w') : Frm no w w' := ⟨h.os, h.tape, h.output, h.size, fun k hk _ => h.block k hk⟩
theorem Frm.below {w w' : World} (h : Frm no w w') : Below w.heap.size w w' := ⟨h.os, h.tape, h.output, h.size, fun k hk => h.block k hk (fun h => h)⟩
theorem Frm.cell {S : Nat → Prop} {w w' : World} (h : Frm S w w') {p : Addr} (hp : p.block < w.heap.size) (hs : ¬ S p.block) : w'.cell? p = w.cell? p := World.cell?_of_block (h.block _ hp hs)
theorem Frm.frozen {S : Nat → Prop} {w w' : World} (h : Frm S w w') {p : Addr} (hp : p.block < w.heap.size) (hs : ¬ S p.block) : w'.frozen? p = w.frozen? p := World.frozen?_of_block (h.block _ hp hs)
theorem Frm.cell_is {S : Nat → Prop} {w w' : World} (h : Frm S w w') {p : Addr} {v : Value} (hs : ¬ S p.block) (hc : w.cell? p = some v) : w'.cell? p = some v := by
  have : p.block < w.heap.size := by
    rcases Nat.lt_or_ge p.block w.heap.size with h | h
    · exact h
    · simp [World.cell?, Array.getElem?_eq_none h] at hc
  rw [h.cell this hs]; exact hc

theorem cell_lt {w : World} {p : Addr} {v : Value} (hc : w.cell? p = some v) : p.block < w.heap.size := by
  rcases Nat.lt_or_ge p.block w.heap.size with h | h
  · exact h
  · simp [World.cell?, Array.getElem?_eq_none h] at hc

/-- the slice's value v shows xs in w: an element has sz cells, enc tells them -/
def Sl {α : Type} (enc : α → List Value) (sz : Nat) (w : World) (v : Value) (xs : List α) : Prop :=
  (v = .slice none 0 0 ∧ xs = []) ∨
  ∃ g off c, v = .slice (some ⟨g, off, none⟩) xs.length c ∧ xs.length ≤ c ∧ c ≤ maxLen ∧ g < w.heap.size ∧
    ∀ k x j u, xs[k]? = some x → (enc x)[j]? = some u → w.cell? ⟨g, off + (k * sz + j), none⟩ = some u

theorem Sl.nil {α : Type} (enc : α → List Value) (sz : Nat) (w : World) : Sl enc sz w (.slice none 0 0) [] := .inl ⟨rfl, rfl⟩

theorem Sl.frm {α : Type} {enc : α → List Value} {sz : Nat} {w w' : World} {v : Value} {xs : List α} {S : Nat → Prop} (h : Sl enc sz w v xs) (hf : Frm S w w') (hs : ∀ k, v.ownBlock = some k → ¬ S k) : Sl enc sz w' v xs := by
  rcases h with h | ⟨g, off, c, rfl, h1, h2, h3, h4⟩
  · exact .inl h
  · refine .inr ⟨g, off, c, rfl, h1, h2, Nat.lt_of_lt_of_le h3 hf.size, fun k x j u hx hu => ?_⟩
    rw [hf.cell h3 (hs g rfl)]
    exact h4 k x j u hx hu

theorem Sl.below {α : Type} {enc : α → List Value} {sz : Nat} {w w' : World} {v : Value} {xs : List α} (h : Sl enc sz w v xs) (hf : Frm no w w') : Sl enc sz w' v xs := h.frm hf (fun _ _ h => h)

theorem Sl.same {α : Type} {enc : α → List Value} {sz : Nat} {w w' : World} {v : Value} {xs : List α} (h : Sl enc sz w v xs) (hc : ∀ p, w'.cell? p = w.cell? p) (hs : w.heap.size ≤ w'.heap.size) : Sl enc sz w' v xs := by
  rcases h with h | ⟨g, off, c, rfl, h1, h2, h3, h4⟩
  · exact .inl h
  · exact .inr ⟨g, off, c, rfl, h1, h2, Nat.lt_of_lt_of_le h3 hs, fun k x j u hx hu => by rw [hc]; exact h4 k x j u hx hu⟩

theorem flatMap_getElem? {α : Type} (enc : α → List Value) (sz : Nat) (hl : ∀ x, (enc x).length = sz) : ∀ (xs : List α) (k j : Nat), j < sz → (xs.flatMap enc)[k * sz + j]? = (xs[k]?).bind fun x => (enc x)[j]?
  | [], k, j, _ => by simp
  | x :: xs, k, j, hj => by
    cases k with
    | zero =>
      simp only [List.flatMap_cons, Nat.zero_mul, Nat.zero_add, List.getElem?_cons_zero, Option.bind_some]
      rw [List.getElem?_append_left (by rw [hl]; exact hj)]
    | succ k =>
      simp only [List.flatMap_cons, List.getElem?_cons_succ]
      rw [List.getElem?_append_right (by rw [hl, Nat.succ_mul]; omega), hl, show (k + 1) * sz + j - sz = k * sz + j by rw [Nat.succ_mul]; omega]
      exact flatMap_getElem? enc sz hl xs k j hj

theorem flatMap_length {α : Type} (enc : α → List Value) (sz : Nat) (hl : ∀ x, (enc x).length = sz) : ∀ xs : List α, (xs.flatMap enc).length = xs.length * sz
  | [] => by simp
  | x :: xs => by simp only [List.flatMap_cons, List.length_append, hl, List.length_cons, flatMap_length enc sz hl xs, Nat.succ_mul]; omega

theorem flatMap_split {α : Type} (enc : α → List Value) (sz : Nat) (hsz : 0 < sz) (hl : ∀ x, (enc x).length = sz) (xs : List α) (j : Nat) (u : Value) (h : (xs.flatMap enc)[j]? = some u) :
    ∃ x, xs[j / sz]? = some x ∧ (enc x)[j % sz]? = some u := by
  have h1 := flatMap_getElem? enc sz hl xs (j / sz) (j % sz) (Nat.mod_lt _ hsz)
  rw [Nat.mul_comm, Nat.div_add_mod] at h1
  rw [h1] at h
  exact Option.bind_eq_some_iff.1 h

/-- a row of the call's own shows its elements -/
theorem Sl.of_owns {α : Type} {enc : α → List Value} {sz : Nat} (_hsz : 0 < sz) (hl : ∀ x, (enc x).length = sz) {w : World} {base e : Nat} {v : Value} {xs : List α} (h : w.ownsRow base e sz v xs.length (xs.flatMap enc)) : Sl enc sz w v xs := by
  rcases h with ⟨_, ⟨rfl, h0⟩ | ⟨g, cap, cur, rfl, _, hg, hnc, hcm, hcs, htake⟩⟩
  · exact .inl ⟨rfl, List.eq_nil_of_length_eq_zero h0⟩
  · refine .inr ⟨g, 0, cap, rfl, hnc, hcm, ?_, fun k x j u hx hu => ?_⟩
    · rcases Nat.lt_or_ge g w.heap.size with h | h
      · exact h
      · simp [Array.getElem?_eq_none h] at hg
    · have hj : j < sz := by have := (List.getElem?_eq_some_iff.1 hu).1; rw [hl] at this; exact this
      have hk : k < xs.length := (List.getElem?_eq_some_iff.1 hx).1
      have hkn : k * sz + j < xs.length * sz := by
        have : (k + 1) * sz ≤ xs.length * sz := Nat.mul_le_mul_right _ hk
        rw [Nat.succ_mul] at this; omega
      have h1 := flatMap_getElem? enc sz hl xs k j hj
      rw [hx, Option.bind_some, hu, ← htake, List.getElem?_take, if_pos hkn] at h1
      rw [Nat.zero_add, cell_of_row w g _ cur e (0, 0) hg]
      simpa using h1

theorem Sl.spec {α : Type} {enc : α → List Value} {sz : Nat} (hsz : 0 < sz) (hl : ∀ x, (enc x).length = sz) {w : World} {g off n c : Nat} {xs : List α} (h : Sl enc sz w (.slice (some ⟨g, off, none⟩) n c) xs) :
    n = xs.length ∧ n ≤ c ∧ c ≤ maxLen ∧ g < w.heap.size ∧ ∀ j u, (xs.flatMap enc)[j]? = some u → w.cell? ⟨g, off + j, none⟩ = some u := by
  rcases h with ⟨h, _⟩ | ⟨g', off', c', h, h1, h2, h3, h4⟩
  · simp at h
  · simp only [Value.slice.injEq, Option.some.injEq, Addr.mk.injEq, and_true] at h
    obtain ⟨⟨rfl, rfl⟩, rfl, rfl⟩ := h
    refine ⟨rfl, h1, h2, h3, fun j u hu => ?_⟩
    obtain ⟨x, hx, hu'⟩ := flatMap_split enc sz hsz hl xs j u hu
    have := h4 _ x _ u hx hu'
    rwa [Nat.mul_comm, Nat.div_add_mod] at this

theorem Sl.nil_iff {α : Type} {enc : α → List Value} {sz : Nat} {w : World} {n c : Nat} {xs : List α} (h : Sl enc sz w (.slice none n c) xs) : n = 0 ∧ c = 0 ∧ xs = [] := by
  rcases h with ⟨h, rfl⟩ | ⟨g', off', c', h, _⟩
  · simp at h; exact ⟨h.1, h.2, rfl⟩
  · simp at h

theorem Sl.shape {α : Type} {enc : α → List Value} {sz : Nat} {w : World} {v : Value} {xs : List α} (h : Sl enc sz w v xs) : ∃ a c, v = .slice a xs.length c := by
  rcases h with ⟨rfl, rfl⟩ | ⟨g, off, c, rfl, _⟩
  · exact ⟨_, _, rfl⟩
  · exact ⟨_, _, rfl⟩
theorem Sl.lt {α : Type} {enc : α → List Value} {sz : Nat} {w : World} {v : Value} {xs : List α} (h : Sl enc sz w v xs) {k : Nat} (hk : v.ownBlock = some k) : k < w.heap.size := by
  rcases h with ⟨rfl, rfl⟩ | ⟨g, off, c, rfl, _, _, h, _⟩
  · simp [Value.ownBlock] at hk
  · simp [Value.ownBlock] at hk
    omega
theorem Sl.cap {α : Type} {enc : α → List Value} {sz : Nat} {w : World} {a : Option Addr} {n c : Nat} {xs : List α} (h : Sl enc sz w (.slice a n c) xs) : n = xs.length ∧ n ≤ c := by
  rcases h with ⟨h, rfl⟩ | ⟨g, off, c, h, h2, _, _, _⟩
  · simp at h; simp; omega
  · simp at h; omega
theorem own_shape {w : World} {base e sz n : Nat} {v : Value} {xs : List Value} (h : w.ownsRow base e sz v n xs) : ∃ a c, v = .slice a n c := by
  rcases h with ⟨_, ⟨rfl, rfl⟩ | ⟨g, cap, cur, rfl, _⟩⟩
  · exact ⟨_, _, rfl⟩
  · exact ⟨_, _, rfl⟩
theorem own_block {w : World} {base e sz n : Nat} {v : Value} {xs : List Value} (h : w.ownsRow base e sz v n xs) : ∀ k, v.ownBlock = some k → base ≤ k := by
  rcases h with ⟨_, ⟨rfl, rfl⟩ | ⟨g, cap, cur, rfl, hg, _⟩⟩
  · simp [Value.ownBlock]
  · intro k hk
    simp [Value.ownBlock] at hk
    omega

theorem own_frm {w w' : World} {S : Nat → Prop} {base e sz n : Nat} {v : Value} {xs : List Value} (h : w.ownsRow base e sz v n xs) (hf : Frm S w w') (hs : ∀ k, v.ownBlock = some k → ¬ S k) : w'.ownsRow base e sz v n xs := by
  rcases h with ⟨h1, h | ⟨g, cap, cur, rfl, hb, hg, h2⟩⟩
  · exact ⟨h1, .inl h⟩
  · refine ⟨h1, .inr ⟨g, cap, cur, rfl, hb, ?_, h2⟩⟩
    have : g < w.heap.size := by
      rcases Nat.lt_or_ge g w.heap.size with h | h
      · exact h
      · simp [Array.getElem?_eq_none h] at hg
    rw [hf.block g this (hs g rfl)]
    exact hg
theorem own_type {w : World} {base e sz n : Nat} {v : Value} {xs : List Value} (h : w.ownsRow base e sz v n xs) {g t : Nat} {cs : Array Value} {fr : Nat × Nat} (hg : w.heap[g]? = some (.cells cs t fr)) (ht : t ≠ e) : ∀ k, v.ownBlock = some k → k ≠ g := by
  rcases h with ⟨h1, ⟨rfl, _⟩ | ⟨g', cap, cur, rfl, hb, hg', h2⟩⟩
  · simp [Value.ownBlock]
  · intro k hk e'
    simp only [Value.ownBlock, Option.some.injEq] at hk
    subst hk
    subst e'
    rw [hg'] at hg
    injection hg with hg
    injection hg with _ h
    exact ht h.symm
theorem own_base {w : World} {base base' e sz n : Nat} {v : Value} {xs : List Value} (h : w.ownsRow base e sz v n xs) (hb : base' ≤ base) : w.ownsRow base' e sz v n xs := by
  rcases h with ⟨h1, h | ⟨g, cap, cur, rfl, hb', h2⟩⟩
  · exact ⟨h1, .inl h⟩
  · exact ⟨h1, .inr ⟨g, cap, cur, rfl, Nat.le_trans hb hb', h2⟩⟩
theorem own_blk {w : World} {base e sz n : Nat} {v : Value} {xs : List Value} (h : w.ownsRow base e sz v n xs) : ∀ k, v.ownBlock = some k → base ≤ k ∧ ∃ cs, w.heap[k]? = some (.cells cs e (0, 0)) := by
  rcases h with ⟨_, ⟨rfl, rfl⟩ | ⟨g, cap, cur, rfl, hb, hg, _⟩⟩
  · simp [Value.ownBlock]
  · intro k hk
    simp only [Value.ownBlock, Option.some.injEq] at hk
    subst hk
    exact ⟨hb, _, hg⟩
/-- blocks from base on whose elements are of one of these types -/
def typed (ts : List Nat) (base : Nat) (w : World) (k : Nat) : Prop := base ≤ k ∧ ∃ cs t fr, w.heap[k]? = some (.cells cs t fr) ∧ t ∈ ts
theorem Frm.typed_trans {ts : List Nat} {base : Nat} {a b c : World} (h : Frm (typed ts base a) a b) (k : Frm (typed ts base b) b c) : Frm (typed ts base a) a c := by
  refine h.trans k (fun i hi ht => ?_)
  rcases Classical.em (typed ts base a i) with h' | h'
  · exact h'
  · obtain ⟨hb, cs, t, fr, hg, hm⟩ := ht
    exact ⟨hb, cs, t, fr, by rw [← h.block i hi h']; exact hg, hm⟩
theorem Frm.typed_no {ts : List Nat} {base : Nat} {a b c : World} (h : Frm no a b) (k : Frm (typed ts base b) b c) : Frm (typed ts base a) a c :=
  (h.mono (T := typed ts base a) (fun _ _ h => h.elim)).typed_trans k
theorem Frm.typed_blk {ts : List Nat} {base : Nat} {a b : World} (h : Frm (typed ts base a) a b) {g t : Nat} {cs : Array Value} {fr : Nat × Nat} (hg : a.heap[g]? = some (.cells cs t fr)) (ht : t ∉ ts) : b.heap[g]? = some (.cells cs t fr) := by
  have hlt : g < a.heap.size := by
    rcases Nat.lt_or_ge g a.heap.size with h' | h'
    · exact h'
    · simp [Array.getElem?_eq_none h'] at hg
  rw [h.block g hlt]
  · exact hg
  · rintro ⟨_, cs', t', fr', h2, hm⟩
    rw [hg] at h2
    injection h2 with h2
    injection h2 with _ h3
    exact ht (h3 ▸ hm)
/-- what lay below base lies as it did -/
theorem Frm.typed_old {ts : List Nat} {base : Nat} {a b : World} (h : Frm (typed ts base a) a b) : Frm (fun k => base ≤ k) a b := h.mono (fun _ _ h => h.1)
theorem own_nil (w : World) (base e sz : Nat) : w.ownsRow base e sz (.slice none 0 0) 0 [] := ⟨by simp, .inl ⟨rfl, rfl⟩⟩

/-- a block that holds just these cells shows them -/
theorem Sl.of_blk {α : Type} {enc : α → List Value} {sz : Nat} (hl : ∀ x, (enc x).length = sz) {w : World} {g t n : Nat} {fr : Nat × Nat} {xs : List α} {more : List Value} (hg : w.heap[g]? = some (.cells (xs.flatMap enc ++ more).toArray t fr)) (hn : n = xs.length) {c : Nat} (hc : n ≤ c) (hm : c ≤ maxLen) :
    Sl enc sz w (.slice (some ⟨g, 0, none⟩) n c) xs := by
  subst hn
  refine .inr ⟨g, 0, c, rfl, hc, hm, ?_, fun k x j u hx hu => ?_⟩
  · rcases Nat.lt_or_ge g w.heap.size with h | h
    · exact h
    · simp [Array.getElem?_eq_none h] at hg
  · have hj : j < sz := by have := (List.getElem?_eq_some_iff.1 hu).1; rw [hl] at this; exact this
    have h1 := flatMap_getElem? enc sz hl xs k j hj
    rw [hx, Option.bind_some, hu] at h1
    rw [Nat.zero_add, cell_of_row w g _ _ t fr hg]
    simp only [List.getElem?_toArray]
    rw [List.getElem?_append_left (List.getElem?_eq_some_iff.1 h1).1]
    exact h1

/-- append of what a slice shows onto a row of the call's own -/
theorem wpList_app {α : Type} {enc : α → List Value} {P : Program} (w : World) {ops : Array Oper} {rest : List Oper} {o : Oper} {a : Act} {Q : Exit → Act → World → Prop} (hgd : o.guard = none) (s x : Operand) (t : TypeId)
    (ho : o.op = .call { callee := .builtin .append, args := #[s, x], argTypes := #[t, t] })
    (base : Nat) (e : TypeId) (i : TypeInfo) (z : Value) (size bytes : Nat) (ht : P.underlying t = some (.slice e)) (hi : P.info? e = some i) (hz : i.zero = some z)
    (hsize : i.size = size) (hby : i.bytes = bytes) (hzs : z.cells.size = size) (hsz : 0 < size) (hl : ∀ x, (enc x).length = size) (h1 : ∀ x, ∀ u ∈ enc x, u.oneCell' = true)
    (v : Value) (xs : List α) (hs : a.eval s = v) (hown : w.ownsRow base e size v xs.length (xs.flatMap enc))
    (u : Value) (news : List α) (hx : a.eval x = u) (hu : Sl enc size w u news)
    (h63 : xs.length + news.length ≤ maxLen) (hbytes : (xs.length + news.length) * bytes ≤ 140737488355328) (hbase : base ≤ w.heap.size)
    (h : ∀ v' w', w'.ownsRow base e size v' (xs ++ news).length ((xs ++ news).flatMap enc) → w.grownBy w' v.ownBlock → wpList P ops Q rest (a.put o.dst v') w') : wpList P ops Q (o :: rest) a w := by
  rcases hu with ⟨rfl, rfl⟩ | ⟨g, off, c, rfl, h2, h3, h4, h5⟩
  · exact wpList_append_own_none hgd s x t ho base e i size ht hi v xs.length (xs.flatMap enc) hs hown hx (h v w (by simpa using hown) (World.grownBy.refl _ _))
  · refine wpList_append_own w hgd s x t ho base e i z size bytes ht hi hz hsize hby hzs hsz v xs.length (xs.flatMap enc) hs hown ⟨g, off, none⟩ news.length c (news.flatMap enc) hx (flatMap_length enc size hl news) ?_ ?_ h63 hbytes hbase ?_
    · intro j u hu
      obtain ⟨x, hx, hu'⟩ := flatMap_split enc size hsz hl news j u hu
      have := h5 _ x _ u hx hu'
      rw [Nat.mul_comm, Nat.div_add_mod] at this
      rw [Addr.add_lit]; exact this
    · intro u hu
      obtain ⟨x, _, hx⟩ := List.mem_flatMap.1 hu
      exact h1 x u hx
    · intro v' w' ho' hg' _
      exact h v' w' (by rw [List.length_append, List.flatMap_append]; exact ho') hg'

theorem Sl.take {α : Type} {enc : α → List Value} {sz : Nat} {w : World} {g off n c : Nat} {xs : List α} (h : Sl enc sz w (.slice (some ⟨g, off, none⟩) n c) xs) (k : Nat) (hk : k ≤ n) : Sl enc sz w (.slice (some ⟨g, off, none⟩) k c) (xs.take k) := by
  rcases h with ⟨h, _⟩ | ⟨g', off', c', h, h1, h2, h3, h4⟩
  · simp at h
  · simp only [Value.slice.injEq, Option.some.injEq, Addr.mk.injEq, and_true] at h
    obtain ⟨⟨rfl, rfl⟩, rfl, rfl⟩ := h
    refine .inr ⟨g, off, c, by rw [List.length_take, Nat.min_eq_left hk], by rw [List.length_take]; omega, h2, h3, fun i x j u hx hu => h4 i x j u ?_ hu⟩
    rw [List.getElem?_take] at hx
    split at hx
    · exact hx
    · cases hx

theorem Sl.drop {α : Type} {enc : α → List Value} {sz : Nat} {w : World} {g off n c : Nat} {xs : List α} (h : Sl enc sz w (.slice (some ⟨g, off, none⟩) n c) xs) (k : Nat) (hk : k ≤ n) : Sl enc sz w (.slice (some ⟨g, off + k * sz, none⟩) (n - k) (c - k)) (xs.drop k) := by
  rcases h with ⟨h, _⟩ | ⟨g', off', c', h, h1, h2, h3, h4⟩
  · simp at h
  · simp only [Value.slice.injEq, Option.some.injEq, Addr.mk.injEq, and_true] at h
    obtain ⟨⟨rfl, rfl⟩, rfl, rfl⟩ := h
    refine .inr ⟨g, off + k * sz, c - k, by rw [List.length_drop], by rw [List.length_drop]; omega, by omega, h3, fun i x j u hx hu => ?_⟩
    rw [List.getElem?_drop] at hx
    have := h4 (k + i) x j u hx hu
    rw [Nat.add_mul] at this
    rw [← this]
    congr 2
    omega

theorem Sl.drop_end {α : Type} {enc : α → List Value} {sz : Nat} {w : World} {g off n c : Nat} {xs : List α} (h : Sl enc sz w (.slice (some ⟨g, off, none⟩) n c) xs) (k : Nat) (hk : k ≤ n) (hc : c = k) : Sl enc sz w (.slice (some ⟨g, off, none⟩) (n - k) (c - k)) (xs.drop k) := by
  rcases h with ⟨h, _⟩ | ⟨g', off', c', h, h1, h2, h3, h4⟩
  · simp at h
  · simp only [Value.slice.injEq, Option.some.injEq, Addr.mk.injEq, and_true] at h
    obtain ⟨⟨rfl, rfl⟩, rfl, rfl⟩ := h
    have hd : xs.drop k = [] := List.drop_eq_nil_of_le (by omega)
    refine .inr ⟨g, off, c - k, by rw [hd]; simp; omega, by rw [hd]; simp, by omega, h3, fun i x j u hx hu => ?_⟩
    rw [hd] at hx
    cases hx

theorem Sl.take' {α : Type} {enc : α → List Value} {sz : Nat} {w : World} {a : Option Addr} {n c : Nat} {xs : List α} (h : Sl enc sz w (.slice a n c) xs) (k : Nat) (hk : k ≤ n) : Sl enc sz w (.slice a k c) (xs.take k) := by
  rcases h with ⟨h0, rfl⟩ | ⟨g, off, c', h0, h1⟩
  · simp at h0
    obtain ⟨rfl, rfl, rfl⟩ := h0
    obtain rfl : k = 0 := by omega
    exact .inl ⟨rfl, rfl⟩
  · simp at h0
    obtain ⟨rfl, rfl, rfl⟩ := h0
    exact Sl.take (.inr ⟨g, off, c, rfl, h1⟩) k hk

/-- x[k:], as the walk writes it -/
theorem Sl.drop' {α : Type} {enc : α → List Value} {sz : Nat} {w : World} {a : Option Addr} {n c : Nat} {xs : List α} (h : Sl enc sz w (.slice a n c) xs) (k : Nat) (hk : k ≤ n) :
    Sl enc sz w (.slice (if c = k then a else a.map (·.add (k * sz))) (n - k) (c - k)) (xs.drop k) := by
  rcases h with ⟨h0, rfl⟩ | ⟨g, off, c', h0, h1⟩
  · simp at h0
    obtain ⟨rfl, rfl, rfl⟩ := h0
    obtain rfl : k = 0 := by omega
    exact .inl ⟨rfl, rfl⟩
  · simp at h0
    obtain ⟨rfl, rfl, rfl⟩ := h0
    by_cases hc : c = k
    · rw [if_pos hc]
      exact Sl.drop_end (.inr ⟨g, off, c, rfl, h1⟩) k hk hc
    · rw [if_neg hc, Option.map_some, Addr.add_lit]
      exact Sl.drop (.inr ⟨g, off, c, rfl, h1⟩) k hk

theorem drop_block {a : Option Addr} {c k sz n m n' m' : Nat} (i : Nat) (h : (Value.slice (if c = k then a else a.map (·.add (k * sz))) n m).ownBlock = some i) : (Value.slice a n' m').ownBlock = some i := by
  cases a with
  | none => split at h <;> simp [Value.ownBlock] at h
  | some a =>
    split at h
    · exact h
    · simp only [Option.map_some, Value.ownBlock, Option.some.injEq] at h ⊢
      rw [← h]
      unfold Addr.add
      split <;> rfl

/-- a struct's block: its cells, none frozen -/
theorem blk_cell {w : World} {g : Nat} {cs : Array Value} {t : TypeId} {fr : Nat × Nat} (h : w.heap[g]? = some (.cells cs t fr)) (i : Nat) : w.cell? ⟨g, i, none⟩ = cs[i]? := by
  simp [World.cell?, h]
theorem blk_free {w : World} {g : Nat} {cs : Array Value} {t : TypeId} (h : w.heap[g]? = some (.cells cs t (0, 0))) (i : Nat) : w.frozen? ⟨g, i, none⟩ = false := by
  simp [World.frozen?, h]
theorem blk2 {w : World} {g : Nat} {a b : Value} {t : TypeId} (h : w.heap[g]? = some (.cells #[a, b] t (0, 0))) : w.cell? ⟨g, 0, none⟩ = some a ∧ w.cell? ⟨g, 1, none⟩ = some b ∧ w.frozen? ⟨g, 0, none⟩ = false ∧ w.frozen? ⟨g, 1, none⟩ = false :=
  ⟨blk_cell h 0, blk_cell h 1, blk_free h 0, blk_free h 1⟩
theorem blk3 {w : World} {g : Nat} {a b c : Value} {t : TypeId} (h : w.heap[g]? = some (.cells #[a, b, c] t (0, 0))) : w.cell? ⟨g, 0, none⟩ = some a ∧ w.cell? ⟨g, 1, none⟩ = some b ∧ w.cell? ⟨g, 2, none⟩ = some c ∧ w.frozen? ⟨g, 0, none⟩ = false ∧ w.frozen? ⟨g, 1, none⟩ = false ∧ w.frozen? ⟨g, 2, none⟩ = false :=
  ⟨blk_cell h 0, blk_cell h 1, blk_cell h 2, blk_free h 0, blk_free h 1, blk_free h 2⟩
theorem blk5 {w : World} {g : Nat} {a b c d e : Value} {t : TypeId} (h : w.heap[g]? = some (.cells #[a, b, c, d, e] t (0, 0))) : w.cell? ⟨g, 0, none⟩ = some a ∧ w.cell? ⟨g, 1, none⟩ = some b ∧ w.cell? ⟨g, 2, none⟩ = some c ∧ w.cell? ⟨g, 3, none⟩ = some d ∧ w.cell? ⟨g, 4, none⟩ = some e :=
  ⟨blk_cell h 0, blk_cell h 1, blk_cell h 2, blk_cell h 3, blk_cell h 4⟩
theorem blk_lt {w : World} {g : Nat} {o : Obj} (h : w.heap[g]? = some o) : g < w.heap.size := by
  rcases Nat.lt_or_ge g w.heap.size with h' | h'
  · exact h'
  · simp [Array.getElem?_eq_none h'] at h
theorem blk_set {w : World} {g : Nat} {cs : Array Value} {t : TypeId} (h : w.heap[g]? = some (.cells cs t (0, 0))) (i : Nat) (u : Value) : (w.setCell ⟨g, i, none⟩ u).heap[g]? = some (.cells (cs.setIfInBounds i u) t (0, 0)) := by
  simp [World.setCell, Array.getElem?_modify, h]
theorem blk_new (w : World) (o : Obj) : (w.alloc o).heap[w.heap.size]? = some o := heap_alloc_new w o
theorem blk_alloc {w : World} {g : Nat} {o : Obj} (h : w.heap[g]? = some o) (o' : Obj) : (w.alloc o').heap[g]? = some o := by
  rw [Below.heap_alloc _ _ _ (blk_lt h)]; exact h
theorem blk_far {w : World} {g : Nat} {o : Obj} (h : w.heap[g]? = some o) {p : Addr} (hp : g ≠ p.block) (u : Value) : (w.setCell p u).heap[g]? = some o := by
  rw [Below.heap_setCell _ _ _ _ hp]; exact h
theorem blk_frm {w w' : World} {S : Nat → Prop} {g : Nat} {o : Obj} (h : w.heap[g]? = some o) (hf : Frm S w w') (hs : ¬ S g) : w'.heap[g]? = some o := by
  rw [hf.block g (blk_lt h) hs]; exact h

/-- two structs of whole numbers, field by field -/
theorem eqFields_ints {P : Program} (w : World) (n : Nat) : ∀ (fs : List Field) (i : Nat) (xs ys : List Int), fs.map (fun f => (f.name == "_", P.underlying f.type, f.offset)) = (List.range' i (xs.length - i)).map (fun j => (false, some (.int .i64), j)) → xs.length = ys.length →
    (Op.eqFields (n + 1) (xs.map (Value.int .i64)).toArray (ys.map (Value.int .i64)).toArray fs).run P w = .ok (decide (xs.drop i = ys.drop i)) w
  | [], i, xs, ys, h, hl => by
    have h1 : xs.length - i = 0 := by
      have := congrArg List.length h
      simpa using this.symm
    have h2 : xs.drop i = [] := List.drop_eq_nil_of_le (by omega)
    have h3 : ys.drop i = [] := List.drop_eq_nil_of_le (by omega)
    simp [Op.eqFields, h2, h3]
  | f :: fs, i, xs, ys, h, hl => by
    have hlen : 0 < xs.length - i := by
      have := congrArg List.length h
      simp at this; omega
    obtain ⟨m, hm⟩ : ∃ m, xs.length - i = m + 1 := ⟨xs.length - i - 1, by omega⟩
    rw [hm, List.range'_succ, List.map_cons, List.map_cons, List.cons.injEq, Prod.mk.injEq, Prod.mk.injEq] at h
    obtain ⟨⟨hn, hty, hof⟩, hr⟩ := h
    have ih := eqFields_ints w n fs (i + 1) xs ys (by rw [hr, show xs.length - (i + 1) = m by omega]) hl
    have hx : i < xs.length := by omega
    have hy : i < ys.length := by omega
    have hp : ∀ (zs : List Int) (hz : i < zs.length), (part f.type (zs.map (Value.int .i64)).toArray f.offset).run P w = .ok (.int .i64 zs[i]) w := by
      intro zs hz
      rw [hof]
      simp [part, isAgg, run_underlying hty, hz]
    have he : (Op.equalIn (n + 1) f.type (.int .i64 xs[i]) (.int .i64 ys[i])).run P w = .ok (xs[i] == ys[i]) w := run_equalIn_int w n f.type .i64 .i64 _ _ hty
    have hn' : f.name ≠ "_" := by simpa using hn
    have hd : decide (xs.drop i = ys.drop i) = ((xs[i] == ys[i]) && decide (xs.drop (i + 1) = ys.drop (i + 1))) := by
      rw [List.drop_eq_getElem_cons hx, List.drop_eq_getElem_cons hy, Bool.eq_iff_iff]
      simp only [List.cons.injEq, Bool.and_eq_true, beq_iff_eq, decide_eq_true_eq]
    rw [Op.eqFields]
    simp only [if_pos hn', Sem.run_bind, hp xs hx, hp ys hy, he, Result.andThen_ok]
    rw [hd]
    cases xs[i] == ys[i]
    · simp
    · simpa using ih
theorem run_eq_ints {P : Program} (w : World) (t : Nat) (xs ys : List Int) (hs : P.underlying t = some (.struct (P.fieldsOf t))) (hp : P.stoodInHeld t = false)
    (hf : (P.fieldsOf t).toList.map (fun f => (f.name == "_", P.underlying f.type, f.offset)) = (List.range' 0 xs.length).map (fun j => (false, some (.int .i64), j))) (hl : xs.length = ys.length) :
    (binOp .eql t (.agg (xs.map (Value.int .i64)).toArray) (.agg (ys.map (Value.int .i64)).toArray)).run P w = .ok (.bool (decide (xs = ys))) w ∧
    (binOp .neq t (.agg (xs.map (Value.int .i64)).toArray) (.agg (ys.map (Value.int .i64)).toArray)).run P w = .ok (.bool (!decide (xs = ys))) w := by
  have h := eqFields_ints (P := P) w 9998 (P.fieldsOf t).toList 0 xs ys (by simpa using hf) hl
  have h2 := run_equalIn_struct (P := P) w 9999 t (xs.map (Value.int .i64)).toArray (ys.map (Value.int .i64)).toArray hs hp
  rw [List.drop_zero, List.drop_zero] at h
  rw [h] at h2
  have h3 : (Op.equal t (.agg (xs.map (Value.int .i64)).toArray) (.agg (ys.map (Value.int .i64)).toArray)).run P w = .ok (decide (xs = ys)) w := h2
  constructor
  · simp only [binOp, Sem.run_bind, h3, Result.andThen_ok, Sem.run_pure]
  · simp only [binOp, Sem.run_bind, h3, Result.andThen_ok, Sem.run_pure]

end Go.Proofs.YtgbcmkkbhbkfeaaDoor
