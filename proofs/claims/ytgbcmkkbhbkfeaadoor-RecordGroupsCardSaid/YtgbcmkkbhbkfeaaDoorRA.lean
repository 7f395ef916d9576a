/- What an argument of the Record statements shows, out of its reading as data. -/
import Derived.Test.YtgbcmkkbhbkfeaaDoorProg
import Derived.Test.YtgbcmkkbhbkfeaaDoorV
import Derived.Deep.Slices
import Derived.ChangeArms
namespace Go.Proofs.YtgbcmkkbhbkfeaaDoor
open Go Go.ChangeShapes Go.WideShapes Go.ChangeAt Go.WideMaps Go.WideElems Go.RowKit

section
variable {H : Type} {enc : TypeId × Value → H} {w : World} {base : Nat} {spare : Nat → Bool} {held : Bool}
theorem c_int : Tryd.prog.cellsOf 3 = 1 := by kernel_rfl
theorem c_bool : Tryd.prog.cellsOf 4 = 1 := by kernel_rfl
theorem c_ds : Tryd.prog.cellsOf 22 = 1 := by kernel_rfl
theorem c_delta : Tryd.prog.cellsOf 39 = 5 := by kernel_rfl
theorem c_rec : Tryd.prog.cellsOf 24 = 5 := by kernel_rfl
theorem one_int {n : Nat} {v : Value} {y : Option (DataW H × List MemPlace)} (h : DataW.trod enc Tryd.prog w base spare held n 3 [v] = y) (hy : y.isSome = true) : ∃ k, v = .int .i64 k := by
  cases y with
  | none => cases hy
  | some y =>
    obtain ⟨k, e, _⟩ := DataW.trod_int Tryd.underlying3 h
    exact ⟨k, by simpa using e⟩
theorem list5 {α : Type} {l : List α} (h : l.length = 5) : ∃ a b c d e, l = [a, b, c, d, e] := by
  match l, h with
  | [a, b, c, d, e], _ => exact ⟨a, b, c, d, e, rfl⟩
theorem delta_cells {fuel : Nat} {cs : List Value} {x : DataW H × List MemPlace} (h : DataW.trod enc Tryd.prog w base spare held fuel 39 cs = some x) : ∃ d : Dl, cs = eD d := by
  obtain ⟨xs, n, _, _, hl, hxs, hel⟩ := DataW.trod_struct Tryd.underlying39 h
  rw [c_delta] at hl
  obtain ⟨a, b, c, d, e, rfl⟩ := list5 hl
  obtain ⟨y0, y1, y2, y3, y4, rfl⟩ := list5 (l := xs) (by simpa using hxs)
  have h0 : DataW.trod enc Tryd.prog w base spare held n 3 [a] = some y0 := by have := hel 0 _ rfl; simpa [c_int] using this
  have h1 : DataW.trod enc Tryd.prog w base spare held n 3 [b] = some y1 := by have := hel 1 _ rfl; simpa [c_int] using this
  have h2 : DataW.trod enc Tryd.prog w base spare held n 3 [c] = some y2 := by have := hel 2 _ rfl; simpa [c_int] using this
  have h3 : DataW.trod enc Tryd.prog w base spare held n 3 [d] = some y3 := by have := hel 3 _ rfl; simpa [c_int] using this
  have h4 : DataW.trod enc Tryd.prog w base spare held n 3 [e] = some y4 := by have := hel 4 _ rfl; simpa [c_int] using this
  obtain ⟨k0, rfl⟩ := one_int h0 rfl
  obtain ⟨k1, rfl⟩ := one_int h1 rfl
  obtain ⟨k2, rfl⟩ := one_int h2 rfl
  obtain ⟨k3, rfl⟩ := one_int h3 rfl
  obtain ⟨k4, rfl⟩ := one_int h4 rfl
  exact ⟨⟨k0, k1, k2, k3, k4⟩, rfl⟩

theorem ds_open {b0 fuel : Nat} {v : Value} {x : DataW H × List MemPlace} (hc : Cell.okWide Tryd.prog w .any b0 22 v) (h : DataW.trod enc Tryd.prog w base spare held fuel 22 [v] = some x) :
    ∃ ds, Sl eD 5 w v ds ∧ (ds = [] ∨ ∃ el sp, x.1 = .slice el sp ∧ el.length = ds.length) := by
  rcases DataW.trod_slice Tryd.underlying22 h with ⟨e, _⟩ | ⟨a, len, cap, elems, rest, n, _, e, rfl, _, hl, hm, hlen, hel, _, _⟩
  · obtain rfl : v = .slice none 0 0 := by simpa using e
    exact ⟨[], Sl.nil _ _ _, .inl rfl⟩
  · obtain rfl : v = .slice (some a) len cap := by simpa using e
    have hh : Tryd.prog.underlying 22 = _ := Tryd.underlying22
    simp only [Cell.okWide, Cell.ok, hh] at hc
    obtain ⟨_, _, _, hsp, row, cells, hshape, _⟩ := hc
    obtain ⟨g, off, sp⟩ := a
    dsimp only at hsp hshape
    subst hsp
    have hg : g < w.heap.size := by
      unfold World.shape? at hshape
      cases hx : w.heap[g]? with
      | none => rw [hx] at hshape; cases hshape
      | some o => exact blk_lt hx
    have hd : ∀ i, i < len → ∃ d : Dl, ∀ j, j < 5 → w.cell? ⟨g, off + (i * 5 + j), none⟩ = (eD d)[j]? := fun i hi => by
      have h1 := hel i hi
      rw [c_delta, List.getElem?_eq_getElem (by omega)] at h1
      obtain ⟨cs, h2, h3⟩ := Option.bind_eq_some_iff.1 h1
      obtain ⟨d, rfl⟩ := delta_cells h3
      obtain ⟨_, _, hcell⟩ := World.cells?_some h2
      refine ⟨d, fun j hj => ?_⟩
      have := hcell j hj
      rw [Addr.add_lit, Addr.add_lit, Nat.add_assoc] at this
      exact this
    refine ⟨(List.range len).map (fun i => if hi : i < len then (hd i hi).choose else ⟨0, 0, 0, 0, 0⟩), .inr ⟨g, off, cap, by simp, by simpa using hl, hm, hg, fun k d j u hk hu => ?_⟩, .inr ⟨_, _, rfl, by simp [hlen]⟩⟩
    rw [List.getElem?_map] at hk
    by_cases hkl : k < len
    · rw [List.getElem?_range hkl] at hk
      simp only [Option.map_some, Option.some.injEq, dif_pos hkl] at hk
      subst hk
      have hj : j < 5 := by
        rcases Nat.lt_or_ge j 5 with h | h
        · exact h
        · rw [List.getElem?_eq_none (by rw [eD_len]; exact h)] at hu; cases hu
      rw [(hd k hkl).choose_spec j hj]
      exact hu
    · rw [List.getElem?_eq_none (by simpa using hkl)] at hk
      cases hk
theorem arr5 {c : Array Value} (h : c.size = 5) : ∃ a b d e f, c = #[a, b, d, e, f] := by
  obtain ⟨l⟩ := c
  obtain ⟨a, b, d, e, f, rfl⟩ := list5 (l := l) (by simpa using h)
  exact ⟨a, b, d, e, f, rfl⟩
theorem delta_open {b0 : Nat} {v : Value} {d : DataW H} {p : List MemPlace} (hv : Value.okWide Tryd.prog w .any b0 39 v) (h : DataW.Trod enc Tryd.prog w base spare held 39 v d p) : ∃ dl : Dl, v = dl.v := by
  obtain ⟨c, rfl, hs⟩ := okWide_struct Tryd.underlying39 hv
  obtain ⟨fuel, hf⟩ := h
  obtain ⟨dl, hd⟩ := delta_cells hf
  refine ⟨dl, ?_⟩
  have : c.toList = eD dl := hd
  unfold Dl.v
  congr 1
  apply Array.toList_inj.1
  rw [this]; rfl
theorem rec_open {b0 : Nat} {v : Value} {d : DataW H} {p : List MemPlace} (hv : Value.okWide Tryd.prog w .any b0 24 v) (h : DataW.Trod enc Tryd.prog w base spare held 24 v d p) :
    ∃ r : Rc, v = r.val ∧ Sl eD 5 w r.v r.ds ∧ (r.ds = [] ∨ ∃ d0 d1 d2 d3 el sp, d = .agg [d0, d1, d2, d3, .slice el sp] ∧ el.length = r.ds.length) := by
  have hvv := hv
  obtain ⟨c, rfl, hs⟩ := okWide_struct Tryd.underlying24 hv
  rw [c_rec] at hs
  obtain ⟨v0, v1, v2, v3, v4, rfl⟩ := arr5 hs
  obtain ⟨fuel, hf⟩ := h
  obtain ⟨xs, n, _, hx, _, hxs, hel⟩ := DataW.trod_struct Tryd.underlying24 hf
  obtain ⟨y0, y1, y2, y3, y4, rfl⟩ := list5 (l := xs) (by simpa using hxs)
  have h0 : DataW.trod enc Tryd.prog w base spare held n 3 [v0] = some y0 := by have := hel 0 _ rfl; simpa [c_int, Value.cells] using this
  have h1 : DataW.trod enc Tryd.prog w base spare held n 3 [v1] = some y1 := by have := hel 1 _ rfl; simpa [c_int, Value.cells] using this
  have h2 : DataW.trod enc Tryd.prog w base spare held n 4 [v2] = some y2 := by have := hel 2 _ rfl; simpa [c_bool, Value.cells] using this
  have h3 : DataW.trod enc Tryd.prog w base spare held n 3 [v3] = some y3 := by have := hel 3 _ rfl; simpa [c_int, Value.cells] using this
  have h4 : DataW.trod enc Tryd.prog w base spare held n 22 [v4] = some y4 := by have := hel 4 _ rfl; simpa [c_ds, Value.cells] using this
  have hu : Tryd.prog.underlying 24 = _ := Tryd.underlying24
  simp only [Value.okWide, hu] at hvv
  obtain ⟨c', hc', _, hrow⟩ := hvv
  simp only [Value.agg.injEq] at hc'
  subst hc'
  obtain ⟨ts, hts, _, hcell⟩ := hrow
  obtain rfl := Option.some.inj ((show Tryd.prog.cellTypes Tryd.prog.depth 24 = some [3, 3, 4, 3, 22] by kernel_rfl).symm.trans hts)
  obtain ⟨u, hu4, hok⟩ := hcell 4 v4 rfl
  obtain rfl : 22 = u := by simpa using hu4
  obtain ⟨ds, hsl, hlen⟩ := ds_open hok h4
  obtain ⟨k0, rfl⟩ := one_int h0 rfl
  obtain ⟨k1, rfl⟩ := one_int h1 rfl
  obtain ⟨b2, e2, _⟩ := DataW.trod_bool Tryd.underlying4 h2
  obtain rfl : v2 = .bool b2 := by simpa using e2
  obtain ⟨k3, rfl⟩ := one_int h3 rfl
  refine ⟨⟨k0, k1, b2, k3, v4, ds⟩, rfl, hsl, hlen.imp id ?_⟩
  rintro ⟨el, sp, he, hl⟩
  simp only [Prod.mk.injEq, List.map_cons, List.map_nil, he] at hx
  exact ⟨_, _, _, _, el, sp, hx.1, hl⟩
theorem rec_sized {ts : List TypeId} {ds : List (DataW H)} (h : (DataW.weightsEach Tryd.prog ts ds).all (· ≤ reachBytes) = true) {j : Nat} (ht : ts[j]? = some 24) {d0 d1 d2 d3 : DataW H} {el sp : List (DataW H)} (hd : ds[j]? = some (.agg [d0, d1, d2, d3, .slice el sp])) : el.length ≤ 140737488355328 := by
  have hb : Tryd.prog.bytesOf 39 = 40 := by kernel_rfl
  have hx := of_decide_eq_true (List.all_eq_true.1 h _ (DataW.weights_mem_each ht hd ((el.length + sp.length) * Tryd.prog.bytesOf 39) (by
    simp [DataW.weights, Tryd.underlying24, Tryd.underlying22, DataW.weightsEach])))
  rw [hb] at hx
  have := reachBytes_lt
  omega
end
end Go.Proofs.YtgbcmkkbhbkfeaaDoor
