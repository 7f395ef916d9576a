/- What an argument of bytes shows, out of its reading as data. -/
import Derived.Test.YtgbcmkkbhbkfeaaDoorProg
import Derived.Test.YtgbcmkkbhbkfeaaDoorB
import Derived.Deep.Slices
import Derived.ChangeArms
import Derived.ChangeSlices
import Derived.ProofKit
import Derived.LaidMore
import Derived.OpenShut
namespace Go.Proofs.YtgbcmkkbhbkfeaaDoor
open Go Go.ChangeShapes Go.WideShapes Go.ChangeAt Go.WideMaps Go.WideElems Go.RowKit

section
variable {H : Type} {enc : TypeId × Value → H} {w : World} {base : Nat} {spare : Nat → Bool} {held : Bool}
theorem c_u8 : Tryd.prog.cellsOf 5 = 1 := by kernel_rfl
theorem wf_u8 {n : Int} (h : (Lit.int .u8 n).wf = true) : 0 ≤ n ∧ n < 256 := by
  simp [Lit.wf] at h
  have e1 : IntKind.u8.min = 0 := rfl
  have e2 : IntKind.u8.max = 255 := rfl
  omega
theorem bytes_open {b0 : Nat} {v : Value} {d : DataW H} {p : List MemPlace} (hv : Value.okWide Tryd.prog w .any b0 26 v) (h : DataW.Trod enc Tryd.prog w base spare held 26 v d p) :
    ∃ bs, Sl e8 1 w v bs ∧ Oct bs ∧ (bs = [] ∨ ∃ el sp, d = .slice el sp ∧ el.length = bs.length) := by
  have hu : Tryd.prog.underlying 26 = _ := Tryd.underlying26
  simp only [Value.okWide, hu] at hv
  obtain ⟨fuel, hf⟩ := h
  cases v with
  | slice a0 len0 cap0 =>
    rcases open_ints (k := .u8) Tryd.underlying26 Tryd.underlying5 c_u8 hf with ⟨e, _⟩ | ⟨a, len, cap, zs, e, _, hl, hm, hlen, hx, hcell, hwf⟩
    · have e' : Value.slice a0 len0 cap0 = .slice none 0 0 := by simpa [Value.cells] using e
      rw [e']
      exact ⟨[], Sl.nil _ _ _, (fun b hb => nomatch hb), .inl rfl⟩
    · have e' : Value.slice a0 len0 cap0 = .slice (some a) len cap := by simpa [Value.cells] using e
      rw [e'] at hv ⊢
      simp only [Cell.okWide, Cell.ok, hu] at hv
      obtain ⟨_, _, _, hsp, row, cells, hshape, _⟩ := hv
      obtain ⟨g, off, sp⟩ := a
      dsimp only at hsp hshape hlen hx hcell
      subst hsp
      have hg : g < w.heap.size := by
        unfold World.shape? at hshape
        cases hx : w.heap[g]? with
        | none => rw [hx] at hshape; cases hshape
        | some o => exact blk_lt hx
      have hlz : len ≤ zs.length := by rw [hlen]; split <;> omega
      have htl : (zs.take len).length = len := by rw [List.length_take]; omega
      refine ⟨zs.take len, .inr ⟨g, off, cap, by rw [htl], by rw [htl]; exact hl, hm, hg, fun k x j u hk hj => ?_⟩, fun b hb => wf_u8 (hwf b (List.mem_of_mem_take hb)), .inr ⟨_, _, (Prod.mk.injEq _ _ _ _ ▸ hx).1, by simp [lits]⟩⟩
      rw [List.getElem?_take] at hk
      split at hk
      · rename_i hkl
        have hj0 : j = 0 ∧ u = .int .u8 x := by
          cases j with
          | zero => simp [e8] at hj; exact ⟨rfl, hj.symm⟩
          | succ j => simp [e8] at hj
        obtain ⟨rfl, rfl⟩ := hj0
        have hc := hcell k (by omega)
        rw [Addr.add_lit] at hc
        rw [Nat.mul_one, Nat.add_zero, hc]
        have : zs.getD k 0 = x := by rw [List.getD_eq_getElem?_getD, hk]; rfl
        rw [this]
      · cases hk
  | _ => simp [Cell.okWide, Cell.ok, hu] at hv
end
end Go.Proofs.YtgbcmkkbhbkfeaaDoor
