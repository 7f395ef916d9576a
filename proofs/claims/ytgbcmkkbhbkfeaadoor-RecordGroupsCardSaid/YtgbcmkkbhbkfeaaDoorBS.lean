/- Bytes as strings. -/
import Derived.Test.YtgbcmkkbhbkfeaaDoorB
import Derived.Laws.BytesArg
namespace Go.Proofs.YtgbcmkkbhbkfeaaDoor
open Go Go.RowKit

theorem Sl.str {w : World} {v : Value} {bs : List Int} (h : Sl e8 1 w v bs) : (convert 26 9 v).run Tryd.prog w = .ok (.string (strOfNums bs)) w := by
  rcases h.bytes with ⟨rfl, rfl⟩ | ⟨g, off, c, rfl, h1, h2, h3, h4⟩
  · exact run_convert_bytes_nil w _ 5 Tryd.underlying26 Tryd.underlying5 0 0 _ Tryd.underlying9
  · exact run_convert_bytes_arg w _ 5 Tryd.underlying26 Tryd.underlying5 g off _ c bs rfl (fun i hi => by
      rw [h4 i bs[i] (by simp [hi])]; simp [List.getD, hi]) _ Tryd.underlying9
theorem strOfNums_inj {a b : List Int} (ha : Oct a) (hb : Oct b) (h : strOfNums a = strOfNums b) : a = b := by
  have h1 := congrArg (fun s => s.data.toList) h
  simp only [strOfNums_data] at h1
  clear h
  induction a generalizing b with
  | nil => cases b with
    | nil => rfl
    | cons y r => simp at h1
  | cons x r ih => cases b with
    | nil => simp at h1
    | cons y s =>
      simp only [List.map_cons, List.cons.injEq] at h1
      have hx := ha x (by simp)
      have hy := hb y (by simp)
      have h2 := congrArg UInt8.toNat h1.1
      simp at h2
      rw [ih (fun z hz => ha z (by simp [hz])) (fun z hz => hb z (by simp [hz])) h1.2]
      congr 1
      omega

theorem strOfNums_eq {a b : List Int} (ha : Oct a) (hb : Oct b) : ((strOfNums a).toList == (strOfNums b).toList) = decide (a = b) := by
  rw [Bool.eq_iff_iff, beq_iff_eq, decide_eq_true_eq]
  constructor
  · intro h
    rw [ByteArray.toList_eq, ByteArray.toList_eq] at h
    exact strOfNums_inj ha hb (ByteArray.ext (Array.toList_inj.1 h))
  · intro h; rw [h]

end Go.Proofs.YtgbcmkkbhbkfeaaDoor
