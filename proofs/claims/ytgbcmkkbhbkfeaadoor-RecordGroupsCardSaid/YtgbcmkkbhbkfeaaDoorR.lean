/- Inside a loop's round: a region that draws its order, walked by the plain laws. -/
import Derived.Test.YtgbcmkkbhbkfeaaDoorProg
import Derived.Test.YtgbcmkkbhbkfeaaDoorQ
import Derived.Test.YtgbcmkkbhbkfeaaDoorAS
import Derived.OrdersHeld
import Derived.Deep.RegionHeld3
namespace Go.Proofs.YtgbcmkkbhbkfeaaDoor
open Go Go.RowKit

/-- the plain walk's end, nothing but 'it went on' -/
def Q0 (K : Act → World → Prop) : Exit → Act → World → Prop
  | .normal, a, w => K a w
  | _, _, _ => False
theorem Q0.out {K : Act → World → Prop} (h : LetsOut (Q0 K)) : False := by
  obtain ⟨_, _, h⟩ := h
  exact h

theorem operIn {P : Program} {o : Oper} {a : Act} {w : World} {next : Act → World → Prop} {K : Act → World → Prop} {l n : Nat} {Q : Exit → Act → World → Prop}
    (hd : ∀ c, o.op ≠ .defer c) (h : o.wp P a w next (Q0 K)) : o.wpIn (Fence.wide.inRound l) n P a w next Q := by
  refine ⟨fun _ _ => trivial, ?_⟩
  rw [Oper.semAt_eq _ _ _ hd]
  unfold Oper.wp at h
  generalize (execOp a.eval o).run P w = r at *
  cases r with
  | ok x w' =>
    cases x with
    | value v => exact h
    | skip => exact h
    | defer d => exact h
    | enter f args =>
      refine ⟨fun h => by simp [Fence.wide, Fence.inRound] at h, CallsIn.inRound l (callsIn_wide.2 (Calls.mono h fun e w'' he => ?_))⟩
      cases e with
      | returned v => exact he
      | panicked c => exact he.elim
      | outgrown => exact (Q0.out he).elim
    | row row args =>
      refine ⟨fun h => by simp [Fence.wide, Fence.inRound] at h, fun c cs _ => ?_⟩
      obtain ⟨v, w1, h1, h2⟩ := h c cs
      exact ⟨v, w1, h1, stepsIn_wide.2 h2⟩
    | _ => exact False.elim h
  | halt x w' =>
    cases x <;> first | exact h.elim | exact False.elim h

theorem opIn {P : Program} {ops : Array Oper} {i : Nat} {a : Act} {w : World} {next next' : Act → World → Prop} {K : Act → World → Prop} {l n : Nat} {Q : Exit → Act → World → Prop}
    (hd : ∀ (j : Nat) (o : Oper) c, ops[j]? = some o → o.op ≠ .defer c) (hn : ∀ a w, next a w → next' a w) (h : wpOp P ops (Q0 K) i next a w) : wpOpIn (Fence.wide.inRound l) n P ops Q i next' a w := by
  unfold wpOp at h
  unfold wpOpIn
  cases ho : ops[i]? with
  | none => simp only [ho] at h ⊢; exact hn _ _ h
  | some o =>
    simp only [ho] at h ⊢
    split
    · rename_i hw
      simp only [hw, if_true] at h
      rcases h with h | h
      · exact Oper.wpIn_mono hn (operIn (hd i o · ho) h)
      · exact (Q0.out h.2).elim
    · rename_i hw
      simp only [hw] at h
      exact ⟨fun _ _ => trivial, hn _ _ h⟩

theorem anyIn {P : Program} {ops : Array Oper} {K : Act → World → Prop} {l n : Nat} {Q : Exit → Act → World → Prop} (hd : ∀ (j : Nat) (o : Oper) c, ops[j]? = some o → o.op ≠ .defer c) (hK : ∀ a w, K a w → Q .normal a w) :
    ∀ (fuel : Nat) (listed : Array Bool) (a : Act) (w : World), wpAny P .any ops (Q0 K) fuel listed a w → wpAnyIn (Fence.wide.inRound l) n P .any ops Q fuel listed a w
  | 0, _, _, _, h => ⟨h.1, hK _ _ h.2⟩
  | fuel + 1, _, _, _, h => ⟨fun h0 => hK _ _ (h.1 h0), fun i hi => opIn hd (fun a' w' h' => anyIn hd hK fuel _ a' w' h') (h.2 i hi)⟩

def noDefers (ops : Array Oper) : Bool := ops.all fun o => match o.op with | .defer _ => false | _ => true
theorem noDefers_spec {ops : Array Oper} (h : noDefers ops = true) (j : Nat) (o : Oper) (c) (ho : ops[j]? = some o) : o.op ≠ .defer c := by
  intro e
  unfold noDefers at h
  rw [Array.all_eq_true] at h
  obtain ⟨hj, rfl⟩ := Array.getElem?_eq_some_iff.1 ho
  have := h j hj
  rw [e] at this
  simp at this

/-- reads, and then a tail in one order: in a round -/
theorem wpIn_round_tail {P : Program} {id : Nat} {Q : Exit → Act → World → Prop} {a : Act} {w : World} {l : List Oper} {lr m : Nat} (K : Act → World → Prop) (n : Nat) (hm : P.follows .mixedOrders = true) (hB : Region.lexTailB .any l.toArray n = true) (hd : noDefers l.toArray = true)
    (h : wpStill P l.toArray w.drew (fun a' => wpList P l.toArray (Q0 K) (l.drop n) a' w.drew) (l.take n) a) (hK : ∀ a w, K a w → Q .normal a w) : (Code.region id l.toArray true).wpIn (Fence.wide.inRound lr) m P Q a w := by
  simp only [Region.lexTailB, Bool.and_eq_true, decide_eq_true_eq] at hB
  obtain ⟨⟨⟨⟨hsel, hn⟩, hs⟩, hc⟩, hlex⟩ := hB
  have hn' : n < l.length := by simpa using hn
  have htl : (l.take n).length = n := by simp; omega
  have hdl : (l.drop n).length = l.toArray.size - n := by simp
  have inv0 : HeadInv .any l.toArray n (Array.replicate l.toArray.size false) :=
    ⟨by simp, fun j oj _ hl => (by rw [getD_replicate_false] at hl; cases hl), fun t _ ht => getD_in (by simpa using ht) (getD_replicate_false _ _)⟩
  have H := wpAnyL_lex (md := .any) (g := l.toArray.size - n) hsel hs hc hn (l.take n) 0 _ a (fun j hj => by
    have hj' : j < n := by rw [htl] at hj; exact hj
    simp [hj']) (by simpa using htl) inv0 (by rw [htl]; exact hlex) h
  refine wpIn_region_any hm (anyIn (noDefers_spec hd) hK _ _ _ _ ?_)
  have := wpAny_of_head (Q' := Q0 K) (g := l.toArray.size - n) (fun listed a' hL => by
    have := wpAny_of_seq (md := .any) (Q' := Q0 K) (l.drop n) n listed a' w.drew (fun j => by simp [List.getElem?_drop]) (by rw [hdl]; exact hL.1) hL.2
    rwa [hdl] at this) _ _ _ H
  rw [htl, show n + (l.toArray.size - n) = l.toArray.size by omega] at this
  exact this

variable {P : Program} {ops : Array Oper} {Q : Exit → Act → World → Prop} {md : Region.Mode} {S : World → Prop} {last : Nat}

/-- the held walk: in a round -/
theorem wpIn_round_held {P : Program} {id : Nat} {Q : Exit → Act → World → Prop} {a : Act} {w : World} {ops : Array Oper} {lr m : Nat} (K : Act → World → Prop) (S : World → Prop) (last : Nat) (hm : P.follows .mixedOrders = true) (hd : noDefers ops = true) (hS : S w.drew)
    (h : S w.drew → wpAnyS P .any ops (Q0 K) S last ops.size (Array.replicate ops.size false) a w.drew) (hK : ∀ a w, K a w → Q .normal a w) : (Code.region id ops true).wpIn (Fence.wide.inRound lr) m P Q a w :=
  wpIn_region_any hm (anyIn (noDefers_spec hd) hK _ _ _ _ (wpAny_of_S _ _ _ _ (h hS)))

theorem chunk_stops (m Bs Bn : Nat) (a : Option Addr) (g off n c : Nat) (hc : n ≤ c) (hn : n ≤ 6000) (hA : 0 < n → a = some ⟨g, off, none⟩) (w : World) (hBs : w.heap[Bs]? = some (.cells #[.slice a n c] 22 (0, 0))) (hBn : w.heap[Bn]? = some (.cells #[.int .i64 6] 3 (0, 0))) :
    SeqStopsK Fence.wide m Tryd.prog 61 #[.pointer (some ⟨Bs, 0, none⟩), .pointer (some ⟨Bn, 0, none⟩)] (fun x : Nat => #[ckV g off n x]) (Kp2 Bs Bn) (fun ys => ys = List.range ((n + 5) / 6)) (fun pre => ∃ k, k ≤ (n + 5) / 6 ∧ pre = List.range k) ((n + 5) / 6) w :=
  fun l J Jx W hW hJ _ hY h0 => chunkF_in m l Bs Bn a g off n c hc hn hA J Jx (fun s A d hs => hJ s A _ none hs ⟨rfl, rfl, rfl, Nat.le_refl _, fun _ _ _ => rfl⟩ (fun _ h => by cases h)) hY W ((hW.block Bs (blk_lt hBs)).trans hBs) ((hW.block Bn (blk_lt hBn)).trans hBn) h0

end Go.Proofs.YtgbcmkkbhbkfeaaDoor
