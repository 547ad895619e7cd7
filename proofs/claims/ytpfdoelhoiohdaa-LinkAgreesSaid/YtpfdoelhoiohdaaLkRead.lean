/-
  OUTCOMES, as they read.
  No condition.
-/
import Derived.Test.YtpfdoelhoiohdaaVaRead
import Derived.Test.YtpfdoelhoiohdaaNtAgg
import Derived.Test.YtpfdoelhoiohdaaLkAgree
namespace Go.Nt
open Go Go.ChangeShapes Go.WideShapes Go.RowKit

variable {H : Type} {enc : TypeId × Value → H} {P : Program} {w : World} {base : Nat} {spare : Nat → Bool} {held : Bool}

theorem read_Oc {tV tS tI tN : TypeId} {f0 f1 f2 f3 : Field} (hV : P.underlying tV = some (.struct #[f0, f1, f2, f3])) (e0 : f0.type = tI) (o0 : f0.offset = 0) (e1 : f1.type = tN) (o1 : f1.offset = 1)
    (e2 : f2.type = tS) (o2 : f2.offset = 2) (e3 : f3.type = tI) (o3 : f3.offset = 3)
    (hI : P.underlying tI = some (.int .i64)) (hN : P.underlying tN = some (.int .i64)) (hS : P.underlying tS = some (.slice tN)) (c : P.cellsOf tV = 4) (cI : P.cellsOf tI = 1) (cN : P.cellsOf tN = 1) (cS : P.cellsOf tS = 1)
    (fuel : Nat) (cs : List Value) (x : DataW H × List MemPlace) (h : DataW.trod enc P w base spare held fuel tV cs = some x) : ∃ o : Lk.Oc, o.t.length ≤ 9223372036854775807 ∧ Rep w N0 [] bl0 (.agg cs.toArray) o.enc := by
  obtain ⟨xs, n, rfl, rfl, hl, hlen, hf⟩ := DataW.trod_struct hV h
  rw [c] at hl
  match cs, hl with
  | [c0, c1, c2, c3], _ =>
    match xs, hlen with
    | [y0, y1, y2, y3], _ =>
      have h0 := hf 0 f0 rfl
      have h1 := hf 1 f1 rfl
      have h2 := hf 2 f2 rfl
      have h3 := hf 3 f3 rfl
      simp only [e0, o0, cI, e1, o1, cN, e2, o2, cS, e3, o3, List.drop_zero, List.take_succ_cons, List.take_zero, List.drop_succ_cons, List.getElem?_cons_zero, List.getElem?_cons_succ] at h0 h1 h2 h3
      obtain ⟨n0, q0, _, _⟩ := DataW.trod_int hI h0
      obtain rfl : c0 = .int .i64 n0 := by simpa using q0
      obtain ⟨n1, q1, _, _⟩ := DataW.trod_int hN h1
      obtain rfl : c1 = .int .i64 n1 := by simpa using q1
      obtain ⟨n3, q3, _, _⟩ := DataW.trod_int hI h3
      obtain rfl : c3 = .int .i64 n3 := by simpa using q3
      obtain ⟨fl, l, g1, _, g3⟩ := read_ints hN hS cN h2
      refine ⟨⟨n0, n1, fl, l, n3⟩, g1, ?_⟩
      exact reps_app (reps_one rfl (.int _ _)) (reps_app (reps_one rfl (.int _ _)) (reps_app (reps_one (by cases fl <;> cases l <;> rfl) g3) (reps_one rfl (.int _ _))))

end Go.Nt
