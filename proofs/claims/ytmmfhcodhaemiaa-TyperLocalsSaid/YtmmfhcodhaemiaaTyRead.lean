/-
  LISTS OF TERMS, as they read.
  No condition.
-/
import Derived.Test.YtmmfhcodhaemiaaTmVal
namespace Go.Nt
open Go Go.ChangeShapes Go.WideShapes Go.RowKit

variable {H : Type} {enc : TypeId × Value → H} {P : Program} {w : World} {base : Nat} {spare : Nat → Bool} {held : Bool}

theorem read_Tl {tV tS tI tN tZ : TypeId} {f0 f1 f2 f3 f4 f5 : Field} (hV : P.underlying tV = some (.struct #[f0, f1, f2, f3, f4, f5])) (e0 : f0.type = tI) (o0 : f0.offset = 0) (e1 : f1.type = tN) (o1 : f1.offset = 1)
    (e2 : f2.type = tZ) (o2 : f2.offset = 2) (e3 : f3.type = tS) (o3 : f3.offset = 3) (e4 : f4.type = tI) (o4 : f4.offset = 4) (e5 : f5.type = tI) (o5 : f5.offset = 5)
    (hI : P.underlying tI = some (.int .i64)) (hN : P.underlying tN = some (.int .i64)) (hZ : P.underlying tZ = some .string) (hS : P.underlying tS = some (.slice tV)) (c : P.cellsOf tV = 6) (cI : P.cellsOf tI = 1) (cN : P.cellsOf tN = 1) (cZ : P.cellsOf tZ = 1) (cS : P.cellsOf tS = 1)
    {fuel : Nat} {v : Value} {x : DataW H × List MemPlace} (h : DataW.trod enc P w base spare held fuel tS [v] = some x) :
    ∃ (fl : Fl) (l : List Tm), l.length ≤ 9223372036854775807 ∧ (∀ t, t ∈ l → t.ok) ∧ Rep w N0 [] bl0 v (slE 6 fl (encTs l)) := by
  have hml : maxLen = 9223372036854775807 := rfl
  rcases DataW.trod_slice hS h with ⟨q1, _⟩ | ⟨a, len, cap, elems, rest, m, rfl, q1, _, _, hlc, hcm, hel, hat, _⟩
  · obtain rfl : v = .slice none 0 0 := by simpa using q1
    exact ⟨.nil, [], by simp, (fun u hu => by simp at hu), .nils⟩
  · obtain rfl : v = .slice (some a) len cap := by simpa using q1
    rw [c] at hat
    obtain ⟨l, l1, l2, l3⟩ := rep_slice (w := w) (base := base) (enc := encT) (a := a) (len := len) (cap := cap) (sz := 6) Tm.ok (by omega) hlc (fun v _ => ⟨encT_pure v, by simp⟩) (by
      intro i hi
      have hi' : i < elems.length := by omega
      have := hat i hi
      rw [List.getElem?_eq_getElem hi', Option.bind_eq_some_iff] at this
      obtain ⟨es, he, ht⟩ := this
      obtain ⟨v, hv, hr⟩ := read_T hV e0 o0 e1 o1 e2 o2 e3 o3 e4 o4 e5 o5 hI hN hZ hS c cI cN cZ cS _ es _ ht
      exact ⟨es, .agg es.toArray, v, he, by simp [Value.cells], hr, hv⟩)
    rw [← encTs_map] at l3
    exact ⟨.part, l, by omega, l2, l3⟩

end Go.Nt
