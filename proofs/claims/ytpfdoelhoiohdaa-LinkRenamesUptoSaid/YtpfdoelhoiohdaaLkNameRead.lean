/-
  NAMINGS, as they read.
  No condition.
-/
import Derived.Test.YtpfdoelhoiohdaaVaRead
import Derived.Test.YtpfdoelhoiohdaaNtAgg
import Derived.Test.YtpfdoelhoiohdaaLkName1
namespace Go.Nt
open Go Go.ChangeShapes Go.WideShapes Go.RowKit

variable {H : Type} {enc : TypeId × Value → H} {P : Program} {w : World} {base : Nat} {spare : Nat → Bool} {held : Bool}

/-- A naming, as the reading tells it. -/
def nmW {H : Type} (n : Lk.Nm) : DataW H := .agg [.lit (.string n.1), .lit (.string n.2)]

theorem read_Nm {tV tZ : TypeId} {f0 f1 : Field} (hV : P.underlying tV = some (.struct #[f0, f1])) (e0 : f0.type = tZ) (o0 : f0.offset = 0) (e1 : f1.type = tZ) (o1 : f1.offset = 1)
    (hZ : P.underlying tZ = some .string) (c : P.cellsOf tV = 2) (cZ : P.cellsOf tZ = 1)
    (fuel : Nat) (cs : List Value) (x : DataW H × List MemPlace) (h : DataW.trod enc P w base spare held fuel tV cs = some x) : ∃ n : Lk.Nm, x.1 = nmW n ∧ Rep w N0 [] bl0 (.agg cs.toArray) (Lk.encN n) := by
  obtain ⟨xs, m, rfl, rfl, hl, hlen, hf⟩ := DataW.trod_struct hV h
  rw [c] at hl
  match cs, hl with
  | [c0, c1], _ =>
    match xs, hlen with
    | [y0, y1], _ =>
      have h0 := hf 0 f0 rfl
      have h1 := hf 1 f1 rfl
      simp only [e0, o0, e1, o1, cZ, List.drop_zero, List.take_succ_cons, List.take_zero, List.drop_succ_cons, List.getElem?_cons_zero, List.getElem?_cons_succ] at h0 h1
      obtain ⟨s0, q0, p0, _⟩ := DataW.trod_string hZ h0
      obtain rfl : c0 = .string s0 := by simpa using q0
      obtain ⟨s1, q1, p1, _⟩ := DataW.trod_string hZ h1
      obtain rfl : c1 = .string s1 := by simpa using q1
      refine ⟨(s0.data.toList, s1.data.toList), by simp [nmW, p0, p1], ?_⟩
      exact reps_app (reps_one rfl (.str _)) (reps_one rfl (.str _))

/-- A slice of namings; each one is told of. -/
theorem read_Nms {tS tV tZ : TypeId} {f0 f1 : Field} (hS : P.underlying tS = some (.slice tV)) (hV : P.underlying tV = some (.struct #[f0, f1])) (e0 : f0.type = tZ) (o0 : f0.offset = 0) (e1 : f1.type = tZ) (o1 : f1.offset = 1)
    (hZ : P.underlying tZ = some .string) (c : P.cellsOf tV = 2) (cZ : P.cellsOf tZ = 1) {fuel : Nat} {v : Value} {x : DataW H × List MemPlace}
    (h : DataW.trod enc P w base spare held fuel tS [v] = some x) : ∃ (fl : Fl) (l : List Lk.Nm), (l = [] ∨ ∃ elems sp, x.1 = .slice elems sp ∧ ∀ n, n ∈ l → nmW n ∈ elems) ∧ Rep w N0 [] bl0 v (slE 2 fl (l.map Lk.encN)) := by
  rcases DataW.trod_slice hS h with ⟨q1, _⟩ | ⟨a, len, cap, elems, rest, m, rfl, q1, hx, _, hlc, hcm, hel, hat, _⟩
  · obtain rfl : v = .slice none 0 0 := by simpa using q1
    exact ⟨.nil, [], .inl rfl, .nils⟩
  · obtain rfl : v = .slice (some a) len cap := by simpa using q1
    rw [c] at hat
    obtain ⟨l, l1, l2, l3⟩ := rep_slice (w := w) (base := base) (enc := Lk.encN) (a := a) (len := len) (cap := cap) (sz := 2) (fun n => nmW n ∈ elems.map (·.1)) (by omega) hlc (fun v _ => ⟨Lk.encN_pure v, by simp⟩) (by
      intro i hi
      have hi' : i < elems.length := by omega
      have := hat i hi
      rw [List.getElem?_eq_getElem hi', Option.bind_eq_some_iff] at this
      obtain ⟨es, he, ht⟩ := this
      obtain ⟨n, hn, hr⟩ := read_Nm hV e0 o0 e1 o1 hZ c cZ m es _ ht
      exact ⟨es, .agg es.toArray, n, he, by simp [Value.cells], hr, List.mem_map.2 ⟨elems[i], List.getElem_mem _, hn⟩⟩)
    exact ⟨.part, l, .inr ⟨_, _, by rw [hx], l2⟩, l3⟩

end Go.Nt
