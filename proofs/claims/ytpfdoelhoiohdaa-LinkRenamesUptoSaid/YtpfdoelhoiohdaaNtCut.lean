/-
  HEAPS, POINT BY POINT; objects behind a heap.
  No condition.
-/
import Derived.Test.YtpfdoelhoiohdaaNtSim
namespace Go.Nt

theorem at_get {st : St} {i : Nat} (h : i < st.length) : St.at st i = st[i] := by simp [St.at, h]

theorem settled_of : ∀ {st st' : St}, st.length ≤ st'.length → (∀ i, i < st.length → St.at st' i = St.at st i ∨ (St.at st' i).pureO = true) → settled st st' = true
  | [], _, _, _ => rfl
  | _ :: _, [], h, _ => by simp at h
  | o :: st, o' :: st', hl, h => by
    simp only [settled, Bool.and_eq_true, Bool.or_eq_true, beq_iff_eq]
    refine ⟨?_, settled_of (by simpa using hl) fun i hi => h (i + 1) (by simpa using hi)⟩
    rcases h 0 (by simp) with q | q
    · left; have q' : o' = o := q
      rw [q']
    · exact .inr q

theorem take_of {st st' : St} (hl : st.length ≤ st'.length) (h : ∀ i, i < st.length → St.at st' i = St.at st i) : st'.take st.length = st := by
  refine List.ext_getElem (by rw [List.length_take]; omega) fun i h1 h2 => ?_
  have := h i h2
  rw [at_get h2, at_get (by omega)] at this
  rw [List.getElem_take]; exact this

theorem settled_set {st : St} {i : Nat} {o : Ob} (ho : o.pureO = true) : settled st (List.set st i o) = true := by
  refine settled_of (by simp) fun j hj => ?_
  by_cases hi : i < st.length
  · rw [at_set _ _ _ _ hi]
    by_cases e : j = i
    · rw [if_pos e]; exact .inr ho
    · rw [if_neg e]; exact .inl rfl
  · rw [List.set_eq_of_length_le (by omega)]; exact .inl rfl

/-! ### Objects behind a heap -/

theorem at_app (st l : St) (k : Nat) : St.at (st ++ l) (st.length + k) = St.at l k := by
  simp only [St.at, List.getD_eq_getElem?_getD]
  rw [List.getElem?_append_right (by omega), Nat.add_sub_cancel_left]
theorem at_app0 (st l : St) : St.at (st ++ l) st.length = St.at l 0 := at_app st l 0
theorem at_lt (st l : St) {i : Nat} (h : i < st.length) : St.at (st ++ l) i = St.at st i := by simp [St.at, List.getElem?_append_left h]
theorem set_app (st l : St) (k : Nat) (o : Ob) : List.set (st ++ l) (st.length + k) o = st ++ List.set l k o := by
  rw [List.set_append_right _ _ (by omega)]; simp
theorem set_app0 (st l : St) (o : Ob) : List.set (st ++ l) st.length o = st ++ List.set l 0 o := set_app st l 0 o
theorem set_lt (st l : St) {i : Nat} (h : i < st.length) (o : Ob) : List.set (st ++ l) i o = List.set st i o ++ l := List.set_append_left _ _ h

/-- A pure call, its arguments freed first. -/
theorem callD_free {T : Nat → Option IFunc} {go : GoF} {f : Nat} {fn : IFunc} (hT : T f = some fn) (hm : fn.mode = .pure) {args args' : List D} {st st' : St} {q : D} (h1 : pureArgs st args = some (args', st')) (h2 : pureArgs st' args' = some (args', st'))
    (h : callD T go f args' st' = some (q, st')) : callD T go f args st = some (q, st') := by
  simp only [callD, hT, hm, h1, h2, Option.bind_some] at h ⊢
  exact h

@[simp] theorem rewrap_nils (d : D) : rewrap .nils [d] = some d := (rfl)
@[simp] theorem rewrap_rs (i v z o l : Nat) (f : Bool) (d : D) : rewrap (.rs i v z o l f) [d] = some d := (rfl)
@[simp] theorem rewrap_sl (z : Nat) (f : Bool) (ds : List D) (d : D) : rewrap (.sl z f ds) [d] = some d := (rfl)
@[simp] theorem rewrap_int (k : IntKind) (n : Int) (d : D) : rewrap (.int k n) [d] = some d := (rfl)
@[simp] theorem rewrap_bool (b : Bool) (d : D) : rewrap (.bool b) [d] = some d := (rfl)
@[simp] theorem rewrap_str (s : List UInt8) (d : D) : rewrap (.str s) [d] = some d := (rfl)

/-- How a run ends that a call by 'cut' comes to. -/
def Ends (st : St) (q : D) (st3 : St) (res : Option (D × St)) : Prop := ∃ r st1 st2, res = some (r, st1) ∧ fz st1 r = some (q, st2) ∧ settled st st2 = true ∧ st2.take st.length = st3
theorem Ends.mk {st st3 st1 st2 : St} {q r : D} (h1 : fz st1 r = some (q, st2)) (h2 : settled st st2 = true ∧ st2.take st.length = st3) : Ends st q st3 (some (r, st1)) := ⟨r, st1, st2, rfl, h1, h2.1, h2.2⟩

theorem callD_cutE {T : Nat → Option IFunc} {f : Nat} {fn : IFunc} (hT : T f = some fn) (hm : fn.mode = .cut) {args : List D} {st st3 : St} {q : D} (hargs : args.all D.okv = true)
    (hp : q.pureT = true) (h : Ends st q st3 (ev T f args st)) : callD T (ev T) f args st = some (q, st3) := by
  obtain ⟨r, st1, st2, h1, h2, h3, h4⟩ := h
  exact callD_cut hT hm hargs h1 h2 hp h3 h4

end Go.Nt
