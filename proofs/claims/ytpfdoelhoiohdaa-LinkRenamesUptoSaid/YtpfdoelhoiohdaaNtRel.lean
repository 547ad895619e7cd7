/-
  HOW THE ABSTRACT MACHINE's DATA STAND FOR VALUES AND MEMORY OF THE MODEL; what keeps that.
  No condition: definitions, and lemmas on them.
-/
import Derived.Test.YtpfdoelhoiohdaaNtDefs
import Derived.Below
namespace Go.Nt
open Go

abbrev Bl := Nat → Nat

/-- The blocks of the objects that are still written. -/
def LiveB (st : St) (bl : Bl) (b : Nat) : Prop := ∃ id, id < st.length ∧ (St.at st id).live = true ∧ bl id = b

/-- What no inline datum may lie in. -/
def NN (L : Nat → Prop) (st : St) (bl : Bl) (b : Nat) : Prop := L b ∨ LiveB st bl b

def D.cell : D → Bool
  | .agg _ | .tup _ | .lp .. => false
  | _ => true

def Ob.isMap : Ob → Bool
  | .map .. => true
  | _ => false

def MemAt (w : World) (N : Nat → Prop) (b o : Nat) (v : Value) : Prop :=
  ¬ N b ∧ b < w.heap.size ∧ ∀ (j : Nat) (u : Value), v.cells[j]? = some u → w.cell? ⟨b, o + j, none⟩ = some u

inductive Rep (w : World) (N : Nat → Prop) (st : St) (bl : Bl) : Value → D → Prop
  | bool (b : Bool) : Rep w N st bl (.bool b) (.bool b)
  | int (k : IntKind) (n : Int) : Rep w N st bl (.int k n) (.int k n)
  | str (s : ByteArray) : Rep w N st bl (.string s) (.str s.data.toList)
  | agg (cs : Array Value) (ds : List D) (hl : cs.size = ds.length) (hc : ∀ (i : Nat) (d : D), ds[i]? = some d → d.cell = true)
      (h : ∀ (i : Nat) (v : Value) (d : D), cs[i]? = some v → ds[i]? = some d → Rep w N st bl v d) : Rep w N st bl (.agg cs) (.agg ds)
  | tup (vs : Array Value) (ds : List D) (hl : vs.size = ds.length) (h : ∀ (i : Nat) (v : Value) (d : D), vs[i]? = some v → ds[i]? = some d → Rep w N st bl v d) : Rep w N st bl (.tuple vs) (.tup ds)
  | nilp : Rep w N st bl (.pointer none) .nilp
  | iptr (b o : Nat) (v : Value) (d : D) (hm : MemAt w N b o v) (hp : d.pure = true) (h : Rep w N st bl v d) : Rep w N st bl (.pointer (some ⟨b, o, none⟩)) (.iptr d)
  | hp (id ver sz idx off : Nat) (a : Addr) (hi : id < st.length) (hv : ver ≤ (St.at st id).ver) (ha : (St.at st id).ver = ver → a = ⟨bl id, idx * sz + off, none⟩) :
      Rep w N st bl (.pointer (some a)) (.hp id ver sz idx off)
  | nils : Rep w N st bl (.slice none 0 0) .nils
  | sl (sz : Nat) (full : Bool) (ds : List D) (a : Addr) (cap : Nat) (vs : Nat → Value) (hc : ds.length ≤ cap) (hf : full = true → cap = ds.length) (hs : ds ≠ [] → a.spot = none)
      (hp : ∀ (i : Nat) (d : D), ds[i]? = some d → d.pure = true ∧ d.cells.length = sz) (hm : ∀ (i : Nat) (d : D), ds[i]? = some d → MemAt w N a.block (a.off + i * sz) (vs i))
      (h : ∀ (i : Nat) (d : D), ds[i]? = some d → Rep w N st bl (vs i) d) : Rep w N st bl (.slice (some a) ds.length cap) (.sl sz full ds)
  | rs (id ver sz off len : Nat) (full : Bool) (a : Addr) (cap : Nat) (hi : id < st.length) (hv : ver ≤ (St.at st id).ver) (hc : len ≤ cap) (hf : full = true → cap = len)
      (ha : (St.at st id).ver = ver → (cap ≠ 0 → a = ⟨bl id, off * sz, none⟩) ∧ ∃ c e f, w.heap[bl id]? = some (.cells c e f) ∧ (off + cap) * sz ≤ c.size) :
      Rep w N st bl (.slice (some a) len cap) (.rs id ver sz off len full)
  | nilf : Rep w N st bl .nilFunc .nilf
  | fn (f : Nat) (xs ys : Array Value) (ds es : List D) (hl : xs.size = ds.length) (hk : ys.size = es.length)
      (h : ∀ (i : Nat) (v : Value) (d : D), xs[i]? = some v → ds[i]? = some d → Rep w N st bl v d)
      (k : ∀ (i : Nat) (v : Value) (d : D), ys[i]? = some v → es[i]? = some d → Rep w N st bl v d) : Rep w N st bl (.func (.func f) xs ys) (.fn f ds es)
  | nilm : Rep w N st bl (.map none) .nilm
  | nili : Rep w N st bl .nilIface .nili
  | mp (id : Nat) (hi : id < st.length) (hm : (St.at st id).isMap = true) : Rep w N st bl (.map (some (bl id))) (.mp id)

def SameSize (w w' : World) (b : Nat) : Prop := ∀ c e f, w.heap[b]? = some (.cells c e f) → ∃ c' f', w'.heap[b]? = some (.cells c' e f') ∧ c'.size = c.size

/-- What carries a standing over. -/
structure Ext (w : World) (N : Nat → Prop) (st : St) (bl : Bl) (w' : World) (N' : Nat → Prop) (st' : St) (bl' : Bl) : Prop where
  same : ∀ b, ¬ N b → b < w.heap.size → w'.heap[b]? = w.heap[b]? ∧ ¬ N' b
  len : st.length ≤ st'.length
  ver : ∀ id, id < st.length → (St.at st id).ver ≤ (St.at st' id).ver ∧ ((St.at st' id).ver = (St.at st id).ver → bl' id = bl id ∧ SameSize w w' (bl id))
  map : ∀ id, id < st.length → (St.at st id).isMap = true → (St.at st' id).isMap = true ∧ bl' id = bl id

theorem cell_lt {w : World} {a : Addr} {u : Value} (h : w.cell? a = some u) : a.block < w.heap.size := by
  unfold World.cell? at h
  rcases Nat.lt_or_ge a.block w.heap.size with g | g
  · exact g
  · rw [Array.getElem?_eq_none g] at h; simp at h

theorem cell_of_block {w w' : World} {a : Addr} (h : w'.heap[a.block]? = w.heap[a.block]?) : w'.cell? a = w.cell? a := by
  unfold World.cell?; rw [h]

theorem MemAt.ext {w : World} {N : Nat → Prop} {st : St} {bl : Bl} {w' : World} {N' : Nat → Prop} {st' : St} {bl' : Bl} (E : Ext w N st bl w' N' st' bl') {b o : Nat} {v : Value}
    (hsz : w.heap.size ≤ w'.heap.size) (h : MemAt w N b o v) : MemAt w' N' b o v := by
  obtain ⟨h1, hz, h2⟩ := h
  refine ⟨(E.same b h1 hz).2, by omega, fun j u hu => ?_⟩
  rw [cell_of_block (E.same b h1 hz).1]
  exact h2 j u hu

theorem cell_cells {d : D} (h : d.cell = true) : d.cells = [d] := by cases d <;> simp_all [D.cell, D.cells]

theorem Rep.cells_size {w : World} {N : Nat → Prop} {st : St} {bl : Bl} {v : Value} {d : D} (h : Rep w N st bl v d) : v.cells.size = d.cells.length := by
  cases h <;> first | rfl | (simp [Value.cells, D.cells]; done) | (simp only [Value.cells, D.cells]; assumption)

theorem Rep.cells_one {w : World} {N : Nat → Prop} {st : St} {bl : Bl} {v : Value} {d : D} (h : Rep w N st bl v d) (hd : ∀ cs, d ≠ .agg cs) : v.cells = #[v] ∧ d.cells = [d] := by
  cases h <;> first | exact ⟨rfl, rfl⟩ | exact absurd rfl (hd _)

/-- The cells of a value stand for the cells of its datum. -/
theorem Rep.cells {w : World} {N : Nat → Prop} {st : St} {bl : Bl} {v : Value} {d : D} (h : Rep w N st bl v d) {i : Nat} {u : Value} {c : D} (hu : v.cells[i]? = some u) (hc : d.cells[i]? = some c) :
    Rep w N st bl u c := by
  by_cases hd : ∃ cs, d = .agg cs
  · obtain ⟨cs, rfl⟩ := hd
    cases h with
    | agg cs ds hl hcell h => exact h i u c hu hc
  · obtain ⟨h1, h2⟩ := h.cells_one (fun cs e => hd ⟨cs, e⟩)
    rw [h1] at hu; rw [h2] at hc
    cases i with
    | zero => simp at hu hc; subst hu; subst hc; exact h
    | succ i => simp at hu

theorem Rep.ext {w : World} {N : Nat → Prop} {st : St} {bl : Bl} {w' : World} {N' : Nat → Prop} {st' : St} {bl' : Bl} (E : Ext w N st bl w' N' st' bl') (hsz : w.heap.size ≤ w'.heap.size) {v : Value} {d : D}
    (h : Rep w N st bl v d) : Rep w' N' st' bl' v d := by
  induction h with
  | bool b => exact .bool b
  | int k n => exact .int k n
  | str s => exact .str s
  | agg cs ds hl hc h ih => exact .agg cs ds hl hc ih
  | tup vs ds hl h ih => exact .tup vs ds hl ih
  | nilp => exact .nilp
  | iptr b o v d hm hp h ih => exact .iptr b o v d (hm.ext E hsz) hp ih
  | hp id ver sz idx off a hi hv ha =>
    have hl := E.len
    obtain ⟨h1, h2⟩ := E.ver id hi
    refine .hp id ver sz idx off a (by omega) (by omega) fun e => ?_
    have e2 : (St.at st id).ver = ver := by omega
    rw [(h2 (by omega)).1]
    exact ha e2
  | nils => exact .nils
  | sl sz full ds a cap vs hc hf hs hp hm h ih => exact .sl sz full ds a cap vs hc hf hs hp (fun i d hd => (hm i d hd).ext E hsz) ih
  | rs id ver sz off len full a cap hi hv hc hf ha =>
    have hl := E.len
    obtain ⟨h1, h2⟩ := E.ver id hi
    refine .rs id ver sz off len full a cap (by omega) (by omega) hc hf fun e => ?_
    obtain ⟨hb, hs⟩ := h2 (by omega)
    obtain ⟨h3, c, e', f, h4, h5⟩ := ha (by omega)
    obtain ⟨c', f', h6, h7⟩ := hs c e' f h4
    rw [hb]
    exact ⟨h3, c', e', f', h6, by omega⟩
  | nilf => exact .nilf
  | fn f xs ys ds es hl hk h k ih ik => exact .fn f xs ys ds es hl hk ih ik
  | nilm => exact .nilm
  | nili => exact .nili
  | mp id hi hm =>
    have hl := E.len
    obtain ⟨h1, h2⟩ := E.map id hi hm
    rw [← h2]
    exact .mp id (by omega) h1

theorem D.pure0_cell {d : D} (h : d.pure0 = true) : d.cell = true := by cases d <;> simp_all [D.pure0, D.cell]

theorem D.p01 {d : D} (h : d.pure0 = true) : d.pure1 = true := by
  cases d with
  | fn f a b =>
    simp only [D.pure0, Bool.and_eq_true, List.isEmpty_iff] at h
    obtain ⟨rfl, rfl⟩ := h
    rfl
  | _ => first | rfl | (simp [D.pure0] at h; done)
theorem D.p1 {d : D} (h : d.pure1 = true) : d.pure = true := by cases d <;> first | rfl | exact h | (simp [D.pure1, D.pure0] at h; done)
theorem D.pT {d : D} (h : d.pure = true) : d.pureT = true := by cases d <;> first | rfl | exact h | (simp [D.pure, D.pure1, D.pure0] at h; done)
theorem D.pF {d : D} (h : d.pureF = true) : d.pure = true := by
  cases d <;> first | (simp only [D.pureF] at h; exact D.p1 (D.p01 h)) | skip
  simp only [D.pureF, List.all_eq_true] at h
  simp only [D.pure, List.all_eq_true]
  exact fun x hx => D.p01 (h x hx)

theorem all_get {α : Type} {ds : List α} {i : Nat} {d : α} {p : α → Bool} (h : ds.all p = true) (hd : ds[i]? = some d) : p d = true := List.all_eq_true.1 h d (List.mem_of_getElem? hd)

/-- What is free of the heap stands under every heap, if its memory is as it was. -/
theorem Rep.free {w : World} {N : Nat → Prop} {st : St} {bl : Bl} {w' : World} {N' : Nat → Prop} {st' : St} {bl' : Bl}
    (E : ∀ b, ¬ N b → b < w.heap.size → w'.heap[b]? = w.heap[b]? ∧ ¬ N' b) (hsz : w.heap.size ≤ w'.heap.size) {v : Value} {d : D}
    (h : Rep w N st bl v d) : d.pureT = true → Rep w' N' st' bl' v d := by
  have hm' : ∀ {b o : Nat} {v : Value}, MemAt w N b o v → MemAt w' N' b o v := by
    intro b o v h
    obtain ⟨h1, hz, h2⟩ := h
    refine ⟨(E b h1 hz).2, by omega, fun j u hu => ?_⟩
    rw [cell_of_block (E b h1 hz).1]
    exact h2 j u hu
  induction h with
  | bool b => intro _; exact .bool b
  | int k n => intro _; exact .int k n
  | str s => intro _; exact .str s
  | agg cs ds hl hc h ih =>
    intro hp
    simp only [D.pureT, D.pure] at hp
    exact .agg cs ds hl hc fun i v d hv hd => ih i v d hv hd (D.pT (D.p1 (all_get hp hd)))
  | tup vs ds hl h ih =>
    intro hp
    simp only [D.pureT] at hp
    exact .tup vs ds hl fun i v d hv hd => ih i v d hv hd (D.pT (all_get hp hd))
  | nilp => intro _; exact .nilp
  | iptr b o v d hm hp h ih => intro _; exact .iptr b o v d (hm' hm) hp (ih (D.pT hp))
  | hp id ver sz idx off a hi hv ha => intro hp; simp [D.pureT, D.pure, D.pure1, D.pure0] at hp
  | nils => intro _; exact .nils
  | sl sz full ds a cap vs hc hf hs hp hm h ih => intro _; exact .sl sz full ds a cap vs hc hf hs hp (fun i d hd => hm' (hm i d hd)) (fun i d hd => ih i d hd (D.pT (hp i d hd).1))
  | rs id ver sz off len full a cap hi hv hc hf ha => intro hp; simp [D.pureT, D.pure, D.pure1, D.pure0] at hp
  | nilf => intro _; exact .nilf
  | fn f xs ys ds es hl hk h k ih ik =>
    intro hp
    simp only [D.pureT, D.pure, D.pure1, Bool.and_eq_true] at hp
    exact .fn f xs ys ds es hl hk (fun i v d hv hd => ih i v d hv hd (D.pT (D.pF (all_get hp.1 hd)))) (fun i v d hv hd => ik i v d hv hd (D.pT (D.p1 (D.p01 (all_get hp.2 hd)))))
  | nilm => intro _; exact .nilm
  | nili => intro _; exact .nili
  | mp id hi hm => intro hp; simp [D.pureT, D.pure, D.pure1, D.pure0] at hp

end Go.Nt
