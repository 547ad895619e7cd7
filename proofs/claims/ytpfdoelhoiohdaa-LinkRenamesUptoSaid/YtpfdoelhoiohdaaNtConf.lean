/-
  A FRAME AND A HEAP OF THE ABSTRACT MACHINE AGAINST A FRAME AND A WORLD OF THE MODEL; what a change of the one is to the other.
  No condition: definitions, and lemmas on them.
-/
import Derived.Test.YtpfdoelhoiohdaaNtRel
namespace Go.Nt
open Go

theorem get_put (l : List D) (i : Nat) (d : D) (j : Nat) : get (put l i d) j = if j = i then d else get l j := by
  induction l generalizing i j with
  | nil =>
    induction i generalizing j with
    | zero => cases j <;> simp [put, get]
    | succ i ih =>
      cases j with
      | zero => simp [put, get]
      | succ j =>
        have := ih j
        simp only [put, get, List.getD_cons_succ] at this ⊢
        rw [this]
        simp
  | cons x l ih =>
    cases i with
    | zero => cases j <;> simp [put, get]
    | succ i =>
      cases j with
      | zero => simp [put, get]
      | succ j =>
        have := ih i j
        simp only [put, get, List.getD_cons_succ] at this ⊢
        rw [this]
        simp

theorem getB_putB (l : List (Nat × List D)) (i : Nat) (d : Nat × List D) (j : Nat) : getB (putB l i d) j = if j = i then d else getB l j := by
  induction l generalizing i j with
  | nil =>
    induction i generalizing j with
    | zero => cases j <;> simp [putB, getB]
    | succ i ih =>
      cases j with
      | zero => simp [putB, getB]
      | succ j =>
        have := ih j
        simp only [putB, getB, List.getD_cons_succ] at this ⊢
        rw [this]
        simp
  | cons x l ih =>
    cases i with
    | zero => cases j <;> simp [putB, getB]
    | succ i =>
      cases j with
      | zero => simp [putB, getB]
      | succ j =>
        have := ih i j
        simp only [putB, getB, List.getD_cons_succ] at this ⊢
        rw [this]
        simp

def OwnB (bx : List (Nat × List D)) (lb : Nat → Nat) (b : Nat) : Prop := ∃ x, (getB bx x).1 ≠ 0 ∧ lb x = b

/-- A slot's value: a pointer to a box of the frame, or what stands for its datum. -/
def SRep (w : World) (N : Nat → Prop) (st : St) (bl : Bl) (rb : Nat → Nat × List D) (lb : Nat → Nat) (v : Value) (d : D) : Prop :=
  match d with
  | .lp b g off => ∃ a : Addr, v = .pointer (some a) ∧ g ≤ (rb b).1 ∧ ((rb b).1 = g → a = ⟨lb b, off, none⟩ ∧ g ≠ 0)
  | d => Rep w N st bl v d

theorem SRep.rep {w : World} {N : Nat → Prop} {st : St} {bl : Bl} {rb : Nat → Nat × List D} {lb : Nat → Nat} {v : Value} {d : D}
    (h : SRep w N st bl rb lb v d) (hd : ∀ b g off, d ≠ .lp b g off) : Rep w N st bl v d := by
  cases d <;> first | exact h | exact absurd rfl (hd _ _ _)
theorem Rep.slot {w : World} {N : Nat → Prop} {st : St} {bl : Bl} {v : Value} {d : D} (rb : Nat → Nat × List D) (lb : Nat → Nat) (h : Rep w N st bl v d) : SRep w N st bl rb lb v d := by
  cases d <;> first | exact h | cases h
theorem SRep.okv {w : World} {N : Nat → Prop} {st : St} {bl : Bl} {rb : Nat → Nat × List D} {lb : Nat → Nat} {v : Value} {d : D}
    (h : SRep w N st bl rb lb v d) (hd : d.okv = true) : Rep w N st bl v d := h.rep fun b g off e => by subst e; simp [D.okv] at hd

/-- What stands in one cell. -/
def CRep (w : World) (N : Nat → Prop) (st : St) (bl : Bl) (cs : Array Value) (o : Nat) (c : D) : Prop := c.cell = true ∧ ∃ v, cs[o]? = some v ∧ Rep w N st bl v c

/-- What a tagged version tells. -/
def TagOK (box : Bool) (ver : Nat) (e : TypeId) (n size : Nat) : Prop := tagOf ver ≠ 0 → e + 1 = tagOf ver ∧ (box = true → size = n)
theorem tag_zero {box : Bool} {e : TypeId} {n size : Nat} : TagOK box 0 e n size := fun h => absurd (by simp [tagOf]) h

theorem tag_small {box : Bool} {ver : Nat} {e : TypeId} {n size : Nat} (h : ver < tagB) : TagOK box ver e n size := fun g => absurd (Nat.div_eq_of_lt h) g

def ObRel (w : World) (N : Nat → Prop) (st : St) (bl : Bl) (b : Nat) : Ob → Prop
  | .cells box sz ver _ fr elems => ∃ cs e lo hi, w.heap[b]? = some (.cells cs e (lo, hi)) ∧ (fr = false → ∀ o, o < cs.size → ¬ (lo ≤ o ∧ o < hi)) ∧ (elems.length * sz ≤ cs.size ∧ TagOK box ver e (elems.length * sz) cs.size) ∧
      ∀ (i : Nat) (d : D), elems[i]? = some d → d.cells.length = sz ∧ d.okv = true ∧ (box = false → d.pure = true) ∧ ∀ (j : Nat) (c : D), d.cells[j]? = some c → CRep w N st bl cs (i * sz + j) c
  | .map _ ents => ∃ es clock, w.heap[b]? = some (.map es clock) ∧ es.size = ents.length ∧ ∀ (i : Nat) (e : MapEntry) (x : D × D), es[i]? = some e → ents[i]? = some x →
      Rep w N st bl e.key x.1 ∧ Rep w N st bl e.val x.2 ∧ x.2.okv = true

structure HRel (w : World) (L : Nat → Prop) (st : St) (bl : Bl) : Prop where
  inj : ∀ i j, i < st.length → j < st.length → bl i = bl j → i = j
  out : ∀ i, i < st.length → ¬ L (bl i)
  obj : ∀ i, i < st.length → ObRel w (NN L st bl) st bl (bl i) (St.at st i)

theorem ObRel.lt {w : World} {N : Nat → Prop} {st : St} {bl : Bl} {b : Nat} {o : Ob} (h : ObRel w N st bl b o) : b < w.heap.size := by
  rcases Nat.lt_or_ge b w.heap.size with g | g
  · exact g
  · cases o <;> simp only [ObRel, Array.getElem?_eq_none g] at h <;> simp at h

/-- How a world and a heap went on. -/
structure Evo (w : World) (st : St) (bl : Bl) (w' : World) (st' : St) (bl' : Bl) : Prop where
  os : w'.os = w.os
  tape : w'.tape = w.tape
  output : w'.output = w.output
  size : w.heap.size ≤ w'.heap.size
  same : ∀ b, b < w.heap.size → ¬ LiveB st bl b → w'.heap[b]? = w.heap[b]?
  live : ∀ b, LiveB st' bl' b → LiveB st bl b ∨ w.heap.size ≤ b
  len : st.length ≤ st'.length
  ver : ∀ id, id < st.length → (St.at st id).ver ≤ (St.at st' id).ver ∧ ((St.at st' id).ver = (St.at st id).ver → bl' id = bl id ∧ SameSize w w' (bl id))
  map : ∀ id, id < st.length → (St.at st id).isMap = true → (St.at st' id).isMap = true ∧ bl' id = bl id
  mod : ∀ id, id < st.length → (St.at st id).mod ≤ (St.at st' id).mod ∧ ((St.at st' id).mod = (St.at st id).mod → St.at st' id = St.at st id ∧ bl' id = bl id ∧ w'.heap[bl id]? = w.heap[bl id]?)

theorem SameSize.refl (w : World) (b : Nat) : SameSize w w b := fun c _ f h => ⟨c, f, h, rfl⟩
theorem SameSize.trans {w w' w'' : World} {b : Nat} (h : SameSize w w' b) (k : SameSize w' w'' b) : SameSize w w'' b := fun c e f hc => by
  obtain ⟨c', f', h1, h2⟩ := h c e f hc
  obtain ⟨c'', f'', h3, h4⟩ := k c' e f' h1
  exact ⟨c'', f'', h3, by omega⟩
theorem SameSize.of_eq {w w' : World} {b : Nat} (h : w'.heap[b]? = w.heap[b]?) : SameSize w w' b := fun c e f hc => ⟨c, f, by rw [h]; exact hc, rfl⟩

theorem Evo.refl (w : World) (st : St) (bl : Bl) : Evo w st bl w st bl :=
  ⟨rfl, rfl, rfl, Nat.le_refl _, fun _ _ _ => rfl, fun _ h => .inl h, Nat.le_refl _, fun _ _ => ⟨Nat.le_refl _, fun _ => ⟨rfl, .refl _ _⟩⟩, fun _ _ h => ⟨h, rfl⟩, fun _ _ => ⟨Nat.le_refl _, fun _ => ⟨rfl, rfl, rfl⟩⟩⟩

theorem Evo.trans {w : World} {st : St} {bl : Bl} {w' : World} {st' : St} {bl' : Bl} {w'' : World} {st'' : St} {bl'' : Bl}
    (h : Evo w st bl w' st' bl') (k : Evo w' st' bl' w'' st'' bl'') : Evo w st bl w'' st'' bl'' := by
  have hs := h.size
  have hl := h.len
  refine ⟨k.os.trans h.os, k.tape.trans h.tape, k.output.trans h.output, Nat.le_trans h.size k.size, fun b hb hn => ?_, fun b hb => ?_, Nat.le_trans h.len k.len, fun id hid => ?_, fun id hid hm => ?_, fun id hid => ?_⟩
  · rw [k.same b (by omega) (fun hx => (h.live b hx).elim hn (fun _ => by omega)), h.same b hb hn]
  · rcases k.live b hb with g | g
    · exact h.live b g
    · exact .inr (by omega)
  · obtain ⟨a1, a2⟩ := h.ver id hid
    obtain ⟨b1, b2⟩ := k.ver id (by omega)
    refine ⟨by omega, fun e => ?_⟩
    obtain ⟨c1, c2⟩ := a2 (by omega)
    obtain ⟨d1, d2⟩ := b2 (by omega)
    rw [c1] at d1 d2
    exact ⟨d1, c2.trans d2⟩
  · obtain ⟨a1, a2⟩ := h.map id hid hm
    obtain ⟨b1, b2⟩ := k.map id (by omega) a1
    exact ⟨b1, b2.trans a2⟩
  · obtain ⟨a1, a2⟩ := h.mod id hid
    obtain ⟨b1, b2⟩ := k.mod id (by omega)
    refine ⟨by omega, fun e => ?_⟩
    obtain ⟨c1, c2, c3⟩ := a2 (by omega)
    obtain ⟨d1, d2, d3⟩ := b2 (by omega)
    rw [c2] at d2 d3
    exact ⟨d1.trans c1, d2, d3.trans c3⟩

/-- What an evolution carries over: all that does not lie in what is written. -/
theorem Evo.ext {w : World} {st : St} {bl : Bl} {w' : World} {st' : St} {bl' : Bl} (h : Evo w st bl w' st' bl') {L : Nat → Prop} :
    Ext w (NN L st bl) st bl w' (NN L st' bl') st' bl' :=
  ⟨fun b hb hz => ⟨h.same b hz (fun g => hb (.inr g)), fun g => g.elim (fun g => hb (.inl g)) (fun g => (h.live b g).elim (fun g => hb (.inr g)) (fun _ => by omega))⟩, h.len, h.ver, h.map⟩

/-- The running function's surroundings. -/
structure Cx where
  L : Nat → Prop
  w : World
  st : St
  bl : Bl
  n : Nat

def Cx.LL (X : Cx) (bx : List (Nat × List D)) (lb : Nat → Nat) (b : Nat) : Prop := X.L b ∨ OwnB bx lb b

structure CR (X : Cx) (c : Cfg) (bl : Bl) (lb : Nat → Nat) (a : Act) (w : World) : Prop where
  outer : ∀ b, X.L b → b < X.w.heap.size
  defers : a.defers = []
  size : X.n ≤ a.tmps.size
  slots : ∀ t, SRep w (NN (X.LL c.1.b lb) c.2 bl) c.2 bl (getB c.1.b) lb (a.tmps.getD t undef) (get c.1.s t)
  boxes : ∀ x, (getB c.1.b x).1 ≠ 0 → X.w.heap.size ≤ lb x ∧ ∃ cs e, w.heap[lb x]? = some (.cells cs e (0, 0)) ∧ cs.size = (getB c.1.b x).2.length ∧
    ∀ (j : Nat) (d : D), (getB c.1.b x).2[j]? = some d → CRep w (NN (X.LL c.1.b lb) c.2 bl) c.2 bl cs j d
  apart : ∀ x y, (getB c.1.b x).1 ≠ 0 → (getB c.1.b y).1 ≠ 0 → lb x = lb y → x = y
  heap : HRel w (X.LL c.1.b lb) c.2 bl
  evo : Evo X.w X.st X.bl w c.2 bl

theorem CRep.ext {w : World} {N : Nat → Prop} {st : St} {bl : Bl} {w' : World} {N' : Nat → Prop} {st' : St} {bl' : Bl} (E : Ext w N st bl w' N' st' bl') (hsz : w.heap.size ≤ w'.heap.size)
    {cs : Array Value} {o : Nat} {c : D} (h : CRep w N st bl cs o c) : CRep w' N' st' bl' cs o c := by
  obtain ⟨h1, v, h2, h3⟩ := h
  exact ⟨h1, v, h2, h3.ext E hsz⟩

theorem SRep.ext {w : World} {N : Nat → Prop} {st : St} {bl : Bl} {w' : World} {N' : Nat → Prop} {st' : St} {bl' : Bl} (E : Ext w N st bl w' N' st' bl') (hsz : w.heap.size ≤ w'.heap.size)
    {rb : Nat → Nat × List D} {lb : Nat → Nat} {v : Value} {d : D} (h : SRep w N st bl rb lb v d) : SRep w' N' st' bl' rb lb v d := by
  cases d <;> first | exact h | exact Rep.ext E hsz h

theorem ObRel.ext {w : World} {N : Nat → Prop} {st : St} {bl : Bl} {w' : World} {N' : Nat → Prop} {st' : St} {bl' : Bl} (E : Ext w N st bl w' N' st' bl') (hsz : w.heap.size ≤ w'.heap.size)
    {b : Nat} {o : Ob} (hb : w'.heap[b]? = w.heap[b]?) (h : ObRel w N st bl b o) : ObRel w' N' st' bl' b o := by
  cases o with
  | cells box sz v m fr elems =>
    obtain ⟨cs, e, lo, hi, h1, h2, h3, h4⟩ := h
    refine ⟨cs, e, lo, hi, by rw [hb]; exact h1, h2, h3, fun i d hd => ?_⟩
    obtain ⟨a1, a2, a3, a4⟩ := h4 i d hd
    exact ⟨a1, a2, a3, fun j c hc => (a4 j c hc).ext E hsz⟩
  | map m ents =>
    obtain ⟨es, clock, h1, h2, h3⟩ := h
    refine ⟨es, clock, by rw [hb]; exact h1, h2, fun i e x he hx => ?_⟩
    obtain ⟨a1, a2, a3⟩ := h3 i e x he hx
    exact ⟨a1.ext E hsz, a2.ext E hsz, a3⟩

/-- The frame stays, the heap goes on. -/
theorem CR.go {X : Cx} {c : Cfg} {bl : Bl} {lb : Nat → Nat} {a : Act} {w : World} (C : CR X c bl lb a w) {w' : World} {st' : St} {bl' : Bl}
    (E : Evo w c.2 bl w' st' bl') (H : HRel w' (X.LL c.1.b lb) st' bl') : CR X (c.1, st') bl' lb a w' := by
  have hLL : ∀ b, X.LL c.1.b lb b → b < w.heap.size := by
    intro b hb
    rcases hb with hb | ⟨x, hx, rfl⟩
    · exact Nat.lt_of_lt_of_le (C.outer b hb) C.evo.size
    · obtain ⟨_, cs, e, hc, _⟩ := C.boxes x hx
      rcases Nat.lt_or_ge (lb x) w.heap.size with g | g
      · exact g
      · rw [Array.getElem?_eq_none g] at hc; simp at hc
  have X' := E.ext (L := X.LL c.1.b lb)
  refine ⟨C.outer, C.defers, C.size, fun t => (C.slots t).ext X' E.size, fun x hx => ?_, C.apart, H, C.evo.trans E⟩
  obtain ⟨h1, cs, e, h2, h3, h4⟩ := C.boxes x hx
  have hb : w'.heap[lb x]? = w.heap[lb x]? := by
    refine E.same _ (hLL _ (.inr ⟨x, hx, rfl⟩)) ?_
    rintro ⟨id, hid, _, hbl⟩
    exact C.heap.out id hid (by rw [hbl]; exact .inr ⟨x, hx, rfl⟩)
  exact ⟨h1, cs, e, by rw [hb]; exact h2, h3, fun j d hd => (h4 j d hd).ext X' E.size⟩

theorem Act.tmps_put (a : Act) (d : Option Tmp) (v : Value) (t : Nat) (hd : ∀ d', d = some d' → d' < a.tmps.size) :
    (a.put d v).tmps.getD t undef = if d = some t then v else a.tmps.getD t undef := by
  cases d with
  | none => simp [Act.put]
  | some d =>
    have := hd d rfl
    simp only [Act.put, Option.some.injEq, Array.getD_eq_getD_getElem?, Array.getElem?_setIfInBounds]
    by_cases h : d = t
    · subst h; simp [this]
    · simp [h]

theorem Act.size_put (a : Act) (d : Option Tmp) (v : Value) : (a.put d v).tmps.size = a.tmps.size := by cases d <;> simp [Act.put]
theorem Act.defers_put (a : Act) (d : Option Tmp) (v : Value) : (a.put d v).defers = a.defers := by cases d <;> rfl

/-- A slot is written. -/
theorem CR.put {X : Cx} {c : Cfg} {bl : Bl} {lb : Nat → Nat} {a : Act} {w : World} (C : CR X c bl lb a w) {dst : Option Nat} (hd : ∀ d, dst = some d → d < X.n) {v : Value} {d : D}
    (h : dst ≠ none → SRep w (NN (X.LL c.1.b lb) c.2 bl) c.2 bl (getB c.1.b) lb v d) : CR X (apply c dst (d, none, none)) bl lb (a.put dst v) w := by
  refine ⟨C.outer, by rw [Act.defers_put]; exact C.defers, by rw [Act.size_put]; exact C.size, fun t => ?_, C.boxes, C.apart, C.heap, C.evo⟩
  rw [Act.tmps_put a dst v t (fun d' e => Nat.lt_of_lt_of_le (hd d' e) C.size)]
  cases dst with
  | none => simpa [apply, putO] using C.slots t
  | some e =>
    simp only [apply, putO, get_put, Option.some.injEq]
    by_cases he : t = e
    · subst he; simpa using h (by simp)
    · rw [if_neg (fun q => he q.symm), if_neg he]; exact C.slots t

end Go.Nt
