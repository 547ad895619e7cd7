/-
  CHANGES OF THE SMALL HEAP AND OF THE FRAME's BOXES against changes of the world: a new block, a block written, an object moved, an object frozen.
  No condition: lemmas.
-/
import Derived.Test.YtpfdoelhoiohdaaNtConf
namespace Go.Nt
open Go

theorem at_append (st : St) (o : Ob) (i : Nat) (h : i < st.length) : St.at (st ++ [o]) i = St.at st i := by
  simp [St.at, List.getD_eq_getElem?_getD, List.getElem?_append_left h]
theorem at_append_self (st : St) (o : Ob) : St.at (st ++ [o]) st.length = o := by
  simp [St.at, List.getD_eq_getElem?_getD]
theorem at_set (st : St) (o : Ob) (i j : Nat) (h : i < st.length) : St.at (List.set st i o) j = if j = i then o else St.at st j := by
  simp only [St.at, List.getD_eq_getElem?_getD, List.getElem?_set]
  by_cases e : i = j
  · subst e; simp [h]
  · rw [if_neg e, if_neg (fun q => e q.symm)]

/-- A new block. -/
structure Al (w w' : World) (o : Obj) : Prop where
  os : w'.os = w.os
  tape : w'.tape = w.tape
  output : w'.output = w.output
  size : w'.heap.size = w.heap.size + 1
  same : ∀ k, k < w.heap.size → w'.heap[k]? = w.heap[k]?
  new : w'.heap[w.heap.size]? = some o

/-- A block written. -/
structure Wr (w w' : World) (b : Nat) (o : Obj) : Prop where
  os : w'.os = w.os
  tape : w'.tape = w.tape
  output : w'.output = w.output
  size : w'.heap.size = w.heap.size
  same : ∀ k, k ≠ b → w'.heap[k]? = w.heap[k]?
  new : w'.heap[b]? = some o

theorem HRel.lt {w : World} {L : Nat → Prop} {st : St} {bl : Bl} (H : HRel w L st bl) {i : Nat} (h : i < st.length) : bl i < w.heap.size := (H.obj i h).lt

/-- A world that has only grown, the heap as it was. -/
theorem Evo.grown {w w' : World} (st : St) (bl : Bl) (hbl : ∀ i, i < st.length → bl i < w.heap.size) (h1 : w'.os = w.os) (h2 : w'.tape = w.tape) (h3 : w'.output = w.output) (h4 : w.heap.size ≤ w'.heap.size)
    (h5 : ∀ k, k < w.heap.size → w'.heap[k]? = w.heap[k]?) : Evo w st bl w' st bl :=
  ⟨h1, h2, h3, h4, fun b hb _ => h5 b hb, fun _ h => .inl h, Nat.le_refl _, fun id hid => ⟨Nat.le_refl _, fun _ => ⟨rfl, .of_eq (h5 _ (hbl id hid))⟩⟩, fun _ _ h => ⟨h, rfl⟩,
    fun id hid => ⟨Nat.le_refl _, fun _ => ⟨rfl, rfl, h5 _ (hbl id hid)⟩⟩⟩

theorem HRel.grown {w w' : World} {L : Nat → Prop} {st : St} {bl : Bl} (H : HRel w L st bl) (h1 : w'.os = w.os) (h2 : w'.tape = w.tape) (h3 : w'.output = w.output) (h4 : w.heap.size ≤ w'.heap.size)
    (h5 : ∀ k, k < w.heap.size → w'.heap[k]? = w.heap[k]?) : HRel w' L st bl := by
  have E := Evo.grown st bl (fun i hi => H.lt hi) h1 h2 h3 h4 h5
  exact ⟨H.inj, H.out, fun i hi => (H.obj i hi).ext (E.ext (L := L)) h4 (h5 _ (H.lt hi))⟩

/-- A new object. -/
theorem new_ext {w w' : World} {L : Nat → Prop} {st : St} {bl : Bl} (H : HRel w L st bl) {o : Obj} (A : Al w w' o) (ob : Ob) :
    Evo w st bl w' (st ++ [ob]) (fun i => if i = st.length then w.heap.size else bl i) := by
  have hne : ∀ i, i < st.length → (if i = st.length then w.heap.size else bl i) = bl i := fun i hi => if_neg (by omega)
  refine ⟨A.os, A.tape, A.output, by have := A.size; omega, fun b hb _ => A.same b hb, fun b hb => ?_, by simp, fun id hid => ?_, fun id hid hm => ?_, fun id hid => ?_⟩
  · obtain ⟨id, hid, hl, hb⟩ := hb
    by_cases h : id = st.length
    · right; simp only [h, if_true] at hb; omega
    · left
      have hid' : id < st.length := by simp at hid; omega
      simp only [if_neg h] at hb
      rw [at_append _ _ _ hid'] at hl
      exact ⟨id, hid', hl, hb⟩
  · rw [at_append _ _ _ hid]; exact ⟨Nat.le_refl _, fun _ => ⟨hne id hid, .of_eq (A.same _ (H.lt hid))⟩⟩
  · rw [at_append _ _ _ hid]; exact ⟨hm, hne id hid⟩
  · rw [at_append _ _ _ hid]; exact ⟨Nat.le_refl _, fun _ => ⟨rfl, hne id hid, A.same _ (H.lt hid)⟩⟩

theorem HRel.new {w w' : World} {L : Nat → Prop} {st : St} {bl : Bl} (H : HRel w L st bl) (hL : ∀ b, L b → b < w.heap.size) {o : Obj} (A : Al w w' o) {ob : Ob}
    (ho : ObRel w' (NN L (st ++ [ob]) (fun i => if i = st.length then w.heap.size else bl i)) (st ++ [ob]) (fun i => if i = st.length then w.heap.size else bl i) w.heap.size ob) :
    HRel w' L (st ++ [ob]) (fun i => if i = st.length then w.heap.size else bl i) := by
  have E := new_ext H A ob
  have hs := A.size
  refine ⟨fun i j hi hj h => ?_, fun i hi => ?_, fun i hi => ?_⟩
  · simp at hi hj
    by_cases h1 : i = st.length <;> by_cases h2 : j = st.length <;> simp only [h1, h2, if_true, if_false] at h
    · omega
    · have := H.lt (i := j) (by omega); omega
    · have := H.lt (i := i) (by omega); omega
    · exact H.inj i j (by omega) (by omega) h
  · simp at hi
    by_cases h1 : i = st.length
    · rw [if_pos h1]; exact fun g => by have := hL _ g; omega
    · rw [if_neg h1]; exact H.out i (by omega)
  · simp at hi
    by_cases h1 : i = st.length
    · subst h1; rw [at_append_self, if_pos rfl]; exact ho
    · rw [at_append _ _ _ (by omega), if_neg h1]
      exact (H.obj i (by omega)).ext (E.ext (L := L)) (by omega) (A.same _ (H.lt (by omega)))

/-- An object turned: written in place, moved to a new block, or frozen. -/
theorem upd_ext {w w' : World} {L : Nat → Prop} {st : St} {bl : Bl} (H : HRel w L st bl) {id : Nat} (hid : id < st.length) (hlive : (St.at st id).live = true) (ob : Ob) (nb : Nat)
    (h1 : w'.os = w.os) (h2 : w'.tape = w.tape) (h3 : w'.output = w.output) (h4 : w.heap.size ≤ w'.heap.size)
    (h5 : ∀ k, k < w.heap.size → k ≠ bl id → w'.heap[k]? = w.heap[k]?) (hnb : nb = bl id ∨ w.heap.size ≤ nb)
    (hver : (St.at st id).ver < ob.ver ∨ (ob.ver = (St.at st id).ver ∧ nb = bl id ∧ SameSize w w' (bl id))) (hmod : (St.at st id).mod < ob.mod)
    (hmap : (St.at st id).isMap = true → ob.isMap = true ∧ nb = bl id) :
    Evo w st bl w' (List.set st id ob) (fun i => if i = id then nb else bl i) := by
  refine ⟨h1, h2, h3, h4, fun b hb hn => h5 b hb fun e => hn ⟨id, hid, hlive, e.symm⟩, fun b hb => ?_, by simp, fun i hi => ?_, fun i hi hm => ?_, fun i hi => ?_⟩
  · obtain ⟨i, hi, hl, hb⟩ := hb
    simp only [List.length_set] at hi
    rw [at_set _ _ _ _ hid] at hl
    by_cases e : i = id
    · subst e
      simp only [if_true] at hb
      subst hb
      rcases hnb with h | h
      · exact .inl ⟨i, hi, hlive, h.symm⟩
      · exact .inr h
    · rw [if_neg e] at hl
      simp only [if_neg e] at hb
      exact .inl ⟨i, hi, hl, hb⟩
  · rw [at_set _ _ _ _ hid]
    by_cases e : i = id
    · subst e
      simp only [if_true]
      rcases hver with h | ⟨h, k, l⟩
      · exact ⟨by omega, fun e => by omega⟩
      · exact ⟨by omega, fun _ => ⟨k, l⟩⟩
    · rw [if_neg e, if_neg e]
      exact ⟨Nat.le_refl _, fun _ => ⟨rfl, .of_eq (h5 _ (H.lt hi) fun q => e (H.inj _ _ hi hid q))⟩⟩
  · rw [at_set _ _ _ _ hid]
    by_cases e : i = id
    · subst e; simp only [if_true]; exact hmap hm
    · rw [if_neg e, if_neg e]; exact ⟨hm, rfl⟩
  · rw [at_set _ _ _ _ hid]
    by_cases e : i = id
    · subst e; simp only [if_true]; exact ⟨by omega, fun e => by omega⟩
    · rw [if_neg e, if_neg e]
      exact ⟨Nat.le_refl _, fun _ => ⟨rfl, rfl, h5 _ (H.lt hi) fun q => e (H.inj _ _ hi hid q)⟩⟩

theorem HRel.upd {w w' : World} {L : Nat → Prop} {st : St} {bl : Bl} (H : HRel w L st bl) (hL : ∀ b, L b → b < w.heap.size) {id : Nat} (hid : id < st.length) {ob : Ob} {nb : Nat}
    (E : Evo w st bl w' (List.set st id ob) (fun i => if i = id then nb else bl i))
    (h5 : ∀ k, k < w.heap.size → k ≠ bl id → w'.heap[k]? = w.heap[k]?) (hnb : nb = bl id ∨ w.heap.size ≤ nb)
    (ho : ObRel w' (NN L (List.set st id ob) (fun i => if i = id then nb else bl i)) (List.set st id ob) (fun i => if i = id then nb else bl i) nb ob) :
    HRel w' L (List.set st id ob) (fun i => if i = id then nb else bl i) := by
  refine ⟨fun i j hi hj h => ?_, fun i hi => ?_, fun i hi => ?_⟩
  · simp only [List.length_set] at hi hj
    by_cases e1 : i = id <;> by_cases e2 : j = id <;> simp only [e1, e2, if_true, if_false] at h
    · omega
    · rcases hnb with q | q
      · have := H.inj id j hid hj (by rw [← q]; exact h); omega
      · have := H.lt hj; omega
    · rcases hnb with q | q
      · have := H.inj i id hi hid (by rw [← q]; exact h); omega
      · have := H.lt hi; omega
    · exact H.inj i j hi hj h
  · simp only [List.length_set] at hi
    by_cases e : i = id
    · rw [if_pos e]
      rcases hnb with q | q
      · rw [q]; exact H.out id hid
      · exact fun g => by have := hL _ g; omega
    · rw [if_neg e]; exact H.out i hi
  · simp only [List.length_set] at hi
    rw [at_set _ _ _ _ hid]
    by_cases e : i = id
    · rw [if_pos e, if_pos e]; exact ho
    · rw [if_neg e, if_neg e]
      exact (H.obj i hi).ext (E.ext (L := L)) E.size (h5 _ (H.lt hi) fun q => e (H.inj _ _ hi hid q))

theorem CR.bound {X : Cx} {c : Cfg} {bl : Bl} {lb : Nat → Nat} {a : Act} {w : World} (C : CR X c bl lb a w) : ∀ b, X.LL c.1.b lb b → b < w.heap.size := by
  intro b hb
  rcases hb with hb | ⟨x, hx, rfl⟩
  · exact Nat.lt_of_lt_of_le (C.outer b hb) C.evo.size
  · obtain ⟨_, cs, e, hc, _⟩ := C.boxes x hx
    rcases Nat.lt_or_ge (lb x) w.heap.size with g | g
    · exact g
    · rw [Array.getElem?_eq_none g] at hc; simp at hc

/-- The world has grown by blocks that nothing knows of. -/
theorem CR.grown {X : Cx} {c : Cfg} {bl : Bl} {lb : Nat → Nat} {a : Act} {w w' : World} (C : CR X c bl lb a w) (h1 : w'.os = w.os) (h2 : w'.tape = w.tape) (h3 : w'.output = w.output) (h4 : w.heap.size ≤ w'.heap.size)
    (h5 : ∀ k, k < w.heap.size → w'.heap[k]? = w.heap[k]?) : CR X c bl lb a w' :=
  C.go (Evo.grown c.2 bl (fun _ hi => C.heap.lt hi) h1 h2 h3 h4 h5) (C.heap.grown h1 h2 h3 h4 h5)

/-- A box of the frame is made (again). -/
theorem CR.boxNew {X : Cx} {c : Cfg} {bl : Bl} {lb : Nat → Nat} {a : Act} {w w' : World} (C : CR X c bl lb a w) {d : Nat} (hd : d < X.n) {cs : Array Value} {e : TypeId} {ds : List D}
    (A : Al w w' (.cells cs e (0, 0))) (hsz : cs.size = ds.length) (hc : ∀ (j : Nat) (x : D), ds[j]? = some x → CRep w (NN (X.LL c.1.b lb) c.2 bl) c.2 bl cs j x) :
    CR X (apply c (some d) (.lp d ((getB c.1.b d).1 + 1) 0, some (d, (getB c.1.b d).1 + 1, ds), none)) bl (fun x => if x = d then w.heap.size else lb x)
      (a.put (some d) (.pointer (some ⟨w.heap.size, 0, none⟩))) w' := by
  have hs := A.size
  have hlt := C.bound
  have own : ∀ b, OwnB (putB c.1.b d ((getB c.1.b d).1 + 1, ds)) (fun x => if x = d then w.heap.size else lb x) b → b = w.heap.size ∨ OwnB c.1.b lb b := by
    rintro b ⟨x, hx, hb⟩
    rw [getB_putB] at hx
    by_cases h : x = d
    · left; simp only [h, if_true] at hb; exact hb.symm
    · right; rw [if_neg h] at hx; simp only [if_neg h] at hb; exact ⟨x, hx, hb⟩
  have E : Ext w (NN (X.LL c.1.b lb) c.2 bl) c.2 bl w' (NN (X.LL (putB c.1.b d ((getB c.1.b d).1 + 1, ds)) (fun x => if x = d then w.heap.size else lb x)) c.2 bl) c.2 bl := by
    refine ⟨fun b hb hz => ⟨A.same b hz, fun g => ?_⟩, Nat.le_refl _, fun id hid => ⟨Nat.le_refl _, fun _ => ⟨rfl, .of_eq (A.same _ (C.heap.lt hid))⟩⟩, fun _ _ h => ⟨h, rfl⟩⟩
    rcases g with (g | g) | g
    · exact hb (.inl (.inl g))
    · rcases own b g with g | g
      · omega
      · exact hb (.inl (.inr g))
    · exact hb (.inr g)
  have hsize := C.evo.size
  refine ⟨C.outer, by rw [Act.defers_put]; exact C.defers, by rw [Act.size_put]; exact C.size, fun t => ?_, fun x hx => ?_, fun x y hx hy h => ?_, ?_, ?_⟩
  · rw [Act.tmps_put a (some d) _ t (fun d' e => by cases e; exact Nat.lt_of_lt_of_le hd C.size)]
    simp only [apply, putO, get_put, Option.some.injEq]
    by_cases he : t = d
    · subst he
      rw [if_pos rfl, if_pos rfl]
      refine ⟨_, rfl, ?_, fun _ => ⟨by simp, by omega⟩⟩
      rw [getB_putB, if_pos rfl]; exact Nat.le_refl _
    · rw [if_neg (fun q => he q.symm), if_neg he]
      have := (C.slots t).ext E (by omega)
      cases hg : get c.1.s t <;> rw [hg] at this <;> first | exact this | skip
      rename_i b g off
      obtain ⟨p, hp, hle, hq⟩ := this
      by_cases hb : b = d
      · subst hb
        refine ⟨p, hp, ?_, fun hgen => ?_⟩
        · rw [getB_putB, if_pos rfl]; exact Nat.le_succ_of_le hle
        · rw [getB_putB, if_pos rfl] at hgen
          simp only at hgen
          omega
      · refine ⟨p, hp, ?_, fun hgen => ?_⟩
        · rw [getB_putB, if_neg hb]; exact hle
        · rw [getB_putB, if_neg hb] at hgen
          simp only [if_neg hb]
          exact hq hgen
  · simp only [apply] at hx ⊢
    rw [getB_putB] at hx ⊢
    by_cases h : x = d
    · subst h
      simp only [if_true]
      exact ⟨hsize, cs, e, A.new, hsz, fun j y hy => (hc j y hy).ext E (by omega)⟩
    · rw [if_neg h] at hx ⊢
      simp only [if_neg h]
      obtain ⟨h1, cs', e', h2, h3, h4⟩ := C.boxes x hx
      exact ⟨h1, cs', e', by rw [A.same _ (hlt _ (.inr ⟨x, hx, rfl⟩))]; exact h2, h3, fun j y hy => (h4 j y hy).ext E (by omega)⟩
  · simp only [apply] at hx hy
    rw [getB_putB] at hx hy
    by_cases h1 : x = d <;> by_cases h2 : y = d <;> simp only [h1, h2, if_true, if_false] at h hx hy
    · rw [h1, h2]
    · have := hlt _ (.inr ⟨y, hy, rfl⟩); omega
    · have := hlt _ (.inr ⟨x, hx, rfl⟩); omega
    · exact C.apart x y hx hy h
  · refine ⟨C.heap.inj, fun i hi g => ?_, fun i hi => (C.heap.obj i hi).ext E (by omega) (A.same _ (C.heap.lt hi))⟩
    rcases g with g | g
    · exact C.heap.out i hi (.inl g)
    · rcases own _ g with q | q
      · have := C.heap.lt (i := i) hi; omega
      · exact C.heap.out i hi (.inr q)
  · exact C.evo.trans (Evo.grown c.2 bl (fun _ hi => C.heap.lt hi) A.os A.tape A.output (by omega) A.same)

/-- A box of the frame is written. -/
theorem CR.boxStore {X : Cx} {c : Cfg} {bl : Bl} {lb : Nat → Nat} {a : Act} {w w' : World} (C : CR X c bl lb a w) {b : Nat} (hg : (getB c.1.b b).1 ≠ 0) {cs cs' : Array Value} {e : TypeId} {ds : List D}
    (ho : w.heap[lb b]? = some (.cells cs e (0, 0))) (W : Wr w w' (lb b) (.cells cs' e (0, 0))) (hlen : ds.length = (getB c.1.b b).2.length) (hsz : cs'.size = ds.length)
    (hc : ∀ (j : Nat) (x : D), ds[j]? = some x → CRep w (NN (X.LL c.1.b lb) c.2 bl) c.2 bl cs' j x) :
    CR X (apply c none (.undef, some (b, (getB c.1.b b).1, ds), none)) bl lb a w' := by
  have hs := W.size
  have hlt := C.bound
  have own : ∀ x, OwnB (putB c.1.b b ((getB c.1.b b).1, ds)) lb x ↔ OwnB c.1.b lb x := by
    intro x
    constructor
    · rintro ⟨y, hy, h⟩
      rw [getB_putB] at hy
      by_cases q : y = b
      · subst q; exact ⟨y, hg, h⟩
      · rw [if_neg q] at hy; exact ⟨y, hy, h⟩
    · rintro ⟨y, hy, h⟩
      refine ⟨y, ?_, h⟩
      rw [getB_putB]
      by_cases q : y = b
      · subst q; simpa using hy
      · rw [if_neg q]; exact hy
  have hobj : ∀ i, i < c.2.length → w'.heap[bl i]? = w.heap[bl i]? := fun i hi => W.same _ fun q => C.heap.out i hi (by rw [q]; exact .inr ⟨b, hg, rfl⟩)
  have E : Ext w (NN (X.LL c.1.b lb) c.2 bl) c.2 bl w' (NN (X.LL (putB c.1.b b ((getB c.1.b b).1, ds)) lb) c.2 bl) c.2 bl := by
    refine ⟨fun k hk hz => ⟨W.same _ fun q => hk (.inl (.inr ⟨b, hg, q.symm⟩)), fun g => ?_⟩, Nat.le_refl _, fun id hid => ⟨Nat.le_refl _, fun _ => ⟨rfl, .of_eq (hobj id hid)⟩⟩, fun _ _ h => ⟨h, rfl⟩⟩
    rcases g with (g | g) | g
    · exact hk (.inl (.inl g))
    · exact hk (.inl (.inr ((own _).1 g)))
    · exact hk (.inr g)
  obtain ⟨hbase, _⟩ := C.boxes b hg
  have hgen : ∀ x, (getB (putB c.1.b b ((getB c.1.b b).1, ds)) x).1 = (getB c.1.b x).1 := by
    intro x; rw [getB_putB]; by_cases q : x = b
    · subst q; simp
    · rw [if_neg q]
  refine ⟨C.outer, C.defers, C.size, fun t => ?_, fun x hx => ?_, fun x y hx hy h => ?_, ?_, ?_⟩
  · have := (C.slots t).ext E (by omega)
    simp only [apply, putO]
    cases hg' : get c.1.s t <;> rw [hg'] at this <;> first | exact this | skip
    rename_i b' g off
    obtain ⟨p, hp, hle, hq⟩ := this
    exact ⟨p, hp, by rw [hgen]; exact hle, fun h => hq (by rw [hgen] at h; exact h)⟩
  · simp only [apply] at hx ⊢
    rw [hgen] at hx
    rw [getB_putB]
    by_cases h : x = b
    · subst h
      simp only [if_true]
      exact ⟨hbase, cs', e, W.new, hsz, fun j y hy => (hc j y hy).ext E (by omega)⟩
    · rw [if_neg h]
      obtain ⟨h1, cs2, e', h2, h3, h4⟩ := C.boxes x hx
      exact ⟨h1, cs2, e', by rw [W.same _ (fun q => h (C.apart x b hx hg q))]; exact h2, h3, fun j y hy => (h4 j y hy).ext E (by omega)⟩
  · simp only [apply] at hx hy
    rw [hgen] at hx hy
    exact C.apart x y hx hy h
  · refine ⟨C.heap.inj, fun i hi g => ?_, fun i hi => (C.heap.obj i hi).ext E (by omega) (hobj i hi)⟩
    rcases g with g | g
    · exact C.heap.out i hi (.inl g)
    · exact C.heap.out i hi (.inr ((own _).1 g))
  · have V := C.evo
    refine ⟨W.os.trans V.os, W.tape.trans V.tape, W.output.trans V.output, by have := V.size; omega, fun k hk hn => ?_, V.live, V.len, fun id hid => ?_, V.map, fun id hid => ?_⟩
    · rw [W.same _ (by omega)]; exact V.same k hk hn
    · obtain ⟨h1, h2⟩ := V.ver id hid
      refine ⟨h1, fun e => ?_⟩
      obtain ⟨h3, h4⟩ := h2 e
      refine ⟨h3, fun c0 e0 f0 hc0 => ?_⟩
      obtain ⟨c1, f1, h5, h6⟩ := h4 c0 e0 f0 hc0
      have := hobj id (Nat.lt_of_lt_of_le hid V.len)
      rw [h3] at this
      exact ⟨c1, f1, by rw [this]; exact h5, h6⟩
    · obtain ⟨h1, h2⟩ := V.mod id hid
      refine ⟨h1, fun e => ?_⟩
      obtain ⟨h3, h4, h5⟩ := h2 e
      have := hobj id (Nat.lt_of_lt_of_le hid V.len)
      rw [h4] at this
      exact ⟨h3, h4, this.trans h5⟩

end Go.Nt
