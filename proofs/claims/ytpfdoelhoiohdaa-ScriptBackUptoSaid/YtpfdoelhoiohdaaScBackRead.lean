/-
  COMPOUND DATA of compound parts.
  No condition.
-/
import Derived.Test.YtpfdoelhoiohdaaNtRead
import Derived.Test.YtpfdoelhoiohdaaVaRead
import Derived.Test.YtpfdoelhoiohdaaScBulk
namespace Go.Nt
open Go

variable {w : World} {N : Nat → Prop} {st : St} {bl : Bl}

/-- A list of cells reads as a list of data, one by one. -/
def Reps (w : World) (N : Nat → Prop) (st : St) (bl : Bl) (cs : List Value) (ds : List D) : Prop := Rep w N st bl (.agg cs.toArray) (.agg ds)

theorem Reps.of {cs : List Value} {ds : List D} (h : Rep w N st bl (.agg cs.toArray) (.agg ds)) : Reps w N st bl cs ds := h

theorem reps_iff {cs : List Value} {ds : List D} : Reps w N st bl cs ds ↔ cs.length = ds.length ∧ (∀ (i : Nat) (d : D), ds[i]? = some d → d.cell = true) ∧ ∀ (i : Nat) (v : Value) (d : D), cs[i]? = some v → ds[i]? = some d → Rep w N st bl v d := by
  constructor
  · intro h
    cases h with
    | agg _ _ hl hc h => exact ⟨by simpa using hl, hc, fun i v d hv hd => h i v d (by simpa using hv) hd⟩
  · intro ⟨hl, hc, h⟩
    exact .agg _ _ (by simpa using hl) hc fun i v d hv hd => h i v d (by simpa using hv) hd

theorem reps_nil : Reps w N st bl [] [] := reps_iff.2 ⟨rfl, fun i d h => by simp at h, fun i v d h => by simp at h⟩

theorem reps_app {a b : List Value} {ds es : List D} (h1 : Reps w N st bl a ds) (h2 : Reps w N st bl b es) : Reps w N st bl (a ++ b) (ds ++ es) := by
  obtain ⟨l1, c1, r1⟩ := reps_iff.1 h1
  obtain ⟨l2, c2, r2⟩ := reps_iff.1 h2
  refine reps_iff.2 ⟨by simp [l1, l2], ?_, ?_⟩
  · intro i d h
    by_cases hi : i < ds.length
    · rw [List.getElem?_append_left hi] at h; exact c1 _ _ h
    · rw [List.getElem?_append_right (by omega)] at h; exact c2 _ _ h
  · intro i v d hv hd
    by_cases hi : i < a.length
    · rw [List.getElem?_append_left hi] at hv
      rw [List.getElem?_append_left (by omega)] at hd
      exact r1 i v d hv hd
    · rw [List.getElem?_append_right (by omega)] at hv
      rw [List.getElem?_append_right (by omega)] at hd
      exact r2 (i - a.length) v d hv (by rw [l1]; exact hd)

theorem reps_one {v : Value} {d : D} (hc : d.cell = true) (h : Rep w N st bl v d) : Reps w N st bl [v] [d] := by
  refine reps_iff.2 ⟨rfl, ?_, ?_⟩
  · intro i e he
    match i, he with
    | 0, he => simp at he; subst he; exact hc
  · intro i x e hx he
    match i, hx, he with
    | 0, hx, he => simp at hx he; subst hx; subst he; exact h

end Go.Nt

/-
  OPERATIONS, as they read.
  No condition.
-/
set_option linter.unusedSimpArgs false
namespace Go.Nt
open Go Go.ChangeShapes Go.WideShapes Go.RowKit

theorem rep_sliceI {α : Type} {w : World} {base : Nat} {enc : α → D} {a : Addr} {len cap sz : Nat} (good : Nat → α → Prop) (hsz : 0 < sz) (hc : len ≤ cap) (hp : ∀ x, (enc x).pure = true ∧ (enc x).cells.length = sz)
    (h : ∀ i, i < len → ∃ (es : List Value) (v : Value) (x : α), w.cells? base (a.add (i * sz)) sz = some es ∧ v.cells.toList = es ∧ Rep w N0 [] bl0 v (enc x) ∧ good i x) :
    ∃ l : List α, l.length = len ∧ (∀ i x, l[i]? = some x → good i x) ∧ Rep w N0 [] bl0 (.slice (some a) len cap) (slE sz .part (l.map enc)) := by
  have h' : ∀ i : Fin len, ∃ q : List Value × Value × α, w.cells? base (a.add (i.1 * sz)) sz = some q.1 ∧ q.2.1.cells.toList = q.1 ∧ Rep w N0 [] bl0 q.2.1 (enc q.2.2) ∧ good i.1 q.2.2 := fun i => by
    obtain ⟨es, v, x, h⟩ := h i.1 i.2
    exact ⟨(es, v, x), h⟩
  let q := fun i => Classical.choose (h' i)
  have hq : ∀ i, w.cells? base (a.add (i.1 * sz)) sz = some (q i).1 ∧ (q i).2.1.cells.toList = (q i).1 ∧ Rep w N0 [] bl0 (q i).2.1 (enc (q i).2.2) ∧ good i.1 (q i).2.2 := fun i => Classical.choose_spec (h' i)
  let l := List.ofFn fun i => (q i).2.2
  have hlen : l.length = len := List.length_ofFn
  have hget : ∀ (i : Nat) (d : D), (l.map enc)[i]? = some d → ∃ hi : i < len, d = enc (q ⟨i, hi⟩).2.2 := by
    intro i d hd
    rw [List.getElem?_map, Option.map_eq_some_iff] at hd
    obtain ⟨x, hx, rfl⟩ := hd
    have hi : i < l.length := (List.getElem?_eq_some_iff.1 hx).1
    rw [hlen] at hi
    refine ⟨hi, ?_⟩
    have := (List.getElem?_eq_some_iff.1 hx).2
    rw [← this]
    simp [l]
  refine ⟨l, hlen, ?_, ?_⟩
  · intro i x hx
    have hi : i < l.length := (List.getElem?_eq_some_iff.1 hx).1
    rw [hlen] at hi
    have := (List.getElem?_eq_some_iff.1 hx).2
    rw [← this]
    simpa [l] using (hq ⟨i, hi⟩).2.2.2
  · have spot : 0 < len → a.spot = none := by
      intro h0
      obtain ⟨h1, h2⟩ := cells_get (hq ⟨0, h0⟩).1
      have := h2 0 ((q ⟨0, h0⟩).1[0]'(by omega)) (by simp)
      have := World.cell?_spot this
      simpa [Addr.add] using this
    have e : (.slice (some a) len cap : Value) = .slice (some a) (l.map enc).length cap := by rw [List.length_map, hlen]
    rw [e, show slE sz .part (l.map enc) = .sl sz false (l.map enc) from rfl]
    refine .sl sz false (l.map enc) a cap (fun i => if hi : i < len then (q ⟨i, hi⟩).2.1 else .nilFunc) (by rw [List.length_map, hlen]; exact hc) (fun h => by cases h) ?_ ?_ ?_ ?_
    · intro hne
      have h0 : 0 < len := by
        rcases Nat.eq_zero_or_pos len with g | g
        · exact absurd (List.eq_nil_of_length_eq_zero (by rw [List.length_map, hlen, g])) hne
        · exact g
      exact spot h0
    · intro i d hd
      obtain ⟨hi, rfl⟩ := hget i d hd
      exact hp _
    · intro i d hd
      obtain ⟨hi, rfl⟩ := hget i d hd
      simp only [hi, dif_pos]
      obtain ⟨h0, h1, h2, h3⟩ := hq ⟨i, hi⟩
      obtain ⟨g1, g2⟩ := cells_get h0
      have hsp : a.spot = none := spot (by omega)
      have hcell : ∀ (j : Nat) (u : Value), (q ⟨i, hi⟩).2.1.cells[j]? = some u → w.cell? ⟨a.block, a.off + i * sz + j, none⟩ = some u := by
        intro j u hu
        have := g2 j u (by rw [← h1, Array.getElem?_toList]; exact hu)
        rw [addr_add hsp, addr_add rfl] at this
        exact this
      refine ⟨N0_no _, ?_, hcell⟩
      have hlt : 0 < (q ⟨i, hi⟩).2.1.cells.size := by
        have : (q ⟨i, hi⟩).2.1.cells.toList.length = sz := by rw [h1, g1]
        rw [Array.length_toList] at this
        omega
      exact cell_lt (a := ⟨a.block, a.off + i * sz + 0, none⟩) (hcell 0 _ (Array.getElem?_eq_getElem hlt))
    · intro i d hd
      obtain ⟨hi, rfl⟩ := hget i d hd
      simp only [hi, dif_pos]
      exact (hq ⟨i, hi⟩).2.2.1


variable {H : Type} {enc : TypeId × Value → H} {P : Program} {w : World} {base : Nat} {spare : Nat → Bool} {held : Bool}

/-- Numbers, as the reading tells them. -/
def NumsW {H : Type} (ns : List Int) (d : DataW H) : Prop := ns = [] ∨ ∃ es sp, d = .slice es sp ∧ es.length = ns.length
/-- An operation, as the reading tells it. -/
def OpW {H : Type} (o : Lk.Opr) (d : DataW H) : Prop := ∃ nd a b c e f, NumsW o.rq.nums nd ∧ d = .agg [a, .lit (.string o.text), .agg [b, c, e, .lit (.string o.rq.name), nd], f]

theorem wf64' {n : Int} (h : (Lit.int .i64 n).wf = true) : Lk.in64 n := wf64 h

theorem read_Nums {tS tI : TypeId} (hI : P.underlying tI = some (.int .i64)) (hS : P.underlying tS = some (.slice tI)) (cI : P.cellsOf tI = 1) {fuel : Nat} {v : Value} {x : DataW H × List MemPlace}
    (h : DataW.trod enc P w base spare held fuel tS [v] = some x) : ∃ (fl : Fl) (l : List Int), NumsW l x.1 ∧ (∀ n, n ∈ l → Lk.in64 n) ∧ Rep w N0 [] bl0 v (Lk.numsD fl l) := by
  rcases DataW.trod_slice hS h with ⟨q1, _⟩ | ⟨a, len, cap, elems, rest, m, rfl, q1, hx, _, hlc, hcm, hel, hat, _⟩
  · obtain rfl : v = .slice none 0 0 := by simpa using q1
    exact ⟨.nil, [], .inl rfl, (fun u hu => by simp at hu), .nils⟩
  · obtain rfl : v = .slice (some a) len cap := by simpa using q1
    rw [cI] at hat
    obtain ⟨l, l1, l2, l3⟩ := rep_slice (w := w) (base := base) (enc := fun n : Int => D.int .i64 n) (a := a) (len := len) (cap := cap) (sz := 1) Lk.in64 (by omega) hlc (fun v _ => ⟨rfl, rfl⟩) (by
      intro i hi
      have hi' : i < elems.length := by omega
      have := hat i hi
      rw [List.getElem?_eq_getElem hi', Option.bind_eq_some_iff] at this
      obtain ⟨es, he, ht⟩ := this
      obtain ⟨n, rfl, _, hw⟩ := DataW.trod_int hI ht
      exact ⟨_, .int .i64 n, n, he, rfl, .int _ _, wf64' hw⟩)
    exact ⟨.part, l, .inr ⟨_, _, by rw [hx], by simp; omega⟩, l2, l3⟩

theorem read_Op {tV tR tS tI tZ : TypeId} {f0 f1 f2 f3 g0 g1 g2 g3 g4 : Field} (hV : P.underlying tV = some (.struct #[f0, f1, f2, f3])) (hR : P.underlying tR = some (.struct #[g0, g1, g2, g3, g4]))
    (e0 : f0.type = tI) (o0 : f0.offset = 0) (e1 : f1.type = tZ) (o1 : f1.offset = 1) (e2 : f2.type = tR) (o2 : f2.offset = 2) (e3 : f3.type = tI) (o3 : f3.offset = 7)
    (d0 : g0.type = tI) (p0 : g0.offset = 0) (d1 : g1.type = tI) (p1 : g1.offset = 1) (d2 : g2.type = tI) (p2 : g2.offset = 2) (d3 : g3.type = tZ) (p3 : g3.offset = 3) (d4 : g4.type = tS) (p4 : g4.offset = 4)
    (hI : P.underlying tI = some (.int .i64)) (hZ : P.underlying tZ = some .string) (hS : P.underlying tS = some (.slice tI)) (c : P.cellsOf tV = 8) (cR : P.cellsOf tR = 5) (cI : P.cellsOf tI = 1) (cZ : P.cellsOf tZ = 1) (cS : P.cellsOf tS = 1)
    (fuel : Nat) (cs : List Value) (x : DataW H × List MemPlace) (h : DataW.trod enc P w base spare held fuel tV cs = some x) :
    ∃ y : Lk.Opf, OpW y.1 x.1 ∧ (Lk.RqIn y.1.rq ∧ Lk.in64 y.1.n) ∧ Rep w N0 [] bl0 (.agg cs.toArray) y.d := by
  obtain ⟨xs, m, rfl, rfl, hl, hlen, hf⟩ := DataW.trod_struct hV h
  rw [c] at hl
  match cs, hl with
  | [c0, c1, c2, c3, c4, c5, c6, c7], _ =>
    match xs, hlen with
    | [y0, y1, y2, y3], _ =>
      have h0 := hf 0 f0 rfl
      have h1 := hf 1 f1 rfl
      have h2 := hf 2 f2 rfl
      have h3 := hf 3 f3 rfl
      simp only [e0, o0, e1, o1, e2, o2, e3, o3, cI, cZ, cR, List.drop_zero, List.take_succ_cons, List.take_zero, List.drop_succ_cons, List.getElem?_cons_zero, List.getElem?_cons_succ] at h0 h1 h2 h3
      obtain ⟨n0, q0, _, w0⟩ := DataW.trod_int hI h0
      obtain rfl : c0 = .int .i64 n0 := by simpa using q0
      obtain ⟨s1, q1, x1, _⟩ := DataW.trod_string hZ h1
      obtain rfl : c1 = .string s1 := by simpa using q1
      obtain ⟨n3, q3, _, w3⟩ := DataW.trod_int hI h3
      obtain rfl : c7 = .int .i64 n3 := by simpa using q3
      obtain ⟨zs, m2, hm2, x2, hl2, hlen2, hf2⟩ := DataW.trod_struct hR h2
      match zs, hlen2 with
      | [z0, z1, z2, z3, z4], _ =>
        have k0 := hf2 0 g0 rfl
        have k1 := hf2 1 g1 rfl
        have k2 := hf2 2 g2 rfl
        have k3 := hf2 3 g3 rfl
        have k4 := hf2 4 g4 rfl
        simp only [d0, p0, d1, p1, d2, p2, d3, p3, d4, p4, cI, cZ, cS, List.drop_zero, List.take_succ_cons, List.take_zero, List.drop_succ_cons, List.getElem?_cons_zero, List.getElem?_cons_succ] at k0 k1 k2 k3 k4
        obtain ⟨r0, t0, _, v0⟩ := DataW.trod_int hI k0
        obtain rfl : c2 = .int .i64 r0 := by simpa using t0
        obtain ⟨r1, t1, _, v1⟩ := DataW.trod_int hI k1
        obtain rfl : c3 = .int .i64 r1 := by simpa using t1
        obtain ⟨r2, t2, _, v2⟩ := DataW.trod_int hI k2
        obtain rfl : c4 = .int .i64 r2 := by simpa using t2
        obtain ⟨s3, t3, x3, _⟩ := DataW.trod_string hZ k3
        obtain rfl : c5 = .string s3 := by simpa using t3
        obtain ⟨fl, l, u1, u2, u3⟩ := read_Nums hI hS cI k4
        refine ⟨(⟨n0, s1.data.toList, ⟨r0, r1, r2, s3.data.toList, l⟩, n3⟩, fl), ⟨z4.1, y0.1, z0.1, z1.1, z2.1, y3.1, u1, ?_⟩, ⟨⟨wf64' v0, wf64' v1, wf64' v2, u2⟩, wf64' w3⟩, ?_⟩
        · simp [x1, x2, x3]
        · exact reps_app (reps_one rfl (.int _ _)) (reps_app (reps_one rfl (.str _)) (reps_app (reps_one rfl (.int _ _)) (reps_app (reps_one rfl (.int _ _)) (reps_app (reps_one rfl (.int _ _)) (reps_app (reps_one rfl (.str _)) (reps_app (reps_one (by cases fl <;> cases l <;> rfl) u3) (reps_one rfl (.int _ _))))))))

theorem read_Ops {tL tV tR tS tI tZ : TypeId} {f0 f1 f2 f3 g0 g1 g2 g3 g4 : Field} (hL : P.underlying tL = some (.slice tV)) (hV : P.underlying tV = some (.struct #[f0, f1, f2, f3])) (hR : P.underlying tR = some (.struct #[g0, g1, g2, g3, g4]))
    (e0 : f0.type = tI) (o0 : f0.offset = 0) (e1 : f1.type = tZ) (o1 : f1.offset = 1) (e2 : f2.type = tR) (o2 : f2.offset = 2) (e3 : f3.type = tI) (o3 : f3.offset = 7)
    (d0 : g0.type = tI) (p0 : g0.offset = 0) (d1 : g1.type = tI) (p1 : g1.offset = 1) (d2 : g2.type = tI) (p2 : g2.offset = 2) (d3 : g3.type = tZ) (p3 : g3.offset = 3) (d4 : g4.type = tS) (p4 : g4.offset = 4)
    (hI : P.underlying tI = some (.int .i64)) (hZ : P.underlying tZ = some .string) (hS : P.underlying tS = some (.slice tI)) (c : P.cellsOf tV = 8) (cR : P.cellsOf tR = 5) (cI : P.cellsOf tI = 1) (cZ : P.cellsOf tZ = 1) (cS : P.cellsOf tS = 1)
    {fuel : Nat} {v : Value} {x : DataW H × List MemPlace} (h : DataW.trod enc P w base spare held fuel tL [v] = some x) :
    ∃ (fl : Fl) (l : List Lk.Opf), (l = [] ∨ ∃ elems sp, x.1 = .slice elems sp ∧ elems.length = l.length ∧ ∀ (i : Nat) (y : Lk.Opf), l[i]? = some y → ∃ d, elems[i]? = some d ∧ OpW y.1 d) ∧ (∀ y ∈ l, Lk.RqIn y.1.rq ∧ Lk.in64 y.1.n) ∧ Rep w N0 [] bl0 v (Lk.opsD fl l) := by
  rcases DataW.trod_slice hL h with ⟨q1, _⟩ | ⟨a, len, cap, elems, rest, m, rfl, q1, hx, _, hlc, hcm, hel, hat, _⟩
  · obtain rfl : v = .slice none 0 0 := by simpa using q1
    exact ⟨.nil, [], .inl rfl, (fun y hy => by simp at hy), .nils⟩
  · obtain rfl : v = .slice (some a) len cap := by simpa using q1
    rw [c] at hat
    obtain ⟨l, l1, l2, l3⟩ := rep_sliceI (w := w) (base := base) (enc := Lk.Opf.d) (a := a) (len := len) (cap := cap) (sz := 8) (fun i y => (∃ d, (elems.map (·.1))[i]? = some d ∧ OpW y.1 d) ∧ (Lk.RqIn y.1.rq ∧ Lk.in64 y.1.n)) (by omega) hlc (fun y => ⟨y.pure, rfl⟩) (by
      intro i hi
      have hi' : i < elems.length := by omega
      have := hat i hi
      rw [List.getElem?_eq_getElem hi', Option.bind_eq_some_iff] at this
      obtain ⟨es, he, ht⟩ := this
      obtain ⟨y, hy, hz, hr⟩ := read_Op hV hR e0 o0 e1 o1 e2 o2 e3 o3 d0 p0 d1 p1 d2 p2 d3 p3 d4 p4 hI hZ hS c cR cI cZ cS m es _ ht
      exact ⟨es, .agg es.toArray, y, he, by simp [Value.cells], hr, ⟨elems[i].1, by rw [List.getElem?_map, List.getElem?_eq_getElem hi']; rfl, hy⟩, hz⟩)
    refine ⟨.part, l, .inr ⟨_, _, by rw [hx], by simp; omega, fun i y hy => (l2 i y hy).1⟩, ?_, l3⟩
    intro y hy
    obtain ⟨i, hi, rfl⟩ := List.getElem_of_mem hy
    exact (l2 i _ (List.getElem?_eq_getElem hi)).2
end Go.Nt
