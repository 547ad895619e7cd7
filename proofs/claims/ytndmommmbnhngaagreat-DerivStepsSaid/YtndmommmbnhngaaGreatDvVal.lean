/-
  COMPOUND DATA of compound parts.
  No condition.
-/
import Derived.Test.YtndmommmbnhngaaGreatNtRead
import Derived.Test.YtndmommmbnhngaaGreatTmVal
namespace Go.Nt
open Go

variable {w : World} {N : Nat → Prop} {st : St} {bl : Bl}

/-- A list of cells reads as a list of data, one by one. -/
def Reps (w : World) (N : Nat → Prop) (st : St) (bl : Bl) (cs : List Value) (ds : List D) : Prop := Rep w N st bl (.agg cs.toArray) (.agg ds)

theorem Reps.of {cs : List Value} {ds : List D} (h : Rep w N st bl (.agg cs.toArray) (.agg ds)) : Reps w N st bl cs ds := h

theorem reps_iff {cs : List Value} {ds : List D} : Reps w N st bl cs ds ↔ cs.length = ds.length ∧ (∀ (i : Nat) (d : D), ds[i]? = some d → d.cell = true) ∧ ∀ (i : Nat) (v : Value) (d : D), cs[i]? = some v → ds[i]? = some d → Rep w N st bl v d := by
  constructor
  · intro h
    cases h with
    | agg _ _ hl hc h => exact ⟨by simpa using hl, hc, fun i v d hv hd => h i v d (by simpa using hv) hd⟩
  · intro ⟨hl, hc, h⟩
    exact .agg _ _ (by simpa using hl) hc fun i v d hv hd => h i v d (by simpa using hv) hd

theorem reps_nil : Reps w N st bl [] [] := reps_iff.2 ⟨rfl, fun i d h => by simp at h, fun i v d h => by simp at h⟩

theorem reps_app {a b : List Value} {ds es : List D} (h1 : Reps w N st bl a ds) (h2 : Reps w N st bl b es) : Reps w N st bl (a ++ b) (ds ++ es) := by
  obtain ⟨l1, c1, r1⟩ := reps_iff.1 h1
  obtain ⟨l2, c2, r2⟩ := reps_iff.1 h2
  refine reps_iff.2 ⟨by simp [l1, l2], ?_, ?_⟩
  · intro i d h
    by_cases hi : i < ds.length
    · rw [List.getElem?_append_left hi] at h; exact c1 _ _ h
    · rw [List.getElem?_append_right (by omega)] at h; exact c2 _ _ h
  · intro i v d hv hd
    by_cases hi : i < a.length
    · rw [List.getElem?_append_left hi] at hv
      rw [List.getElem?_append_left (by omega)] at hd
      exact r1 i v d hv hd
    · rw [List.getElem?_append_right (by omega)] at hv
      rw [List.getElem?_append_right (by omega)] at hd
      exact r2 (i - a.length) v d hv (by rw [l1]; exact hd)

theorem reps_one {v : Value} {d : D} (hc : d.cell = true) (h : Rep w N st bl v d) : Reps w N st bl [v] [d] := by
  refine reps_iff.2 ⟨rfl, ?_, ?_⟩
  · intro i e he
    match i, he with
    | 0, he => simp at he; subst he; exact hc
  · intro i x e hx he
    match i, hx, he with
    | 0, hx, he => simp at hx he; subst hx; subst he; exact h

end Go.Nt

/-
  STEPS AND DERIVATIONS (api.Step, api.Deriv) as trees, and how they read as data.
  No condition.
-/
set_option linter.unusedSimpArgs false
namespace Go.Nt
open Go Go.ChangeShapes Go.WideShapes Go.RowKit

abbrev numsE (fl : Fl) (l : List Int) : D := slE 1 fl (l.map (.int .i64))

/-- A step: its rule, whether back, its path, its numbers, its term. -/
structure Stp where
  r : Int
  b : Bool
  pf : Fl
  p : List Int
  nf : Fl
  ns : List Int
  t : Tm
  deriving Inhabited

abbrev Stp.cl (s : Stp) : List D := [.int .i64 s.r, .bool s.b, numsE s.pf s.p, numsE s.nf s.ns, .int .i64 s.t.k, .int .i64 s.t.n, .str s.t.s, slE 6 s.t.fl (encTs s.t.l), .int .i64 s.t.a, .int .i64 s.t.b]
def encS (s : Stp) : D := .agg s.cl
theorem encS_eq (s : Stp) : encS s = .agg s.cl := rfl
@[simp] theorem encS_cells (s : Stp) : (encS s).cells = s.cl := rfl
@[simp] theorem encS_fits (s : Stp) : (encS s).fits (some 10) = true := rfl
@[simp] theorem encS_okv (s : Stp) : (encS s).okv = true := rfl
@[simp] theorem encS_pure (s : Stp) : (encS s).pure = true := by rw [encS_eq]; simp
@[simp] theorem encS_pureT (s : Stp) : (encS s).pureT = true := by rw [encS_eq]; simp
@[simp] theorem encS_fz1 (st : St) (s : Stp) : fz1 st (encS s) = some (encS s, st) := by rw [encS_eq]; simp
@[simp] theorem encS_fz (st : St) (s : Stp) : fz st (encS s) = some (encS s, st) := by rw [encS_eq]; simp
@[simp] theorem rewrap_encS (s : Stp) (ds : List D) : rewrap (encS s) ds = some (.agg ds) := rfl

inductive Dv where
  | mk (k : Int) (pf : Fl) (p : List Int) (s : Stp) (fl : Fl) (l : List Dv)
  deriving Inhabited
def Dv.k : Dv → Int | .mk k _ _ _ _ _ => k
def Dv.pf : Dv → Fl | .mk _ pf _ _ _ _ => pf
def Dv.p : Dv → List Int | .mk _ _ p _ _ _ => p
def Dv.s : Dv → Stp | .mk _ _ _ s _ _ => s
def Dv.fl : Dv → Fl | .mk _ _ _ _ fl _ => fl
def Dv.l : Dv → List Dv | .mk _ _ _ _ _ l => l

mutual
  def encV' : Dv → D
    | .mk k pf p s fl l => .agg [.int .i64 k, numsE pf p, .int .i64 s.r, .bool s.b, numsE s.pf s.p, numsE s.nf s.ns, .int .i64 s.t.k, .int .i64 s.t.n, .str s.t.s, slE 6 s.t.fl (encTs s.t.l), .int .i64 s.t.a, .int .i64 s.t.b, slE 13 fl (encVs' l)]
  def encVs' : List Dv → List D
    | [] => []
    | v :: l => encV' v :: encVs' l
end
theorem encVs'_map (l : List Dv) : encVs' l = l.map encV' := by induction l <;> simp_all [encVs']
@[simp] theorem encVs'_nil : encVs' [] = [] := by simp [encVs']
@[simp] theorem encVs'_cons (v : Dv) (l : List Dv) : encVs' (v :: l) = encV' v :: encVs' l := by simp [encVs']
@[simp] theorem encVs'_len (l : List Dv) : (encVs' l).length = l.length := by simp [encVs'_map]
@[simp] theorem encVs'_get (l : List Dv) (i : Nat) : (encVs' l)[i]? = l[i]?.map encV' := by simp [encVs'_map]
@[simp] theorem encVs'_at (l : List Dv) (i : Nat) (h : i < (encVs' l).length) : (encVs' l)[i] = encV' (l[i]'(by simpa using h)) := by simp [encVs'_map]

/-- The cells of a derivation. -/
abbrev Dv.cl (v : Dv) : List D := [.int .i64 v.k, numsE v.pf v.p, .int .i64 v.s.r, .bool v.s.b, numsE v.s.pf v.s.p, numsE v.s.nf v.s.ns, .int .i64 v.s.t.k, .int .i64 v.s.t.n, .str v.s.t.s, slE 6 v.s.t.fl (encTs v.s.t.l), .int .i64 v.s.t.a, .int .i64 v.s.t.b, slE 13 v.fl (encVs' v.l)]
theorem encV'_eq (v : Dv) : encV' v = .agg v.cl := by cases v; simp [encV', Dv.k, Dv.pf, Dv.p, Dv.s, Dv.fl, Dv.l]
@[simp] theorem encV'_cells (v : Dv) : (encV' v).cells = v.cl := by rw [encV'_eq]; rfl
@[simp] theorem encV'_fits (v : Dv) : (encV' v).fits (some 13) = true := by rw [encV'_eq]; rfl
@[simp] theorem encV'_okv (v : Dv) : (encV' v).okv = true := by rw [encV'_eq]; rfl
@[simp] theorem encV'_pure (v : Dv) : (encV' v).pure = true := by rw [encV'_eq]; simp
@[simp] theorem encV'_pureT (v : Dv) : (encV' v).pureT = true := by rw [encV'_eq]; simp
@[simp] theorem encV'_fz1 (st : St) (v : Dv) : fz1 st (encV' v) = some (encV' v, st) := by rw [encV'_eq]; simp
@[simp] theorem encV'_fz (st : St) (v : Dv) : fz st (encV' v) = some (encV' v, st) := by rw [encV'_eq]; simp

theorem Dv.ind {p : Dv → Prop} (h : ∀ v, (∀ u, u ∈ v.l → p u) → p v) (v : Dv) : p v :=
  Dv.rec (motive_1 := p) (motive_2 := fun l => ∀ u, u ∈ l → p u)
    (fun k pf q s fl l ih => h (.mk k pf q s fl l) ih)
    (fun u hu => by cases hu)
    (fun v l hv hl u hu => by
      cases hu with
      | head => exact hv
      | tail _ hu => exact hl u hu) v

def Stp.ok (s : Stp) : Prop := in64 s.r ∧ s.p.length ≤ 9223372036854775807 ∧ (∀ n, n ∈ s.p → in64 n) ∧ s.ns.length ≤ 9223372036854775807 ∧ (∀ n, n ∈ s.ns → in64 n) ∧ s.t.ok
mutual
  def Dv.ok : Dv → Prop
    | .mk k _ p s _ l => in64 k ∧ p.length ≤ 9223372036854775807 ∧ (∀ n, n ∈ p → in64 n) ∧ s.ok ∧ l.length ≤ 9223372036854775807 ∧ Dv.oks l
  def Dv.oks : List Dv → Prop
    | [] => True
    | v :: l => v.ok ∧ Dv.oks l
end
theorem Dv.oks_iff (l : List Dv) : Dv.oks l ↔ ∀ v, v ∈ l → v.ok := by
  induction l with
  | nil => simp [Dv.oks]
  | cons v l ih => simp [Dv.oks, ih]
theorem Dv.ok_iff (v : Dv) : v.ok ↔ in64 v.k ∧ v.p.length ≤ 9223372036854775807 ∧ (∀ n, n ∈ v.p → in64 n) ∧ v.s.ok ∧ v.l.length ≤ 9223372036854775807 ∧ ∀ u, u ∈ v.l → u.ok := by
  cases v; simp [Dv.ok, Dv.k, Dv.p, Dv.s, Dv.l, Dv.oks_iff]

mutual
  def cntV : Dv → Nat
    | .mk _ _ _ _ _ l => cntVs l + 1
  def cntVs : List Dv → Nat
    | [] => 0
    | v :: l => cntV v + cntVs l
end
theorem cntV_eq (v : Dv) : cntV v = cntVs v.l + 1 := by cases v; simp [cntV, Dv.l]
theorem cntVs_len (l : List Dv) : l.length ≤ cntVs l := by
  induction l with
  | nil => simp [cntVs]
  | cons v l ih => have := cntV_eq v; simp only [cntVs, List.length_cons]; omega
theorem cntVs_mem {l : List Dv} {u : Dv} (h : u ∈ l) : cntV u ≤ cntVs l := by
  induction l with
  | nil => cases h
  | cons v l ih =>
    simp only [cntVs]
    cases h with
    | head => omega
    | tail _ h => have := ih h; omega

variable {H : Type} {enc : TypeId × Value → H} {P : Program} {w : World} {base : Nat} {spare : Nat → Bool} {held : Bool}

theorem read_S {tS tT tP tL tI tN tZ tB : TypeId} {g0 g1 g2 g3 g4 f0 f1 f2 f3 f4 f5 : Field} (hS : P.underlying tS = some (.struct #[g0, g1, g2, g3, g4])) (hV : P.underlying tT = some (.struct #[f0, f1, f2, f3, f4, f5]))
    (d0 : g0.type = tI) (p0 : g0.offset = 0) (d1 : g1.type = tB) (p1 : g1.offset = 1) (d2 : g2.type = tP) (p2 : g2.offset = 2) (d3 : g3.type = tP) (p3 : g3.offset = 3) (d4 : g4.type = tT) (p4 : g4.offset = 4)
    (e0 : f0.type = tI) (o0 : f0.offset = 0) (e1 : f1.type = tN) (o1 : f1.offset = 1)
    (e2 : f2.type = tZ) (o2 : f2.offset = 2) (e3 : f3.type = tL) (o3 : f3.offset = 3) (e4 : f4.type = tI) (o4 : f4.offset = 4) (e5 : f5.type = tI) (o5 : f5.offset = 5)
    (hI : P.underlying tI = some (.int .i64)) (hN : P.underlying tN = some (.int .i64)) (hZ : P.underlying tZ = some .string) (hL : P.underlying tL = some (.slice tT)) (hP : P.underlying tP = some (.slice tI)) (hB : P.underlying tB = some .bool)
    (c : P.cellsOf tT = 6) (cS : P.cellsOf tS = 10) (cI : P.cellsOf tI = 1) (cN : P.cellsOf tN = 1) (cZ : P.cellsOf tZ = 1) (cL : P.cellsOf tL = 1) (cP : P.cellsOf tP = 1) (cB : P.cellsOf tB = 1)
    (fuel : Nat) (cs : List Value) (x : DataW H × List MemPlace) (h : DataW.trod enc P w base spare held fuel tS cs = some x) : ∃ s : Stp, s.ok ∧ Rep w N0 [] bl0 (.agg cs.toArray) (encS s) := by
  obtain ⟨xs, m, rfl, rfl, hl, hlen, hf⟩ := DataW.trod_struct hS h
  rw [cS] at hl
  match cs, hl with
  | [c0, c1, c2, c3, c4, c5, c6, c7, c8, c9], _ =>
    match xs, hlen with
    | [y0, y1, y2, y3, y4], _ =>
      have h0 := hf 0 g0 rfl
      have h1 := hf 1 g1 rfl
      have h2 := hf 2 g2 rfl
      have h3 := hf 3 g3 rfl
      have h4 := hf 4 g4 rfl
      simp only [d0, p0, d1, p1, d2, p2, d3, p3, d4, p4, cI, cB, cP, c, List.drop_zero, List.take_succ_cons, List.take_zero, List.drop_succ_cons, List.getElem?_cons_zero, List.getElem?_cons_succ] at h0 h1 h2 h3 h4
      obtain ⟨n0, q0, _, w0⟩ := DataW.trod_int hI h0
      obtain rfl : c0 = .int .i64 n0 := by simpa using q0
      obtain ⟨b1, q1, _⟩ := DataW.trod_bool hB h1
      obtain rfl : c1 = .bool b1 := by simpa using q1
      obtain ⟨fl2, l2, u1, u2, u3⟩ := read_ints hI hP cI h2
      obtain ⟨fl3, l3, v1, v2, v3⟩ := read_ints hI hP cI h3
      obtain ⟨t, ht, rt⟩ := read_T hV e0 o0 e1 o1 e2 o2 e3 o3 e4 o4 e5 o5 hI hN hZ hL c cI cN cZ cL m _ _ h4
      rw [encT_eq] at rt
      refine ⟨⟨n0, b1, fl2, l2, fl3, l3, t⟩, ⟨wf64 w0, u1, u2, v1, v2, ht⟩, ?_⟩
      exact reps_app (reps_one rfl (.int _ _)) (reps_app (reps_one rfl (.bool _)) (reps_app (reps_one (by cases fl2 <;> cases l2 <;> rfl) u3) (reps_app (reps_one (by cases fl3 <;> cases l3 <;> rfl) v3) rt)))

theorem read_D {tD tDs tS tT tP tL tI tN tZ tB : TypeId} {k0 k1 k2 k3 g0 g1 g2 g3 g4 f0 f1 f2 f3 f4 f5 : Field} (hD : P.underlying tD = some (.struct #[k0, k1, k2, k3])) (hS : P.underlying tS = some (.struct #[g0, g1, g2, g3, g4])) (hV : P.underlying tT = some (.struct #[f0, f1, f2, f3, f4, f5]))
    (a0 : k0.type = tI) (b0 : k0.offset = 0) (a1 : k1.type = tP) (b1 : k1.offset = 1) (a2 : k2.type = tS) (b2 : k2.offset = 2) (a3 : k3.type = tDs) (b3 : k3.offset = 12)
    (d0 : g0.type = tI) (p0 : g0.offset = 0) (d1 : g1.type = tB) (p1 : g1.offset = 1) (d2 : g2.type = tP) (p2 : g2.offset = 2) (d3 : g3.type = tP) (p3 : g3.offset = 3) (d4 : g4.type = tT) (p4 : g4.offset = 4)
    (e0 : f0.type = tI) (o0 : f0.offset = 0) (e1 : f1.type = tN) (o1 : f1.offset = 1)
    (e2 : f2.type = tZ) (o2 : f2.offset = 2) (e3 : f3.type = tL) (o3 : f3.offset = 3) (e4 : f4.type = tI) (o4 : f4.offset = 4) (e5 : f5.type = tI) (o5 : f5.offset = 5)
    (hI : P.underlying tI = some (.int .i64)) (hN : P.underlying tN = some (.int .i64)) (hZ : P.underlying tZ = some .string) (hL : P.underlying tL = some (.slice tT)) (hP : P.underlying tP = some (.slice tI)) (hB : P.underlying tB = some .bool) (hDs : P.underlying tDs = some (.slice tD))
    (cD : P.cellsOf tD = 13) (c : P.cellsOf tT = 6) (cS : P.cellsOf tS = 10) (cI : P.cellsOf tI = 1) (cN : P.cellsOf tN = 1) (cZ : P.cellsOf tZ = 1) (cL : P.cellsOf tL = 1) (cP : P.cellsOf tP = 1) (cB : P.cellsOf tB = 1) (cDs : P.cellsOf tDs = 1) :
    ∀ (fuel : Nat) (cs : List Value) (x : DataW H × List MemPlace), DataW.trod enc P w base spare held fuel tD cs = some x → ∃ v : Dv, v.ok ∧ Rep w N0 [] bl0 (.agg cs.toArray) (encV' v) := by
  intro fuel
  induction fuel using Nat.strongRecOn with
  | ind fuel ih =>
    intro cs x h
    obtain ⟨xs, m, rfl, rfl, hl, hlen, hf⟩ := DataW.trod_struct hD h
    rw [cD] at hl
    match cs, hl with
    | [c0, c1, c2, c3, c4, c5, c6, c7, c8, c9, c10, c11, c12], _ =>
      match xs, hlen with
      | [y0, y1, y2, y3], _ =>
        have h0 := hf 0 k0 rfl
        have h1 := hf 1 k1 rfl
        have h2 := hf 2 k2 rfl
        have h3 := hf 3 k3 rfl
        simp only [a0, b0, a1, b1, a2, b2, a3, b3, cI, cP, cS, cDs, List.drop_zero, List.take_succ_cons, List.take_zero, List.drop_succ_cons, List.getElem?_cons_zero, List.getElem?_cons_succ] at h0 h1 h2 h3
        obtain ⟨n0, q0, _, w0⟩ := DataW.trod_int hI h0
        obtain rfl : c0 = .int .i64 n0 := by simpa using q0
        obtain ⟨fl1, l1, u1, u2, u3⟩ := read_ints hI hP cI h1
        obtain ⟨s, hs, rs⟩ := read_S hS hV d0 p0 d1 p1 d2 p2 d3 p3 d4 p4 e0 o0 e1 o1 e2 o2 e3 o3 e4 o4 e5 o5 hI hN hZ hL hP hB c cS cI cN cZ cL cP cB m _ _ h2
        have mk : ∀ (fl : Fl) (l : List Dv), l.length ≤ 9223372036854775807 → (∀ u, u ∈ l → u.ok) → Rep w N0 [] bl0 c12 (slE 13 fl (encVs' l)) →
            ∃ v : Dv, v.ok ∧ Rep w N0 [] bl0 (.agg #[.int .i64 n0, c1, c2, c3, c4, c5, c6, c7, c8, c9, c10, c11, c12]) (encV' v) := by
          intro fl l g1 g2 g3
          refine ⟨.mk n0 fl1 l1 s fl l, (Dv.ok_iff _).2 ⟨wf64 w0, u1, u2, hs, g1, g2⟩, ?_⟩
          rw [encV'_eq]
          exact reps_app (reps_one rfl (.int _ _)) (reps_app (reps_one (by cases fl1 <;> cases l1 <;> rfl) u3) (reps_app rs (reps_one (by cases fl <;> cases l <;> rfl) g3)))
        have hml : maxLen = 9223372036854775807 := rfl
        rcases DataW.trod_slice hDs h3 with ⟨q1, _⟩ | ⟨a, len, cap, elems, rest, m', rfl, q1, _, _, hlc, hcm, hel, hat, _⟩
        · obtain rfl : c12 = .slice none 0 0 := by simpa using q1
          exact mk .nil [] (by simp) (fun u hu => by simp at hu) .nils
        · obtain rfl : c12 = .slice (some a) len cap := by simpa using q1
          rw [cD] at hat
          obtain ⟨l, l1, l2, l3⟩ := rep_slice (w := w) (base := base) (enc := encV') (a := a) (len := len) (cap := cap) (sz := 13) Dv.ok (by omega) hlc (fun v _ => ⟨encV'_pure v, by simp⟩) (by
            intro i hi
            have hi' : i < elems.length := by omega
            have := hat i hi
            rw [List.getElem?_eq_getElem hi', Option.bind_eq_some_iff] at this
            obtain ⟨es, he, ht⟩ := this
            obtain ⟨v, hv, hr⟩ := ih m' (by omega) es _ ht
            exact ⟨es, .agg es.toArray, v, he, by simp [Value.cells], hr, hv⟩)
          rw [← encVs'_map] at l3
          exact mk .part l (by omega) l2 l3
end Go.Nt
