/-
  VALUES: trees (V), and how they read as data.
  No condition.
-/
import Derived.Test.YtgmjghgpcjjeeaaGreatNtRead
namespace Go.Nt

inductive V where
  | mk (n : Int) (fl : Fl) (l : List V)
  deriving Inhabited

def V.n : V → Int | .mk n _ _ => n
def V.fl : V → Fl | .mk _ fl _ => fl
def V.l : V → List V | .mk _ _ l => l

mutual
  def encV : V → D
    | .mk n fl l => .agg [.int .i64 n, slE 2 fl (encVs l)]
  def encVs : List V → List D
    | [] => []
    | v :: l => encV v :: encVs l
end

@[simp] theorem encVs_nil : encVs [] = [] := by simp [encVs]
@[simp] theorem encVs_cons (v : V) (l : List V) : encVs (v :: l) = encV v :: encVs l := by simp [encVs]
theorem encVs_map (l : List V) : encVs l = l.map encV := by induction l <;> simp_all
@[simp] theorem encVs_len (l : List V) : (encVs l).length = l.length := by simp [encVs_map]
@[simp] theorem encVs_get (l : List V) (i : Nat) : (encVs l)[i]? = l[i]?.map encV := by simp [encVs_map]
@[simp] theorem encVs_at (l : List V) (i : Nat) (h : i < (encVs l).length) : (encVs l)[i] = encV (l[i]'(by simpa using h)) := by simp [encVs_map]
theorem encVs_drop (l : List V) (i : Nat) : (encVs l).drop i = encVs (l.drop i) := by simp [encVs_map]
theorem encVs_append (l r : List V) : encVs (l ++ r) = encVs l ++ encVs r := by simp [encVs_map]

theorem encV_eq (v : V) : encV v = .agg [.int .i64 v.n, slE 2 v.fl (encVs v.l)] := by cases v; simp [encV, V.n, V.fl, V.l]
@[simp] theorem encV_cells (v : V) : (encV v).cells = [.int .i64 v.n, slE 2 v.fl (encVs v.l)] := by rw [encV_eq]; rfl
@[simp] theorem encV_fits (v : V) : (encV v).fits (some 2) = true := by rw [encV_eq]; rfl
@[simp] theorem encV_okv (v : V) : (encV v).okv = true := by rw [encV_eq]; rfl
@[simp] theorem encV_pure (v : V) : (encV v).pure = true := by rw [encV_eq]; simp
@[simp] theorem encV_pureT (v : V) : (encV v).pureT = true := by rw [encV_eq]; simp
@[simp] theorem encV_fz1 (st : St) (v : V) : fz1 st (encV v) = some (encV v, st) := by rw [encV_eq]; simp
@[simp] theorem encV_fz (st : St) (v : V) : fz st (encV v) = some (encV v, st) := by rw [encV_eq]; simp

@[simp] theorem rewrap_encV (v : V) (ds : List D) : rewrap (encV v) ds = some (.agg ds) := by rw [encV_eq]; rfl

theorem encVs_set (l : List V) (k : Nat) (u : V) : encVs (l.set k u) = (encVs l).set k (encV u) := by simp [encVs_map, List.map_set]
theorem kHs_encV (u : V) (l : List V) (mod k : Nat) (hk : k < l.length) : kHs [.cells false 2 0 mod false (encVs l)] 0 0 2 k 0 (encV u) (.cells false 2 0 mod false (encVs l)) = some (.undef, none, some [.cells false 2 0 (mod + 1) false (encVs (l.set k u))]) := by
  simp [kHs, hk, ← encV_eq, encVs_set]

/-- An induction over all values below. -/
theorem V.ind {p : V → Prop} (h : ∀ v, (∀ u, u ∈ v.l → p u) → p v) (v : V) : p v :=
  V.rec (motive_1 := p) (motive_2 := fun l => ∀ u, u ∈ l → p u)
    (fun n fl l ih => h (.mk n fl l) ih)
    (fun u hu => by cases hu)
    (fun v l hv hl u hu => by
      cases hu with
      | head => exact hv
      | tail _ hu => exact hl u hu) v

/-! Are two values the same? (Their slices' flags do not count.) -/
mutual
  def same : V → V → Bool
    | .mk n _ l, .mk m _ k => n == m && sames l k
  def sames : List V → List V → Bool
    | [], [] => true
    | v :: l, u :: k => same v u && sames l k
    | _, _ => false
end

end Go.Nt

/-
  VALUES AND WAYS as laws are called with them.
  No condition.
-/
namespace Go.Nt
open Go Go.ChangeShapes Go.WideShapes Go.RowKit

def in64 (n : Int) : Prop := -9223372036854775808 ≤ n ∧ n ≤ 9223372036854775807

mutual
  def V.ok : V → Prop
    | .mk n _ l => in64 n ∧ l.length ≤ 9223372036854775807 ∧ V.oks l
  def V.oks : List V → Prop
    | [] => True
    | v :: l => v.ok ∧ V.oks l
end

theorem V.oks_iff (l : List V) : V.oks l ↔ ∀ v, v ∈ l → v.ok := by
  induction l with
  | nil => simp [V.oks]
  | cons v l ih => simp [V.oks, ih]
theorem V.ok_iff (v : V) : v.ok ↔ in64 v.n ∧ v.l.length ≤ 9223372036854775807 ∧ ∀ u, u ∈ v.l → u.ok := by
  cases v; simp [V.ok, V.n, V.l, V.oks_iff]

theorem wf64 {n : Int} (h : (Lit.int .i64 n).wf = true) : in64 n := by
  simp [Lit.wf, IntKind.min, IntKind.max, IntKind.signed, IntKind.bits] at h
  unfold in64; omega

variable {H : Type} {enc : TypeId × Value → H} {P : Program} {w : World} {base : Nat} {spare : Nat → Bool} {held : Bool}

theorem read_V {tV tS tI : TypeId} {f0 f1 : Field} (hV : P.underlying tV = some (.struct #[f0, f1])) (e0 : f0.type = tI) (o0 : f0.offset = 0) (e1 : f1.type = tS) (o1 : f1.offset = 1)
    (hI : P.underlying tI = some (.int .i64)) (hS : P.underlying tS = some (.slice tV)) (c : P.cellsOf tV = 2) (cI : P.cellsOf tI = 1) (cS : P.cellsOf tS = 1) :
    ∀ (fuel : Nat) (cs : List Value) (x : DataW H × List MemPlace), DataW.trod enc P w base spare held fuel tV cs = some x → ∃ v : V, v.ok ∧ Rep w N0 [] bl0 (.agg cs.toArray) (encV v) := by
  intro fuel
  induction fuel using Nat.strongRecOn with
  | ind fuel ih =>
    intro cs x h
    obtain ⟨xs, n, rfl, rfl, hl, hlen, hf⟩ := DataW.trod_struct hV h
    rw [c] at hl
    match cs, hl with
    | [c0, c1], _ =>
      match xs, hlen with
      | [y0, y1], _ =>
        have h0 := hf 0 f0 rfl
        have h1 := hf 1 f1 rfl
        simp only [e0, o0, cI, e1, o1, cS, List.drop_zero, List.take_succ_cons, List.take_zero, List.drop_succ_cons, List.getElem?_cons_zero, List.getElem?_cons_succ] at h0 h1
        obtain ⟨n0, q0, _, hw0⟩ := DataW.trod_int hI h0
        obtain rfl : c0 = .int .i64 n0 := by simpa using q0
        have mk : ∀ (fl : Fl) (l : List V), l.length ≤ 9223372036854775807 → (∀ u, u ∈ l → u.ok) → Rep w N0 [] bl0 c1 (slE 2 fl (l.map encV)) → ∃ v : V, v.ok ∧ Rep w N0 [] bl0 (.agg #[.int .i64 n0, c1]) (encV v) := by
          intro fl l g1 g2 g3
          refine ⟨.mk n0 fl l, (V.ok_iff _).2 ⟨wf64 hw0, g1, g2⟩, ?_⟩
          rw [encV_eq, encVs_map]
          refine .agg _ _ rfl ?_ ?_
          · intro i d hd
            match i, hd with
            | 0, hd => simp at hd; subst hd; rfl
            | 1, hd => simp at hd; subst hd; cases fl <;> cases l <;> rfl
          · intro i v d hv hd
            match i, hv, hd with
            | 0, hv, hd => simp at hv hd; subst hv; subst hd; exact .int _ _
            | 1, hv, hd => simp at hv hd; subst hv; subst hd; exact g3
        rcases DataW.trod_slice hS h1 with ⟨q1, _⟩ | ⟨a, len, cap, elems, rest, m, rfl, q1, _, _, hlc, hcm, hel, hat, _⟩
        · obtain rfl : c1 = .slice none 0 0 := by simpa using q1
          exact mk .nil [] (by simp) (fun u hu => by simp at hu) .nils
        · obtain rfl : c1 = .slice (some a) len cap := by simpa using q1
          rw [c] at hat
          obtain ⟨l, l1, l2, l3⟩ := rep_slice (w := w) (base := base) (enc := encV) (a := a) (len := len) (cap := cap) (sz := 2) V.ok (by omega) hlc (fun v _ => ⟨encV_pure v, by simp⟩) (by
            intro i hi
            have hi' : i < elems.length := by omega
            have := hat i hi
            rw [List.getElem?_eq_getElem hi', Option.bind_eq_some_iff] at this
            obtain ⟨es, he, ht⟩ := this
            obtain ⟨v, hv, hr⟩ := ih m (by omega) es _ ht
            exact ⟨es, .agg es.toArray, v, he, by simp [Value.cells], hr, hv⟩)
          have hml : maxLen = 9223372036854775807 := rfl
          exact mk .part l (by omega) l2 l3

/-- A slice of numbers. -/
theorem read_ints {tS tI : TypeId} (hI : P.underlying tI = some (.int .i64)) (hS : P.underlying tS = some (.slice tI)) (cI : P.cellsOf tI = 1) {fuel : Nat} {v : Value} {x : DataW H × List MemPlace}
    (h : DataW.trod enc P w base spare held fuel tS [v] = some x) : ∃ (fl : Fl) (l : List Int), l.length ≤ 9223372036854775807 ∧ (∀ n, n ∈ l → in64 n) ∧ Rep w N0 [] bl0 v (slE 1 fl (l.map (.int .i64))) := by
  rcases DataW.trod_slice hS h with ⟨q1, _⟩ | ⟨a, len, cap, elems, rest, m, rfl, q1, _, _, hlc, hcm, hel, hat, _⟩
  · obtain rfl : v = .slice none 0 0 := by simpa using q1
    exact ⟨.nil, [], by simp, (fun u hu => by simp at hu), .nils⟩
  · obtain rfl : v = .slice (some a) len cap := by simpa using q1
    rw [cI] at hat
    obtain ⟨l, l1, l2, l3⟩ := rep_slice (w := w) (base := base) (enc := fun n : Int => D.int .i64 n) (a := a) (len := len) (cap := cap) (sz := 1) in64 (by omega) hlc (fun v _ => ⟨rfl, rfl⟩) (by
      intro i hi
      have hi' : i < elems.length := by omega
      have := hat i hi
      rw [List.getElem?_eq_getElem hi', Option.bind_eq_some_iff] at this
      obtain ⟨es, he, ht⟩ := this
      obtain ⟨n, rfl, _, hw⟩ := DataW.trod_int hI ht
      exact ⟨_, .int .i64 n, n, he, rfl, .int _ _, wf64 hw⟩)
    have hml : maxLen = 9223372036854775807 := rfl
    exact ⟨.part, l, by omega, l2, l3⟩

end Go.Nt

/-
  TERMS (api.Term) as trees, how they read as data, and how laws are called with them.
  No condition.
-/
namespace Go.Nt
open Go Go.ChangeShapes Go.WideShapes Go.RowKit

inductive Tm where
  | mk (k n : Int) (s : List UInt8) (fl : Fl) (l : List Tm) (a b : Int)
  deriving Inhabited

def Tm.k : Tm → Int | .mk k _ _ _ _ _ _ => k
def Tm.n : Tm → Int | .mk _ n _ _ _ _ _ => n
def Tm.s : Tm → List UInt8 | .mk _ _ s _ _ _ _ => s
def Tm.fl : Tm → Fl | .mk _ _ _ fl _ _ _ => fl
def Tm.l : Tm → List Tm | .mk _ _ _ _ l _ _ => l
def Tm.a : Tm → Int | .mk _ _ _ _ _ a _ => a
def Tm.b : Tm → Int | .mk _ _ _ _ _ _ b => b

mutual
  def encT : Tm → D
    | .mk k n s fl l a b => .agg [.int .i64 k, .int .i64 n, .str s, slE 6 fl (encTs l), .int .i64 a, .int .i64 b]
  def encTs : List Tm → List D
    | [] => []
    | v :: l => encT v :: encTs l
end

@[simp] theorem encTs_nil : encTs [] = [] := by simp [encTs]
@[simp] theorem encTs_cons (v : Tm) (l : List Tm) : encTs (v :: l) = encT v :: encTs l := by simp [encTs]
theorem encTs_map (l : List Tm) : encTs l = l.map encT := by induction l <;> simp_all
@[simp] theorem encTs_len (l : List Tm) : (encTs l).length = l.length := by simp [encTs_map]
@[simp] theorem encTs_get (l : List Tm) (i : Nat) : (encTs l)[i]? = l[i]?.map encT := by simp [encTs_map]
@[simp] theorem encTs_at (l : List Tm) (i : Nat) (h : i < (encTs l).length) : (encTs l)[i] = encT (l[i]'(by simpa using h)) := by simp [encTs_map]
theorem encTs_drop (l : List Tm) (i : Nat) : (encTs l).drop i = encTs (l.drop i) := by simp [encTs_map]
theorem encTs_append (l r : List Tm) : encTs (l ++ r) = encTs l ++ encTs r := by simp [encTs_map]

/-- The cells of a term. -/
abbrev clT (v : Tm) : List D := [.int .i64 v.k, .int .i64 v.n, .str v.s, slE 6 v.fl (encTs v.l), .int .i64 v.a, .int .i64 v.b]

theorem encT_eq (v : Tm) : encT v = .agg [.int .i64 v.k, .int .i64 v.n, .str v.s, slE 6 v.fl (encTs v.l), .int .i64 v.a, .int .i64 v.b] := by cases v; simp [encT, Tm.k, Tm.n, Tm.s, Tm.fl, Tm.l, Tm.a, Tm.b]
@[simp] theorem encT_cells (v : Tm) : (encT v).cells = [.int .i64 v.k, .int .i64 v.n, .str v.s, slE 6 v.fl (encTs v.l), .int .i64 v.a, .int .i64 v.b] := by rw [encT_eq]; rfl
@[simp] theorem encT_fits (v : Tm) : (encT v).fits (some 6) = true := by rw [encT_eq]; rfl
@[simp] theorem encT_okv (v : Tm) : (encT v).okv = true := by rw [encT_eq]; rfl
@[simp] theorem encT_pure (v : Tm) : (encT v).pure = true := by rw [encT_eq]; simp
@[simp] theorem encT_pureT (v : Tm) : (encT v).pureT = true := by rw [encT_eq]; simp
@[simp] theorem encT_fz1 (st : St) (v : Tm) : fz1 st (encT v) = some (encT v, st) := by rw [encT_eq]; simp
@[simp] theorem encT_fz (st : St) (v : Tm) : fz st (encT v) = some (encT v, st) := by rw [encT_eq]; simp
@[simp] theorem rewrap_encT (v : Tm) (ds : List D) : rewrap (encT v) ds = some (.agg ds) := by rw [encT_eq]; rfl

theorem Tm.ind {p : Tm → Prop} (h : ∀ v, (∀ u, u ∈ v.l → p u) → p v) (v : Tm) : p v :=
  Tm.rec (motive_1 := p) (motive_2 := fun l => ∀ u, u ∈ l → p u)
    (fun k n s fl l a b ih => h (.mk k n s fl l a b) ih)
    (fun u hu => by cases hu)
    (fun v l hv hl u hu => by
      cases hu with
      | head => exact hv
      | tail _ hu => exact hl u hu) v

mutual
  def Tm.ok : Tm → Prop
    | .mk k n s _ l a b => in64 k ∧ in64 n ∧ s.length ≤ 9223372036854775807 ∧ in64 a ∧ in64 b ∧ l.length ≤ 9223372036854775807 ∧ Tm.oks l
  def Tm.oks : List Tm → Prop
    | [] => True
    | v :: l => v.ok ∧ Tm.oks l
end
theorem Tm.oks_iff (l : List Tm) : Tm.oks l ↔ ∀ v, v ∈ l → v.ok := by
  induction l with
  | nil => simp [Tm.oks]
  | cons v l ih => simp [Tm.oks, ih]
theorem Tm.ok_iff (v : Tm) : v.ok ↔ in64 v.k ∧ in64 v.n ∧ v.s.length ≤ 9223372036854775807 ∧ in64 v.a ∧ in64 v.b ∧ v.l.length ≤ 9223372036854775807 ∧ ∀ u, u ∈ v.l → u.ok := by
  cases v; simp [Tm.ok, Tm.k, Tm.n, Tm.s, Tm.l, Tm.a, Tm.b, Tm.oks_iff]

mutual
  def cntT : Tm → Nat
    | .mk _ _ _ _ l _ _ => cntTs l + 1
  def cntTs : List Tm → Nat
    | [] => 0
    | v :: l => cntT v + cntTs l
end
theorem cntT_eq (v : Tm) : cntT v = cntTs v.l + 1 := by cases v; simp [cntT, Tm.l]
theorem cntTs_len (l : List Tm) : l.length ≤ cntTs l := by
  induction l with
  | nil => simp [cntTs]
  | cons v l ih => have := cntT_eq v; simp only [cntTs, List.length_cons]; omega
theorem cntTs_mem {l : List Tm} {u : Tm} (h : u ∈ l) : cntT u ≤ cntTs l := by
  induction l with
  | nil => cases h
  | cons v l ih =>
    simp only [cntTs]
    cases h with
    | head => omega
    | tail _ h => have := ih h; omega

variable {H : Type} {enc : TypeId × Value → H} {P : Program} {w : World} {base : Nat} {spare : Nat → Bool} {held : Bool}

theorem read_T {tV tS tI tN tZ : TypeId} {f0 f1 f2 f3 f4 f5 : Field} (hV : P.underlying tV = some (.struct #[f0, f1, f2, f3, f4, f5])) (e0 : f0.type = tI) (o0 : f0.offset = 0) (e1 : f1.type = tN) (o1 : f1.offset = 1)
    (e2 : f2.type = tZ) (o2 : f2.offset = 2) (e3 : f3.type = tS) (o3 : f3.offset = 3) (e4 : f4.type = tI) (o4 : f4.offset = 4) (e5 : f5.type = tI) (o5 : f5.offset = 5)
    (hI : P.underlying tI = some (.int .i64)) (hN : P.underlying tN = some (.int .i64)) (hZ : P.underlying tZ = some .string) (hS : P.underlying tS = some (.slice tV)) (c : P.cellsOf tV = 6) (cI : P.cellsOf tI = 1) (cN : P.cellsOf tN = 1) (cZ : P.cellsOf tZ = 1) (cS : P.cellsOf tS = 1) :
    ∀ (fuel : Nat) (cs : List Value) (x : DataW H × List MemPlace), DataW.trod enc P w base spare held fuel tV cs = some x → ∃ v : Tm, v.ok ∧ Rep w N0 [] bl0 (.agg cs.toArray) (encT v) := by
  intro fuel
  induction fuel using Nat.strongRecOn with
  | ind fuel ih =>
    intro cs x h
    obtain ⟨xs, n, rfl, rfl, hl, hlen, hf⟩ := DataW.trod_struct hV h
    rw [c] at hl
    match cs, hl with
    | [c0, c1, c2, c3, c4, c5], _ =>
      match xs, hlen with
      | [y0, y1, y2, y3, y4, y5], _ =>
        have h0 := hf 0 f0 rfl
        have h1 := hf 1 f1 rfl
        have h2 := hf 2 f2 rfl
        have h3 := hf 3 f3 rfl
        have h4 := hf 4 f4 rfl
        have h5 := hf 5 f5 rfl
        simp only [e0, o0, cI, e1, o1, cS, e2, o2, e3, o3, e4, o4, e5, o5, cN, cZ, List.drop_zero, List.take_succ_cons, List.take_zero, List.drop_succ_cons, List.getElem?_cons_zero, List.getElem?_cons_succ] at h0 h1 h2 h3 h4 h5
        obtain ⟨n0, q0, _, hw0⟩ := DataW.trod_int hI h0
        obtain rfl : c0 = .int .i64 n0 := by simpa using q0
        obtain ⟨n1, q1, _, hw1⟩ := DataW.trod_int hN h1
        obtain rfl : c1 = .int .i64 n1 := by simpa using q1
        obtain ⟨s2, q2, _, hw2⟩ := DataW.trod_string hZ h2
        obtain rfl : c2 = .string s2 := by simpa using q2
        obtain ⟨n4, q4, _, hw4⟩ := DataW.trod_int hI h4
        obtain rfl : c4 = .int .i64 n4 := by simpa using q4
        obtain ⟨n5, q5, _, hw5⟩ := DataW.trod_int hI h5
        obtain rfl : c5 = .int .i64 n5 := by simpa using q5
        have hml : maxLen = 9223372036854775807 := rfl
        have mk : ∀ (fl : Fl) (l : List Tm), l.length ≤ 9223372036854775807 → (∀ u, u ∈ l → u.ok) → Rep w N0 [] bl0 c3 (slE 6 fl (encTs l)) →
            ∃ v : Tm, v.ok ∧ Rep w N0 [] bl0 (.agg #[.int .i64 n0, .int .i64 n1, .string s2, c3, .int .i64 n4, .int .i64 n5]) (encT v) := by
          intro fl l g1 g2 g3
          refine ⟨.mk n0 n1 s2.data.toList fl l n4 n5, (Tm.ok_iff _).2 ⟨wf64 hw0, wf64 hw1, by simp [Tm.s]; rw [← hml]; exact hw2, wf64 hw4, wf64 hw5, g1, g2⟩, ?_⟩
          rw [encT_eq]
          refine .agg _ _ rfl ?_ ?_
          · intro i d hd
            match i, hd with
            | 0, hd => simp at hd; subst hd; rfl
            | 1, hd => simp at hd; subst hd; rfl
            | 2, hd => simp at hd; subst hd; rfl
            | 3, hd => simp at hd; subst hd; cases fl <;> cases l <;> rfl
            | 4, hd => simp at hd; subst hd; rfl
            | 5, hd => simp at hd; subst hd; rfl
          · intro i v d hv hd
            match i, hv, hd with
            | 0, hv, hd => simp at hv hd; subst hv; subst hd; exact .int _ _
            | 1, hv, hd => simp at hv hd; subst hv; subst hd; exact .int _ _
            | 2, hv, hd => simp at hv hd; subst hv; subst hd; exact .str _
            | 3, hv, hd => simp at hv hd; subst hv; subst hd; exact g3
            | 4, hv, hd => simp at hv hd; subst hv; subst hd; exact .int _ _
            | 5, hv, hd => simp at hv hd; subst hv; subst hd; exact .int _ _
        rcases DataW.trod_slice hS h3 with ⟨q1, _⟩ | ⟨a, len, cap, elems, rest, m, rfl, q1, _, _, hlc, hcm, hel, hat, _⟩
        · obtain rfl : c3 = .slice none 0 0 := by simpa using q1
          exact mk .nil [] (by simp) (fun u hu => by simp at hu) .nils
        · obtain rfl : c3 = .slice (some a) len cap := by simpa using q1
          rw [c] at hat
          obtain ⟨l, l1, l2, l3⟩ := rep_slice (w := w) (base := base) (enc := encT) (a := a) (len := len) (cap := cap) (sz := 6) Tm.ok (by omega) hlc (fun v _ => ⟨encT_pure v, by simp⟩) (by
            intro i hi
            have hi' : i < elems.length := by omega
            have := hat i hi
            rw [List.getElem?_eq_getElem hi', Option.bind_eq_some_iff] at this
            obtain ⟨es, he, ht⟩ := this
            obtain ⟨v, hv, hr⟩ := ih m (by omega) es _ ht
            exact ⟨es, .agg es.toArray, v, he, by simp [Value.cells], hr, hv⟩)
          rw [← encTs_map] at l3
          exact mk .part l (by omega) l2 l3

end Go.Nt
