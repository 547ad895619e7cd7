/-
  VALUES: trees (V), and how they read as data.
  No condition.
-/
import Derived.Test.YtpfdoelhoiohdaaNtSim
import Derived.Test.YtpfdoelhoiohdaaNtRead
import Derived.Test.YtpfdoelhoiohdaaLkLex0
namespace Go.Nt

inductive V where
  | mk (n : Int) (fl : Fl) (l : List V)
  deriving Inhabited

def V.n : V → Int | .mk n _ _ => n
def V.fl : V → Fl | .mk _ fl _ => fl
def V.l : V → List V | .mk _ _ l => l

mutual
  def encV : V → D
    | .mk n fl l => .agg [.int .i64 n, slE 2 fl (encVs l)]
  def encVs : List V → List D
    | [] => []
    | v :: l => encV v :: encVs l
end

@[simp] theorem encVs_nil : encVs [] = [] := by simp [encVs]
@[simp] theorem encVs_cons (v : V) (l : List V) : encVs (v :: l) = encV v :: encVs l := by simp [encVs]
theorem encVs_map (l : List V) : encVs l = l.map encV := by induction l <;> simp_all
@[simp] theorem encVs_len (l : List V) : (encVs l).length = l.length := by simp [encVs_map]
@[simp] theorem encVs_get (l : List V) (i : Nat) : (encVs l)[i]? = l[i]?.map encV := by simp [encVs_map]
@[simp] theorem encVs_at (l : List V) (i : Nat) (h : i < (encVs l).length) : (encVs l)[i] = encV (l[i]'(by simpa using h)) := by simp [encVs_map]
theorem encVs_drop (l : List V) (i : Nat) : (encVs l).drop i = encVs (l.drop i) := by simp [encVs_map]
theorem encVs_append (l r : List V) : encVs (l ++ r) = encVs l ++ encVs r := by simp [encVs_map]

theorem encV_eq (v : V) : encV v = .agg [.int .i64 v.n, slE 2 v.fl (encVs v.l)] := by cases v; simp [encV, V.n, V.fl, V.l]
@[simp] theorem encV_cells (v : V) : (encV v).cells = [.int .i64 v.n, slE 2 v.fl (encVs v.l)] := by rw [encV_eq]; rfl
@[simp] theorem encV_fits (v : V) : (encV v).fits (some 2) = true := by rw [encV_eq]; rfl
@[simp] theorem encV_okv (v : V) : (encV v).okv = true := by rw [encV_eq]; rfl
@[simp] theorem encV_pure (v : V) : (encV v).pure = true := by rw [encV_eq]; simp
@[simp] theorem encV_pureT (v : V) : (encV v).pureT = true := by rw [encV_eq]; simp
@[simp] theorem encV_fz1 (st : St) (v : V) : fz1 st (encV v) = some (encV v, st) := by rw [encV_eq]; simp
@[simp] theorem encV_fz (st : St) (v : V) : fz st (encV v) = some (encV v, st) := by rw [encV_eq]; simp

@[simp] theorem rewrap_encV (v : V) (ds : List D) : rewrap (encV v) ds = some (.agg ds) := by rw [encV_eq]; rfl

theorem encVs_set (l : List V) (k : Nat) (u : V) : encVs (l.set k u) = (encVs l).set k (encV u) := by simp [encVs_map, List.map_set]
theorem kHs_encV (u : V) (l : List V) (mod k : Nat) (hk : k < l.length) : kHs [.cells false 2 0 mod false (encVs l)] 0 0 2 k 0 (encV u) (.cells false 2 0 mod false (encVs l)) = some (.undef, none, some [.cells false 2 0 (mod + 1) false (encVs (l.set k u))]) := by
  simp [kHs, hk, ← encV_eq, encVs_set]

/-- An induction over all values below. -/
theorem V.ind {p : V → Prop} (h : ∀ v, (∀ u, u ∈ v.l → p u) → p v) (v : V) : p v :=
  V.rec (motive_1 := p) (motive_2 := fun l => ∀ u, u ∈ l → p u)
    (fun n fl l ih => h (.mk n fl l) ih)
    (fun u hu => by cases hu)
    (fun v l hv hl u hu => by
      cases hu with
      | head => exact hv
      | tail _ hu => exact hl u hu) v

/-! Are two values the same? (Their slices' flags do not count.) -/
mutual
  def same : V → V → Bool
    | .mk n _ l, .mk m _ k => n == m && sames l k
  def sames : List V → List V → Bool
    | [], [] => true
    | v :: l, u :: k => same v u && sames l k
    | _, _ => false
end

end Go.Nt

/-
  VALUES AND WAYS as laws are called with them.
  No condition.
-/
namespace Go.Nt
open Go Go.ChangeShapes Go.WideShapes Go.RowKit

def in64 (n : Int) : Prop := -9223372036854775808 ≤ n ∧ n ≤ 9223372036854775807

mutual
  def V.ok : V → Prop
    | .mk n _ l => in64 n ∧ l.length ≤ 9223372036854775807 ∧ V.oks l
  def V.oks : List V → Prop
    | [] => True
    | v :: l => v.ok ∧ V.oks l
end

theorem V.oks_iff (l : List V) : V.oks l ↔ ∀ v, v ∈ l → v.ok := by
  induction l with
  | nil => simp [V.oks]
  | cons v l ih => simp [V.oks, ih]
theorem V.ok_iff (v : V) : v.ok ↔ in64 v.n ∧ v.l.length ≤ 9223372036854775807 ∧ ∀ u, u ∈ v.l → u.ok := by
  cases v; simp [V.ok, V.n, V.l, V.oks_iff]

theorem wf64 {n : Int} (h : (Lit.int .i64 n).wf = true) : in64 n := by
  simp [Lit.wf, IntKind.min, IntKind.max, IntKind.signed, IntKind.bits] at h
  unfold in64; omega

variable {H : Type} {enc : TypeId × Value → H} {P : Program} {w : World} {base : Nat} {spare : Nat → Bool} {held : Bool}

theorem read_V {tV tS tI : TypeId} {f0 f1 : Field} (hV : P.underlying tV = some (.struct #[f0, f1])) (e0 : f0.type = tI) (o0 : f0.offset = 0) (e1 : f1.type = tS) (o1 : f1.offset = 1)
    (hI : P.underlying tI = some (.int .i64)) (hS : P.underlying tS = some (.slice tV)) (c : P.cellsOf tV = 2) (cI : P.cellsOf tI = 1) (cS : P.cellsOf tS = 1) :
    ∀ (fuel : Nat) (cs : List Value) (x : DataW H × List MemPlace), DataW.trod enc P w base spare held fuel tV cs = some x → ∃ v : V, v.ok ∧ Rep w N0 [] bl0 (.agg cs.toArray) (encV v) := by
  intro fuel
  induction fuel using Nat.strongRecOn with
  | ind fuel ih =>
    intro cs x h
    obtain ⟨xs, n, rfl, rfl, hl, hlen, hf⟩ := DataW.trod_struct hV h
    rw [c] at hl
    match cs, hl with
    | [c0, c1], _ =>
      match xs, hlen with
      | [y0, y1], _ =>
        have h0 := hf 0 f0 rfl
        have h1 := hf 1 f1 rfl
        simp only [e0, o0, cI, e1, o1, cS, List.drop_zero, List.take_succ_cons, List.take_zero, List.drop_succ_cons, List.getElem?_cons_zero, List.getElem?_cons_succ] at h0 h1
        obtain ⟨n0, q0, _, hw0⟩ := DataW.trod_int hI h0
        obtain rfl : c0 = .int .i64 n0 := by simpa using q0
        have mk : ∀ (fl : Fl) (l : List V), l.length ≤ 9223372036854775807 → (∀ u, u ∈ l → u.ok) → Rep w N0 [] bl0 c1 (slE 2 fl (l.map encV)) → ∃ v : V, v.ok ∧ Rep w N0 [] bl0 (.agg #[.int .i64 n0, c1]) (encV v) := by
          intro fl l g1 g2 g3
          refine ⟨.mk n0 fl l, (V.ok_iff _).2 ⟨wf64 hw0, g1, g2⟩, ?_⟩
          rw [encV_eq, encVs_map]
          refine .agg _ _ rfl ?_ ?_
          · intro i d hd
            match i, hd with
            | 0, hd => simp at hd; subst hd; rfl
            | 1, hd => simp at hd; subst hd; cases fl <;> cases l <;> rfl
          · intro i v d hv hd
            match i, hv, hd with
            | 0, hv, hd => simp at hv hd; subst hv; subst hd; exact .int _ _
            | 1, hv, hd => simp at hv hd; subst hv; subst hd; exact g3
        rcases DataW.trod_slice hS h1 with ⟨q1, _⟩ | ⟨a, len, cap, elems, rest, m, rfl, q1, _, _, hlc, hcm, hel, hat, _⟩
        · obtain rfl : c1 = .slice none 0 0 := by simpa using q1
          exact mk .nil [] (by simp) (fun u hu => by simp at hu) .nils
        · obtain rfl : c1 = .slice (some a) len cap := by simpa using q1
          rw [c] at hat
          obtain ⟨l, l1, l2, l3⟩ := rep_slice (w := w) (base := base) (enc := encV) (a := a) (len := len) (cap := cap) (sz := 2) V.ok (by omega) hlc (fun v _ => ⟨encV_pure v, by simp⟩) (by
            intro i hi
            have hi' : i < elems.length := by omega
            have := hat i hi
            rw [List.getElem?_eq_getElem hi', Option.bind_eq_some_iff] at this
            obtain ⟨es, he, ht⟩ := this
            obtain ⟨v, hv, hr⟩ := ih m (by omega) es _ ht
            exact ⟨es, .agg es.toArray, v, he, by simp [Value.cells], hr, hv⟩)
          have hml : maxLen = 9223372036854775807 := rfl
          exact mk .part l (by omega) l2 l3

/-- A slice of numbers. -/
theorem read_ints {tS tI : TypeId} (hI : P.underlying tI = some (.int .i64)) (hS : P.underlying tS = some (.slice tI)) (cI : P.cellsOf tI = 1) {fuel : Nat} {v : Value} {x : DataW H × List MemPlace}
    (h : DataW.trod enc P w base spare held fuel tS [v] = some x) : ∃ (fl : Fl) (l : List Int), l.length ≤ 9223372036854775807 ∧ (∀ n, n ∈ l → in64 n) ∧ Rep w N0 [] bl0 v (slE 1 fl (l.map (.int .i64))) := by
  rcases DataW.trod_slice hS h with ⟨q1, _⟩ | ⟨a, len, cap, elems, rest, m, rfl, q1, _, _, hlc, hcm, hel, hat, _⟩
  · obtain rfl : v = .slice none 0 0 := by simpa using q1
    exact ⟨.nil, [], by simp, (fun u hu => by simp at hu), .nils⟩
  · obtain rfl : v = .slice (some a) len cap := by simpa using q1
    rw [cI] at hat
    obtain ⟨l, l1, l2, l3⟩ := rep_slice (w := w) (base := base) (enc := fun n : Int => D.int .i64 n) (a := a) (len := len) (cap := cap) (sz := 1) in64 (by omega) hlc (fun v _ => ⟨rfl, rfl⟩) (by
      intro i hi
      have hi' : i < elems.length := by omega
      have := hat i hi
      rw [List.getElem?_eq_getElem hi', Option.bind_eq_some_iff] at this
      obtain ⟨es, he, ht⟩ := this
      obtain ⟨n, rfl, _, hw⟩ := DataW.trod_int hI ht
      exact ⟨_, .int .i64 n, n, he, rfl, .int _ _, wf64 hw⟩)
    have hml : maxLen = 9223372036854775807 := rfl
    exact ⟨.part, l, by omega, l2, l3⟩

end Go.Nt

/-
  TERMS (api.Term) as trees, how they read as data, and how laws are called with them.
  No condition.
-/
namespace Go.Nt
open Go Go.ChangeShapes Go.WideShapes Go.RowKit

inductive Tm where
  | mk (k n : Int) (s : List UInt8) (fl : Fl) (l : List Tm) (a b : Int)
  deriving Inhabited

def Tm.k : Tm → Int | .mk k _ _ _ _ _ _ => k
def Tm.n : Tm → Int | .mk _ n _ _ _ _ _ => n
def Tm.s : Tm → List UInt8 | .mk _ _ s _ _ _ _ => s
def Tm.fl : Tm → Fl | .mk _ _ _ fl _ _ _ => fl
def Tm.l : Tm → List Tm | .mk _ _ _ _ l _ _ => l
def Tm.a : Tm → Int | .mk _ _ _ _ _ a _ => a
def Tm.b : Tm → Int | .mk _ _ _ _ _ _ b => b

mutual
  def encT : Tm → D
    | .mk k n s fl l a b => .agg [.int .i64 k, .int .i64 n, .str s, slE 6 fl (encTs l), .int .i64 a, .int .i64 b]
  def encTs : List Tm → List D
    | [] => []
    | v :: l => encT v :: encTs l
end

@[simp] theorem encTs_nil : encTs [] = [] := by simp [encTs]
@[simp] theorem encTs_cons (v : Tm) (l : List Tm) : encTs (v :: l) = encT v :: encTs l := by simp [encTs]
theorem encTs_map (l : List Tm) : encTs l = l.map encT := by induction l <;> simp_all
@[simp] theorem encTs_len (l : List Tm) : (encTs l).length = l.length := by simp [encTs_map]
@[simp] theorem encTs_get (l : List Tm) (i : Nat) : (encTs l)[i]? = l[i]?.map encT := by simp [encTs_map]
@[simp] theorem encTs_at (l : List Tm) (i : Nat) (h : i < (encTs l).length) : (encTs l)[i] = encT (l[i]'(by simpa using h)) := by simp [encTs_map]
theorem encTs_drop (l : List Tm) (i : Nat) : (encTs l).drop i = encTs (l.drop i) := by simp [encTs_map]
theorem encTs_append (l r : List Tm) : encTs (l ++ r) = encTs l ++ encTs r := by simp [encTs_map]

/-- The cells of a term. -/
abbrev clT (v : Tm) : List D := [.int .i64 v.k, .int .i64 v.n, .str v.s, slE 6 v.fl (encTs v.l), .int .i64 v.a, .int .i64 v.b]

theorem encT_eq (v : Tm) : encT v = .agg [.int .i64 v.k, .int .i64 v.n, .str v.s, slE 6 v.fl (encTs v.l), .int .i64 v.a, .int .i64 v.b] := by cases v; simp [encT, Tm.k, Tm.n, Tm.s, Tm.fl, Tm.l, Tm.a, Tm.b]
@[simp] theorem encT_cells (v : Tm) : (encT v).cells = [.int .i64 v.k, .int .i64 v.n, .str v.s, slE 6 v.fl (encTs v.l), .int .i64 v.a, .int .i64 v.b] := by rw [encT_eq]; rfl
@[simp] theorem encT_fits (v : Tm) : (encT v).fits (some 6) = true := by rw [encT_eq]; rfl
@[simp] theorem encT_okv (v : Tm) : (encT v).okv = true := by rw [encT_eq]; rfl
@[simp] theorem encT_pure (v : Tm) : (encT v).pure = true := by rw [encT_eq]; simp
@[simp] theorem encT_pureT (v : Tm) : (encT v).pureT = true := by rw [encT_eq]; simp
@[simp] theorem encT_fz1 (st : St) (v : Tm) : fz1 st (encT v) = some (encT v, st) := by rw [encT_eq]; simp
@[simp] theorem encT_fz (st : St) (v : Tm) : fz st (encT v) = some (encT v, st) := by rw [encT_eq]; simp
@[simp] theorem rewrap_encT (v : Tm) (ds : List D) : rewrap (encT v) ds = some (.agg ds) := by rw [encT_eq]; rfl

theorem Tm.ind {p : Tm → Prop} (h : ∀ v, (∀ u, u ∈ v.l → p u) → p v) (v : Tm) : p v :=
  Tm.rec (motive_1 := p) (motive_2 := fun l => ∀ u, u ∈ l → p u)
    (fun k n s fl l a b ih => h (.mk k n s fl l a b) ih)
    (fun u hu => by cases hu)
    (fun v l hv hl u hu => by
      cases hu with
      | head => exact hv
      | tail _ hu => exact hl u hu) v

mutual
  def Tm.ok : Tm → Prop
    | .mk k n s _ l a b => in64 k ∧ in64 n ∧ s.length ≤ 9223372036854775807 ∧ in64 a ∧ in64 b ∧ l.length ≤ 9223372036854775807 ∧ Tm.oks l
  def Tm.oks : List Tm → Prop
    | [] => True
    | v :: l => v.ok ∧ Tm.oks l
end
theorem Tm.oks_iff (l : List Tm) : Tm.oks l ↔ ∀ v, v ∈ l → v.ok := by
  induction l with
  | nil => simp [Tm.oks]
  | cons v l ih => simp [Tm.oks, ih]
theorem Tm.ok_iff (v : Tm) : v.ok ↔ in64 v.k ∧ in64 v.n ∧ v.s.length ≤ 9223372036854775807 ∧ in64 v.a ∧ in64 v.b ∧ v.l.length ≤ 9223372036854775807 ∧ ∀ u, u ∈ v.l → u.ok := by
  cases v; simp [Tm.ok, Tm.k, Tm.n, Tm.s, Tm.l, Tm.a, Tm.b, Tm.oks_iff]

mutual
  def cntT : Tm → Nat
    | .mk _ _ _ _ l _ _ => cntTs l + 1
  def cntTs : List Tm → Nat
    | [] => 0
    | v :: l => cntT v + cntTs l
end
theorem cntT_eq (v : Tm) : cntT v = cntTs v.l + 1 := by cases v; simp [cntT, Tm.l]
theorem cntTs_len (l : List Tm) : l.length ≤ cntTs l := by
  induction l with
  | nil => simp [cntTs]
  | cons v l ih => have := cntT_eq v; simp only [cntTs, List.length_cons]; omega
theorem cntTs_mem {l : List Tm} {u : Tm} (h : u ∈ l) : cntT u ≤ cntTs l := by
  induction l with
  | nil => cases h
  | cons v l ih =>
    simp only [cntTs]
    cases h with
    | head => omega
    | tail _ h => have := ih h; omega

variable {H : Type} {enc : TypeId × Value → H} {P : Program} {w : World} {base : Nat} {spare : Nat → Bool} {held : Bool}

theorem read_T {tV tS tI tN tZ : TypeId} {f0 f1 f2 f3 f4 f5 : Field} (hV : P.underlying tV = some (.struct #[f0, f1, f2, f3, f4, f5])) (e0 : f0.type = tI) (o0 : f0.offset = 0) (e1 : f1.type = tN) (o1 : f1.offset = 1)
    (e2 : f2.type = tZ) (o2 : f2.offset = 2) (e3 : f3.type = tS) (o3 : f3.offset = 3) (e4 : f4.type = tI) (o4 : f4.offset = 4) (e5 : f5.type = tI) (o5 : f5.offset = 5)
    (hI : P.underlying tI = some (.int .i64)) (hN : P.underlying tN = some (.int .i64)) (hZ : P.underlying tZ = some .string) (hS : P.underlying tS = some (.slice tV)) (c : P.cellsOf tV = 6) (cI : P.cellsOf tI = 1) (cN : P.cellsOf tN = 1) (cZ : P.cellsOf tZ = 1) (cS : P.cellsOf tS = 1) :
    ∀ (fuel : Nat) (cs : List Value) (x : DataW H × List MemPlace), DataW.trod enc P w base spare held fuel tV cs = some x → ∃ v : Tm, v.ok ∧ Rep w N0 [] bl0 (.agg cs.toArray) (encT v) := by
  intro fuel
  induction fuel using Nat.strongRecOn with
  | ind fuel ih =>
    intro cs x h
    obtain ⟨xs, n, rfl, rfl, hl, hlen, hf⟩ := DataW.trod_struct hV h
    rw [c] at hl
    match cs, hl with
    | [c0, c1, c2, c3, c4, c5], _ =>
      match xs, hlen with
      | [y0, y1, y2, y3, y4, y5], _ =>
        have h0 := hf 0 f0 rfl
        have h1 := hf 1 f1 rfl
        have h2 := hf 2 f2 rfl
        have h3 := hf 3 f3 rfl
        have h4 := hf 4 f4 rfl
        have h5 := hf 5 f5 rfl
        simp only [e0, o0, cI, e1, o1, cS, e2, o2, e3, o3, e4, o4, e5, o5, cN, cZ, List.drop_zero, List.take_succ_cons, List.take_zero, List.drop_succ_cons, List.getElem?_cons_zero, List.getElem?_cons_succ] at h0 h1 h2 h3 h4 h5
        obtain ⟨n0, q0, _, hw0⟩ := DataW.trod_int hI h0
        obtain rfl : c0 = .int .i64 n0 := by simpa using q0
        obtain ⟨n1, q1, _, hw1⟩ := DataW.trod_int hN h1
        obtain rfl : c1 = .int .i64 n1 := by simpa using q1
        obtain ⟨s2, q2, _, hw2⟩ := DataW.trod_string hZ h2
        obtain rfl : c2 = .string s2 := by simpa using q2
        obtain ⟨n4, q4, _, hw4⟩ := DataW.trod_int hI h4
        obtain rfl : c4 = .int .i64 n4 := by simpa using q4
        obtain ⟨n5, q5, _, hw5⟩ := DataW.trod_int hI h5
        obtain rfl : c5 = .int .i64 n5 := by simpa using q5
        have hml : maxLen = 9223372036854775807 := rfl
        have mk : ∀ (fl : Fl) (l : List Tm), l.length ≤ 9223372036854775807 → (∀ u, u ∈ l → u.ok) → Rep w N0 [] bl0 c3 (slE 6 fl (encTs l)) →
            ∃ v : Tm, v.ok ∧ Rep w N0 [] bl0 (.agg #[.int .i64 n0, .int .i64 n1, .string s2, c3, .int .i64 n4, .int .i64 n5]) (encT v) := by
          intro fl l g1 g2 g3
          refine ⟨.mk n0 n1 s2.data.toList fl l n4 n5, (Tm.ok_iff _).2 ⟨wf64 hw0, wf64 hw1, by simp [Tm.s]; rw [← hml]; exact hw2, wf64 hw4, wf64 hw5, g1, g2⟩, ?_⟩
          rw [encT_eq]
          refine .agg _ _ rfl ?_ ?_
          · intro i d hd
            match i, hd with
            | 0, hd => simp at hd; subst hd; rfl
            | 1, hd => simp at hd; subst hd; rfl
            | 2, hd => simp at hd; subst hd; rfl
            | 3, hd => simp at hd; subst hd; cases fl <;> cases l <;> rfl
            | 4, hd => simp at hd; subst hd; rfl
            | 5, hd => simp at hd; subst hd; rfl
          · intro i v d hv hd
            match i, hv, hd with
            | 0, hv, hd => simp at hv hd; subst hv; subst hd; exact .int _ _
            | 1, hv, hd => simp at hv hd; subst hv; subst hd; exact .int _ _
            | 2, hv, hd => simp at hv hd; subst hv; subst hd; exact .str _
            | 3, hv, hd => simp at hv hd; subst hv; subst hd; exact g3
            | 4, hv, hd => simp at hv hd; subst hv; subst hd; exact .int _ _
            | 5, hv, hd => simp at hv hd; subst hv; subst hd; exact .int _ _
        rcases DataW.trod_slice hS h3 with ⟨q1, _⟩ | ⟨a, len, cap, elems, rest, m, rfl, q1, _, _, hlc, hcm, hel, hat, _⟩
        · obtain rfl : c3 = .slice none 0 0 := by simpa using q1
          exact mk .nil [] (by simp) (fun u hu => by simp at hu) .nils
        · obtain rfl : c3 = .slice (some a) len cap := by simpa using q1
          rw [c] at hat
          obtain ⟨l, l1, l2, l3⟩ := rep_slice (w := w) (base := base) (enc := encT) (a := a) (len := len) (cap := cap) (sz := 6) Tm.ok (by omega) hlc (fun v _ => ⟨encT_pure v, by simp⟩) (by
            intro i hi
            have hi' : i < elems.length := by omega
            have := hat i hi
            rw [List.getElem?_eq_getElem hi', Option.bind_eq_some_iff] at this
            obtain ⟨es, he, ht⟩ := this
            obtain ⟨v, hv, hr⟩ := ih m (by omega) es _ ht
            exact ⟨es, .agg es.toArray, v, he, by simp [Value.cells], hr, hv⟩)
          rw [← encTs_map] at l3
          exact mk .part l (by omega) l2 l3

end Go.Nt

/-
  THE REFERENCE'S PARSER, as plain functions on tokens (by fuel); where it ends.
  No condition.
-/
set_option linter.unusedSimpArgs false
namespace Go.Nt.Lk
open Go Go.Nt

/-- The token at a place. -/
def nowT (l : List Tok) (a : Nat) : Tok := l.getD a ⟨5, 0, [], 0, 0⟩
def isS (l : List Tok) (a : Nat) (w : List UInt8) : Bool := decide ((nowT l a).k = 4) && decide ((nowT l a).s = w)
def isW (l : List Tok) (a : Nat) (w : List UInt8) : Bool := decide ((nowT l a).k = 3) && decide ((nowT l a).s = w)
def tm0 : Tm := .mk 0 0 [] .nil [] 0 0
def mkT (l : List Tok) (fr to : Nat) (k n : Int) (s : List UInt8) (fl : Fl) (ps : List Tm) : Tm := .mk k n s fl ps (nowT l fr).f (nowT l (to - 1)).t

/-- The operators of a level. -/
def opsL (lv : Int) : List (List UInt8 × Int) :=
  if lv = 1 then [([124, 124], 1)] else if lv = 2 then [([38, 38], 2)]
  else if lv = 3 then [([61, 61], 3), ([33, 61], 4), ([60], 5), ([60, 61], 6), ([62], 7), ([62, 61], 8)]
  else if lv = 4 then [([43], 9), ([45], 10)] else [([42], 11), ([47], 12), ([37], 13)]
/-- The operator at a place. -/
def opT (l : List Tok) (a : Nat) : List (List UInt8 × Int) → Int
  | [] => 0
  | p :: r => if isS l a p.1 = true then p.2 else opT l a r

/-- A term, the place behind it (or of what is wrong), the error. -/
structure Gt where
  t : Tm
  a : Nat
  e : Int
def badG (a : Nat) : Gt := ⟨tm0, a, 6⟩
def mkG (l : List Tok) (fr to : Nat) (k n : Int) (s : List UInt8) (fl : Fl) (ps : List Tm) : Gt := ⟨mkT l fr to k n s fl ps, to, 0⟩
/-- Terms, the place, the error. -/
structure Gl where
  ts : List Tm
  a : Nat
  e : Int

/-- A type at a place. -/
def typP (l : List Tok) : Nat → Nat → Gt
  | 0, a => badG a
  | n + 1, a =>
    if isW l a [105, 110, 116] = true then mkG l a (a + 1) 1 0 [] .emp []
    else if isW l a [98, 111, 111, 108] = true then mkG l a (a + 1) 2 0 [] .emp []
    else if (nowT l a).k = 1 then mkG l a (a + 1) 4 0 (nowT l a).s .emp []
    else if isS l a [91] = false then badG a
    else if ¬ (nowT l (a + 1)).k = 2 then badG (a + 1)
    else if isS l (a + 2) [93] = false then badG (a + 2)
    else if ¬ (typP l n (a + 3)).e = 0 then typP l n (a + 3)
    else mkG l a (typP l n (a + 3)).a 3 (nowT l (a + 1)).n [] .full [(typP l n (a + 3)).t]

/-- How what is called begins: its kind, its name, where its list opens, may it be empty, its signs; or what is wrong. -/
def callH (l : List Tok) (a : Nat) : Except Nat (Int × List UInt8 × Nat × Bool × List UInt8 × List UInt8) :=
  if (nowT l a).k = 1 then .ok (16, (nowT l a).s, a + 1, true, [40], [41]) else
  if isS l a [91] = true then .ok (14, [], a, false, [91], [93]) else
  if isS l a [64] = true ∨ isW l a [110, 101, 119] = true then
    (if ¬ (nowT l (a + 1)).k = 1 then .error (a + 1) else
     if isW l a [110, 101, 119] = true then .ok (15, (nowT l (a + 1)).s, a + 2, false, [40], [41]) else .ok (17, (nowT l (a + 1)).s, a + 2, true, [40], [41]))
  else .error a

mutual
  def levelP (l : List Tok) : Nat → Nat → Nat → Gt
    | 0, a, _ => badG a
    | n + 1, a, lv => if lv = 6 then unP l n a else levelL l n a lv (levelP l n a (lv + 1)) 0
  def levelL (l : List Tok) : Nat → Nat → Nat → Gt → Nat → Gt
    | 0, a, _, _, _ => badG a
    | n + 1, a, lv, x, times =>
      if ¬ x.e = 0 then x else
      if opT l x.a (opsL lv) = 0 ∨ (lv = 3 ∧ times = 1) then x else
      if ¬ (levelP l n (x.a + 1) (lv + 1)).e = 0 then levelP l n (x.a + 1) (lv + 1) else
      levelL l n a lv (mkG l a (levelP l n (x.a + 1) (lv + 1)).a 10 (opT l x.a (opsL lv)) [] .full [x.t, (levelP l n (x.a + 1) (lv + 1)).t]) (times + 1)
  def unP (l : List Tok) : Nat → Nat → Gt
    | 0, a => badG a
    | n + 1, a =>
      if isS l a [33] = false ∧ isS l a [45] = false then postP l n a else
      if ¬ (unP l n (a + 1)).e = 0 then unP l n (a + 1) else
      mkG l a (unP l n (a + 1)).a 11 (if isS l a [33] = true then 2 else 1) [] .full [(unP l n (a + 1)).t]
  def postP (l : List Tok) : Nat → Nat → Gt
    | 0, a => badG a
    | n + 1, a => postL l n a (atomP l n a)
  def postL (l : List Tok) : Nat → Nat → Gt → Gt
    | 0, a, _ => badG a
    | n + 1, a, x =>
      if ¬ x.e = 0 then x else
      if isS l x.a [91] = true then
        (if ¬ (levelP l n (x.a + 1) 1).e = 0 then levelP l n (x.a + 1) 1 else
         if isS l (levelP l n (x.a + 1) 1).a [93] = false then badG (levelP l n (x.a + 1) 1).a else
         postL l n a (mkG l a ((levelP l n (x.a + 1) 1).a + 1) 12 0 [] .full [x.t, (levelP l n (x.a + 1) 1).t]))
      else if isS l x.a [46] = true then
        (if ¬ (nowT l (x.a + 1)).k = 1 then badG (x.a + 1) else
         postL l n a (mkG l a (x.a + 2) 13 0 (nowT l (x.a + 1)).s .full [x.t]))
      else x
  def atomP (l : List Tok) : Nat → Nat → Gt
    | 0, a => badG a
    | n + 1, a =>
      if (nowT l a).k = 2 then mkG l a (a + 1) 5 (nowT l a).n [] .emp [] else
      if isW l a [116, 114, 117, 101] = true then mkG l a (a + 1) 6 1 [] .emp [] else
      if isW l a [102, 97, 108, 115, 101] = true then mkG l a (a + 1) 6 0 [] .emp [] else
      if isW l a [114, 101, 97, 100] = true then mkG l a (a + 1) 18 0 [] .emp [] else
      if (nowT l a).k = 1 ∧ isS l (a + 1) [40] = false then mkG l a (a + 1) 19 0 (nowT l a).s .emp [] else
      if isS l a [40] = true then
        (if ¬ (levelP l n (a + 1) 1).e = 0 then levelP l n (a + 1) 1 else
         if isS l (levelP l n (a + 1) 1).a [41] = false then badG (levelP l n (a + 1) 1).a else
         ⟨(levelP l n (a + 1) 1).t, (levelP l n (a + 1) 1).a + 1, 0⟩) else
      calledP l n a
  def calledP (l : List Tok) : Nat → Nat → Gt
    | 0, a => badG a
    | n + 1, a => match callH l a with
      | .error b => badG b
      | .ok (k, s, op, few, s1, s2) =>
        if ¬ (closedP l n op few s1 s2).e = 0 then ⟨tm0, (closedP l n op few s1 s2).a, (closedP l n op few s1 s2).e⟩ else
        mkG l a (closedP l n op few s1 s2).a k 0 s .emp (closedP l n op few s1 s2).ts
  def closedP (l : List Tok) : Nat → Nat → Bool → List UInt8 → List UInt8 → Gl
    | 0, a, _, _, _ => ⟨[], a, 6⟩
    | n + 1, a, few, s1, s2 =>
      if isS l a s1 = false then ⟨[], a, 6⟩ else
      if few = true ∧ isS l (a + 1) s2 = true then ⟨[], a + 2, 0⟩ else
      if ¬ (listP l n (a + 1) []).e = 0 then listP l n (a + 1) [] else
      if isS l (listP l n (a + 1) []).a s2 = false then ⟨(listP l n (a + 1) []).ts, (listP l n (a + 1) []).a, 6⟩ else
      ⟨(listP l n (a + 1) []).ts, (listP l n (a + 1) []).a + 1, 0⟩
  def listP (l : List Tok) : Nat → Nat → List Tm → Gl
    | 0, a, out => ⟨out, a, 6⟩
    | n + 1, a, out =>
      if ¬ (levelP l n a 1).e = 0 then ⟨out, (levelP l n a 1).a, (levelP l n a 1).e⟩ else
      if isS l (levelP l n a 1).a [44] = false then ⟨out ++ [(levelP l n a 1).t], (levelP l n a 1).a, 0⟩ else
      listP l n ((levelP l n a 1).a + 1) (out ++ [(levelP l n a 1).t])
end

def fuelE (l : List Tok) : Nat := 16 * (l.length + 2)
/-- An expression. -/
def exprP (l : List Tok) (a : Nat) : Gt := levelP l (fuelE l) a 1
def typeP (l : List Tok) (a : Nat) : Gt := typP l (l.length + 1) a

/-- What a statement's form asks for. -/
inductive It where
  | w (s : List UInt8) | g (s : List UInt8) | n | e | b | t | el

/-- A statement's form. -/
def formT (l : List Tok) (a : Nat) : Int × List It :=
  if isW l a [108, 101, 116] = true then
    (if (nowT l (a + 1)).k = 1 ∧ isS l (a + 2) [58] = true then (21, [.w [108, 101, 116], .n, .g [58], .t, .g [59]]) else (20, [.w [108, 101, 116], .n, .g [61], .e, .g [59]])) else
  if isW l a [105, 102] = true then (23, [.w [105, 102], .e, .b, .el]) else
  if isW l a [119, 104, 105, 108, 101] = true then (24, [.w [119, 104, 105, 108, 101], .e, .b]) else
  if isW l a [102, 111, 114] = true then (25, [.w [102, 111, 114], .n, .g [61], .e, .w [116, 111], .e, .b]) else
  if isW l a [112, 114, 105, 110, 116] = true then (26, [.w [112, 114, 105, 110, 116], .e, .g [59]]) else
  if isW l a [114, 101, 116, 117, 114, 110] = true then (27, [.w [114, 101, 116, 117, 114, 110], .e, .g [59]]) else
  if isW l a [100, 111] = true then (28, [.w [100, 111], .e, .g [59]]) else
  (22, [.e, .g [61], .e, .g [59]])

mutual
  def stmtP (l : List Tok) : Nat → Nat → Gt
    | 0, a => badG a
    | n + 1, a => if isS l a [123] = true then blockP l n a else formP l n a (formT l a).1 (formT l a).2 a [] []
  def formP (l : List Tok) : Nat → Nat → Int → List It → Nat → List UInt8 → List Tm → Gt
    | 0, a, _, _, _, _, _ => badG a
    | n + 1, a, k, its, to, name, ps => match its with
      | [] => mkG l a to k 0 name .emp ps
      | .w s :: r => if isW l to s = false then badG to else formP l n a k r (to + 1) name ps
      | .g s :: r => if isS l to s = false then badG to else formP l n a k r (to + 1) name ps
      | .n :: r => if ¬ (nowT l to).k = 1 then badG to else formP l n a k r (to + 1) (nowT l to).s ps
      | .e :: r => if ¬ (exprP l to).e = 0 then exprP l to else formP l n a k r (exprP l to).a name (ps ++ [(exprP l to).t])
      | .t :: r => if ¬ (typeP l to).e = 0 then typeP l to else formP l n a k r (typeP l to).a name (ps ++ [(typeP l to).t])
      | .b :: r => if ¬ (blockP l n to).e = 0 then blockP l n to else formP l n a k r (blockP l n to).a name (ps ++ [(blockP l n to).t])
      | .el :: r => if isW l to [101, 108, 115, 101] = false then formP l n a k r to name (ps ++ [.mk 29 0 [] .nil [] (nowT l (to - 1)).t (nowT l (to - 1)).t]) else
        if ¬ (blockP l n (to + 1)).e = 0 then blockP l n (to + 1) else formP l n a k r (blockP l n (to + 1)).a name (ps ++ [(blockP l n (to + 1)).t])
  def blockP (l : List Tok) : Nat → Nat → Gt
    | 0, a => badG a
    | n + 1, a => if isS l a [123] = false then badG a else blockL l n a (a + 1) []
  def blockL (l : List Tok) : Nat → Nat → Nat → List Tm → Gt
    | 0, a, _, _ => badG a
    | n + 1, a, to, ps =>
      if isS l to [125] = true then mkG l a (to + 1) 29 0 [] .emp ps else
      if ¬ (stmtP l n to).e = 0 then stmtP l n to else
      blockL l n a (stmtP l n to).a (ps ++ [(stmtP l n to).t])
end
def fuelS (l : List Tok) : Nat := 32 * (l.length + 2)
def blkP (l : List Tok) (a : Nat) : Gt := blockP l (fuelS l) a

/-! ### Modules -/
def nameP (l : List Tok) (a : Nat) : Gt :=
  if ¬ (nowT l a).k = 1 then badG a else
  if isS l (a + 1) [58] = false then badG (a + 1) else
  if ¬ (typeP l (a + 2)).e = 0 then typeP l (a + 2) else
  mkG l a (typeP l (a + 2)).a 34 0 (nowT l a).s .full [(typeP l (a + 2)).t]

def fieldsP (l : List Tok) : Nat → Nat → List Tm → Gl
  | 0, a, out => ⟨out, a, 6⟩
  | n + 1, a, out =>
    if out ≠ [] ∧ isS l a [125] = true then ⟨out, a + 1, 0⟩ else
    if ¬ (nameP l a).e = 0 then ⟨out, (nameP l a).a, (nameP l a).e⟩ else
    if isS l (nameP l a).a [59] = false then ⟨out, (nameP l a).a, 6⟩ else
    fieldsP l n ((nameP l a).a + 1) (out ++ [(nameP l a).t])

def paramsL (l : List Tok) : Nat → Nat → Nat → List Tm → Gt
  | 0, a, _, _ => badG a
  | n + 1, a, to, out =>
    if ¬ (nameP l to).e = 0 then nameP l to else
    if isS l (nameP l to).a [44] = true then paramsL l n a ((nameP l to).a + 1) (out ++ [(nameP l to).t]) else
    if isS l (nameP l to).a [41] = false then badG (nameP l to).a else
    mkG l a ((nameP l to).a + 1) 35 0 [] .emp (out ++ [(nameP l to).t])
def paramsP (l : List Tok) (a : Nat) : Gt :=
  if isS l a [40] = false then badG a else
  if isS l (a + 1) [41] = true then mkG l a (a + 2) 35 0 [] .emp [] else paramsL l (l.length + 1) a (a + 1) []

def fnP (l : List Tok) (first a : Nat) (pub : Int) : Gt :=
  if isW l a [102, 110] = false then badG a else
  if ¬ (nowT l (a + 1)).k = 1 then badG (a + 1) else
  if ¬ (paramsP l (a + 2)).e = 0 then paramsP l (a + 2) else
  if isS l (paramsP l (a + 2)).a [58] = false then badG (paramsP l (a + 2)).a else
  if ¬ (typeP l ((paramsP l (a + 2)).a + 1)).e = 0 then typeP l ((paramsP l (a + 2)).a + 1) else
  if ¬ (blkP l (typeP l ((paramsP l (a + 2)).a + 1)).a).e = 0 then blkP l (typeP l ((paramsP l (a + 2)).a + 1)).a else
  mkG l first (blkP l (typeP l ((paramsP l (a + 2)).a + 1)).a).a 33 pub (nowT l (a + 1)).s .full [(paramsP l (a + 2)).t, (typeP l ((paramsP l (a + 2)).a + 1)).t, (blkP l (typeP l ((paramsP l (a + 2)).a + 1)).a).t]

def shortX (l : List Tok) (a : Nat) : Gt :=
  if isW l a [99, 111, 110, 115, 116] = true then
    (if (nowT l (a + 3)).k = 2 ∨ isW l (a + 3) [116, 114, 117, 101] = true ∨ isW l (a + 3) [102, 97, 108, 115, 101] = true then atomP l (fuelE l) (a + 3) else badG (a + 3))
  else typeP l (a + 3)
def shortP (l : List Tok) (a : Nat) : Gt :=
  if ¬ (nowT l (a + 1)).k = 1 then badG (a + 1) else
  if isS l (a + 2) (if isW l a [99, 111, 110, 115, 116] = true then [61] else [58]) = false then badG (a + 2) else
  if ¬ (shortX l a).e = 0 then shortX l a else
  if isS l (shortX l a).a [59] = false then badG (shortX l a).a else
  mkG l a ((shortX l a).a + 1) (if isW l a [99, 111, 110, 115, 116] = true then 31 else 32) 0 (nowT l (a + 1)).s .full [(shortX l a).t]

def declP (l : List Tok) (a : Nat) : Gt :=
  if isW l a [99, 111, 110, 115, 116] = true ∨ isW l a [118, 97, 114] = true then shortP l a else
  if isW l a [112, 117, 98] = true then fnP l a (a + 1) 1 else
  if isW l a [102, 110] = true then fnP l a a 0 else
  if isW l a [114, 101, 99] = false then badG a else
  if ¬ (nowT l (a + 1)).k = 1 then badG (a + 1) else
  if isS l (a + 2) [123] = false then badG (a + 2) else
  if ¬ (fieldsP l (l.length + 1) (a + 3) []).e = 0 then ⟨tm0, (fieldsP l (l.length + 1) (a + 3) []).a, (fieldsP l (l.length + 1) (a + 3) []).e⟩ else
  mkG l a (fieldsP l (l.length + 1) (a + 3) []).a 30 0 (nowT l (a + 1)).s .emp (fieldsP l (l.length + 1) (a + 3) []).ts

def declsP (l : List Tok) : Nat → Nat → List Tm → Gl
  | 0, a, out => ⟨out, a, 6⟩
  | n + 1, a, out =>
    if ¬ a + 1 < l.length then ⟨out, a, 0⟩ else
    if ¬ (declP l a).e = 0 then ⟨out, (declP l a).a, (declP l a).e⟩ else
    declsP l n (declP l a).a (out ++ [(declP l a).t])
end Go.Nt.Lk

/-
  THE REFERENCE'S PARSER: how what it reads is formed.
  No condition.
-/
set_option linter.unusedSimpArgs false
namespace Go.Nt.Lk
open Go Go.Nt

@[simp] theorem k_mk (k n : Int) (s : List UInt8) (fl : Fl) (l : List Tm) (a b : Int) : (Tm.mk k n s fl l a b).k = k := rfl
@[simp] theorem n_mk (k n : Int) (s : List UInt8) (fl : Fl) (l : List Tm) (a b : Int) : (Tm.mk k n s fl l a b).n = n := rfl
@[simp] theorem s_mk (k n : Int) (s : List UInt8) (fl : Fl) (l : List Tm) (a b : Int) : (Tm.mk k n s fl l a b).s = s := rfl
@[simp] theorem fl_mk (k n : Int) (s : List UInt8) (fl : Fl) (l : List Tm) (a b : Int) : (Tm.mk k n s fl l a b).fl = fl := rfl
@[simp] theorem l_mk (k n : Int) (s : List UInt8) (fl : Fl) (l : List Tm) (a b : Int) : (Tm.mk k n s fl l a b).l = l := rfl
@[simp] theorem a_mk (k n : Int) (s : List UInt8) (fl : Fl) (l : List Tm) (a b : Int) : (Tm.mk k n s fl l a b).a = a := rfl
@[simp] theorem b_mk (k n : Int) (s : List UInt8) (fl : Fl) (l : List Tm) (a b : Int) : (Tm.mk k n s fl l a b).b = b := rfl

/-- Without blocks and loops. -/
def plX : Tm → Bool
  | .mk k _ _ _ l _ _ => !decide (k = 25) && (!decide (k = 29) && ((!decide (k = 19) || l.isEmpty) && (l.map plX).all id))
theorem plX_eq (t : Tm) : plX t = (!decide (t.k = 25) && (!decide (t.k = 29) && ((!decide (t.k = 19) || t.l.isEmpty) && t.l.all plX))) := by cases t; simp [plX, List.all_map] <;> rfl
theorem plX_iff (t : Tm) : plX t = true ↔ t.k ≠ 25 ∧ t.k ≠ 29 ∧ (t.k = 19 → t.l = []) ∧ ∀ x, x ∈ t.l → plX x = true := by
  rw [plX_eq]
  simp only [Bool.and_eq_true, Bool.not_eq_true', decide_eq_false_iff_not, Bool.or_eq_true, List.isEmpty_iff, List.all_eq_true]
  constructor
  · rintro ⟨h1, h2, h3, h4⟩
    exact ⟨h1, h2, fun h => h3.resolve_left (fun c => c h), h4⟩
  · rintro ⟨h1, h2, h3, h4⟩
    refine ⟨h1, h2, ?_, h4⟩
    by_cases h : t.k = 19
    · exact .inr (h3 h)
    · exact .inl h
def loopX : List Tm → Bool
  | [a, b, c] => !decide (a.k = 29) && (!decide (b.k = 29) && decide (c.k = 29))
  | _ => false
/-- A statement as it is read. -/
def stX : Tm → Bool
  | .mk k n s fl l a b => if k = 29 then (l.map stX).all id else
    if k = 23 ∨ k = 24 ∨ k = 25 then (!decide (k = 25) || loopX l) && (l.map fun x => if x.k = 29 then stX x else plX x).all id else plX (.mk k n s fl l a b)
def okX (x : Tm) : Bool := if x.k = 29 then stX x else plX x
theorem stX_eq (t : Tm) : stX t = if t.k = 29 then t.l.all stX else if t.k = 23 ∨ t.k = 24 ∨ t.k = 25 then (!decide (t.k = 25) || loopX t.l) && t.l.all okX else plX t := by
  cases t; simp only [stX, List.all_map, k_mk, l_mk]; rfl

theorem typ_pl (l : List Tok) : ∀ n a, (typP l n a).e = 0 → plX (typP l n a).t = true
  | 0, a, h => by cases h
  | n + 1, a, h => by
    rw [typP] at h ⊢
    split at h
    · next q => rw [if_pos q]; simp [mkG, mkT, plX_eq]
    next q1 =>
    rw [if_neg q1]
    split at h
    · next q => rw [if_pos q]; simp [mkG, mkT, plX_eq]
    next q2 =>
    rw [if_neg q2]
    split at h
    · next q => rw [if_pos q]; simp [mkG, mkT, plX_eq]
    next q3 =>
    rw [if_neg q3]
    split at h
    · cases h
    next q4 =>
    rw [if_neg q4]
    split at h
    · cases h
    next q5 =>
    rw [if_neg q5]
    split at h
    · cases h
    next q6 =>
    rw [if_neg q6]
    split at h
    · next q7 => exact absurd h q7
    next q7 =>
    rw [if_neg q7, plX_iff]
    refine ⟨by simp [mkG, mkT], by simp [mkG, mkT], by simp [mkG, mkT], fun x hx => ?_⟩
    simp [mkG, mkT] at hx
    subst hx
    exact typ_pl l n _ (Classical.not_not.1 q7)

def Pg (g : Gt) : Prop := g.e = 0 → plX g.t = true
def Pl (g : Gl) : Prop := g.e = 0 → ∀ x, x ∈ g.ts → plX x = true
theorem pg_bad (b : Nat) : Pg (badG b) := fun h => by cases h
theorem pg_mk {l : List Tok} {fr to : Nat} {k n : Int} {s : List UInt8} {fl : Fl} {ps : List Tm} (h1 : k ≠ 25) (h2 : k ≠ 29) (h3 : k ≠ 19 ∨ ps = []) (h : ∀ x, x ∈ ps → plX x = true) : Pg (mkG l fr to k n s fl ps) := fun _ => (plX_iff _).2 ⟨h1, h2, fun c => h3.resolve_left (fun d => d c), h⟩
theorem callH_k {l : List Tok} {a : Nat} {k : Int} {s : List UInt8} {op : Nat} {few : Bool} {s1 s2 : List UInt8} (q : callH l a = .ok (k, s, op, few, s1, s2)) : k ≠ 25 ∧ k ≠ 29 ∧ k ≠ 19 := by
  unfold callH at q
  split at q
  · cases q; decide
  split at q
  · cases q; decide
  split at q
  · split at q
    · cases q
    · split at q <;> (cases q; decide)
  · cases q

theorem expr_pl (l : List Tok) : ∀ n, (∀ a lv, Pg (levelP l n a lv)) ∧ (∀ a lv x t, Pg x → Pg (levelL l n a lv x t)) ∧ (∀ a, Pg (unP l n a)) ∧
    (∀ a, Pg (postP l n a)) ∧ (∀ a x, Pg x → Pg (postL l n a x)) ∧ (∀ a, Pg (atomP l n a)) ∧ (∀ a, Pg (calledP l n a)) ∧
    (∀ a few s1 s2, Pl (closedP l n a few s1 s2)) ∧ (∀ a out, (∀ x, x ∈ out → plX x = true) → Pl (listP l n a out)) := by
  intro n
  induction n with
  | zero => exact ⟨fun a lv => by rw [levelP]; exact pg_bad _, fun a lv x t _ => by rw [levelL]; exact pg_bad _, fun a => by rw [unP]; exact pg_bad _, fun a => by rw [postP]; exact pg_bad _, fun a x _ => by rw [postL]; exact pg_bad _, fun a => by rw [atomP]; exact pg_bad _, fun a => by rw [calledP]; exact pg_bad _,
      (fun a few s1 s2 h => by rw [closedP] at h; cases h), (fun a out _ h => by rw [listP] at h; cases h)⟩
  | succ n ih =>
    obtain ⟨iLev, iLevL, iUn, iPost, iPostL, iAtom, iCalled, iClosed, iList⟩ := ih
    refine ⟨fun a lv => ?_, fun a lv x t hx => ?_, fun a => ?_, fun a => ?_, fun a x hx => ?_, fun a => ?_, fun a => ?_, fun a few s1 s2 => ?_, fun a out ho => ?_⟩
    · rw [levelP]
      split
      · exact iUn a
      · exact iLevL a lv _ 0 (iLev a (lv + 1))
    · rw [levelL]
      split
      · exact hx
      next h0 =>
      split
      · exact hx
      have i := iLev (x.a + 1) (lv + 1)
      split
      · exact i
      · next h2 =>
        refine iLevL a lv _ _ (pg_mk (by decide) (by decide) (.inl (by decide)) fun y hy => ?_)
        simp only [List.mem_cons, List.not_mem_nil, or_false] at hy
        rcases hy with rfl | rfl
        · exact hx (Classical.not_not.1 h0)
        · exact i (Classical.not_not.1 h2)
    · rw [unP]
      split
      · exact iPost a
      have i := iUn (a + 1)
      split
      · exact i
      · next h2 =>
        refine pg_mk (by decide) (by decide) (.inl (by decide)) fun y hy => ?_
        simp only [List.mem_cons, List.not_mem_nil, or_false] at hy
        subst hy
        exact i (Classical.not_not.1 h2)
    · rw [postP]; exact iPostL a _ (iAtom a)
    · rw [postL]
      split
      · exact hx
      next h0 =>
      have hx := hx (Classical.not_not.1 h0)
      split
      · have i := iLev (x.a + 1) 1
        split
        · exact i
        · next h2 =>
          split
          · exact pg_bad _
          · refine iPostL a _ (pg_mk (by decide) (by decide) (.inl (by decide)) fun y hy => ?_)
            simp only [List.mem_cons, List.not_mem_nil, or_false] at hy
            rcases hy with rfl | rfl
            · exact hx
            · exact i (Classical.not_not.1 h2)
      split
      · split
        · exact pg_bad _
        · refine iPostL a _ (pg_mk (by decide) (by decide) (.inl (by decide)) fun y hy => ?_)
          simp only [List.mem_cons, List.not_mem_nil, or_false] at hy
          subst hy
          exact hx
      · exact fun _ => hx
    · rw [atomP]
      have nil : ∀ {k n : Int} {s : List UInt8} {to : Nat}, k ≠ 25 → k ≠ 29 → Pg (mkG l a to k n s .emp []) := fun h1 h2 => pg_mk h1 h2 (.inr rfl) fun y hy => by cases hy
      split
      · exact nil (by decide) (by decide)
      split
      · exact nil (by decide) (by decide)
      split
      · exact nil (by decide) (by decide)
      split
      · exact nil (by decide) (by decide)
      split
      · exact nil (by decide) (by decide)
      split
      · have i := iLev (a + 1) 1
        split
        · exact i
        · next h2 =>
          split
          · exact pg_bad _
          · exact fun _ => i (Classical.not_not.1 h2)
      · exact iCalled a
    · rw [calledP]
      cases hq : callH l a with
      | error b => exact pg_bad _
      | ok v =>
        obtain ⟨k, s, op, few, s1, s2⟩ := v
        simp only
        obtain ⟨k1, k2, k3⟩ := callH_k hq
        have i := iClosed op few s1 s2
        split
        · next h2 => exact fun q => absurd q h2
        · next h2 => exact pg_mk k1 k2 (.inl k3) (i (Classical.not_not.1 h2))
    · rw [closedP]
      split
      · exact fun q => by cases q
      split
      · exact fun _ x hx => by cases hx
      have i := iList (a + 1) [] (fun x hx => by cases hx)
      split
      · exact i
      · next h2 =>
        split
        · exact fun q => by cases q
        · exact fun _ => i (Classical.not_not.1 h2)
    · rw [listP]
      have i := iLev a 1
      split
      · next h2 => exact fun q => absurd q h2
      · next h2 =>
        have hall : ∀ x, x ∈ out ++ [(levelP l n a 1).t] → plX x = true := fun x hx => by
          rcases List.mem_append.1 hx with q | q
          · exact ho x q
          · rw [List.mem_singleton] at q; subst q; exact i (Classical.not_not.1 h2)
        split
        · exact fun _ => hall
        · exact iList _ _ hall

theorem exprP_pl (l : List Tok) (a : Nat) : Pg (exprP l a) := (expr_pl l _).1 a 1
theorem typeP_pl (l : List Tok) (a : Nat) : Pg (typeP l a) := typ_pl l _ a

/-- What a form's parts are: blocks or not. -/
def blkB : List It → List Bool
  | [] => []
  | .e :: r => false :: blkB r
  | .t :: r => false :: blkB r
  | .b :: r => true :: blkB r
  | .el :: r => true :: blkB r
  | _ :: r => blkB r
def isB (x : Tm) : Bool := decide (x.k = 29)

/-- A form's outcome. -/
def Pf (k : Int) (F : List Bool) (g : Gt) : Prop := g.e = 0 → g.t.k = k ∧ g.t.l.map isB = F ∧ ∀ x, x ∈ g.t.l → okX x = true
theorem ok_pl {x : Tm} (h : plX x = true) : okX x = true ∧ isB x = false := by
  have := (plX_iff x).1 h
  unfold okX isB
  rw [if_neg this.2.1]
  exact ⟨h, by simpa using this.2.1⟩
def formS : List (Int × List It) := [(21, [.w [108, 101, 116], .n, .g [58], .t, .g [59]]), (20, [.w [108, 101, 116], .n, .g [61], .e, .g [59]]), (23, [.w [105, 102], .e, .b, .el]), (24, [.w [119, 104, 105, 108, 101], .e, .b]),
  (25, [.w [102, 111, 114], .n, .g [61], .e, .w [116, 111], .e, .b]), (26, [.w [112, 114, 105, 110, 116], .e, .g [59]]), (27, [.w [114, 101, 116, 117, 114, 110], .e, .g [59]]), (28, [.w [100, 111], .e, .g [59]]), (22, [.e, .g [61], .e, .g [59]])]
theorem form_mem (l : List Tok) (a : Nat) : formT l a ∈ formS := by
  unfold formT
  split
  · split <;> simp [formS]
  split
  · simp [formS]
  split
  · simp [formS]
  split
  · simp [formS]
  split
  · simp [formS]
  split
  · simp [formS]
  split <;> simp [formS]
theorem form_shape (l : List Tok) (a : Nat) : blkB (formT l a).2 = (if (formT l a).1 = 23 then [false, true, true] else if (formT l a).1 = 24 then [false, true] else if (formT l a).1 = 25 then [false, false, true] else if (formT l a).1 = 22 then [false, false] else [false]) ∧ ((formT l a).1 ≠ 29 ∧ (formT l a).1 ≠ 19) := by
  have h := form_mem l a
  generalize formT l a = f at h
  simp only [formS, List.mem_cons, List.not_mem_nil, or_false] at h
  rcases h with rfl | rfl | rfl | rfl | rfl | rfl | rfl | rfl | rfl <;> simp [blkB]

theorem st_form {t : Tm} {F : List Bool} (hF : t.l.map isB = F) (ok : ∀ x, x ∈ t.l → okX x = true) (h29 : t.k ≠ 29)
    (h19 : t.k ≠ 19) (h : F = (if t.k = 23 then [false, true, true] else if t.k = 24 then [false, true] else if t.k = 25 then [false, false, true] else if t.k = 22 then [false, false] else [false])) : stX t = true := by
  rw [stX_eq, if_neg h29]
  split
  · next hk =>
    rw [Bool.and_eq_true, List.all_eq_true]
    refine ⟨?_, ok⟩
    by_cases h25 : t.k = 25
    · rw [h25] at h
      simp at h
      subst h
      simp only [h25, decide_true, Bool.not_true, Bool.false_or]
      match hl : t.l, hF with
      | [x, y, z], hF =>
        simp [isB] at hF
        simp [loopX, hF]
      | [], hF => simp at hF
      | [_], hF => simp at hF
      | [_, _], hF => simp at hF
      | _ :: _ :: _ :: _ :: _, hF => simp at hF
    · simp [h25]
  · next hk =>
    have hall : ∀ b, b ∈ F → b = false := by
      rw [h, if_neg (by omega), if_neg (by omega), if_neg (by omega)]
      split <;> simp
    refine (plX_iff t).2 ⟨by omega, h29, fun c => absurd c h19, fun x hx => ?_⟩
    have q := ok x hx
    have q2 := hall (isB x) (by rw [← hF]; exact List.mem_map.2 ⟨x, hx, rfl⟩)
    unfold okX at q
    unfold isB at q2
    rw [if_neg (by simpa using q2)] at q
    exact q

theorem stmt_st (l : List Tok) : ∀ n, (∀ a, (stmtP l n a).e = 0 → stX (stmtP l n a).t = true) ∧
    (∀ a k its to name ps F, (∀ x, x ∈ ps → okX x = true) → ps.map isB ++ blkB its = F → Pf k F (formP l n a k its to name ps)) ∧
    (∀ a, (blockP l n a).e = 0 → (blockP l n a).t.k = 29 ∧ stX (blockP l n a).t = true) ∧ (∀ a to ps, (∀ x, x ∈ ps → stX x = true) → (blockL l n a to ps).e = 0 → (blockL l n a to ps).t.k = 29 ∧ stX (blockL l n a to ps).t = true) := by
  intro n
  induction n with
  | zero => exact ⟨(fun a h => by rw [stmtP] at h; cases h), (fun a k its to name ps F _ _ h => by rw [formP] at h; cases h), (fun a h => by rw [blockP] at h; cases h), (fun a to ps _ h => by rw [blockL] at h; cases h)⟩
  | succ n ih =>
    obtain ⟨iS, iF, iB, iL⟩ := ih
    refine ⟨fun a h => ?_, fun a k its to name ps F ho hF => ?_, fun a h => ?_, fun a to ps ho h => ?_⟩
    · rw [stmtP] at h ⊢
      split
      · next q => rw [if_pos q] at h; exact (iB a h).2
      · next q =>
        rw [if_neg q] at h
        obtain ⟨f1, f2⟩ := form_shape l a
        obtain ⟨g1, g2, g3⟩ := iF a (formT l a).1 (formT l a).2 a [] [] _ (fun x hx => by cases hx) rfl h
        refine st_form g2 g3 (by rw [g1]; exact f2.1) (by rw [g1]; exact f2.2) ?_
        rw [g1]
        simpa using f1
    · have snoc : ∀ {x : Tm}, okX x = true → ∀ y, y ∈ ps ++ [x] → okX y = true := fun hx y hy => by
        rcases List.mem_append.1 hy with q | q
        · exact ho y q
        · rw [List.mem_singleton] at q; subst q; exact hx
      have bad : ∀ b, Pf k F (badG b) := fun b h => by cases h
      have errs : ∀ (g : Gt), ¬ g.e = 0 → Pf k F g := fun g h q => absurd q h
      cases its with
      | nil =>
        rw [formP]
        intro _
        exact ⟨rfl, by simpa [blkB, mkG, mkT] using hF, ho⟩
      | cons it r =>
        cases it with
        | w s =>
          rw [formP]
          split
          · exact bad _
          · exact iF a k r _ name ps F ho hF
        | g s =>
          rw [formP]
          split
          · exact bad _
          · exact iF a k r _ name ps F ho hF
        | n =>
          rw [formP]
          split
          · exact bad _
          · exact iF a k r _ _ ps F ho hF
        | e =>
          rw [formP]
          split
          · next q => exact errs _ q
          · next q =>
            obtain ⟨p1, p2⟩ := ok_pl (exprP_pl l to (Classical.not_not.1 q))
            exact iF a k r _ name _ F (snoc p1) (by rw [← hF]; simp [blkB, p2])
        | t =>
          rw [formP]
          split
          · next q => exact errs _ q
          · next q =>
            obtain ⟨p1, p2⟩ := ok_pl (typeP_pl l to (Classical.not_not.1 q))
            exact iF a k r _ name _ F (snoc p1) (by rw [← hF]; simp [blkB, p2])
        | b =>
          rw [formP]
          split
          · next q => exact errs _ q
          · next q =>
            obtain ⟨p1, p2⟩ := iB to (Classical.not_not.1 q)
            exact iF a k r _ name _ F (snoc (by unfold okX; rw [if_pos p1]; exact p2)) (by rw [← hF]; simp [blkB, isB, p1])
        | el =>
          rw [formP]
          split
          · exact iF a k r _ name _ F (snoc (by simp [okX, stX_eq])) (by rw [← hF]; simp [blkB, isB])
          split
          · next q => exact errs _ q
          · next q =>
            obtain ⟨p1, p2⟩ := iB (to + 1) (Classical.not_not.1 q)
            exact iF a k r _ name _ F (snoc (by unfold okX; rw [if_pos p1]; exact p2)) (by rw [← hF]; simp [blkB, isB, p1])
    · rw [blockP] at h ⊢
      split
      · next q => rw [if_pos q] at h; cases h
      · next q => rw [if_neg q] at h; exact iL a (a + 1) [] (fun x hx => by cases hx) h
    · rw [blockL] at h ⊢
      split
      · refine ⟨rfl, ?_⟩
        have e : (mkG l a (to + 1) 29 0 [] .emp ps).t.k = 29 := rfl
        rw [stX_eq, if_pos e]
        exact List.all_eq_true.2 ho
      next q =>
      rw [if_neg q] at h
      split
      · next q2 => rw [if_pos q2] at h; exact absurd h q2
      · next q2 =>
        rw [if_neg q2] at h
        refine iL a _ _ (fun y hy => ?_) h
        rcases List.mem_append.1 hy with z | z
        · exact ho y z
        · rw [List.mem_singleton] at z; subst z; exact iS to (Classical.not_not.1 q2)
end Go.Nt.Lk

/-
  NAMES RESOLVED, as plain functions on terms; 'q' tells the flags of the rows that are made.
  No condition.
-/
set_option linter.unusedSimpArgs false
namespace Go.Nt.Lk
open Go Go.Nt

abbrev Er (α : Type) : Type := Except (Int × Int) α
abbrev Nm : Type := List UInt8

/-- The first declaration of that name. -/
def findN (s : Nm) : List Tm → Nat → Option Nat
  | [], _ => none
  | d :: l, i => if d.s = s then some i else findN s l (i + 1)
def declN (m : Tm) (s : Nm) : Option Nat := findN s m.l 0
def kindN (m : Tm) (s : Nm) : Int := match declN m s with | some i => (m.l[i]?.getD tm0).k | none => 0
/-- The last local comes first. -/
def localN (s : Nm) : List Nm → Nat → Option Nat
  | [], _ => none
  | x :: l, n => if x = s then some n else localN s l (n + 1)

def nameR (m : Tm) (locs : List Nm) (t : Tm) : Er Tm :=
  match localN t.s locs.reverse 0 with
  | some n => .ok (.mk 7 n [] .nil [] t.a t.b)
  | none => match declN m t.s with
    | some i => if kindN m t.s = 31 then .ok (.mk 8 i [] .nil [] t.a t.b) else if kindN m t.s = 32 then .ok (.mk 9 i [] .nil [] t.a t.b) else .error (t.a, 8)
    | none => .error (t.a, 8)

/-- Does a term ask for a declaration of a kind that is not there? -/
def badN (m : Tm) (k : Int) (s : Nm) : Bool := (decide (k = 16) && !decide (kindN m s = 33)) || ((decide (k = 15) || decide (k = 4)) && !decide (kindN m s = 30))
def numN (m : Tm) (k n : Int) (s : Nm) : Int := if k = 16 ∨ k = 15 ∨ k = 4 then (match declN m s with | some i => i | none => 0) else n
def moreN (known : List Nm) (t : Tm) : List Nm := if t.k = 20 ∨ t.k = 21 then known ++ [t.s] else known

mutual
  def anyR (q : List Tm → Fl) (m : Tm) (locs : List Nm) : Tm → Er Tm
    | .mk k n s fl l a b =>
      if k = 19 then nameR m locs (.mk k n s fl l a b) else
      if badN m k s = true then .error (a, 8) else
      match anyRs q m k s locs 0 locs l with
      | .error e => .error e
      | .ok ls => .ok (.mk k (numN m k n s) (if k = 13 ∨ k = 17 then s else []) (q ls) ls a b)
  def anyRs (q : List Tm → Fl) (m : Tm) (k : Int) (s : Nm) (base : List Nm) : Nat → List Nm → List Tm → Er (List Tm)
    | _, _, [] => .ok []
    | i, known, t :: r => match anyR q m (if k = 25 ∧ i = 2 then base ++ [s] else known) t with
      | .error e => .error e
      | .ok x => match anyRs q m k s base (i + 1) (if k = 29 then moreN known t else if k = 25 ∧ i = 2 then base ++ [s] else known) r with
        | .error e => .error e
        | .ok xs => .ok (x :: xs)
end
theorem anyR_eq (q : List Tm → Fl) (m : Tm) (locs : List Nm) (t : Tm) : anyR q m locs t = if t.k = 19 then nameR m locs t else
      if badN m t.k t.s = true then .error (t.a, 8) else
      match anyRs q m t.k t.s locs 0 locs t.l with
      | .error e => .error e
      | .ok ls => .ok (.mk t.k (numN m t.k t.n t.s) (if t.k = 13 ∨ t.k = 17 then t.s else []) (q ls) ls t.a t.b) := by
  cases t; rw [anyR] <;> rfl

/-- Fields, or parameters. -/
def partsR (q : List Tm → Fl) (m : Tm) (keep : Bool) : List Nm → List Tm → Er (List Tm)
  | _, [] => .ok []
  | seen, t :: r => if t.s ∈ seen then .error (t.a, 9) else
    match anyR q m [] t with
    | .error e => .error e
    | .ok x => match partsR q m keep (t.s :: seen) r with
      | .error e => .error e
      | .ok xs => .ok ((if keep then .mk x.k x.n t.s x.fl x.l x.a x.b else x) :: xs)

def declR (q : List Tm → Fl) (m t : Tm) : Er Tm :=
  if t.k = 30 then (match partsR q m true [] t.l with
    | .error e => .error e
    | .ok ls => .ok (.mk t.k t.n [] (q ls) ls t.a t.b)) else
  if t.k ≠ 33 then anyR q m [] t else
  match t.l with
  | [p, r, b] => (match partsR q m false [] p.l with
    | .error e => .error e
    | .ok ls => match anyR q m [] r with
      | .error e => .error e
      | .ok r' => match anyR q m (p.l.map (·.s)) b with
        | .error e => .error e
        | .ok b' => .ok (.mk t.k t.n [] .full [.mk p.k 0 [] (q ls) ls p.a p.b, r', b'] t.a t.b))
  | _ => .error (t.a, 0)

def declsR (q : List Tm → Fl) (m : Tm) : List Tm → Er (List Tm)
  | [] => .ok []
  | t :: r => match declR q m t with
    | .error e => .error e
    | .ok x => match declsR q m r with
      | .error e => .error e
      | .ok xs => .ok (x :: xs)

/-- The first declaration whose name was there. -/
def twiceR : List Nm → List Tm → Option Int
  | _, [] => none
  | seen, t :: r => if t.s ∈ seen then some t.a else twiceR (t.s :: seen) r

def resolveR (q : List Tm → Fl) (m : Tm) : Er Tm :=
  match twiceR [] m.l with
  | some a => .error (a, 9)
  | none => match declsR q m m.l with
    | .error e => .error e
    | .ok ls => .ok (.mk m.k m.n [] (q ls) ls m.a m.b)
end Go.Nt.Lk
