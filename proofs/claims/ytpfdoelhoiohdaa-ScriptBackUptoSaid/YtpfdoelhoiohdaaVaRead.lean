/-
  VALUES: trees (V), and how they read as data.
  No condition.
-/
import Derived.Test.YtpfdoelhoiohdaaNtAuto
import Derived.Test.YtpfdoelhoiohdaaNtRead
namespace Go.Nt

inductive V where
  | mk (n : Int) (fl : Fl) (l : List V)
  deriving Inhabited

def V.n : V → Int | .mk n _ _ => n
def V.fl : V → Fl | .mk _ fl _ => fl
def V.l : V → List V | .mk _ _ l => l

mutual
  def encV : V → D
    | .mk n fl l => .agg [.int .i64 n, slE 2 fl (encVs l)]
  def encVs : List V → List D
    | [] => []
    | v :: l => encV v :: encVs l
end

@[simp] theorem encVs_nil : encVs [] = [] := by simp [encVs]
@[simp] theorem encVs_cons (v : V) (l : List V) : encVs (v :: l) = encV v :: encVs l := by simp [encVs]
theorem encVs_map (l : List V) : encVs l = l.map encV := by induction l <;> simp_all
@[simp] theorem encVs_len (l : List V) : (encVs l).length = l.length := by simp [encVs_map]
@[simp] theorem encVs_get (l : List V) (i : Nat) : (encVs l)[i]? = l[i]?.map encV := by simp [encVs_map]
@[simp] theorem encVs_at (l : List V) (i : Nat) (h : i < (encVs l).length) : (encVs l)[i] = encV (l[i]'(by simpa using h)) := by simp [encVs_map]
theorem encVs_drop (l : List V) (i : Nat) : (encVs l).drop i = encVs (l.drop i) := by simp [encVs_map]
theorem encVs_append (l r : List V) : encVs (l ++ r) = encVs l ++ encVs r := by simp [encVs_map]

theorem encV_eq (v : V) : encV v = .agg [.int .i64 v.n, slE 2 v.fl (encVs v.l)] := by cases v; simp [encV, V.n, V.fl, V.l]
@[simp] theorem encV_cells (v : V) : (encV v).cells = [.int .i64 v.n, slE 2 v.fl (encVs v.l)] := by rw [encV_eq]; rfl
@[simp] theorem encV_fits (v : V) : (encV v).fits (some 2) = true := by rw [encV_eq]; rfl
@[simp] theorem encV_okv (v : V) : (encV v).okv = true := by rw [encV_eq]; rfl
@[simp] theorem encV_pure (v : V) : (encV v).pure = true := by rw [encV_eq]; simp
@[simp] theorem encV_pureT (v : V) : (encV v).pureT = true := by rw [encV_eq]; simp
@[simp] theorem encV_fz1 (st : St) (v : V) : fz1 st (encV v) = some (encV v, st) := by rw [encV_eq]; simp
@[simp] theorem encV_fz (st : St) (v : V) : fz st (encV v) = some (encV v, st) := by rw [encV_eq]; simp

@[simp] theorem rewrap_encV (v : V) (ds : List D) : rewrap (encV v) ds = some (.agg ds) := by rw [encV_eq]; rfl

theorem encVs_set (l : List V) (k : Nat) (u : V) : encVs (l.set k u) = (encVs l).set k (encV u) := by simp [encVs_map, List.map_set]
theorem kHs_encV (u : V) (l : List V) (mod k : Nat) (hk : k < l.length) : kHs [.cells false 2 0 mod false (encVs l)] 0 0 2 k 0 (encV u) (.cells false 2 0 mod false (encVs l)) = some (.undef, none, some [.cells false 2 0 (mod + 1) false (encVs (l.set k u))]) := by
  simp [kHs, hk, ← encV_eq, encVs_set]

/-- An induction over all values below. -/
theorem V.ind {p : V → Prop} (h : ∀ v, (∀ u, u ∈ v.l → p u) → p v) (v : V) : p v :=
  V.rec (motive_1 := p) (motive_2 := fun l => ∀ u, u ∈ l → p u)
    (fun n fl l ih => h (.mk n fl l) ih)
    (fun u hu => by cases hu)
    (fun v l hv hl u hu => by
      cases hu with
      | head => exact hv
      | tail _ hu => exact hl u hu) v

/-! Are two values the same? (Their slices' flags do not count.) -/
mutual
  def same : V → V → Bool
    | .mk n _ l, .mk m _ k => n == m && sames l k
  def sames : List V → List V → Bool
    | [], [] => true
    | v :: l, u :: k => same v u && sames l k
    | _, _ => false
end

end Go.Nt

/-
  VALUES AND WAYS as laws are called with them.
  No condition.
-/
namespace Go.Nt
open Go Go.ChangeShapes Go.WideShapes Go.RowKit

def in64 (n : Int) : Prop := -9223372036854775808 ≤ n ∧ n ≤ 9223372036854775807

mutual
  def V.ok : V → Prop
    | .mk n _ l => in64 n ∧ l.length ≤ 9223372036854775807 ∧ V.oks l
  def V.oks : List V → Prop
    | [] => True
    | v :: l => v.ok ∧ V.oks l
end

theorem V.oks_iff (l : List V) : V.oks l ↔ ∀ v, v ∈ l → v.ok := by
  induction l with
  | nil => simp [V.oks]
  | cons v l ih => simp [V.oks, ih]
theorem V.ok_iff (v : V) : v.ok ↔ in64 v.n ∧ v.l.length ≤ 9223372036854775807 ∧ ∀ u, u ∈ v.l → u.ok := by
  cases v; simp [V.ok, V.n, V.l, V.oks_iff]

theorem wf64 {n : Int} (h : (Lit.int .i64 n).wf = true) : in64 n := by
  simp [Lit.wf, IntKind.min, IntKind.max, IntKind.signed, IntKind.bits] at h
  unfold in64; omega

variable {H : Type} {enc : TypeId × Value → H} {P : Program} {w : World} {base : Nat} {spare : Nat → Bool} {held : Bool}

theorem read_V {tV tS tI : TypeId} {f0 f1 : Field} (hV : P.underlying tV = some (.struct #[f0, f1])) (e0 : f0.type = tI) (o0 : f0.offset = 0) (e1 : f1.type = tS) (o1 : f1.offset = 1)
    (hI : P.underlying tI = some (.int .i64)) (hS : P.underlying tS = some (.slice tV)) (c : P.cellsOf tV = 2) (cI : P.cellsOf tI = 1) (cS : P.cellsOf tS = 1) :
    ∀ (fuel : Nat) (cs : List Value) (x : DataW H × List MemPlace), DataW.trod enc P w base spare held fuel tV cs = some x → ∃ v : V, v.ok ∧ Rep w N0 [] bl0 (.agg cs.toArray) (encV v) := by
  intro fuel
  induction fuel using Nat.strongRecOn with
  | ind fuel ih =>
    intro cs x h
    obtain ⟨xs, n, rfl, rfl, hl, hlen, hf⟩ := DataW.trod_struct hV h
    rw [c] at hl
    match cs, hl with
    | [c0, c1], _ =>
      match xs, hlen with
      | [y0, y1], _ =>
        have h0 := hf 0 f0 rfl
        have h1 := hf 1 f1 rfl
        simp only [e0, o0, cI, e1, o1, cS, List.drop_zero, List.take_succ_cons, List.take_zero, List.drop_succ_cons, List.getElem?_cons_zero, List.getElem?_cons_succ] at h0 h1
        obtain ⟨n0, q0, _, hw0⟩ := DataW.trod_int hI h0
        obtain rfl : c0 = .int .i64 n0 := by simpa using q0
        have mk : ∀ (fl : Fl) (l : List V), l.length ≤ 9223372036854775807 → (∀ u, u ∈ l → u.ok) → Rep w N0 [] bl0 c1 (slE 2 fl (l.map encV)) → ∃ v : V, v.ok ∧ Rep w N0 [] bl0 (.agg #[.int .i64 n0, c1]) (encV v) := by
          intro fl l g1 g2 g3
          refine ⟨.mk n0 fl l, (V.ok_iff _).2 ⟨wf64 hw0, g1, g2⟩, ?_⟩
          rw [encV_eq, encVs_map]
          refine .agg _ _ rfl ?_ ?_
          · intro i d hd
            match i, hd with
            | 0, hd => simp at hd; subst hd; rfl
            | 1, hd => simp at hd; subst hd; cases fl <;> cases l <;> rfl
          · intro i v d hv hd
            match i, hv, hd with
            | 0, hv, hd => simp at hv hd; subst hv; subst hd; exact .int _ _
            | 1, hv, hd => simp at hv hd; subst hv; subst hd; exact g3
        rcases DataW.trod_slice hS h1 with ⟨q1, _⟩ | ⟨a, len, cap, elems, rest, m, rfl, q1, _, _, hlc, hcm, hel, hat, _⟩
        · obtain rfl : c1 = .slice none 0 0 := by simpa using q1
          exact mk .nil [] (by simp) (fun u hu => by simp at hu) .nils
        · obtain rfl : c1 = .slice (some a) len cap := by simpa using q1
          rw [c] at hat
          obtain ⟨l, l1, l2, l3⟩ := rep_slice (w := w) (base := base) (enc := encV) (a := a) (len := len) (cap := cap) (sz := 2) V.ok (by omega) hlc (fun v _ => ⟨encV_pure v, by simp⟩) (by
            intro i hi
            have hi' : i < elems.length := by omega
            have := hat i hi
            rw [List.getElem?_eq_getElem hi', Option.bind_eq_some_iff] at this
            obtain ⟨es, he, ht⟩ := this
            obtain ⟨v, hv, hr⟩ := ih m (by omega) es _ ht
            exact ⟨es, .agg es.toArray, v, he, by simp [Value.cells], hr, hv⟩)
          have hml : maxLen = 9223372036854775807 := rfl
          exact mk .part l (by omega) l2 l3

/-- A slice of numbers. -/
theorem read_ints {tS tI : TypeId} (hI : P.underlying tI = some (.int .i64)) (hS : P.underlying tS = some (.slice tI)) (cI : P.cellsOf tI = 1) {fuel : Nat} {v : Value} {x : DataW H × List MemPlace}
    (h : DataW.trod enc P w base spare held fuel tS [v] = some x) : ∃ (fl : Fl) (l : List Int), l.length ≤ 9223372036854775807 ∧ (∀ n, n ∈ l → in64 n) ∧ Rep w N0 [] bl0 v (slE 1 fl (l.map (.int .i64))) := by
  rcases DataW.trod_slice hS h with ⟨q1, _⟩ | ⟨a, len, cap, elems, rest, m, rfl, q1, _, _, hlc, hcm, hel, hat, _⟩
  · obtain rfl : v = .slice none 0 0 := by simpa using q1
    exact ⟨.nil, [], by simp, (fun u hu => by simp at hu), .nils⟩
  · obtain rfl : v = .slice (some a) len cap := by simpa using q1
    rw [cI] at hat
    obtain ⟨l, l1, l2, l3⟩ := rep_slice (w := w) (base := base) (enc := fun n : Int => D.int .i64 n) (a := a) (len := len) (cap := cap) (sz := 1) in64 (by omega) hlc (fun v _ => ⟨rfl, rfl⟩) (by
      intro i hi
      have hi' : i < elems.length := by omega
      have := hat i hi
      rw [List.getElem?_eq_getElem hi', Option.bind_eq_some_iff] at this
      obtain ⟨es, he, ht⟩ := this
      obtain ⟨n, rfl, _, hw⟩ := DataW.trod_int hI ht
      exact ⟨_, .int .i64 n, n, he, rfl, .int _ _, wf64 hw⟩)
    have hml : maxLen = 9223372036854775807 := rfl
    exact ⟨.part, l, by omega, l2, l3⟩

end Go.Nt
