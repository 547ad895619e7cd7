/-
  VALUES: trees (V), and how they read as data.
  No condition.
-/
import Derived.Test.YtpfdoelhoiohdaaNtSim
namespace Go.Nt

inductive V where
  | mk (n : Int) (fl : Fl) (l : List V)
  deriving Inhabited

def V.n : V → Int | .mk n _ _ => n
def V.fl : V → Fl | .mk _ fl _ => fl
def V.l : V → List V | .mk _ _ l => l

mutual
  def encV : V → D
    | .mk n fl l => .agg [.int .i64 n, slE 2 fl (encVs l)]
  def encVs : List V → List D
    | [] => []
    | v :: l => encV v :: encVs l
end

@[simp] theorem encVs_nil : encVs [] = [] := by simp [encVs]
@[simp] theorem encVs_cons (v : V) (l : List V) : encVs (v :: l) = encV v :: encVs l := by simp [encVs]
theorem encVs_map (l : List V) : encVs l = l.map encV := by induction l <;> simp_all
@[simp] theorem encVs_len (l : List V) : (encVs l).length = l.length := by simp [encVs_map]
@[simp] theorem encVs_get (l : List V) (i : Nat) : (encVs l)[i]? = l[i]?.map encV := by simp [encVs_map]
@[simp] theorem encVs_at (l : List V) (i : Nat) (h : i < (encVs l).length) : (encVs l)[i] = encV (l[i]'(by simpa using h)) := by simp [encVs_map]
theorem encVs_drop (l : List V) (i : Nat) : (encVs l).drop i = encVs (l.drop i) := by simp [encVs_map]
theorem encVs_append (l r : List V) : encVs (l ++ r) = encVs l ++ encVs r := by simp [encVs_map]

theorem encV_eq (v : V) : encV v = .agg [.int .i64 v.n, slE 2 v.fl (encVs v.l)] := by cases v; simp [encV, V.n, V.fl, V.l]
@[simp] theorem encV_cells (v : V) : (encV v).cells = [.int .i64 v.n, slE 2 v.fl (encVs v.l)] := by rw [encV_eq]; rfl
@[simp] theorem encV_fits (v : V) : (encV v).fits (some 2) = true := by rw [encV_eq]; rfl
@[simp] theorem encV_okv (v : V) : (encV v).okv = true := by rw [encV_eq]; rfl
@[simp] theorem encV_pure (v : V) : (encV v).pure = true := by rw [encV_eq]; simp
@[simp] theorem encV_pureT (v : V) : (encV v).pureT = true := by rw [encV_eq]; simp
@[simp] theorem encV_fz1 (st : St) (v : V) : fz1 st (encV v) = some (encV v, st) := by rw [encV_eq]; simp
@[simp] theorem encV_fz (st : St) (v : V) : fz st (encV v) = some (encV v, st) := by rw [encV_eq]; simp

@[simp] theorem rewrap_encV (v : V) (ds : List D) : rewrap (encV v) ds = some (.agg ds) := by rw [encV_eq]; rfl

theorem encVs_set (l : List V) (k : Nat) (u : V) : encVs (l.set k u) = (encVs l).set k (encV u) := by simp [encVs_map, List.map_set]
theorem kHs_encV (u : V) (l : List V) (mod k : Nat) (hk : k < l.length) : kHs [.cells false 2 0 mod false (encVs l)] 0 0 2 k 0 (encV u) (.cells false 2 0 mod false (encVs l)) = some (.undef, none, some [.cells false 2 0 (mod + 1) false (encVs (l.set k u))]) := by
  simp [kHs, hk, ← encV_eq, encVs_set]

/-- An induction over all values below. -/
theorem V.ind {p : V → Prop} (h : ∀ v, (∀ u, u ∈ v.l → p u) → p v) (v : V) : p v :=
  V.rec (motive_1 := p) (motive_2 := fun l => ∀ u, u ∈ l → p u)
    (fun n fl l ih => h (.mk n fl l) ih)
    (fun u hu => by cases hu)
    (fun v l hv hl u hu => by
      cases hu with
      | head => exact hv
      | tail _ hu => exact hl u hu) v

/-! Are two values the same? (Their slices' flags do not count.) -/
mutual
  def same : V → V → Bool
    | .mk n _ l, .mk m _ k => n == m && sames l k
  def sames : List V → List V → Bool
    | [], [] => true
    | v :: l, u :: k => same v u && sames l k
    | _, _ => false
end

end Go.Nt
