/-
  THE SAME EQUATIONS IN AN ORDER THAT SPARES WORK: a text that imports this has 'simp' run code head first (it does not go into frames and code that is still to come), and part runs at branches that are not decided (with '+contextual' each way knows its truth).
  No condition.
-/
import Derived.Test.YtndmommmbnhngaaGreatDsIr
import Derived.Test.YtndmommmbnhngaaGreatDvVal
import Derived.KernelRfl
namespace Go.Nt

variable {T : Nat → Option IFunc} {go : GoF} {lp' : Ic → Cfg → Option (Ex × Cfg)}

/-! ### What is looked at -/
@[congr] theorem kseq_cg {k : Cfg → Option (Ex × Cfg)} {x x' : Option (Ex × Cfg)} (h : x = x') : kseq k x = kseq k x' := by rw [h]
@[congr] theorem kblock_cg {id : Nat} {x x' : Option (Ex × Cfg)} (h : x = x') : kblock id x = kblock id x' := by rw [h]
@[congr] theorem kfin_cg {r : List Rv} {x x' : Option (Ex × Cfg)} (h : x = x') : kfin r x = kfin r x' := by rw [h]
@[congr] theorem kL_cg {a : Ic} {x x' : Option (Ex × Cfg)} (h : x = x') : kL T a x = kL T a x' := by rw [h]
@[congr] theorem kE_cg {d d' : Option Nat} {s : List D} {b : List (Nat × List D)} {st : St} {os : List Gi} {x x' : Option Eff} (hd : d = d') (hx : x = x') : kE T go d s b st os x = kE T go d' s b st os x' := by rw [hd, hx]
@[congr] theorem kG_cg {w : Bool} {io : Io} {os : List Gi} {s : List D} {b : List (Nat × List D)} {st : St} {d d' : D} (h : d = d') : kG T go w io os s b st d = kG T go w io os s b st d' := by rw [h]
@[congr] theorem kC_cg {a b : Ic} {c : Cfg} {d d' : D} (h : d = d') : kC T go lp' a b c d = kC T go lp' a b c d' := by rw [h]
@[congr] theorem Stops_cg {r r' : Option (Ex × Cfg)} {Q : Ex → List D → List (Nat × List D) → St → Prop} (h : r = r') : Stops r Q = Stops r' Q := by rw [h]
@[congr] theorem Ret_cg {r r' : Option (D × St)} {Q : D → St → Prop} (h : r = r') : Ret r Q = Ret r' Q := by rw [h]
@[congr] theorem loadD_cg {rb : Nat → Nat × List D} {st : St} {p p' : D} {n l : Option Nat} {q : Bool} (h : p = p') : loadD rb st p n l q = loadD rb st p' n l q := by rw [h]
attribute [congr] ite_congr

/-! ### Branches -/
attribute [simp] kC_b kG_b kseq_ite kblock_ite kfin_ite kL_ite kE_ite map_ite obind_ite Stops_ite Ret_ite

/-! ### Head first -/
attribute [simp ↓] kseq_n kseq_r kseq_e kblock_n kblock_r kblock_e kL_n kL_r kL_e kfin_r kfin_n kseq_ite kblock_ite kfin_ite kL_ite kE_ite map_ite obind_ite Stops_ite Ret_ite Stops_some Ret_some Option.map_some
attribute [simp ↓] rn_skip rn_ops rn_seq rn_block rn_loop rn_exit rn_ret rn_cond runOps_g0 runOps_kG runOps_nil get_put getB_putB

@[simp ↓] theorem ev_t (s : List D) (n : Nat) : Opd.ev s (.t n) = get s n := (rfl)
@[simp ↓] theorem ev_c (s : List D) (d : D) : Opd.ev s (.c d) = d := (rfl)
@[simp ↓] theorem ev_f (s : List D) (n : Nat) : Opd.ev s (.f n) = .fn n [] [] := (rfl)

@[simp high] theorem kE_vs (d : Nat) (s : List D) (b : List (Nat × List D)) (st : St) (os : List Gi) (v : D) : kE T go (some d) s b st os (some (v, none, none)) = runOps T go os ⟨⟨put s d v, b⟩, st⟩ := (rfl)
@[simp high] theorem kE_vn (s : List D) (b : List (Nat × List D)) (st : St) (os : List Gi) (v : D) : kE T go none s b st os (some (v, none, none)) = runOps T go os ⟨⟨s, b⟩, st⟩ := (rfl)
@[simp high] theorem kE_hs (d : Nat) (s : List D) (b : List (Nat × List D)) (st st' : St) (os : List Gi) (v : D) : kE T go (some d) s b st os (some (v, none, some st')) = runOps T go os ⟨⟨put s d v, b⟩, st'⟩ := (rfl)
@[simp high] theorem kE_hn (s : List D) (b : List (Nat × List D)) (st st' : St) (os : List Gi) (v : D) : kE T go none s b st os (some (v, none, some st')) = runOps T go os ⟨⟨s, b⟩, st'⟩ := (rfl)
@[simp high] theorem kE_bs (d : Nat) (s : List D) (b : List (Nat × List D)) (st : St) (os : List Gi) (v : D) (x g : Nat) (cs : List D) : kE T go (some d) s b st os (some (v, some (x, g, cs), none)) = runOps T go os ⟨⟨put s d v, putB b x (g, cs)⟩, st⟩ := (rfl)
@[simp high] theorem kE_bn (s : List D) (b : List (Nat × List D)) (st : St) (os : List Gi) (v : D) (x g : Nat) (cs : List D) : kE T go none s b st os (some (v, some (x, g, cs), none)) = runOps T go os ⟨⟨s, putB b x (g, cs)⟩, st⟩ := (rfl)

attribute [simp ↓] kE_vs kE_vn kE_hs kE_hn kE_bs kE_bn

/-- Operands. -/
def rdL (rd : Opd → D) (xs : List Opd) : List D := xs.map rd
@[simp ↓] theorem rdL_nil (s : List D) : rdL (Opd.ev s) [] = [] := (rfl)
@[simp ↓] theorem rdL_cons (s : List D) (x : Opd) (xs : List Opd) : rdL (Opd.ev s) (x :: xs) = Opd.ev s x :: rdL (Opd.ev s) xs := (rfl)
def rdO (rd : Opd → D) (x : Option Opd) : Option D := x.map rd
@[simp ↓] theorem rdO_none (s : List D) : rdO (Opd.ev s) none = none := (rfl)
@[simp ↓] theorem rdO_some (s : List D) (x : Opd) : rdO (Opd.ev s) (some x) = some (Opd.ev s x) := (rfl)
def rdP (rd : Opd → D) (ps : List (Nat × Nat × Opd)) : List (Nat × Nat × D) := ps.map fun p => (p.1, p.2.1, rd p.2.2)
@[simp ↓] theorem rdP_nil (s : List D) : rdP (Opd.ev s) [] = [] := (rfl)
@[simp ↓] theorem rdP_cons (s : List D) (a n : Nat) (x : Opd) (xs : List (Nat × Nat × Opd)) : rdP (Opd.ev s) ((a, n, x) :: xs) = (a, n, Opd.ev s x) :: rdP (Opd.ev s) xs := (rfl)

def kCall : Option (D × St) → Option Eff
  | some r => some (r.1, none, some r.2)
  | none => none
@[simp] theorem kCall_some (r : D) (st : St) : kCall (some (r, st)) = some (r, none, some st) := (rfl)
theorem kCall_ite {p : Prop} [Decidable p] (x y : Option (D × St)) : kCall (if p then x else y) = if p then kCall x else kCall y := by split <;> rfl
attribute [simp] kCall_ite
def kPick (x a b : D) : Option Eff := match x with
  | .bool t => val (if t then a else b)
  | _ => none
@[simp] theorem kPick_b (t : Bool) (a b : D) : kPick (.bool t) a b = some (if t = true then a else b, none, none) := (rfl)
@[simp high] theorem kPick_bb (t a b : Bool) : kPick (.bool t) (.bool a) (.bool b) = some (.bool (if t = true then a else b), none, none) := by cases t <;> rfl
def kNil (x : D) : Option Bool → Option Eff
  | some false => val x
  | _ => none
@[simp] theorem kNil_f (x : D) : kNil x (some false) = some (x, none, none) := (rfl)
def kEq (neg : Bool) : Option Bool → Option Eff
  | some b => val (.bool (if neg then !b else b))
  | none => none
@[simp] theorem kEq_t (b : Bool) : kEq true (some b) = some (.bool (!b), none, none) := (rfl)
@[simp] theorem kEq_f (b : Bool) : kEq false (some b) = some (.bool b, none, none) := (rfl)
def kFld (off : Nat) (n : Option Nat) (x : D) : Option Eff := match x with
  | .agg cs => (part cs off n).bind val
  | _ => none
@[simp] theorem kFld_a (off : Nat) (n : Option Nat) (cs : List D) : kFld off n (.agg cs) = (part cs off n).bind val := (rfl)
def kIdx (sz : Nat) (n arr : Option Nat) (x i : D) : Option Eff := match i with
  | .int _ i => if i < 0 then none else (idxAD x i.toNat sz n arr).bind val
  | _ => none
@[simp] theorem kIdx_i (sz : Nat) (n arr : Option Nat) (x : D) (k : IntKind) (i : Int) : kIdx sz n arr x (.int k i) = if i < 0 then none else (idxAD x i.toNat sz n arr).bind val := (rfl)
def kIxS (x i : D) : Option Eff := match i with
  | .int _ i => if i < 0 then none else match x with
    | .str s => (s[i.toNat]?).bind fun b => val (byteD b)
    | _ => none
  | _ => none
@[simp] theorem kIxS_s (s : List UInt8) (k : IntKind) (i : Int) : kIxS (.str s) (.int k i) = if i < 0 then none else (s[i.toNat]?).bind fun b => val (byteD b) := (rfl)
def kExt (i : Nat) (x : D) : Option Eff := match x with
  | .tup ds => (ds[i]?).bind val
  | _ => none
@[simp] theorem kExt_t (i : Nat) (ds : List D) : kExt i (.tup ds) = (ds[i]?).bind val := (rfl)
def kCvI (k : IntKind) (x : D) : Option Eff := match x with
  | .int _ n => val (.int k (k.wrap n))
  | _ => none
@[simp] theorem kCvI_i (k k' : IntKind) (n : Int) : kCvI k (.int k' n) = some (.int k (k.wrap n), none, none) := (rfl)
def kCvS (x : D) : Option Eff := match x with
  | .str s => val (.str s)
  | _ => none
@[simp] theorem kCvS_s (s : List UInt8) : kCvS (.str s) = some (.str s, none, none) := (rfl)
def kCvB : Option (List D) → Option Eff
  | some l => (l.mapM unbyte).bind fun s => val (.str s)
  | none => none
@[simp] theorem kCvB_s (l : List D) : kCvB (some l) = (l.mapM unbyte).bind fun s => val (.str s) := (rfl)
def kMM (mx : Bool) (x y : D) : Option Eff := match x, y with
  | .int k a, .int k' b => if k = k' then val (.int k (if mx then (if b > a then b else a) else (if b < a then b else a))) else none
  | _, _ => none
@[simp] theorem kMM_i (mx : Bool) (k k' : IntKind) (a b : Int) : kMM mx (.int k a) (.int k' b) = if k = k' then val (.int k (if mx then (if b > a then b else a) else (if b < a then b else a))) else none := (rfl)
def kAp (st : St) (sz : Nat) (s : D) : Option (List D) → Option Eff
  | some l => kCall (appendD st s l sz)
  | none => none
@[simp] theorem kAp_s (st : St) (sz : Nat) (s : D) (l : List D) : kAp st sz s (some l) = kCall (appendD st s l sz) := (rfl)
def kApT (ty : Nat) (st : St) (sz : Nat) (s : D) : Option (List D) → Option Eff
  | some l => kCall (appendTD ty st s l sz)
  | none => none
@[simp] theorem kApT_s (ty : Nat) (st : St) (sz : Nat) (s : D) (l : List D) : kApT ty st sz s (some l) = kCall (appendTD ty st s l sz) := (rfl)
def kCallV (T : Nat → Option IFunc) (go : GoF) (xs : List D) (st : St) (f : D) : Option Eff := match f with
  | .fn g first cap => kCall (callD T go g (first ++ xs ++ cap) st)
  | _ => none
@[simp] theorem kCallV_f (xs : List D) (st : St) (g : Nat) (a b : List D) : kCallV T go xs st (.fn g a b) = kCall (callD T go g (a ++ xs ++ b) st) := (rfl)
def kBuild (zero : List D) (ps : List (Nat × Nat × D)) : Option Eff := if ps.all (fun p => p.2.2.okv) then (fillD zero ps).bind fun cs => val (.agg cs) else none
@[simp] theorem kBuild_ (zero : List D) (ps : List (Nat × Nat × D)) : kBuild zero ps = if ps.all (fun p => p.2.2.okv) then (fillD zero ps).bind fun cs => val (.agg cs) else none := (rfl)
def kBsl (sz : Nat) (agg : Bool) (xs : List D) : Option Eff := if xs.all fun v => v.fits (if agg then some sz else none) && (v.cells.length == sz && v.pure) then val (.sl sz true xs) else none
@[simp] theorem kBsl_ (sz : Nat) (agg : Bool) (xs : List D) : kBsl sz agg xs = if xs.all fun v => v.fits (if agg then some sz else none) && (v.cells.length == sz && v.pure) then val (.sl sz true xs) else none := (rfl)
def kBoxH (n : Option Nat) (st : St) (x : D) : Option Eff := if x.fits n then some (.hp st.length 0 (n.getD 1) 0 0, none, some (st ++ [.cells true (n.getD 1) 0 0 false [x]])) else none
@[simp] theorem kBoxH_ (n : Option Nat) (st : St) (x : D) : kBoxH n st x = if x.fits n then some (.hp st.length 0 (n.getD 1) 0 0, none, some (st ++ [.cells true (n.getD 1) 0 0 false [x]])) else none := (rfl)
def kBoxI (n : Option Nat) (x : D) : Option Eff := if x.fits n && x.pure then val (.iptr x) else none
@[simp] theorem kBoxI_ (n : Option Nat) (x : D) : kBoxI n x = if x.fits n && x.pure then val (.iptr x) else none := (rfl)
def kBoxL (d g n : Nat) (cs : List D) : Option Eff := if cs.length = n ∧ cs.all D.okv = true then some (.lp d (g + 1) 0, some (d, g + 1, cs), none) else none
@[simp] theorem kBoxL_ (d g n : Nat) (cs : List D) : kBoxL d g n cs = if cs.length = n ∧ cs.all D.okv = true then some (.lp d (g + 1) 0, some (d, g + 1, cs), none) else none := (rfl)
def kMkfn (f : Nat) (first cap : List D) : Option Eff := if first.all D.okv && cap.all D.okv then val (.fn f first cap) else none
@[simp] theorem kMkfn_ (f : Nat) (first cap : List D) : kMkfn f first cap = if first.all D.okv && cap.all D.okv then val (.fn f first cap) else none := (rfl)
def kSlc (s : Option Nat) (x : D) (lo hi mx : Option D) : Option Eff := if slcTy s x then (sliceD x lo hi mx).bind val else none
@[simp] theorem kSlc_ (s : Option Nat) (x : D) (lo hi mx : Option D) : kSlc s x lo hi mx = if slcTy s x then (sliceD x lo hi mx).bind val else none := (rfl)

variable {rd : Opd → D} {rb : Nat → Nat × List D} {st : St}
@[simp ↓] theorem a_mv (d : Nat) (x : Opd) : actO T go rd rb st (.mv d x) = some (rd x, none, none) := (rfl)
@[simp ↓] theorem a_mvn : actO T go rd rb st .mvn = some (.undef, none, none) := (rfl)
@[simp ↓] theorem a_pick (d : Nat) (x a b : Opd) : actO T go rd rb st (.pick d x a b) = kPick (rd x) (rd a) (rd b) := by simp only [actO]; cases rd x <;> rfl
@[simp ↓] theorem a_boxLn (d n : Nat) (zero : List D) : actO T go rd rb st (.boxL d n none zero) = kBoxL d (rb d).1 n zero := (rfl)
@[simp ↓] theorem a_boxLs (d n : Nat) (x : Opd) (zero : List D) : actO T go rd rb st (.boxL d n (some x) zero) = kBoxL d (rb d).1 n (rd x).cells := (rfl)
@[simp ↓] theorem a_boxH (d : Nat) (n : Option Nat) (x : Opd) : actO T go rd rb st (.boxH d n x) = kBoxH n st (rd x) := (rfl)
@[simp ↓] theorem a_boxI (d : Nat) (n : Option Nat) (x : Opd) : actO T go rd rb st (.boxI d n x) = kBoxI n (rd x) := (rfl)
@[simp ↓] theorem a_build (d : Nat) (zero : List D) (ps : List (Nat × Nat × Opd)) : actO T go rd rb st (.build d zero ps) = kBuild zero (rdP rd ps) := by simp only [actO, kBuild, rdP, List.all_map]; rfl
@[simp ↓] theorem a_bsl (d sz : Nat) (agg : Bool) (xs : List Opd) : actO T go rd rb st (.bsl d sz agg xs) = kBsl sz agg (rdL rd xs) := (rfl)
@[simp ↓] theorem a_load (d : Nat) (p : Opd) (n l : Option Nat) (q : Bool) : actO T go rd rb st (.load d p n l q) = (loadD rb st (rd p) n l q).bind val := (rfl)
@[simp ↓] theorem a_store (p x : Opd) (n : Nat) (l : Option Nat) : actO T go rd rb st (.store p x n l) = storeD rb st (rd p) (rd x) n l := (rfl)
@[simp ↓] theorem a_storeX (box : Bool) (p x : Opd) (n : Nat) : actO T go rd rb st (.storeX box p x n) = storeXD box st (rd p) (rd x) n := (rfl)
@[simp ↓] theorem a_nilc (d : Option Nat) (x : Opd) : actO T go rd rb st (.nilc d x) = kNil (rd x) (nilD .ptr (rd x)) := by simp only [actO]; rcases nilD .ptr (rd x) with _ | (_ | _) <;> rfl
@[simp ↓] theorem a_bin (d : Nat) (op : BinOp) (x y : Opd) : actO T go rd rb st (.bin d op x y) = (binD op (rd x) (rd y)).bind val := (rfl)
@[simp ↓] theorem a_eqn (d : Nat) (neg : Bool) (k : Kd) (x y : Opd) : actO T go rd rb st (.eqn d neg k x y) = kEq neg (eqnD k (rd x) (rd y)) := by simp only [actO, kEq]; cases eqnD k (rd x) (rd y) <;> rfl
@[simp ↓] theorem a_un (d : Nat) (op : UnOp) (x : Opd) : actO T go rd rb st (.un d op x) = (unD op (rd x)).bind val := (rfl)
@[simp ↓] theorem a_cvI (d : Nat) (k : IntKind) (x : Opd) : actO T go rd rb st (.conv d (.int k) x) = kCvI k (rd x) := by simp only [actO]; cases rd x <;> rfl
@[simp ↓] theorem a_cvS (d : Nat) (x : Opd) : actO T go rd rb st (.conv d .same x) = kCvS (rd x) := by simp only [actO]; cases rd x <;> rfl
@[simp ↓] theorem a_cvB (d : Nat) (x : Opd) : actO T go rd rb st (.conv d .bytesstr x) = kCvB (listD st 1 (rd x)) := by simp only [actO]; cases listD st 1 (rd x) <;> rfl
@[simp ↓] theorem a_mkfn (d f : Nat) (first cap : List Opd) : actO T go rd rb st (.mkfn d f first cap) = kMkfn f (rdL rd first) (rdL rd cap) := (rfl)
@[simp ↓] theorem a_fldA (d : Nat) (x : Opd) (off : Nat) (n : Option Nat) : actO T go rd rb st (.fldA d x off n) = (fldD (rd x) off n).bind val := (rfl)
@[simp ↓] theorem a_fld (d : Nat) (x : Opd) (off : Nat) (n : Option Nat) : actO T go rd rb st (.fld d x off n) = kFld off n (rd x) := by simp only [actO]; cases rd x <;> rfl
@[simp ↓] theorem a_idxA (d : Nat) (x i : Opd) (sz : Nat) (n arr : Option Nat) : actO T go rd rb st (.idxA d x i sz n arr) = kIdx sz n arr (rd x) (rd i) := by simp only [actO]; cases rd i <;> rfl
@[simp ↓] theorem a_idxS (d : Nat) (x i : Opd) (n : Option Nat) (sz : Nat) : actO T go rd rb st (.idx d x i n sz none) = kIxS (rd x) (rd i) := by simp only [actO]; cases rd i <;> first | rfl | (cases rd x <;> rfl)
@[simp ↓] theorem a_slc (d : Nat) (s : Option Nat) (x : Opd) (lo hi mx : Option Opd) : actO T go rd rb st (.slc d s x lo hi mx) = kSlc s (rd x) (rdO rd lo) (rdO rd hi) (rdO rd mx) := (rfl)
@[simp ↓] theorem a_ext (d : Nat) (x : Opd) (i : Nat) : actO T go rd rb st (.ext d x i) = kExt i (rd x) := by simp only [actO]; cases rd x <;> rfl
@[simp ↓] theorem a_call (d : Option Nat) (f : Nat) (xs : List Opd) : actO T go rd rb st (.call d f xs) = kCall (callD T go f (rdL rd xs) st) := by simp only [actO, rdL]; cases callD T go f (xs.map rd) st <;> rfl
@[simp ↓] theorem a_callQ (d : Option Nat) (f : Nat) (xs : List Opd) : actO T go rd rb st (.callQ d f xs) = (callQD T go f (rdL rd xs)).bind val := (rfl)
@[simp ↓] theorem a_callV (d : Option Nat) (f : Opd) (xs : List Opd) : actO T go rd rb st (.callV d f xs) = kCallV T go (rdL rd xs) st (rd f) := by
  simp only [actO, rdL]
  cases rd f with
  | fn g a b => simp only [kCallV]; cases callD T go g (a ++ xs.map rd ++ b) st <;> rfl
  | _ => rfl
@[simp ↓] theorem a_len (d : Nat) (k : Kd) (x : Opd) (q : Bool) : actO T go rd rb st (.len d k x q) = (lenD st k (rd x) q).bind val := (rfl)
@[simp ↓] theorem a_app (d : Nat) (s x : Opd) (sz : Nat) : actO T go rd rb st (.app d s x sz) = kAp st sz (rd s) (srcD st sz (rd x)) := by
  simp only [actO]; cases srcD st sz (rd x) with
  | none => rfl
  | some l => simp only [Option.bind_some, kAp]; cases appendD st (rd s) l sz <;> rfl
@[simp ↓] theorem a_appT (d : Nat) (s x : Opd) (sz ty : Nat) : actO T go rd rb st (.appT d s x sz ty) = kApT ty st sz (rd s) (srcD st sz (rd x)) := by
  simp only [actO]; cases srcD st sz (rd x) with
  | none => rfl
  | some l => simp only [Option.bind_some, kApT]; cases appendTD ty st (rd s) l sz <;> rfl
@[simp ↓] theorem a_mm (d : Nat) (mx : Bool) (x y : Opd) : actO T go rd rb st (.mm d mx x y) = kMM mx (rd x) (rd y) := by simp only [actO]; cases rd x <;> first | rfl | (cases rd y <;> rfl)

@[simp] theorem listD_sl (st : St) (sz : Nat) (fl : Bool) (ds : List D) : listD st sz (.sl sz fl ds) = some ds := by simp [listD]
@[simp] theorem listD_nils (st : St) (sz : Nat) : listD st sz .nils = some [] := (rfl)
@[simp] theorem srcD_sl (st : St) (sz : Nat) (fl : Bool) (ds : List D) : srcD st sz (.sl sz fl ds) = some ds := by simp [srcD]
@[simp] theorem srcD_nils (st : St) (sz : Nat) : srcD st sz .nils = some [] := (rfl)
@[simp] theorem srcD_slE (st : St) (sz : Nat) (fl : Fl) (ds : List D) : srcD st sz (slE sz fl ds) = some ds := by
  have := slE_list st sz fl ds
  cases fl <;> cases ds <;> exact this

/-- A slice of an array. -/
def kSlcA (st : St) (n : Nat) (x : D) (lo hi : Option D) : Option Eff := match x with
    | .hp id ver sz 0 0 => match St.at st id with
      | .cells box sz' ver' mod false [.agg cs] =>
        if ver' = ver ∧ sz' = sz ∧ sz = n ∧ cs.length = n ∧ cs.all D.pure1 = true then
          (boundD hi n n).bind fun h => (boundD lo 0 h).bind fun l =>
            some (.sl 1 (h == n) ((cs.drop l).take (h - l)), none, some (List.set st id (.cells box sz ver (mod + 1) true [.agg cs])))
        else none
      | _ => none
    | _ => none
@[simp ↓] theorem a_slcA {T : Nat → Option IFunc} {go : GoF} {rd : Opd → D} {rb : Nat → Nat × List D} {st : St} (d : Nat) (x : Opd) (lo hi : Option Opd) (n : Nat) : actO T go rd rb st (.slcA d x lo hi n) = kSlcA st n (rd x) (rdO rd lo) (rdO rd hi) := (rfl)

/-! ### A nil slice's room, zeros behind it; a store of what is freed first -/
def kCapn : D → Option Eff
  | .nils => val (.i 0)
  | _ => none
@[simp] theorem kCapn_nils : kCapn .nils = val (.i 0) := (rfl)
@[simp ↓] theorem a_capn {T : Nat → Option IFunc} {go : GoF} {rd : Opd → D} {rb : Nat → Nat × List D} {st : St} (d : Nat) (x : Opd) : actO T go rd rb st (.capn d x) = kCapn (rd x) := by simp only [actO]; cases rd x <;> rfl
def kAppz (st : St) (sz : Nat) (zero : D) : D → D → Option Eff
  | .nils, .int _ k => if 0 < k ∧ k ≤ most then some (.rs st.length 0 sz 0 k.toNat false, none, some (st ++ [.cells false sz 0 0 false (List.replicate k.toNat zero)])) else none
  | _, _ => none
@[simp] theorem kAppz_nils (st : St) (sz : Nat) (zero : D) (i : IntKind) (k : Int) : kAppz st sz zero .nils (.int i k) = if 0 < k ∧ k ≤ most then some (.rs st.length 0 sz 0 k.toNat false, none, some (st ++ [.cells false sz 0 0 false (List.replicate k.toNat zero)])) else none := (rfl)
@[simp ↓] theorem a_appz {T : Nat → Option IFunc} {go : GoF} {rd : Opd → D} {rb : Nat → Nat × List D} {st : St} (d : Nat) (s n : Opd) (sz : Nat) (zero : D) : actO T go rd rb st (.appz d s n sz zero) = kAppz st sz zero (rd s) (rd n) := by
  simp only [actO]; cases rd s <;> first | rfl | (cases rd n <;> rfl)
def kStoF (rb : Nat → Nat × List D) (p : D) (n b : Nat) : Option (D × St) → Option Eff
  | some r => (storeD rb r.2 p r.1 n (some b)).bind fun e => some (.undef, e.2.1, some r.2)
  | none => none
@[simp] theorem kStoF_some (rb : Nat → Nat × List D) (p : D) (n b : Nat) (r : D × St) : kStoF rb p n b (some r) = (storeD rb r.2 p r.1 n (some b)).bind fun e => some (.undef, e.2.1, some r.2) := (rfl)
@[simp ↓] theorem a_stoF {T : Nat → Option IFunc} {go : GoF} {rd : Opd → D} {rb : Nat → Nat × List D} {st : St} (p x : Opd) (n b : Nat) : actO T go rd rb st (.stoF p x n b) = kStoF rb (rd p) n b (fz1 st (rd x)) := by
  simp only [actO]; cases fz1 st (rd x) <;> rfl
@[simp ↓] theorem a_no {T : Nat → Option IFunc} {go : GoF} {rd : Opd → D} {rb : Nat → Nat × List D} {st : St} (d : Option Nat) : actO T go rd rb st (.no d) = none := (rfl)

end Go.Nt

/-
  RUNS WITH WHAT IS ASKED BEHIND THEM: 'simp' walks code head first, parts at branches ('+contextual': each way knows its truth), and leaves what is asked at each way's end.
  No condition.
-/
namespace Go.Nt

variable {T : Nat → Option IFunc}

abbrev Kt : Type := Ex → Cfg → Prop

/-- The code's run ends, so. -/
def WP (T : Nat → Option IFunc) (a : Ic) (c : Cfg) (K : Kt) : Prop := ∃ e c', rn T (ev T) (lp T) a c = some (e, c') ∧ K e c'
def WO (T : Nat → Option IFunc) (l : List Gi) (c : Cfg) (K : Kt) : Prop := ∃ c', runOps T (ev T) l c = some c' ∧ K .normal c'
def WE (T : Nat → Option IFunc) (d : Option Nat) (s : List D) (b : List (Nat × List D)) (st : St) (os : List Gi) (x : Option Eff) (K : Kt) : Prop := ∃ c', kE T (ev T) d s b st os x = some c' ∧ K .normal c'
/-- A loop's run ends, so. -/
def WL (T : Nat → Option IFunc) (L : Ic) (c : Cfg) (K : Kt) : Prop := ∃ e c', lp T L c = some (e, c') ∧ K e c'
def WC (T : Nat → Option IFunc) (a b : Ic) (c : Cfg) (d : D) (K : Kt) : Prop := ∃ e c', kC T (ev T) (lp T) a b c d = some (e, c') ∧ K e c'
def WG (T : Nat → Option IFunc) (w : Bool) (io : Io) (os : List Gi) (s : List D) (b : List (Nat × List D)) (st : St) (d : D) (K : Kt) : Prop := ∃ c', kG T (ev T) w io os s b st d = some c' ∧ K .normal c'

def qSq (T : Nat → Option IFunc) (b : Ic) (K : Kt) : Kt
  | .normal, c => WP T b c K
  | e, c => K e c
def qBk (id : Nat) (K : Kt) : Kt
  | .exit id', c => K (if id' = id then .normal else .exit id') c
  | e, c => K e c
def qLp (T : Nat → Option IFunc) (L : Ic) (Q : Ex → List D → List (Nat × List D) → St → Prop) : Kt
  | .normal, c => Stops (lp T L c) Q
  | e, c => Q e c.1.s c.1.b c.2
def qFn (res : List Rv) (Q : D → St → Prop) : Kt
  | .exit _, _ => False
  | _, c => Ret (finish res c) Q

@[congr] theorem WE_cg {d d' : Option Nat} {s : List D} {b : List (Nat × List D)} {st : St} {os : List Gi} {x x' : Option Eff} {K : Kt} (hd : d = d') (hx : x = x') : WE T d s b st os x K = WE T d' s b st os x' K := by rw [hd, hx]
@[congr] theorem WG_cg {w : Bool} {io : Io} {os : List Gi} {s : List D} {b : List (Nat × List D)} {st : St} {d d' : D} {K : Kt} (h : d = d') : WG T w io os s b st d K = WG T w io os s b st d' K := by rw [h]
@[congr] theorem WC_cg {a b : Ic} {c : Cfg} {d d' : D} {K : Kt} (h : d = d') : WC T a b c d K = WC T a b c d' K := by rw [h]

@[simp ↓] theorem qSq_n (b : Ic) (K : Kt) (c : Cfg) : qSq T b K .normal c = WP T b c K := (rfl)
@[simp ↓] theorem qSq_r (b : Ic) (K : Kt) (c : Cfg) : qSq T b K .ret c = K .ret c := (rfl)
@[simp ↓] theorem qSq_e (b : Ic) (K : Kt) (id : Nat) (c : Cfg) : qSq T b K (.exit id) c = K (.exit id) c := (rfl)
@[simp ↓] theorem qBk_n (id : Nat) (K : Kt) (c : Cfg) : qBk id K .normal c = K .normal c := (rfl)
@[simp ↓] theorem qBk_r (id : Nat) (K : Kt) (c : Cfg) : qBk id K .ret c = K .ret c := (rfl)
@[simp ↓] theorem qBk_e0 (id : Nat) (K : Kt) (c : Cfg) : qBk id K (.exit id) c = K .normal c := by simp [qBk]
@[simp ↓] theorem qBk_e (id id' : Nat) (K : Kt) (c : Cfg) (h : id' ≠ id) : qBk id K (.exit id') c = K (.exit id') c := by simp [qBk, h]
@[simp ↓] theorem qLp_n (L : Ic) (Q : Ex → List D → List (Nat × List D) → St → Prop) (c : Cfg) : qLp T L Q .normal c = Stops (lp T L c) Q := (rfl)
@[simp ↓] theorem qLp_r (L : Ic) (Q : Ex → List D → List (Nat × List D) → St → Prop) (s : List D) (b : List (Nat × List D)) (st : St) : qLp T L Q .ret ⟨⟨s, b⟩, st⟩ = Q .ret s b st := (rfl)
@[simp ↓] theorem qLp_e (L : Ic) (Q : Ex → List D → List (Nat × List D) → St → Prop) (id : Nat) (s : List D) (b : List (Nat × List D)) (st : St) : qLp T L Q (.exit id) ⟨⟨s, b⟩, st⟩ = Q (.exit id) s b st := (rfl)
@[simp ↓] theorem qFn_n (res : List Rv) (Q : D → St → Prop) (c : Cfg) : qFn res Q .normal c = Ret (finish res c) Q := (rfl)
@[simp ↓] theorem qFn_r (res : List Rv) (Q : D → St → Prop) (c : Cfg) : qFn res Q .ret c = Ret (finish res c) Q := (rfl)

@[simp ↓] theorem WP_skip (c : Cfg) (K : Kt) : WP T .skip c K = K .normal c := propext ⟨fun ⟨_, _, h, k⟩ => by cases h; exact k, fun k => ⟨_, _, rfl, k⟩⟩
@[simp ↓] theorem WP_exit (id : Nat) (c : Cfg) (K : Kt) : WP T (.exit id) c K = K (.exit id) c := propext ⟨fun ⟨_, _, h, k⟩ => by cases h; exact k, fun k => ⟨_, _, rfl, k⟩⟩
@[simp ↓] theorem WP_ret (c : Cfg) (K : Kt) : WP T .ret c K = K .ret c := propext ⟨fun ⟨_, _, h, k⟩ => by cases h; exact k, fun k => ⟨_, _, rfl, k⟩⟩
@[simp ↓] theorem WP_loop (L : Ic) (c : Cfg) (K : Kt) : WP T (.loop L) c K = WL T L c K := (rfl)
@[simp ↓] theorem WP_seq (a b : Ic) (c : Cfg) (K : Kt) : WP T (.seq a b) c K = WP T a c (qSq T b K) := by
  refine propext ⟨fun ⟨e, c', h, k⟩ => ?_, fun ⟨e, c', h, k⟩ => ?_⟩
  · rw [rn_seq] at h
    cases hq : rn T (ev T) (lp T) a c with
    | none => rw [hq] at h; cases h
    | some r =>
      obtain ⟨e1, c1⟩ := r
      rw [hq] at h
      refine ⟨e1, c1, hq, ?_⟩
      cases e1 with
      | normal => exact ⟨e, c', h, k⟩
      | ret => cases h; exact k
      | exit id => cases h; exact k
  · cases e with
    | normal =>
      obtain ⟨e2, c2, h2, k2⟩ := k
      exact ⟨e2, c2, by rw [rn_seq, h]; exact h2, k2⟩
    | ret => exact ⟨_, _, by rw [rn_seq, h]; rfl, k⟩
    | exit id => exact ⟨_, _, by rw [rn_seq, h]; rfl, k⟩
@[simp ↓] theorem WP_block (id : Nat) (a : Ic) (c : Cfg) (K : Kt) : WP T (.block id a) c K = WP T a c (qBk id K) := by
  refine propext ⟨fun ⟨e, c', h, k⟩ => ?_, fun ⟨e, c', h, k⟩ => ?_⟩
  · rw [rn_block] at h
    cases hq : rn T (ev T) (lp T) a c with
    | none => rw [hq] at h; cases h
    | some r =>
      obtain ⟨e1, c1⟩ := r
      rw [hq] at h
      refine ⟨e1, c1, hq, ?_⟩
      cases e1 <;> (cases h; exact k)
  · cases e <;> exact ⟨_, _, by rw [rn_block, h]; rfl, k⟩
@[simp ↓] theorem WP_cond (x : Opd) (a b : Ic) (c : Cfg) (K : Kt) : WP T (.cond x a b) c K = WC T a b c (x.ev c.1.s) K := by simp only [WP, WC, rn_cond]
@[simp ↓] theorem WC_b (t : Bool) (a b : Ic) (c : Cfg) (K : Kt) : WC T a b c (.bool t) K = ((t = true → WP T a c K) ∧ (t = false → WP T b c K)) := by cases t <;> simp [WC, WP]
@[simp ↓] theorem WP_ops (l : List Gi) (c : Cfg) (K : Kt) : WP T (.ops l) c K = WO T l c K := by
  refine propext ⟨fun ⟨e, c', h, k⟩ => ?_, fun ⟨c', h, k⟩ => ⟨.normal, c', by rw [rn_ops, h]; rfl, k⟩⟩
  rw [rn_ops, Option.map_eq_some_iff] at h
  obtain ⟨c1, h1, h2⟩ := h
  cases h2
  exact ⟨_, h1, k⟩
@[simp ↓] theorem WO_nil (c : Cfg) (K : Kt) : WO T [] c K = K .normal c := propext ⟨fun ⟨_, h, k⟩ => by cases h; exact k, fun k => ⟨_, rfl, k⟩⟩
@[simp ↓] theorem WO_g0 (io : Io) (os : List Gi) (s : List D) (b : List (Nat × List D)) (st : St) (K : Kt) : WO T (g0 io :: os) ⟨⟨s, b⟩, st⟩ K = WE T io.dst s b st os (actO T (ev T) (Opd.ev s) (getB b) st io) K := by simp only [WO, WE, runOps_g0]
@[simp ↓] theorem WO_g1 (j : Nat) (w : Bool) (io : Io) (os : List Gi) (s : List D) (b : List (Nat × List D)) (st : St) (K : Kt) : WO T (g1 j w io :: os) ⟨⟨s, b⟩, st⟩ K = WG T w io os s b st (get s j) K := by simp only [WO, WG, runOps_kG]
@[simp ↓] theorem WG_u (w : Bool) (io : Io) (os : List Gi) (s : List D) (b : List (Nat × List D)) (st : St) (K : Kt) : WG T w io os s b st (.tup []) K = WO T os ⟨⟨putO s io.dst .undef, b⟩, st⟩ K := (rfl)
@[simp ↓] theorem WG_t (t : Bool) (io : Io) (os : List Gi) (s : List D) (b : List (Nat × List D)) (st : St) (K : Kt) : WG T true io os s b st (.bool t) K = ((t = true → WO T (g0 io :: os) ⟨⟨s, b⟩, st⟩ K) ∧ (t = false → WE T io.dst s b st os (some (.undef, none, none)) K)) := by cases t <;> simp [WG, WE]
@[simp ↓] theorem WG_f (t : Bool) (io : Io) (os : List Gi) (s : List D) (b : List (Nat × List D)) (st : St) (K : Kt) : WG T false io os s b st (.bool t) K = ((t = false → WO T (g0 io :: os) ⟨⟨s, b⟩, st⟩ K) ∧ (t = true → WE T io.dst s b st os (some (.undef, none, none)) K)) := by cases t <;> simp [WG, WE]
@[simp ↓ high] theorem WC_tt (a b : Ic) (c : Cfg) (K : Kt) : WC T a b c (.bool true) K = WP T a c K := by simp
@[simp ↓ high] theorem WC_ff (a b : Ic) (c : Cfg) (K : Kt) : WC T a b c (.bool false) K = WP T b c K := by simp
@[simp ↓ high] theorem WG_tt (io : Io) (os : List Gi) (s : List D) (b : List (Nat × List D)) (st : St) (K : Kt) : WG T true io os s b st (.bool true) K = WO T (g0 io :: os) ⟨⟨s, b⟩, st⟩ K := by simp [WG, WO]
@[simp ↓ high] theorem WG_tf (io : Io) (os : List Gi) (s : List D) (b : List (Nat × List D)) (st : St) (K : Kt) : WG T true io os s b st (.bool false) K = WE T io.dst s b st os (some (.undef, none, none)) K := by simp [WG, WE]
@[simp ↓ high] theorem WG_ff (io : Io) (os : List Gi) (s : List D) (b : List (Nat × List D)) (st : St) (K : Kt) : WG T false io os s b st (.bool false) K = WO T (g0 io :: os) ⟨⟨s, b⟩, st⟩ K := by simp [WG, WO]
@[simp ↓ high] theorem WG_ft (io : Io) (os : List Gi) (s : List D) (b : List (Nat × List D)) (st : St) (K : Kt) : WG T false io os s b st (.bool true) K = WE T io.dst s b st os (some (.undef, none, none)) K := by simp [WG, WE]
@[simp ↓] theorem WE_vs (d : Nat) (s : List D) (b : List (Nat × List D)) (st : St) (os : List Gi) (v : D) (K : Kt) : WE T (some d) s b st os (some (v, none, none)) K = WO T os ⟨⟨put s d v, b⟩, st⟩ K := (rfl)
@[simp ↓] theorem WE_vn (s : List D) (b : List (Nat × List D)) (st : St) (os : List Gi) (v : D) (K : Kt) : WE T none s b st os (some (v, none, none)) K = WO T os ⟨⟨s, b⟩, st⟩ K := (rfl)
@[simp ↓] theorem WE_hs (d : Nat) (s : List D) (b : List (Nat × List D)) (st st' : St) (os : List Gi) (v : D) (K : Kt) : WE T (some d) s b st os (some (v, none, some st')) K = WO T os ⟨⟨put s d v, b⟩, st'⟩ K := (rfl)
@[simp ↓] theorem WE_hn (s : List D) (b : List (Nat × List D)) (st st' : St) (os : List Gi) (v : D) (K : Kt) : WE T none s b st os (some (v, none, some st')) K = WO T os ⟨⟨s, b⟩, st'⟩ K := (rfl)
@[simp ↓] theorem WE_bs (d : Nat) (s : List D) (b : List (Nat × List D)) (st : St) (os : List Gi) (v : D) (x g : Nat) (cs : List D) (K : Kt) : WE T (some d) s b st os (some (v, some (x, g, cs), none)) K = WO T os ⟨⟨put s d v, putB b x (g, cs)⟩, st⟩ K := (rfl)
@[simp ↓] theorem WE_bn (s : List D) (b : List (Nat × List D)) (st : St) (os : List Gi) (v : D) (x g : Nat) (cs : List D) (K : Kt) : WE T none s b st os (some (v, some (x, g, cs), none)) K = WO T os ⟨⟨s, putB b x (g, cs)⟩, st⟩ K := (rfl)
@[simp ↓] theorem WE_ite {p : Prop} [Decidable p] (d : Option Nat) (s : List D) (b : List (Nat × List D)) (st : St) (os : List Gi) (x y : Option Eff) (K : Kt) :
    WE T d s b st os (if p then x else y) K = ((p → WE T d s b st os x K) ∧ (¬ p → WE T d s b st os y K)) := by
  by_cases h : p <;> simp [h]
/-- An operation that is not defined. -/
@[simp ↓] theorem WE_no (d : Option Nat) (s : List D) (b : List (Nat × List D)) (st : St) (os : List Gi) (K : Kt) : WE T d s b st os none K = False := propext ⟨fun ⟨_, h, _⟩ => (by cases h), False.elim⟩

/-- Two ways, of which either may be gone. -/
@[simp ↓] theorem WP_amb (y x : Nat) (a b : Ic) (s : List D) (bx : List (Nat × List D)) (st : St) (K : Kt) : WP T (.amb y x a b) ⟨⟨s, bx⟩, st⟩ K =
    WP T a ⟨⟨put (put s y .unk) x (.bool true), bx⟩, st⟩ (fun e d => e = .normal ∧ WP T b ⟨⟨put (put s y .unk) x (.bool false), bx⟩, st⟩ fun e' d' => e' = .normal ∧ ∃ st', joinSt st d.2 d'.2 = some st' ∧ K .normal ⟨⟨clearS (y :: x :: (a.wr ++ b.wr)) s, bx⟩, st'⟩) := by
  refine propext ⟨fun ⟨e, c', h, k⟩ => ?_, fun ⟨e, c1, h, he, e', c2, h', he', st', hj, k⟩ => ?_⟩
  · simp only [rn, Option.bind_eq_some_iff] at h
    obtain ⟨⟨e1, c1⟩, h1, ⟨e2, c2⟩, h2, h⟩ := h
    unfold ambJ at h
    split at h
    · rename_i g1 g2
      simp only at g1 g2
      subst g1 g2
      rw [Option.map_eq_some_iff] at h
      obtain ⟨st', hj, h⟩ := h
      cases h
      exact ⟨_, c1, h1, rfl, _, c2, h2, rfl, st', hj, k⟩
    · cases h
  · subst he he'
    refine ⟨.normal, _, ?_, k⟩
    simp only [rn]
    rw [show ambC y x true ⟨⟨s, bx⟩, st⟩ = ⟨⟨put (put s y .unk) x (.bool true), bx⟩, st⟩ from rfl, show ambC y x false ⟨⟨s, bx⟩, st⟩ = ⟨⟨put (put s y .unk) x (.bool false), bx⟩, st⟩ from rfl, h, h']
    simp only [Option.bind_some, ambJ, hj, Option.map_some]

/-- A box written and the heap turned. -/
@[simp ↓] theorem WE_bh (s : List D) (b : List (Nat × List D)) (st st' : St) (os : List Gi) (v : D) (x g : Nat) (cs : List D) (K : Kt) : WE T none s b st os (some (v, some (x, g, cs), some st')) K = WO T os ⟨⟨s, putB b x (g, cs)⟩, st'⟩ K := (rfl)

/-- One round of a loop. -/
theorem Stops_wp {L body : Ic} (h : L = body) {c : Cfg} {Q : Ex → List D → List (Nat × List D) → St → Prop} (k : WP T body c (qLp T L Q)) : Stops (lp T L c) Q := by
  obtain ⟨e, c', hr, hk⟩ := k
  rw [lp_at L body h, hr]
  cases e with
  | normal => exact hk
  | ret => exact ⟨_, _, _, _, rfl, hk⟩
  | exit id => exact ⟨_, _, _, _, rfl, hk⟩

/-- A function's run. -/
theorem Ret_wp {f : Nat} {fn : IFunc} (hf : T f = some fn) {args : List D} {st : St} {Q : D → St → Prop} (k : WP T fn.code ⟨⟨args, []⟩, st⟩ (qFn fn.res Q)) : Ret (ev T f args st) Q := by
  obtain ⟨e, c', hr, hk⟩ := k
  rw [ev_eq f fn hf, hr]
  cases e with
  | normal => exact hk
  | ret => exact hk
  | exit id => cases hk

/-- What is known of a loop. -/
theorem WL.use {L : Ic} (hp : L.plain = true) {W : List Nat} (hW : L.wr = W) {s0 : List D} {b0 : List (Nat × List D)} {st0 : St} {Q : Ex → List D → List (Nat × List D) → St → Prop} {K : Kt} (h : Stops (lp T L ⟨⟨s0, b0⟩, st0⟩) Q)
    (k : ∀ e s b st, Q e s b st → (∀ t, W.contains t = false → get s t = get s0 t) → K e ⟨⟨s, b⟩, st⟩) : WL T L ⟨⟨s0, b0⟩, st0⟩ K :=
  Stops.fr hp hW h (fun r => ∃ e c', r = some (e, c') ∧ K e c') fun e s b st q f => ⟨e, _, rfl, k e s b st q f⟩
theorem WL.useB {L : Ic} (hp : L.plain = true) {W WB : List Nat} (hW : L.wr = W) (hB : L.wrB = WB) {s0 : List D} {b0 : List (Nat × List D)} {st0 : St} {Q : Ex → List D → List (Nat × List D) → St → Prop} {K : Kt} (h : Stops (lp T L ⟨⟨s0, b0⟩, st0⟩) Q)
    (k : ∀ e s b st, Q e s b st → (∀ t, W.contains t = false → get s t = get s0 t) → (∀ t, WB.contains t = false → getB b t = getB b0 t) → K e ⟨⟨s, b⟩, st⟩) : WL T L ⟨⟨s0, b0⟩, st0⟩ K :=
  Stops.frB hp hW hB h (fun r => ∃ e c', r = some (e, c') ∧ K e c') fun e s b st q f g => ⟨e, _, rfl, k e s b st q f g⟩

/-! ### What a way knows -/
@[simp] theorem ile_f {a b : Int} (h : b < a) : (a ≤ b) = False := eq_false (by omega)
@[simp] theorem ilt_f {a b : Int} (h : b ≤ a) : (a < b) = False := eq_false (by omega)
@[simp] theorem nle_f {a b : Nat} (h : b < a) : (a ≤ b) = False := eq_false (by omega)
@[simp] theorem nlt_f {a b : Nat} (h : b ≤ a) : (a < b) = False := eq_false (by omega)

end Go.Nt

/-
  LOOPS, round by round; a nested read of an aggregate.
  No condition.
-/
namespace Go.Nt

variable {T : Nat → Option IFunc}

def qW (T : Nat → Option IFunc) (L : Ic) (K : Kt) : Kt
  | .normal, c => WL T L c K
  | e, c => K e c
@[simp ↓] theorem qW_n (L : Ic) (K : Kt) (c : Cfg) : qW T L K .normal c = WL T L c K := (rfl)
@[simp ↓] theorem qW_r (L : Ic) (K : Kt) (c : Cfg) : qW T L K .ret c = K .ret c := (rfl)
@[simp ↓] theorem qW_e (L : Ic) (K : Kt) (id : Nat) (c : Cfg) : qW T L K (.exit id) c = K (.exit id) c := (rfl)

/-- One round of a loop is met. -/
theorem WL_un {L body : Ic} (h : L = body) (c : Cfg) (K : Kt) : WL T L c K = WP T body c (qW T L K) := by
  refine propext ⟨fun ⟨e, c', hr, hk⟩ => ?_, fun ⟨e, c', hr, hk⟩ => ?_⟩
  · rw [lp_at L body h] at hr
    cases hq : rn T (ev T) (lp T) body c with
    | none => rw [hq] at hr; cases hr
    | some r =>
      obtain ⟨e1, c1⟩ := r
      rw [hq] at hr
      refine ⟨e1, c1, hq, ?_⟩
      cases e1 with
      | normal => exact ⟨e, c', hr, hk⟩
      | ret => cases hr; exact hk
      | exit id => cases hr; exact hk
  · cases e with
    | normal =>
      obtain ⟨e2, c2, h2, k2⟩ := hk
      exact ⟨e2, c2, by rw [lp_at L body h, hr]; exact h2, k2⟩
    | ret => exact ⟨_, _, by rw [lp_at L body h, hr]; rfl, hk⟩
    | exit id => exact ⟨_, _, by rw [lp_at L body h, hr]; rfl, hk⟩

end Go.Nt

/-
  DERIVATIONS, walked (1): what is bare, what is fine.
  No condition.
-/
set_option linter.unusedSimpArgs false
namespace Go.Nt.Ds
open Go Go.Nt

def bareTm (t : Tm) : Bool := decide (t.k = 0) && (decide (t.n = 0) && (decide (t.s = []) && (decide (t.l = []) && (decide (t.a = 0) && decide (t.b = 0)))))
def bareS (s : Stp) : Bool := decide (s.r = 0) && (!s.b && (decide (s.p = []) && (decide (s.ns = []) && bareTm s.t)))
def fineD (d : Dv) : Bool := if d.k = 1 then decide (d.p = []) && decide (d.l = []) else if d.k = 2 then decide (d.p = []) && bareS d.s else bareS d.s

theorem c33 (t : Tm) (st : St) : callD T (ev T) 33 [encT t] st = some (.bool (bareTm t), st) := by
  refine callD_pureQ (fn := F33) rfl rfl (by simp) (by simp) (by intro; rfl) ?_
  refine Ret_wp (fn := F33) rfl ?_
  rw [F33, encT_eq]
  unfold bareTm
  have ot1 := slE_okv 6 t.fl (encTs t.l)
  have ot2 := slE_fits 6 t.fl (encTs t.l)
  have ot3 := slE_cells 6 t.fl (encTs t.l)
  have ot4 := slE_len [] 6 t.fl (encTs t.l) false
  rw [encTs_len] at ot4
  have hl : decide (t.l = []) = decide (t.l.length = 0) := by cases t.l <;> simp
  rw [hl]
  generalize slE 6 t.fl (encTs t.l) = dn at *
  generalize t.l.length = ln at *
  by_cases h1 : t.k = 0 <;> by_cases h2 : t.n = 0 <;> by_cases h3 : t.s = [] <;> by_cases h4 : ln = 0 <;> by_cases h5 : t.a = 0 <;> simp [h1, h2, h3, h4, h5, ot1, ot2, ot3, ot4]
end Go.Nt.Ds

/-
  COUNTING A TERM's PARTS: the walks of 'Count', 'Named', 'Large'.
-/
set_option linter.unusedSimpArgs false
namespace Go.Nt.Ds
open Go Go.Nt

theorem l26 (v : Tm) (hv : v.l.length ≤ 9223372036854775807) (ml : Int) (hm : 0 < ml ∧ ml ≤ 1000)
    (ih : ∀ u, u ∈ v.l → ∀ (left lv : Int) (st : St), 0 ≤ left ∧ left ≤ 1000 → 0 ≤ lv ∧ lv ≤ 1000 → ∃ r, callD T (ev T) 26 [encT u, .int .i64 left, .int .i64 lv] st = some (.int .i64 r, st) ∧ -1 ≤ r ∧ r ≤ left ∧ (0 ≤ r → r = left - cntT u)) :
    ∀ (r i : Nat) (left : Int) (s : List D) (bx : List (Nat × List D)), r = v.l.length - i → i ≤ v.l.length → -1 ≤ left ∧ left ≤ 1000 → get s 1 = .int .i64 left → get s 2 = .int .i64 ml → get s 3 = .lp 3 1 0 → getB bx 3 = (1, clT v) → get s 7 = .int .i64 i →
    Stops (lp T L26_0 ⟨⟨s, bx⟩, []⟩) fun e s' _ st' => st' = [] ∧ e = .exit 0 ∧ ∃ q, get s' 1 = .int .i64 q ∧ -1 ≤ q ∧ q ≤ left ∧ (0 ≤ q → q = left - cntTs (v.l.drop i)) := by
  intro r
  induction r with
  | zero =>
    intro i left s bx hr hi hl h1 h2 h3 b3 h7
    have e : i = v.l.length := by omega
    subst e
    rw [lp_kL, L26_0, List.drop_length]
    simp [h1, h2, h3, b3, h7, cntTs]
    omega
  | succ r ihr =>
    intro i left s bx hr hi hl h1 h2 h3 b3 h7
    rw [lp_kL, L26_0]
    have hlt : i < v.l.length := by omega
    have hw : IntKind.wrap .i64 ((i : Int) + 1) = i + 1 := by rw [wrap64] <;> omega
    have hw2 : IntKind.wrap .i64 (ml - 1) = ml - 1 := by rw [wrap64] <;> omega
    have hmem : v.l[i] ∈ v.l := List.getElem_mem hlt
    rw [List.drop_eq_getElem_cons hlt, cntTs]
    by_cases hn : 0 ≤ left
    · obtain ⟨q, hq, hq1, hq2, hq3⟩ := ih _ hmem left (ml - 1) [] ⟨hn, hl.2⟩ (by omega)
      simp [h1, h2, h3, b3, h7, hlt, hn, hw, hw2, hq]
      rw [← L26_0]
      refine (ihr (i + 1) q _ _ (by omega) (by omega) (by omega) ?_ ?_ ?_ b3 ?_).mono ?_
      iterate 4 simp [h2, h3]
      rintro e s' b' st ⟨rfl, rfl, q2, g1, g2, g3, g4⟩
      refine ⟨rfl, rfl, q2, g1, g2, by omega, fun g => ?_⟩
      have := g4 g
      have := hq3 (by omega)
      omega
    · simp [h1, h2, h3, b3, h7, hlt, hn]
      omega

theorem c26 (v : Tm) : v.ok → ∀ (left lv : Int) (st : St), 0 ≤ left ∧ left ≤ 1000 → 0 ≤ lv ∧ lv ≤ 1000 → ∃ r, callD T (ev T) 26 [encT v, .int .i64 left, .int .i64 lv] st = some (.int .i64 r, st) ∧ -1 ≤ r ∧ r ≤ left ∧ (0 ≤ r → r = left - cntT v) := by
  induction v using Tm.ind with
  | h v ih =>
    intro hv left lv st hl hm
    obtain ⟨k1, k2, k4, k5, k6, k7, k3⟩ := (Tm.ok_iff v).1 hv
    have go : ∃ r, ev T 26 [encT v, .int .i64 left, .int .i64 lv] [] = some (.int .i64 r, []) ∧ -1 ≤ r ∧ r ≤ left ∧ (0 ≤ r → r = left - cntT v) := by
      rw [ev_eq 26 F26 rfl, F26]
      by_cases h0 : lv ≤ 0
      · refine ⟨-1, ?_, by omega, by omega, by omega⟩
        simp [h0]
      · have hw : IntKind.wrap .i64 (left - 1) = left - 1 := by rw [wrap64] <;> omega
        simp [h0, hw]
        refine (l26 v k7 lv (by omega) (fun u hu => ih u hu (k3 u hu)) _ 0 (left - 1) _ _ rfl (by omega) (by omega) ?_ ?_ ?_ ?_ ?_).use (fun r => ∃ x, kfin _ (kseq _ (kblock 0 r)) = some (.int .i64 x, []) ∧ -1 ≤ x ∧ x ≤ left ∧ (0 ≤ x → x = left - cntT v)) ?_
        iterate 5 simp
        rintro e s' b' st ⟨rfl, rfl, q, g1, g2, g3, g4⟩
        refine ⟨q, by simp [g1], g2, by omega, fun g => ?_⟩
        have := g4 g
        rw [cntT_eq]
        simp at this
        omega
    obtain ⟨r, h1, h2, h3, h4⟩ := go
    exact ⟨r, callD_pure (fn := F26) (st2 := []) rfl rfl (by simp) h1 (by simp) (by simp), h2, h3, h4⟩

theorem l27 (v : Tm) (hv : v.l.length ≤ 9223372036854775807) (ih : ∀ u, u ∈ v.l → ∀ (st : St), ∃ r, callD T (ev T) 27 [encT u] st = some (.bool r, st)) :
    ∀ (r i : Nat) (s : List D) (bx : List (Nat × List D)), r = v.l.length - i → i ≤ v.l.length → get s 1 = .lp 1 1 0 → getB bx 1 = (1, clT v) → get s 3 = .int .i64 i →
    Stops (lp T L27_0 ⟨⟨s, bx⟩, []⟩) fun e s' _ st' => st' = [] ∧ (e = .exit 0 ∨ e = .ret ∧ get s' 2 = .bool true) := by
  intro r
  induction r with
  | zero =>
    intro i s bx hr hi h1 b1 h3
    have e : i = v.l.length := by omega
    subst e
    rw [lp_kL, L27_0]
    simp [h1, b1, h3]
  | succ r ihr =>
    intro i s bx hr hi h1 b1 h3
    rw [lp_kL, L27_0]
    have hlt : i < v.l.length := by omega
    have hw : IntKind.wrap .i64 ((i : Int) + 1) = i + 1 := by rw [wrap64] <;> omega
    obtain ⟨q, hq⟩ := ih _ (List.getElem_mem hlt) []
    cases q with
    | true => simp [h1, b1, h3, hlt, hw, hq]
    | false =>
      simp [h1, b1, h3, hlt, hw, hq]
      rw [← L27_0]
      refine ihr (i + 1) _ _ (by omega) (by omega) ?_ b1 ?_
      iterate 2 simp [h1]

theorem c27 (v : Tm) : v.ok → ∀ (st : St), ∃ r, callD T (ev T) 27 [encT v] st = some (.bool r, st) := by
  induction v using Tm.ind with
  | h v ih =>
    intro hv st
    obtain ⟨k1, k2, k4, k5, k6, k7, k3⟩ := (Tm.ok_iff v).1 hv
    have go : ∃ r, ev T 27 [encT v] [] = some (.bool r, []) := by
      rw [ev_eq 27 F27 rfl, F27]
      by_cases h0 : (40 : Int) < v.s.length
      · exact ⟨true, by simp [h0]⟩
      · simp [h0, -Bool.exists_bool]
        refine (l27 v k7 (fun u hu => ih u hu (k3 u hu)) _ 0 _ _ rfl (by omega) ?_ ?_ ?_).use (fun r => ∃ x, kfin _ (kseq _ (kblock 0 r)) = some (.bool x, [])) ?_
        iterate 3 simp
        rintro e s' b' st ⟨rfl, rfl | ⟨rfl, h⟩⟩
        · exact ⟨false, by simp⟩
        · exact ⟨true, by simp [h]⟩
    obtain ⟨r, h1⟩ := go
    exact ⟨r, callD_pure (fn := F27) (st2 := []) rfl rfl (by simp) h1 (by simp) (by simp)⟩

theorem c21 (v : Tm) (hv : v.ok) (st : St) : ∃ b, callD T (ev T) 21 [encT v] st = some (.bool b, st) ∧ (b = false → cntT v ≤ 400) := by
  obtain ⟨r, h1, h2, h3, h4⟩ := c26 v hv 400 70 [] (by omega) (by omega)
  obtain ⟨q, hq⟩ := c27 v hv []
  refine ⟨decide (r < 0) || q, callD_pure (fn := F21) rfl rfl (by simp) (r := .bool (decide (r < 0) || q)) (st1 := []) (st2 := []) ?_ (by simp) (by simp), fun h => ?_⟩
  · rw [ev_eq 21 F21 rfl, F21]
    by_cases g : r < 0
    · simp [← encT_eq, h1, g]
    · simp [← encT_eq, h1, g, hq]
  · simp at h
    have := h4 h.1
    omega

end Go.Nt.Ds

/-
  TERMS ALIKE, bare ones placed; ways and steps alike.
  No condition.
-/
set_option linter.unusedSimpArgs false
namespace Go.Nt.Ds
open Go Go.Nt

theorem l14 (a : Tm) (hb : a.l.length ≤ 9223372036854775807) (ih : ∀ u, u ∈ a.l → ∀ st, callD T (ev T) 14 [encT u, encT u] st = some (.bool true, st)) :
    ∀ (r i : Nat) (s : List D) (bx : List (Nat × List D)), r = a.l.length - i → i ≤ a.l.length → get s 2 = .lp 2 1 0 → get s 3 = .lp 3 1 0 → getB bx 2 = (1, clT a) → getB bx 3 = (1, clT a) → get s 5 = .int .i64 i →
    Stops (lp T L14_0 ⟨⟨s, bx⟩, []⟩) fun e _ _ st' => st' = [] ∧ e = .exit 0 := by
  intro r
  induction r with
  | zero =>
    intro i s bx hr hi h2 h3 b2 b3 h5
    have e : i = a.l.length := by omega
    subst e
    rw [lp_kL, L14_0]
    simp [h2, h3, b2, b3, h5]
  | succ r ihr =>
    intro i s bx hr hi h2 h3 b2 b3 h5
    rw [lp_kL, L14_0]
    have hlt : i < a.l.length := by omega
    have hw : IntKind.wrap .i64 ((i : Int) + 1) = i + 1 := by rw [wrap64] <;> omega
    have c0 := ih _ (List.getElem_mem hlt) []
    simp [h2, h3, b2, b3, h5, hlt, ← encT_eq, c0, hw]
    rw [← L14_0]
    refine ihr (i + 1) _ _ (by omega) (by omega) ?_ ?_ b2 b3 ?_ <;> simp [h2, h3]

/-- A term is placed as itself. -/
theorem c14 (a : Tm) : a.ok → ∀ (st : St), callD T (ev T) 14 [encT a, encT a] st = some (.bool true, st) := by
  induction a using Tm.ind with
  | h a ih =>
    intro ha st
    obtain ⟨_, _, _, _, _, hb, ho⟩ := (Tm.ok_iff a).1 ha
    refine callD_pure (fn := F14) rfl rfl (by simp) (r := .bool true) (st1 := []) (st2 := []) ?_ (by simp) (by simp)
    rw [ev_eq 14 F14 rfl, F14]
    simp
    refine (l14 a hb (fun u hu => ih u hu (ho u hu)) _ 0 _ _ rfl (by omega) ?_ ?_ ?_ ?_ ?_).use (fun r => kfin _ (kseq _ (kblock 0 r)) = _) ?_
    iterate 5 simp
    rintro e s' b' st ⟨rfl, rfl⟩
    simp


theorem l13 (l : List Int) (fl fl' : Fl) (hb : l.length ≤ 9223372036854775807) :
    ∀ (r i : Nat) (s : List D) (bx : List (Nat × List D)), r = l.length - i → i ≤ l.length → get s 0 = numsE fl l → get s 1 = numsE fl' l → get s 5 = .int .i64 i →
    Stops (lp T L13_0 ⟨⟨s, bx⟩, []⟩) fun e _ _ st' => st' = [] ∧ e = .exit 0 := by
  intro r
  induction r with
  | zero =>
    intro i s bx hr hi h0 h1 h5
    have e : i = l.length := by omega
    subst e
    refine Stops_wp L13_0.eq_1 ?_
    simp [h0, h1, h5]
  | succ r ihr =>
    intro i s bx hr hi h0 h1 h5
    have hlt : i < l.length := by omega
    have hw : IntKind.wrap .i64 ((i : Int) + 1) = ((i + 1 : Nat) : Int) := by rw [wrap64] <;> omega
    have nx := fun s' bx' => ihr (i + 1) s' bx' (by omega) (by omega)
    refine Stops_wp L13_0.eq_1 ?_
    simp [h0, h1, h5, hlt, hw, -Int.natCast_add]
    refine nx _ _ ?_ ?_ ?_ <;> simp [h0, h1]

/-- A way is itself. -/
theorem c13 (l : List Int) (fl fl' : Fl) (hb : l.length ≤ 9223372036854775807) (st : St) : callD T (ev T) 13 [numsE fl l, numsE fl' l] st = some (.bool true, st) := by
  refine callD_pureQ (fn := F13) rfl rfl (by simp) (by simp) (by intro; rfl) ?_
  refine Ret_wp (fn := F13) rfl ?_
  rw [F13]
  have q := fun s bx => l13 l fl fl' hb l.length 0 s bx (by omega) (by omega)
  simp
  refine WL.use L13_0_p L13_0_w (q _ _ ?_ ?_ ?_) ?_
  iterate 3 simp
  rintro e s' b' st' ⟨rfl, rfl⟩ hf
  simp

theorem c25 (t : Tm) (st : St) : callD T (ev T) 25 [encT t, .agg [.int .i64 0, .int .i64 0, .str [], .nils, .int .i64 0, .int .i64 0]] st = some (.bool (bareTm t), st) := by
  refine callD_pureQ (fn := F25) rfl rfl (by simp) (by simp) (by intro; rfl) ?_
  refine Ret_wp (fn := F25) rfl ?_
  rw [F25, encT_eq]
  unfold bareTm
  have ot1 := slE_okv 6 t.fl (encTs t.l)
  have ot2 := slE_fits 6 t.fl (encTs t.l)
  have ot3 := slE_cells 6 t.fl (encTs t.l)
  have ot4 := slE_len [] 6 t.fl (encTs t.l) false
  rw [encTs_len] at ot4
  have hl : decide (t.l = []) = decide (t.l.length = 0) := by cases t.l <;> simp
  rw [hl]
  generalize slE 6 t.fl (encTs t.l) = dn at *
  generalize t.l.length = ln at *
  by_cases h1 : t.k = 0 <;> by_cases h2 : t.n = 0 <;> by_cases h3 : t.s = [] <;> by_cases h4 : t.a = 0 <;> by_cases h5 : t.b = 0 <;> by_cases h6 : ln = 0 <;> simp [h1, h2, h3, h4, h5, h6, ot1, ot2, ot3, ot4, WL_un L25_0.eq_1]

theorem c20 (s : Stp) (st : St) : callD T (ev T) 20 [encS s] st = some (.bool (bareS s), st) := by
  refine callD_pureQ (fn := F20) rfl rfl (by simp) (by simp) (by intro; rfl) ?_
  refine Ret_wp (fn := F20) rfl ?_
  have q := c25 s.t []
  rw [encT_eq] at q
  rw [F20]
  unfold bareS encS
  have e1 : decide (s.p = []) = decide (s.p.length = 0) := by cases s.p <;> simp
  have e2 : decide (s.ns = []) = decide (s.ns.length = 0) := by cases s.ns <;> simp
  rw [e1, e2]
  by_cases h1 : s.r = 0 <;> cases h2 : s.b <;> by_cases h3 : s.p.length = 0 <;> by_cases h4 : s.ns.length = 0 <;> simp [h1, h2, h3, h4, q]
theorem c23 (s : Stp) (st : St) : callD T (ev T) 23 [encS s] st = some (.bool (bareS s), st) := by
  refine callD_pureQ (fn := F23) rfl rfl (by simp) (by simp) (by intro; rfl) ?_
  refine Ret_wp (fn := F23) rfl ?_
  have q := c33 s.t []
  rw [encT_eq] at q
  rw [F23]
  unfold bareS encS
  have e1 : decide (s.p = []) = decide (s.p.length = 0) := by cases s.p <;> simp
  have e2 : decide (s.ns = []) = decide (s.ns.length = 0) := by cases s.ns <;> simp
  rw [e1, e2]
  by_cases h1 : s.r = 0 <;> cases h2 : s.b <;> by_cases h3 : s.p.length = 0 <;> by_cases h4 : s.ns.length = 0 <;> simp [h1, h2, h3, h4, q]
theorem c17 (d : Dv) (st : St) : callD T (ev T) 17 [encV' d] st = some (.bool (fineD d), st) := by
  refine callD_pureQ (fn := F17) rfl rfl (by simp) (by simp) (by intro; rfl) ?_
  refine Ret_wp (fn := F17) rfl ?_
  have q := c23 d.s []
  unfold encS at q
  rw [F17, encV'_eq]
  unfold fineD
  have e1 : decide (d.p = []) = decide (d.p.length = 0) := by cases d.p <;> simp
  have e2 : decide (d.l = []) = decide (d.l.length = 0) := by cases d.l <;> simp
  rw [e1, e2]
  by_cases h1 : d.k = 1
  · by_cases h3 : d.p.length = 0 <;> by_cases h4 : d.l.length = 0 <;> simp [h1, h3, h4]
  · by_cases h2 : d.k = 2
    · by_cases h3 : d.p.length = 0 <;> simp [h1, h2, h3, q]
    · simp [h1, h2, q]

/-- Steps that are the same but for how their paths are kept. -/
theorem c8 (s : Stp) (fl : Fl) (h1 : s.p.length ≤ 9223372036854775807) (h2 : s.ns.length ≤ 9223372036854775807) (h3 : s.t.ok) (st : St) : callD T (ev T) 8 [encS s, encS { s with pf := fl }] st = some (.bool true, st) := by
  refine callD_pureQ (fn := F8) rfl rfl (by simp) (by simp) (by intro; rfl) ?_
  refine Ret_wp (fn := F8) rfl ?_
  have q1 := c13 s.p s.pf fl h1 []
  have q2 := c13 s.ns s.nf s.nf h2 []
  have q3 := c14 s.t h3 []
  rw [encT_eq] at q3
  rw [F8]
  unfold encS
  cases hb : s.b <;> simp [q1, q2, q3, hb]
end Go.Nt.Ds

/-
  DERIVATIONS, walked (2): what is not too large.
  No condition.
-/
set_option linter.unusedSimpArgs false
namespace Go.Nt.Ds
open Go Go.Nt

/-- A step that is not large. -/
def smS (s : Stp) : Prop := s.p.length ≤ 100 ∧ s.ns.length ≤ 100 ∧ cntT s.t ≤ 400
/-- A derivation of so many levels that is not large. -/
def smD : Nat → Dv → Prop
  | 0, _ => False
  | n + 1, d => d.p.length ≤ 60 ∧ smS d.s ∧ d.l.length ≤ 1000 ∧ ∀ u, u ∈ d.l → smD n u

theorem c15 (s : Stp) (hs : s.ok) (st : St) : ∃ q, callD T (ev T) 15 [encS s] st = some (.bool q, st) ∧ (q = false → smS s) := by
  obtain ⟨_, _, _, _, _, h3⟩ := hs
  obtain ⟨b, hb, hb2⟩ := c21 s.t h3 []
  rw [encT_eq] at hb
  refine ⟨decide (100 < s.p.length) || (decide (100 < s.ns.length) || b), ?_, fun h => ?_⟩
  · refine callD_pureQ (fn := F15) rfl rfl (by simp) (by simp) (by intro; rfl) ?_
    refine Ret_wp (fn := F15) rfl ?_
    rw [F15]
    unfold encS
    have c1 : ((100 : Int) < (s.p.length : Int)) = (100 < s.p.length) := propext (by omega)
    have c2 : ((100 : Int) < (s.ns.length : Int)) = (100 < s.ns.length) := propext (by omega)
    by_cases h1 : 100 < s.p.length <;> by_cases h2 : 100 < s.ns.length <;> simp [h1, h2, hb, c1, c2]
  · simp only [Bool.or_eq_false_iff, decide_eq_false_iff_not] at h
    exact ⟨by omega, by omega, hb2 h.2.2⟩

theorem l9 (v : Dv) (hv : v.l.length ≤ 9223372036854775807) (ml : Int) (hm : 0 < ml ∧ ml ≤ 1000)
    (ih : ∀ u, u ∈ v.l → ∀ (left : Int) (st : St), 0 ≤ left ∧ left ≤ 1000 → ∃ r, callD T (ev T) 9 [encV' u, .int .i64 left, .int .i64 (ml - 1)] st = some (.int .i64 r, st) ∧ -1 ≤ r ∧ r ≤ left ∧ (0 ≤ r → r = left - cntV u ∧ smD (ml - 1).toNat u)) :
    ∀ (r i : Nat) (left : Int) (s : List D) (bx : List (Nat × List D)), r = v.l.length - i → i ≤ v.l.length → -1 ≤ left ∧ left ≤ 1000 → get s 1 = .int .i64 left → get s 2 = .int .i64 ml → get s 3 = .lp 3 1 0 → getB bx 3 = (1, v.cl) → get s 7 = .int .i64 i →
    Stops (lp T L9_0 ⟨⟨s, bx⟩, []⟩) fun e s' _ st' => st' = [] ∧ e = .exit 0 ∧ ∃ q, get s' 1 = .int .i64 q ∧ -1 ≤ q ∧ q ≤ left ∧ (0 ≤ q → q = left - cntVs (v.l.drop i) ∧ ∀ u, u ∈ v.l.drop i → smD (ml - 1).toNat u) := by
  intro r
  induction r with
  | zero =>
    intro i left s bx hr hi hl h1 h2 h3 b3 h7
    have e : i = v.l.length := by omega
    subst e
    refine Stops_wp L9_0.eq_1 ?_
    rw [List.drop_length]
    simp [h1, h2, h3, b3, h7, cntVs]
    omega
  | succ r ihr =>
    intro i left s bx hr hi hl h1 h2 h3 b3 h7
    refine Stops_wp L9_0.eq_1 ?_
    have hlt : i < v.l.length := by omega
    have hw : IntKind.wrap .i64 ((i : Int) + 1) = ((i + 1 : Nat) : Int) := by rw [wrap64] <;> omega
    have hw2 : IntKind.wrap .i64 (ml - 1) = ml - 1 := by rw [wrap64] <;> omega
    have hmem : v.l[i] ∈ v.l := List.getElem_mem hlt
    have hd := List.drop_eq_getElem_cons hlt
    have hcn : cntVs (v.l.drop i) = cntV v.l[i] + cntVs (v.l.drop (i + 1)) := by rw [hd, cntVs]
    by_cases hn : 0 ≤ left
    · obtain ⟨q, hq, hq1, hq2, hq3⟩ := ih _ hmem left [] ⟨hn, hl.2⟩
      have nx := fun s' bx' => ihr (i + 1) q s' bx' (by omega) (by omega) (by omega)
      simp [h1, h2, h3, b3, h7, hlt, hn, hw, hw2, hq, -Int.natCast_add]
      refine (nx _ _ ?_ ?_ ?_ ?_ ?_).mono ?_
      iterate 5 simp [h2, h3, b3]
      rintro e s' b' st ⟨rfl, rfl, q2, g1, g2, g3, g4⟩
      refine ⟨rfl, rfl, q2, g1, g2, by omega, fun g => ?_⟩
      obtain ⟨k1, k2⟩ := g4 g
      obtain ⟨k3, k4⟩ := hq3 (by omega)
      refine ⟨by omega, fun u hu => ?_⟩
      rw [hd] at hu
      rcases List.mem_cons.1 hu with rfl | hu
      · have : (ml - 1).toNat = ml.toNat - 1 := by omega
        rw [← this]; exact k4
      · have : (ml - 1).toNat = ml.toNat - 1 := by omega
        rw [← this]; exact k2 u hu
    · simp [h1, h2, h3, b3, h7, hlt, hn]
      omega

theorem c9 (v : Dv) : v.ok → ∀ (left lv : Int) (st : St), 0 ≤ left ∧ left ≤ 1000 → 0 ≤ lv ∧ lv ≤ 1000 → ∃ r, callD T (ev T) 9 [encV' v, .int .i64 left, .int .i64 lv] st = some (.int .i64 r, st) ∧ -1 ≤ r ∧ r ≤ left ∧ (0 ≤ r → r = left - cntV v ∧ smD lv.toNat v) := by
  induction v using Dv.ind with
  | h v ih =>
    intro hv left lv st hl hm
    obtain ⟨k1, k2, k3, k4, k5, k6⟩ := (Dv.ok_iff v).1 hv
    obtain ⟨q, hq, hq2⟩ := c15 v.s k4 []
    unfold encS at hq
    have hw : IntKind.wrap .i64 (left - 1) = left - 1 := by rw [wrap64] <;> omega
    by_cases bad : lv ≤ 0 ∨ 60 < v.p.length ∨ q = true
    · refine ⟨-1, ?_, by omega, by omega, by omega⟩
      refine callD_pureQ (fn := F9) rfl rfl (by simp) (by simp) (by intro; rfl) ?_
      refine Ret_wp (fn := F9) rfl ?_
      rw [F9, encV'_eq]
      have c1 : ((60 : Int) < (v.p.length : Int)) = (60 < v.p.length) := propext (by omega)
      by_cases h0 : lv ≤ 0
      · simp [h0]
      · by_cases h1 : 60 < v.p.length
        · simp [h0, h1, c1]
        · obtain rfl : q = true := by simpa [h0, h1] using bad
          simp [h0, h1, c1, hq]
    · simp only [not_or] at bad
      obtain ⟨h0, h1, h2⟩ := bad
      have h2 : q = false := by simpa using h2
      subst h2
      have hlv : lv.toNat = (lv - 1).toNat + 1 := by omega
      have lo := fun s bx => l9 v k5 lv (by omega) (fun u hu left st hl => ih u hu (k6 u hu) left (lv - 1) st hl (by omega)) v.l.length 0 (left - 1) s bx (by omega) (by omega) (by omega)
      have go : Ret (ev T 9 [encV' v, .int .i64 left, .int .i64 lv] []) fun r st' => ∃ x, r = .int .i64 x ∧ -1 ≤ x ∧ x ≤ left ∧ (0 ≤ x → x = left - cntV v ∧ smD lv.toNat v) := by
        refine Ret_wp (fn := F9) rfl ?_
        rw [F9, encV'_eq]
        have c1 : ((60 : Int) < (v.p.length : Int)) = (60 < v.p.length) := propext (by omega)
        simp [h0, h1, c1, hq, hw]
        refine WL.use L9_0_p L9_0_w (lo _ _ ?_ ?_ ?_ ?_ ?_) ?_
        iterate 5 simp
        rintro e s' b' st' ⟨rfl, rfl, x, g1, g2, g3, g4⟩ hf
        simp only [List.drop_zero] at g4
        simp [g1]
        refine ⟨g2, by omega, fun g => ?_⟩
        obtain ⟨f1, f2⟩ := g4 g
        rw [cntV_eq, hlv]
        have := cntVs_len v.l
        exact ⟨by omega, by omega, hq2 rfl, by omega, f2⟩
      obtain ⟨r, st1, hr, x, rfl, g⟩ := go
      exact ⟨x, callD_pure (fn := F9) (st2 := st1) rfl rfl (by simp) hr (by simp) (by simp), g⟩

theorem c4 (v : Dv) (hv : v.ok) (st : St) : ∃ q, callD T (ev T) 4 [encV' v] st = some (.bool q, st) ∧ (q = false → cntV v ≤ 80 ∧ smD 20 v) := by
  obtain ⟨r, h1, h2, h3, h4⟩ := c9 v hv 80 20 [] (by omega) (by omega)
  rw [encV'_eq] at h1
  refine ⟨decide (r < 0), ?_, fun h => ?_⟩
  · refine callD_pureQ (fn := F4) rfl rfl (by simp) (by simp) (by intro; rfl) ?_
    refine Ret_wp (fn := F4) rfl ?_
    rw [F4, encV'_eq]
    simp [h1]
  · simp only [decide_eq_false_iff_not] at h
    obtain ⟨g1, g2⟩ := h4 (by omega)
    exact ⟨by omega, g2⟩
end Go.Nt.Ds

/-
  DERIVATIONS, walked (3): one list behind another (slices.Concat of two).
  No condition.
-/
set_option linter.unusedSimpArgs false
namespace Go.Nt.Ds
open Go Go.Nt

theorem c24 (n : Int) (hn : 0 ≤ n ∧ n ≤ 100000000) (st : St) : callD T (ev T) 24 [.nils, .int .i64 n] st = some (if n = 0 then (.nils, st) else (.rs st.length 0 1 0 0 false, st ++ [.cells false 1 0 0 false (List.replicate n.toNat (.int .i64 0))])) := by
  rw [callD_rawE (fn := F24) rfl rfl (by simp)]
  have go : Ret (ev T 24 [.nils, .int .i64 n] st) fun r st' => (r, st') = (if n = 0 then (.nils, st) else (.rs st.length 0 1 0 0 false, st ++ [.cells false 1 0 0 false (List.replicate n.toNat (.int .i64 0))])) := by
    refine Ret_wp (fn := F24) rfl ?_
    rw [F24]
    have h0 : ¬ n < 0 := by omega
    have hm : n ≤ (most : Int) := by have : (most : Int) = 134217728 := rfl; omega
    have w0 : IntKind.wrap .i64 0 = 0 := by rw [wrap64] <;> omega
    have w1 : IntKind.wrap .i64 n = n := by rw [wrap64] <;> omega
    by_cases hz : n = 0
    · subst hz; simp [w0, lenD]
    · have hp : 0 < n := by omega
      simp [h0, hp, w0, w1, lenD, hz, sliceD, boundD, slcTy, hm]
      omega
  obtain ⟨r, st', h1, h2⟩ := go
  rw [h1, h2]
/-- How one list behind another is kept. -/
def catF (l : List Int) : Fl := if l = [] then .nil else .part

theorem app_row (v m : Nat) (els : List D) (len : Nat) (l : List Int) (hl : l ≠ []) (hv : v ≤ 1000) (hlen : len ≤ els.length) (he : els.length ≤ 3000000) (hb : l.length ≤ 1000000) :
    appendD [.cells false 1 v m false els] (.rs 0 v 1 0 len false) (l.map (.int .i64)) 1 = some (.rs 0 (v + 1) 1 0 (len + l.length) false, [.cells false 1 (v + 1) (m + 1) false (els.take len ++ l.map (.int .i64))]) := by
  have h1 : ¬ most < l.length := by unfold most; omega
  have h2 : els.length ≤ most := by unfold most; omega
  have h3 : v + 1 < tagB := by unfold tagB; omega
  simp [appendD, h1, h2, h3, hl, hlen]
theorem app_row0 (v m : Nat) (els : List D) (len : Nat) (hlen : len ≤ els.length) (he : els.length ≤ 3000000) :
    appendD [.cells false 1 v m false els] (.rs 0 v 1 0 len false) [] 1 = some (.rs 0 v 1 0 len false, [.cells false 1 v m false els]) := by
  have h2 : els.length ≤ most := by unfold most; omega
  simp [appendD, h2, hlen]

theorem c18 (a b : List Int) (fa fb : Fl) (ha : a.length ≤ 1000000) (hb : b.length ≤ 1000000) (st : St) :
    callD T (ev T) 18 [.sl 1 true [numsE fa a, numsE fb b]] st = some (numsE (catF (a ++ b)) (a ++ b), st) := by
  refine callD_pureR (fn := F18) rfl rfl (by simp) (by simp) ?_
  refine Ret_wp (fn := F18) rfl ?_
  rw [F18]
  have wz : IntKind.wrap .i64 0 = 0 := by rw [wrap64] <;> omega
  have w0 : IntKind.wrap .i64 1 = 1 := by rw [wrap64] <;> omega
  have w2 : IntKind.wrap .i64 2 = 2 := by rw [wrap64] <;> omega
  have wa : IntKind.wrap .i64 (a.length : Int) = a.length := by rw [wrap64] <;> omega
  have wb : IntKind.wrap .i64 ((a.length : Int) + b.length) = ((a.length + b.length : Nat) : Int) := by rw [wrap64] <;> omega
  have q := c24 ((a.length + b.length : Nat) : Int) (by omega) []
  have h0 : ¬ ((a.length : Int) < 0) := by omega
  have h1 : ¬ (((a.length + b.length : Nat) : Int) < 0) := by omega
  have le : ∀ st q, lenD st .slice (.sl 1 true [numsE fa a, numsE fb b]) q = some (.i 2) := fun _ _ => rfl
  have i0 : idxAD (.sl 1 true [numsE fa a, numsE fb b]) 0 1 none none = some (.iptr (numsE fa a)) := by simp [idxAD]
  have i1 : idxAD (.sl 1 true [numsE fa a, numsE fb b]) 1 1 none none = some (.iptr (numsE fb b)) := by simp [idxAD]
  by_cases hz : a = [] ∧ b = []
  · obtain ⟨rfl, rfl⟩ := hz
    simp at q
    simp [WL_un L18_0.eq_1, WL_un L18_1.eq_1, wz, w0, w2, q, catF, le, i0, i1, appendD, slE]
    rfl
  · have hn : ¬ (((a.length + b.length : Nat) : Int) = 0) := by
      intro g
      exact hz ⟨List.eq_nil_of_length_eq_zero (by omega), List.eq_nil_of_length_eq_zero (by omega)⟩
    rw [if_neg hn] at q
    simp only [List.length_nil, List.nil_append, Int.toNat_natCast] at q
    have hr : (List.replicate (a.length + b.length) (D.int .i64 0)).length ≤ 3000000 := by simp; omega
    generalize List.replicate (a.length + b.length) (D.int .i64 0) = z at *
    have A1 := app_row 0 0 z 0 a
    have A0 := app_row0 0 0 z 0 (by omega) hr
    have B1 := app_row 0 0 z 0 b
    have B2 := app_row 1 1 (a.map (.int .i64)) a.length b
    have B0 := app_row0 1 1 (a.map (.int .i64)) a.length (by simp) (by simp; omega)
    by_cases ea : a = []
    · have eb : b ≠ [] := fun e => hz ⟨ea, e⟩
      have B1 := B1 eb (by omega) (by omega) hr hb
      subst ea
      simp at q wb B1 A0
      simp [WL_un L18_0.eq_1, WL_un L18_1.eq_1, wz, w0, w2, wb, h0, h1, q, catF, le, i0, i1, A0, B1, eb, slE, -Int.natCast_add]
      rw [List.take_of_length_le (by simp)]
    · have A1 := A1 ea (by omega) (by omega) hr ha
      simp at A1 B2 B0
      by_cases eb : b = []
      · subst eb
        simp at q wb
        simp [WL_un L18_0.eq_1, WL_un L18_1.eq_1, wz, w0, w2, wa, wb, h0, h1, q, catF, le, i0, i1, A1, B0, ea, slE, -Int.natCast_add]
        rw [List.take_of_length_le (by simp)]
      · have B2 := B2 eb (by omega) hb
        simp [WL_un L18_0.eq_1, WL_un L18_1.eq_1, wz, w0, w2, wa, wb, h0, h1, q, catF, le, i0, i1, A1, B2, ea, eb, slE, -Int.natCast_add]
        rw [List.take_of_length_le (by simp), List.take_of_length_le (by simp)]
end Go.Nt.Ds

/-
  DERIVATIONS, walked (4): the steps, gathered.
  No condition.
-/
set_option linter.unusedSimpArgs false
namespace Go.Nt.Ds
open Go Go.Nt

/-- What was gathered: the steps, the path, the error. -/
structure Gr where
  out : List Stp
  pf : Fl
  path : List Int
  e : Int

mutual
  def seeM : Dv → Gr → Gr
    | .mk k pf p s fl l, g =>
      if g.e ≠ 0 then g else
      if k < 1 ∨ 3 < k then { g with e := 23 } else
      if fineD (.mk k pf p s fl l) = false then { g with e := 2 } else
      if k = 1 then (if 64 ≤ g.out.length then { g with e := 3 } else { g with out := g.out ++ [{ s with pf := catF (g.path ++ s.p), p := g.path ++ s.p }] }) else
      { seesM l { g with pf := catF (g.path ++ p), path := g.path ++ p } with pf := g.pf, path := g.path }
  def seesM : List Dv → Gr → Gr
    | [], g => g
    | d :: l, g => seesM l (seeM d g)
end
theorem seeM_eq (d : Dv) (g : Gr) : seeM d g = if g.e ≠ 0 then g else
      if d.k < 1 ∨ 3 < d.k then { g with e := 23 } else
      if fineD d = false then { g with e := 2 } else
      if d.k = 1 then (if 64 ≤ g.out.length then { g with e := 3 } else { g with out := g.out ++ [{ d.s with pf := catF (g.path ++ d.s.p), p := g.path ++ d.s.p }] }) else
      { seesM d.l { g with pf := catF (g.path ++ d.p), path := g.path ++ d.p } with pf := g.pf, path := g.path } := by
  cases d; simp only [seeM, Dv.k, Dv.p, Dv.s, Dv.l]; rfl

mutual
  theorem seeM_in : ∀ (d : Dv) (g : Gr), (seeM d g).pf = g.pf ∧ (seeM d g).path = g.path ∧ (g.out.length ≤ 64 → (seeM d g).out.length ≤ 64)
    | .mk k pf p s fl l, g => by
      rw [seeM_eq]
      split
      · exact ⟨rfl, rfl, id⟩
      · split
        · exact ⟨rfl, rfl, id⟩
        · split
          · exact ⟨rfl, rfl, id⟩
          · split
            · split
              · exact ⟨rfl, rfl, id⟩
              · exact ⟨rfl, rfl, fun h => by simp; omega⟩
            · refine ⟨rfl, rfl, fun h => ?_⟩
              exact (seesM_in l _).2.2 h
  theorem seesM_in : ∀ (l : List Dv) (g : Gr), (seesM l g).pf = g.pf ∧ (seesM l g).path = g.path ∧ (g.out.length ≤ 64 → (seesM l g).out.length ≤ 64)
    | [], g => ⟨rfl, rfl, id⟩
    | d :: l, g => by
      obtain ⟨h1, h2, h3⟩ := seeM_in d g
      obtain ⟨k1, k2, k3⟩ := seesM_in l (seeM d g)
      rw [seesM]
      exact ⟨k1.trans h1, k2.trans h2, fun h => k3 (h3 h)⟩
end

/-- The steps' row. -/
def OutR (out : List Stp) (o : D) (rest : St) : Prop :=
  (out = [] ∧ o = .nils ∧ rest = []) ∨ ∃ j md, out ≠ [] ∧ j ≤ out.length ∧ o = .rs 1 j 10 0 out.length false ∧ rest = [.cells false 10 j md false (out.map encS)]
/-- The gatherer in the heap. -/
def GS (g : Gr) (st : St) : Prop := ∃ m o rest, OutR g.out o rest ∧ st = .cells true 3 0 m false [.agg [o, numsE g.pf g.path, .int .i64 g.e]] :: rest

theorem OutR.facts {out : List Stp} {o : D} {rest : St} (h : OutR out o rest) : o.okv = true ∧ o.cells = [o] ∧ o.fits none = true ∧ ∀ st q, lenD st .slice o q = some (.i out.length) := by
  rcases h with ⟨rfl, rfl, _⟩ | ⟨j, md, _, _, rfl, _⟩
  · exact ⟨rfl, rfl, rfl, fun _ _ => rfl⟩
  · exact ⟨rfl, rfl, rfl, fun _ _ => rfl⟩
theorem OutR.app {out : List Stp} {o : D} {rest : St} (h : OutR out o rest) (hl : out.length ≤ 64) (ob : Ob) (s : Stp) :
    ∃ o' rest', appendD (ob :: rest) o [encS s] 10 = some (o', ob :: rest') ∧ OutR (out ++ [s]) o' rest' := by
  rcases h with ⟨rfl, rfl, rfl⟩ | ⟨j, md, hne, hj, rfl, rfl⟩
  · exact ⟨.rs 1 0 10 0 1 false, [.cells false 10 0 0 false [encS s]], by simp [appendD, most], .inr ⟨0, 0, by simp, by simp, by simp, by simp⟩⟩
  · refine ⟨.rs 1 (j + 1) 10 0 (out.length + 1) false, [.cells false 10 (j + 1) (md + 1) false ((out ++ [s]).map encS)], ?_, .inr ⟨j + 1, md + 1, by simp, by simp; omega, by simp, rfl⟩⟩
    have h1 : j + 1 < tagB := by unfold tagB; omega
    have h2 : out.length ≤ most := by unfold most; omega
    simp [appendD, h1, h2, most]
    rw [List.take_of_length_le (by simp)]
    exact ⟨by omega, rfl⟩

theorem l19 (fl : Fl) (l : List Dv) (hl : l.length ≤ 1000000) (B : Nat)
    (ih : ∀ d, d ∈ l → ∀ (g : Gr) (st : St), GS g st → g.out.length ≤ 64 → g.path.length ≤ B → ∃ st', callD T (ev T) 11 [.hp 0 0 3 0 0, encV' d] st = some (.tup [], st') ∧ GS (seeM d g) st') :
    ∀ (r i : Nat) (g : Gr) (s : List D) (bx : List (Nat × List D)) (st : St), r = l.length - i → i ≤ l.length → GS g st → g.out.length ≤ 64 → g.path.length ≤ B →
      get s 6 = slE 13 fl (encVs' l) → get s 1 = .fn 11 [.hp 0 0 3 0 0] [] → get s 7 = .i l.length → get s 8 = .int .i64 i →
    Stops (lp T L19_0 ⟨⟨s, bx⟩, st⟩) fun e _ _ st' => e = .exit 0 ∧ GS (seesM (l.drop i) g) st' := by
  intro r
  induction r with
  | zero =>
    intro i g s bx st hr hi hG ho hp h6 h1 h7 h8
    have e : i = l.length := by omega
    subst e
    refine Stops_wp L19_0.eq_1 ?_
    rw [List.drop_length, seesM]
    simp [h6, h1, h7, h8, hG]
  | succ r ihr =>
    intro i g s bx st hr hi hG ho hp h6 h1 h7 h8
    have hlt : i < l.length := by omega
    have hw : IntKind.wrap .i64 ((i : Int) + 1) = ((i + 1 : Nat) : Int) := by rw [wrap64] <;> omega
    have hd := List.drop_eq_getElem_cons hlt
    obtain ⟨st1, q, hG1⟩ := ih l[i] (List.getElem_mem hlt) g st hG ho hp
    obtain ⟨_, k2, k3⟩ := seeM_in l[i] g
    have nx := fun s' bx' => ihr (i + 1) (seeM l[i] g) s' bx' st1 (by omega) (by omega) hG1 (k3 ho) (by rw [k2]; exact hp)
    rw [hd, seesM]
    rw [encV'_eq] at q
    refine Stops_wp L19_0.eq_1 ?_
    simp [h6, h1, h7, h8, hlt, hw, q, -Int.natCast_add]
    refine nx _ _ ?_ ?_ ?_ ?_ <;> simp [h6, h1, h7]

theorem c19 (fl : Fl) (l : List Dv) (hl : l.length ≤ 1000000) (B : Nat)
    (ih : ∀ d, d ∈ l → ∀ (g : Gr) (st : St), GS g st → g.out.length ≤ 64 → g.path.length ≤ B → ∃ st', callD T (ev T) 11 [.hp 0 0 3 0 0, encV' d] st = some (.tup [], st') ∧ GS (seeM d g) st')
    (g : Gr) (st : St) (hG : GS g st) (ho : g.out.length ≤ 64) (hp : g.path.length ≤ B) :
    ∃ st', callD T (ev T) 19 [slE 13 fl (encVs' l), .fn 11 [.hp 0 0 3 0 0] []] st = some (.tup [], st') ∧ GS (seesM l g) st' := by
  rw [callD_rawE (fn := F19) rfl rfl (by simp)]
  have go : Ret (ev T 19 [slE 13 fl (encVs' l), .fn 11 [.hp 0 0 3 0 0] []] st) fun r st' => r = .tup [] ∧ GS (seesM l g) st' := by
    refine Ret_wp (fn := F19) rfl ?_
    rw [F19]
    have lo := fun s bx => l19 fl l hl B ih l.length 0 g s bx st (by omega) (by omega) hG ho hp
    simp
    refine WL.use L19_0_p L19_0_w (lo _ _ ?_ ?_ ?_ ?_) ?_
    iterate 4 simp
    rintro e s' b' st' ⟨rfl, hG'⟩ hf
    simp only [List.drop_zero] at hG'
    simp [hG']
  obtain ⟨r, st', h1, rfl, h2⟩ := go
  exact ⟨st', h1, h2⟩

theorem see : ∀ (n : Nat) (d : Dv), smD n d → d.ok → ∀ (g : Gr) (st : St), GS g st → g.out.length ≤ 64 → g.path.length + 60 * n ≤ 10000 → ∃ st', callD T (ev T) 11 [.hp 0 0 3 0 0, encV' d] st = some (.tup [], st') ∧ GS (seeM d g) st'
  | 0, d, hs, _, _, _, _, _, _ => by cases hs
  | n + 1, d, hs, hok, g, st, hG, ho, hp => by
    obtain ⟨s1, ⟨s2, s3, s4⟩, s6, s5⟩ := hs
    obtain ⟨_, k2, _, _, k5, k6⟩ := (Dv.ok_iff d).1 hok
    obtain ⟨m, o, rest, hO, rfl⟩ := hG
    obtain ⟨o1, o2, o3, o4⟩ := hO.facts
    rw [callD_rawE (fn := F11) rfl rfl (by simp)]
    have go : Ret (ev T 11 [.hp 0 0 3 0 0, encV' d] (.cells true 3 0 m false [.agg [o, numsE g.pf g.path, .int .i64 g.e]] :: rest)) fun r st' => r = .tup [] ∧ GS (seeM d g) st' := by
      refine Ret_wp (fn := F11) rfl ?_
      rw [F11, encV'_eq, seeM_eq]
      by_cases he : g.e = 0
      · by_cases h1 : d.k < 1
        · simp [he, h1, kHs, splice, o1, o2, o3]
          exact ⟨m + 1, o, rest, hO, rfl⟩
        · by_cases h3 : 3 < d.k
          · simp [he, h1, h3, kHs, splice, o1, o2, o3]
            exact ⟨m + 1, o, rest, hO, rfl⟩
          · have q := c17 d (.cells true 3 0 m false [.agg [o, numsE g.pf g.path, .int .i64 g.e]] :: rest)
            rw [encV'_eq, he] at q
            cases hf : fineD d with
            | false =>
              rw [hf] at q
              simp [he, h1, h3, q, kHs, splice, o1, o2, o3]
              exact ⟨m + 1, o, rest, hO, rfl⟩
            | true =>
              rw [hf] at q
              by_cases hk : d.k = 1
              · unfold Dv.cl at q
                simp only [hk] at q
                by_cases h64 : 64 ≤ g.out.length
                · have c64 : ((64 : Int) ≤ (g.out.length : Int)) = True := eq_true (by omega)
                  simp [he, hk, q, h64, c64, kHs, splice, o1, o2, o3, o4]
                  exact ⟨m + 1, o, rest, hO, rfl⟩
                · have c64 : ((64 : Int) ≤ (g.out.length : Int)) = False := eq_false (by omega)
                  have qc := c18 g.path d.s.p g.pf d.s.pf (by omega) (by omega) (.cells true 3 0 m false [.agg [o, numsE g.pf g.path, .int .i64 g.e]] :: rest)
                  rw [he] at qc
                  obtain ⟨o', rest', qa, hO'⟩ := hO.app (by omega) (.cells true 3 0 m false [.agg [o, numsE g.pf g.path, .int .i64 g.e]]) { d.s with pf := catF (g.path ++ d.s.p), p := g.path ++ d.s.p }
                  obtain ⟨r1, r2, r3, r4⟩ := hO'.facts
                  unfold encS at qa
                  rw [he] at qa
                  simp only [Stp.cl, numsE, List.map_append] at qa
                  simp [he, hk, q, h64, c64, kHs, splice, o1, o2, o3, o4, qc, qa, r1, r2, r3]
                  exact ⟨m + 1, o', rest', hO', by simp [he]⟩
              · have qc := c18 g.path d.p g.pf d.pf (by omega) (by omega) (.cells true 3 0 m false [.agg [o, numsE g.pf g.path, .int .i64 g.e]] :: rest)
                rw [he] at qc
                have hG' : GS { g with pf := catF (g.path ++ d.p), path := g.path ++ d.p } (.cells true 3 0 (m + 1) false [.agg [o, numsE (catF (g.path ++ d.p)) (g.path ++ d.p), .int .i64 g.e]] :: rest) := ⟨m + 1, o, rest, hO, rfl⟩
                rw [he] at hG'
                obtain ⟨st1, qe, m1, o1', rest1, hO1, rfl⟩ := c19 d.fl d.l (by omega) (g.path.length + 60) (fun u hu g' st' hg ho' hp' => see n u (s5 u hu) (k6 u hu) g' st' hg ho' (by omega)) _ _ hG' ho (by simp; omega)
                simp only [numsE, List.map_append] at qe
                obtain ⟨r1, r2, r3, r4⟩ := hO1.facts
                obtain ⟨v1, v2, v3⟩ := seesM_in d.l { g with pf := catF (g.path ++ d.p), path := g.path ++ d.p }
                simp [he, h1, h3, hk, q, kHs, splice, o1, o2, o3, qc, qe, r1, r2, r3]
                exact ⟨m1 + 1, o1', rest1, hO1, rfl⟩
      · simp [he, o1, o2, o3]
        exact ⟨m, o, rest, hO, rfl⟩
    obtain ⟨r, st', h1, rfl, h2⟩ := go
    exact ⟨st', h1, h2⟩

/-- Of a run that erred, no steps. -/
theorem c6 (d : Dv) (hs : smD 20 d) (hok : d.ok) (st : St) :
    callD T (ev T) 6 [encV' d] st = some (if (seeM d ⟨[], .nil, [], 0⟩).e ≠ 0 then .tup [.nils, .int .i64 (seeM d ⟨[], .nil, [], 0⟩).e] else
      .tup [slE 10 (if (seeM d ⟨[], .nil, [], 0⟩).out = [] then .nil else .part) ((seeM d ⟨[], .nil, [], 0⟩).out.map encS), .int .i64 0], st) := by
  obtain ⟨st1, q, m, o, rest, hO, rfl⟩ := see 20 d hs hok ⟨[], .nil, [], 0⟩ [.cells true 3 0 0 false [.agg [.nils, .nils, .int .i64 0]]] ⟨0, .nils, [], .inl ⟨rfl, rfl, rfl⟩, rfl⟩ (by simp) (by simp)
  generalize seeM d ⟨[], .nil, [], 0⟩ = g at *
  obtain ⟨o1, o2, o3, o4⟩ := hO.facts
  rw [encV'_eq] at q ⊢
  by_cases he : g.e = 0
  · refine callD_pureR (fn := F6) rfl rfl (by simp) (by split <;> simp) ?_
    refine Ret_wp (fn := F6) rfl ?_
    rw [F6]
    rcases hO with ⟨h1, rfl, rfl⟩ | ⟨j, md, hne, hj, rfl, rfl⟩
    · have z : slE 10 .nil ([] : List D) = .nils := rfl
      simp [q, he, h1, z]
    · have z : ∀ ds : List D, slE 10 .part ds = .sl 10 false ds := fun _ => rfl
      simp [q, he, hne, z]
      rw [List.take_of_length_le (by simp)]
  · refine callD_pureR (fn := F6) rfl rfl (by simp) (by split <;> simp) ?_
    refine Ret_wp (fn := F6) rfl ?_
    rw [F6]
    simp [q, he, o1, o2, o3]
end Go.Nt.Ds

/-
  DERIVATIONS, walked (5): the reference's steps.
  No condition.
-/
set_option linter.unusedSimpArgs false
namespace Go.Nt.Ds
open Go Go.Nt

/-- How one list behind another is kept by the reference. -/
def refF (l : List Int) : Fl := if l = [] then .emp else .part

mutual
  /-- The steps of a derivation below a path, behind others; the error. -/
  def belowM : Dv → List Int → List Stp → List Stp × Int
    | .mk k _ p s _ l, path, ahead =>
      if k ≠ 1 ∧ k ≠ 2 ∧ k ≠ 3 then (ahead, 23) else
      if (k ≠ 3 ∧ p ≠ []) ∨ (k = 1 ∧ l ≠ []) ∨ (k ≠ 1 ∧ bareS s = false) then (ahead, 2) else
      if k = 1 then (if 64 ≤ ahead.length then (ahead, 3) else (ahead ++ [{ s with pf := refF (path ++ s.p), p := path ++ s.p }], 0)) else
      belowsM l (path ++ p) ahead
  def belowsM : List Dv → List Int → List Stp → List Stp × Int
    | [], _, ahead => (ahead, 0)
    | d :: l, path, ahead => if (belowM d path ahead).2 ≠ 0 then belowM d path ahead else belowsM l path (belowM d path ahead).1
end
theorem belowM_eq (d : Dv) (path : List Int) (ahead : List Stp) : belowM d path ahead =
      if d.k ≠ 1 ∧ d.k ≠ 2 ∧ d.k ≠ 3 then (ahead, 23) else
      if (d.k ≠ 3 ∧ d.p ≠ []) ∨ (d.k = 1 ∧ d.l ≠ []) ∨ (d.k ≠ 1 ∧ bareS d.s = false) then (ahead, 2) else
      if d.k = 1 then (if 64 ≤ ahead.length then (ahead, 3) else (ahead ++ [{ d.s with pf := refF (path ++ d.s.p), p := path ++ d.s.p }], 0)) else
      belowsM d.l (path ++ d.p) ahead := by
  cases d; simp only [belowM, Dv.k, Dv.p, Dv.s, Dv.l]; rfl

mutual
  theorem belowM_len : ∀ (d : Dv) (path : List Int) (ahead : List Stp), ahead.length ≤ 64 → (belowM d path ahead).1.length ≤ 64
    | .mk k pf p s fl l, path, ahead, h => by
      rw [belowM_eq]
      split
      · exact h
      · split
        · exact h
        · split
          · split
            · exact h
            · simp; omega
          · exact belowsM_len l _ ahead h
  theorem belowsM_len : ∀ (l : List Dv) (path : List Int) (ahead : List Stp), ahead.length ≤ 64 → (belowsM l path ahead).1.length ≤ 64
    | [], path, ahead, h => h
    | d :: l, path, ahead, h => by
      rw [belowsM]
      split
      · exact belowM_len d path ahead h
      · exact belowsM_len l path _ (belowM_len d path ahead h)
end

theorem app_new (st : St) (sz : Nat) (xs : List D) (h : xs.length ≤ 1000000) :
    appendD st (.sl sz true []) xs sz = some (if xs = [] then (.sl sz true [], st) else (.rs st.length 0 sz 0 xs.length false, st ++ [.cells false sz 0 0 false xs])) := by
  have h1 : ¬ most < xs.length := by unfold most; omega
  cases xs with
  | nil => simp [appendD, most]
  | cons x xs => simp [appendD, h1, most]; simp [most] at h1; omega
theorem app_last (st : St) (sz : Nat) (xs ys : List D) (hx : xs.length ≤ 1000000) (hy : ys.length ≤ 1000000) (hn : ys ≠ []) :
    appendD (st ++ [.cells false sz 0 0 false xs]) (.rs st.length 0 sz 0 xs.length false) ys sz = some (.rs st.length 1 sz 0 (xs.length + ys.length) false, st ++ [.cells false sz 1 1 false (xs ++ ys)]) := by
  have h1 : ¬ most < ys.length := by unfold most; omega
  have h2 : xs.length ≤ most := by unfold most; omega
  have h3 : 1 < tagB := by unfold tagB; omega
  simp [appendD, h1, h2, h3, hn, at_last]

/-- A path, grown in a heap of its own. -/
def InS (l : List Int) (x : D) (st : St) : Prop :=
  (l = [] ∧ x = .sl 1 true [] ∧ st = []) ∨ ∃ v md fr, l ≠ [] ∧ x = .rs 0 v 1 0 l.length false ∧ st = [.cells false 1 v md fr (l.map (.int .i64))]

theorem InS.facts {l : List Int} {x : D} {st : St} (h : InS l x st) : x.okv = true ∧ x.cells = [x] ∧ x.fits none = true ∧ ∃ st', fz1 st x = some (numsE (refF l) l, st') ∧ InS l x st' := by
  rcases h with ⟨rfl, rfl, rfl⟩ | ⟨v, md, fr, hl, rfl, rfl⟩
  · exact ⟨rfl, rfl, rfl, [], by simp [refF, fz1, fz0]; rfl, .inl ⟨rfl, rfl, rfl⟩⟩
  · refine ⟨rfl, rfl, rfl, ?_⟩
    cases fr with
    | true => exact ⟨_, by simp [fz1, refF, hl, slE]; rw [List.take_of_length_le (by simp)], .inr ⟨v, md, true, hl, rfl, rfl⟩⟩
    | false => exact ⟨[.cells false 1 v (md + 1) true (l.map (.int .i64))], by simp [fz1, refF, hl, slE]; rw [List.take_of_length_le (by simp)], .inr ⟨v, md + 1, true, hl, rfl, rfl⟩⟩

/-- Two lists, one behind the other, as the reference lays them. -/
theorem app_two (a b : List Int) (ha : a.length ≤ 100000) (hb : b.length ≤ 100000) :
    ∃ x1 st1 x st, appendD [] (.sl 1 true []) (a.map (.int .i64)) 1 = some (x1, st1) ∧ appendD st1 x1 (b.map (.int .i64)) 1 = some (x, st) ∧ InS (a ++ b) x st := by
  have n1 := app_new [] 1 (a.map (.int .i64)) (by simp; omega)
  by_cases ea : a = []
  · subst ea
    have n1 : appendD [] (.sl 1 true []) (([] : List Int).map (.int .i64)) 1 = some (.sl 1 true [], []) := by simpa using n1
    have n2 := app_new [] 1 (b.map (.int .i64)) (by simp; omega)
    by_cases eb : b = []
    · subst eb
      exact ⟨_, _, _, _, n1, n1, .inl ⟨rfl, rfl, rfl⟩⟩
    · rw [if_neg (by simpa using eb)] at n2
      exact ⟨_, _, _, _, n1, n2, .inr ⟨0, 0, false, by simpa using eb, by simp, by simp⟩⟩
  · rw [if_neg (by simpa using ea)] at n1
    by_cases eb : b = []
    · subst eb
      refine ⟨_, _, .rs 0 0 1 0 a.length false, [.cells false 1 0 0 false (a.map (.int .i64))], n1, ?_, .inr ⟨0, 0, false, by simpa using ea, by simp, by simp⟩⟩
      simp [appendD, most]
      omega
    · have n2 := app_last [] 1 (a.map (.int .i64)) (b.map (.int .i64)) (by simp; omega) (by simp; omega) (by simpa using eb)
      exact ⟨_, _, _, _, n1, n2, .inr ⟨1, 1, false, by simp [ea], by simp, by simp⟩⟩

/-- A list and one more, as the reference lays them. -/
theorem app_one (st : St) (a : List Stp) (s : Stp) (ha : a.length ≤ 64) :
    ∃ x1 st1 x st2, appendD st (.sl 10 true []) (a.map encS) 10 = some (x1, st1) ∧ appendD st1 x1 [encS s] 10 = some (x, st2) ∧ x.okv = true ∧ ∃ st3, fz1 st2 x = some (slE 10 .part ((a ++ [s]).map encS), st3) := by
  have n1 := app_new st 10 (a.map encS) (by simp; omega)
  by_cases ea : a = []
  · subst ea
    have n2 := app_new st 10 [encS s] (by simp)
    refine ⟨_, _, _, _, n1, by simpa using n2, rfl, ?_⟩
    simp [fz1, at_last, slE]
  · rw [if_neg (by simpa using ea)] at n1
    have n2 := app_last st 10 (a.map encS) [encS s] (by simp; omega) (by simp) (by simp)
    refine ⟨_, _, _, _, n1, n2, rfl, ?_⟩
    simp [fz1, at_last, slE]
    rw [List.take_of_length_le (by simp)]

/-- A call with a path that lies in the heap. -/
theorem call_in {u : Dv} {l : List Int} {y r : D} (hy : ∀ st, fz1 st y = some (y, st)) (hyp : y.pure = true) (h : callD T (ev T) 12 [encV' u, numsE (refF l) l, y] [] = some (r, [])) {x : D} {st : St} (hx : InS l x st) :
    ∃ st', callD T (ev T) 12 [encV' u, x, y] st = some (r, st') ∧ InS l x st' := by
  obtain ⟨x1, x2, x3, st', hf, hi⟩ := hx.facts
  refine ⟨st', ?_, hi⟩
  have p1 : pureArgs st [encV' u, x, y] = some ([encV' u, numsE (refF l) l, y], st') := by simp [hf, hy, hyp]
  have p2 : pureArgs ([] : St) [encV' u, numsE (refF l) l, y] = some ([encV' u, numsE (refF l) l, y], []) := by simp [hy, hyp]
  simp only [callD, show T 12 = some F12 from rfl, show F12.mode = .pure from rfl, p2, Option.bind_some] at h
  simp only [callD, show T 12 = some F12 from rfl, show F12.mode = .pure from rfl, p1, Option.bind_some]
  cases hev : ev T 12 [encV' u, numsE (refF l) l, y] [] with
  | none => rw [hev] at h; simp at h
  | some q =>
    rw [hev] at h
    simp only [Option.bind_some] at h ⊢
    cases hz : fz q.2 q.1 with
    | none => rw [hz] at h; simp at h
    | some z =>
      rw [hz] at h
      simp only [Option.bind_some] at h ⊢
      split at h
      · rename_i hp
        rw [if_pos hp]
        simp only [Option.some.injEq, Prod.mk.injEq, and_true] at h
        rw [h]
      · cases h
def resD (fl : Fl) (x : List Stp × Int) : D := .tup [slE 10 fl (x.1.map encS), .int .i64 x.2]

theorem l12 (v : Dv) (path : List Int) (hl : v.l.length ≤ 1000000)
    (ih : ∀ u, u ∈ v.l → ∀ (ahead : List Stp) (fa : Fl), ahead.length ≤ 64 → ∃ fl', callD T (ev T) 12 [encV' u, numsE (refF path) path, slE 10 fa (ahead.map encS)] [] = some (resD fl' (belowM u path ahead), [])) :
    ∀ (r i : Nat) (ahead : List Stp) (fa : Fl) (s : List D) (bx : List (Nat × List D)) (st : St) (x : D), r = v.l.length - i → i ≤ v.l.length → ahead.length ≤ 64 → InS path x st →
      get s 2 = slE 10 fa (ahead.map encS) → get s 9 = x → get s 10 = .int .i64 i → get s 3 = .lp 3 1 0 → getB bx 3 = (1, v.cl) →
    Stops (lp T L12_0 ⟨⟨s, bx⟩, st⟩) fun e s' _ _ => ∃ fl', ((belowsM (v.l.drop i) path ahead).2 = 0 ∧ e = .exit 0 ∧ get s' 2 = slE 10 fl' ((belowsM (v.l.drop i) path ahead).1.map encS)) ∨
      ((belowsM (v.l.drop i) path ahead).2 ≠ 0 ∧ e = .ret ∧ get s' 6 = slE 10 fl' ((belowsM (v.l.drop i) path ahead).1.map encS) ∧ get s' 7 = .int .i64 (belowsM (v.l.drop i) path ahead).2) := by
  intro r
  induction r with
  | zero =>
    intro i ahead fa s bx st x hr hi ha hx h2 h9 h10 h3 b3
    have e : i = v.l.length := by omega
    subst e
    refine Stops_wp L12_0.eq_1 ?_
    rw [List.drop_length, belowsM]
    simp [h2, h9, h10, h3, b3]
    exact ⟨fa, rfl⟩
  | succ r ihr =>
    intro i ahead fa s bx st x hr hi ha hx h2 h9 h10 h3 b3
    have hlt : i < v.l.length := by omega
    have hw : IntKind.wrap .i64 ((i : Int) + 1) = ((i + 1 : Nat) : Int) := by rw [wrap64] <;> omega
    have hd := List.drop_eq_getElem_cons hlt
    obtain ⟨fl1, q0⟩ := ih v.l[i] (List.getElem_mem hlt) ahead fa ha
    obtain ⟨st1, q, hx1⟩ := call_in (by simp) (by simp) q0 hx
    obtain ⟨x1, x2, x3, _⟩ := hx.facts
    have hlen := belowM_len v.l[i] path ahead ha
    unfold resD at q
    rw [hd, belowsM]
    generalize belowM v.l[i] path ahead = b at *
    by_cases hb : b.2 = 0
    · have nx := fun s' bx' => ihr (i + 1) b.1 fl1 s' bx' st1 x (by omega) (by omega) hlen hx1
      refine Stops_wp L12_0.eq_1 ?_
      simp [h2, h9, h10, h3, b3, hlt, hw, q, hb, x1, x2, x3, -Int.natCast_add]
      refine (nx _ _ ?_ ?_ ?_ ?_ ?_).mono ?_
      iterate 5 simp [h9, h3, b3]
      rintro e s' b' st' ⟨fl', h⟩
      exact ⟨fl', h⟩
    · refine Stops_wp L12_0.eq_1 ?_
      simp [h2, h9, h10, h3, b3, hlt, hw, q, hb, x1, x2, x3, -Int.natCast_add]
      exact ⟨fl1, rfl⟩

set_option maxRecDepth 20000 in
theorem c12 : ∀ (n : Nat) (d : Dv), smD n d → d.ok → ∀ (path : List Int) (ahead : List Stp) (fa : Fl), path.length + 60 * n ≤ 10000 → ahead.length ≤ 64 →
    ∃ fl', callD T (ev T) 12 [encV' d, numsE (refF path) path, slE 10 fa (ahead.map encS)] [] = some (resD fl' (belowM d path ahead), [])
  | 0, d, hs, _, _, _, _, _, _ => by cases hs
  | n + 1, d, hs, hok, path, ahead, fa, hp, ha => by
    obtain ⟨s1, ⟨s2, s3, s4⟩, s6, s5⟩ := hs
    obtain ⟨_, k2, _, _, k5, k6⟩ := (Dv.ok_iff d).1 hok
    have go : Ret (ev T 12 [encV' d, numsE (refF path) path, slE 10 fa (ahead.map encS)] []) fun r st' => ∃ fl' st2, fz st' r = some (resD fl' (belowM d path ahead), st2) := by
      refine Ret_wp (fn := F12) rfl ?_
      rw [F12, encV'_eq, belowM_eq]
      unfold resD
      have q20 := fun st => c20 d.s st
      unfold encS at q20
      have cl : ((0 : Int) < (d.l.length : Int)) = (d.l ≠ []) := propext (by cases d.l <;> simp)
      have cp : ((0 : Int) < (d.p.length : Int)) = (d.p ≠ []) := propext (by cases d.p <;> simp)
      have c64 : ((64 : Int) ≤ (ahead.length : Int)) = (64 ≤ ahead.length) := propext (by omega)
      by_cases h1 : d.k = 1
      · by_cases hpp : d.p = []
        · by_cases hll : d.l = []
          · by_cases h64 : 64 ≤ ahead.length
            · simp [h1, hpp, hll, h64, c64, cl, cp]
              exact ⟨fa, rfl⟩
            · obtain ⟨x1, st1, x, st2, a1, a2, hI⟩ := app_two path d.s.p (by omega) (by omega)
              obtain ⟨y1, y2, y3, st3, hf, hI'⟩ := hI.facts
              obtain ⟨x3, st4, x4, st5, a3, a4, hx4, st6, hz⟩ := app_one st3 ahead { d.s with pf := refF (path ++ d.s.p), p := path ++ d.s.p } ha
              unfold encS at a4
              simp only [Stp.cl, numsE, List.map_append] at a4
              simp [h1, hpp, hll, h64, c64, a1, a2, a3, a4, hf, hx4, hz]
              exact ⟨.part, by simp [encS, Stp.cl]⟩
          · have hl0 : 0 < d.l.length := List.length_pos_iff.2 hll
            simp [h1, hpp, hll, hl0]
            exact ⟨fa, rfl⟩
        · have hp0 : 0 < d.p.length := List.length_pos_iff.2 hpp
          simp [h1, hpp, hp0]
          exact ⟨fa, rfl⟩
      · have fin : d.k = 2 ∨ d.k = 3 → (d.k = 2 → d.p = []) → bareS d.s = true → WP T F12.code ⟨⟨[.agg d.cl, numsE (refF path) path, slE 10 fa (ahead.map encS)], []⟩, []⟩ (qFn F12.res fun r st' => ∃ fl' st2, fz st' r = some (.tup [slE 10 fl' ((belowsM d.l (path ++ d.p) ahead).1.map encS), .int .i64 (belowsM d.l (path ++ d.p) ahead).2], st2)) := by
          intro hk hp2 hb
          have q := q20 []
          rw [hb] at q
          obtain ⟨x1, st1, x, st2, a1, a2, hI⟩ := app_two path d.p (by omega) (by omega)
          obtain ⟨y1, y2, y3, _⟩ := hI.facts
          have lo := fun s bx => l12 d (path ++ d.p) (by omega) (fun u hu ah fa' hah => c12 n u (s5 u hu) (k6 u hu) (path ++ d.p) ah fa' (by simp; omega) hah) d.l.length 0 ahead fa s bx st2 x (by omega) (by omega) ha hI
          rw [F12]
          rcases hk with hk | hk
          · have hpl : d.p.length = 0 := by rw [hp2 hk]; rfl
            simp [hk, hpl, q, a1, a2, y1, y2, y3]
            refine WL.use L12_0_p L12_0_w (lo _ _ ?_ ?_ ?_ ?_ ?_) ?_
            iterate 5 simp
            rintro e s' b' st' ⟨fl', ⟨g1, rfl, g2⟩ | ⟨g1, rfl, g2, g3⟩⟩ hf
            · simp only [List.drop_zero] at g1 g2
              simp [g1, g2]
              exact ⟨fl', rfl⟩
            · simp only [List.drop_zero] at g1 g2 g3
              simp [g2, g3]
              exact ⟨fl', rfl⟩
          · simp [hk, q, a1, a2, y1, y2, y3]
            refine WL.use L12_0_p L12_0_w (lo _ _ ?_ ?_ ?_ ?_ ?_) ?_
            iterate 5 simp
            rintro e s' b' st' ⟨fl', ⟨g1, rfl, g2⟩ | ⟨g1, rfl, g2, g3⟩⟩ hf
            · simp only [List.drop_zero] at g1 g2
              simp [g1, g2]
              exact ⟨fl', rfl⟩
            · simp only [List.drop_zero] at g1 g2 g3
              simp [g2, g3]
              exact ⟨fl', rfl⟩
        by_cases h2 : d.k = 2
        · by_cases hpp : d.p = []
          · cases hb : bareS d.s with
            | false =>
              have q := q20 []
              rw [hb] at q
              simp [h2, hpp, hb, q]
              exact ⟨fa, rfl⟩
            | true =>
              rw [if_neg (by omega), if_neg (by simp [h2, hpp, hb]), if_neg h1]
              exact fin (.inl h2) (fun _ => hpp) hb
          · have hp0 : 0 < d.p.length := List.length_pos_iff.2 hpp
            simp [h2, hpp, hp0]
            exact ⟨fa, rfl⟩
        · by_cases h3 : d.k = 3
          · cases hb : bareS d.s with
            | false =>
              have q := q20 []
              rw [hb] at q
              simp [h3, hb, q]
              exact ⟨fa, rfl⟩
            | true =>
              rw [if_neg (by omega), if_neg (by simp [h3, hb]), if_neg h1]
              exact fin (.inr h3) (fun q => absurd q h2) hb
          · simp [h1, h2, h3]
            exact ⟨fa, rfl⟩
    obtain ⟨r, st1, hr, fl', st2, hz⟩ := go
    exact ⟨fl', callD_pure (fn := F12) rfl rfl (by simp) hr hz (by unfold resD; simp)⟩
end Go.Nt.Ds

/-
  THE LAW DerivSteps, plain and walked.
-/
set_option linter.unusedSimpArgs false
namespace Go.Nt.Ds
open Go Go.Nt

/-- A step as the reference keeps its path. -/
def rf (s : Stp) : Stp := { s with pf := refF s.p }

theorem seesM_err : ∀ (l : List Dv) (g : Gr), g.e ≠ 0 → seesM l g = g
  | [], g, _ => by rw [seesM]
  | d :: l, g, h => by
    rw [seesM, seeM_eq, if_pos h]
    exact seesM_err l g h

theorem fine_iff (d : Dv) (h1 : ¬ (d.k < 1 ∨ 3 < d.k)) : fineD d = false ↔ (d.k ≠ 3 ∧ d.p ≠ []) ∨ (d.k = 1 ∧ d.l ≠ []) ∨ (d.k ≠ 1 ∧ bareS d.s = false) := by
  unfold fineD
  by_cases e1 : d.k = 1
  · simp [e1]
    by_cases hp : d.p = [] <;> simp [hp]
  · by_cases e2 : d.k = 2
    · simp [e2]
      by_cases hp : d.p = [] <;> simp [hp]
    · have e3 : d.k = 3 := by omega
      simp [e3]

mutual
  theorem see_below : ∀ (d : Dv) (g : Gr), g.e = 0 → (seeM d g).e = (belowM d g.path (g.out.map rf)).2 ∧ ((seeM d g).e = 0 → (seeM d g).out.map rf = (belowM d g.path (g.out.map rf)).1)
    | .mk k pf p s fl l, g, he => by
      rw [seeM_eq, belowM_eq, if_neg (by simp [he])]
      by_cases h1 : (Dv.mk k pf p s fl l).k < 1 ∨ 3 < (Dv.mk k pf p s fl l).k
      · have hk : (Dv.mk k pf p s fl l).k ≠ 1 ∧ (Dv.mk k pf p s fl l).k ≠ 2 ∧ (Dv.mk k pf p s fl l).k ≠ 3 := by omega
        rw [if_pos h1, if_pos hk]
        exact ⟨rfl, fun h => by cases h⟩
      · have hk : ¬ ((Dv.mk k pf p s fl l).k ≠ 1 ∧ (Dv.mk k pf p s fl l).k ≠ 2 ∧ (Dv.mk k pf p s fl l).k ≠ 3) := by omega
        rw [if_neg h1, if_neg hk]
        have hf := fine_iff (Dv.mk k pf p s fl l) h1
        by_cases h2 : fineD (Dv.mk k pf p s fl l) = false
        · rw [if_pos h2, if_pos (hf.1 h2)]
          exact ⟨rfl, fun h => by cases h⟩
        · rw [if_neg h2, if_neg (fun q => h2 (hf.2 q))]
          by_cases h3 : (Dv.mk k pf p s fl l).k = 1
          · rw [if_pos h3, if_pos h3, List.length_map]
            by_cases h4 : 64 ≤ g.out.length
            · rw [if_pos h4, if_pos h4]
              exact ⟨rfl, fun h => by cases h⟩
            · rw [if_neg h4, if_neg h4]
              refine ⟨he, fun _ => ?_⟩
              simp [rf, Dv.s]
          · rw [if_neg h3, if_neg h3]
            exact sees_below l { g with pf := catF (g.path ++ p), path := g.path ++ p } he
  theorem sees_below : ∀ (l : List Dv) (g : Gr), g.e = 0 → (seesM l g).e = (belowsM l g.path (g.out.map rf)).2 ∧ ((seesM l g).e = 0 → (seesM l g).out.map rf = (belowsM l g.path (g.out.map rf)).1)
    | [], g, he => by rw [seesM, belowsM]; exact ⟨he, fun _ => rfl⟩
    | d :: l, g, he => by
      obtain ⟨h1, h2⟩ := see_below d g he
      rw [seesM, belowsM]
      by_cases hz : (seeM d g).e = 0
      · rw [if_neg (by rw [← h1, hz]; simp), ← h2 hz]
        have := sees_below l (seeM d g) hz
        rw [(seeM_in d g).2.1] at this
        exact this
      · rw [if_pos (by rw [← h1]; exact hz), seesM_err l _ hz]
        exact ⟨h1, fun h => absurd h hz⟩
end

mutual
  theorem seeM_ok : ∀ (d : Dv), d.ok → ∀ (n : Nat), smD n d → ∀ (g : Gr), g.path.length + 60 * n ≤ 10000 → (∀ s ∈ g.out, s.p.length ≤ 20000 ∧ s.ns.length ≤ 20000 ∧ s.t.ok) → ∀ s ∈ (seeM d g).out, s.p.length ≤ 20000 ∧ s.ns.length ≤ 20000 ∧ s.t.ok
    | .mk k pf p s fl l, hok, n, hs, g, hp, h => by
      obtain ⟨_, _, _, ⟨_, _, _, _, _, ht⟩, _, k6⟩ := (Dv.ok_iff _).1 hok
      cases n with
      | zero => cases hs
      | succ n =>
        obtain ⟨s1, ⟨s2, s3, s4⟩, s6, s5⟩ := hs
        simp only [Dv.p, Dv.s, Dv.l] at s1 s2 s3 s5 k6 ht
        rw [seeM_eq]
        split
        · exact h
        · split
          · exact h
          · split
            · exact h
            · split
              · split
                · exact h
                · intro x hx
                  simp only [List.mem_append, List.mem_cons, List.not_mem_nil, or_false] at hx
                  rcases hx with hx | rfl
                  · exact h x hx
                  · simp only [Dv.s, List.length_append]
                    exact ⟨by omega, by omega, ht⟩
              · exact seesM_ok l k6 n s5 _ (by simp [Dv.p]; omega) h
  theorem seesM_ok : ∀ (l : List Dv), (∀ u, u ∈ l → u.ok) → ∀ (n : Nat), (∀ u, u ∈ l → smD n u) → ∀ (g : Gr), g.path.length + 60 * n ≤ 10000 → (∀ s ∈ g.out, s.p.length ≤ 20000 ∧ s.ns.length ≤ 20000 ∧ s.t.ok) → ∀ s ∈ (seesM l g).out, s.p.length ≤ 20000 ∧ s.ns.length ≤ 20000 ∧ s.t.ok
    | [], _, n, _, g, hp, h => by rw [seesM]; exact h
    | d :: l, hok, n, hs, g, hp, h => by
      rw [seesM]
      have h1 := seeM_ok d (hok d (by simp)) n (hs d (by simp)) g hp h
      exact seesM_ok l (fun u hu => hok u (by simp [hu])) n (fun u hu => hs u (by simp [hu])) (seeM d g) (by rw [(seeM_in d g).2.1]; exact hp) h1
end

theorem e5 : ∃ st', ev T 5 [] [] = some (.bool true, st') := by
  have h : (evT T 60 5 [] []).map (·.1) = some (.bool true) := by kernel_rfl
  obtain ⟨⟨r, st'⟩, h1, h2⟩ := Option.map_eq_some_iff.1 h
  simp only at h2
  subst h2
  exact ⟨st', evT_ev 60 5 [] [] _ h1⟩
theorem c5 (st : St) : callD T (ev T) 5 [] st = some (.bool true, st) := by
  obtain ⟨st', h⟩ := e5
  exact callD_pure (fn := F5) (st2 := st') rfl rfl (by simp) h (by simp) (by simp)

theorem c7 (d : Dv) (hs : smD 20 d) (hok : d.ok) (st : St) : ∃ fl, callD T (ev T) 7 [encV' d] st = some (if (belowM d [] []).2 ≠ 0 then .tup [slE 10 .emp [], .int .i64 (belowM d [] []).2] else .tup [slE 10 fl ((belowM d [] []).1.map encS), .int .i64 0], st) := by
  obtain ⟨fl, q⟩ := c12 20 d hs hok [] [] .emp (by simp) (by simp)
  unfold resD at q
  rw [encV'_eq] at q ⊢
  generalize belowM d [] [] = b at *
  refine ⟨fl, ?_⟩
  have e1 : numsE (refF []) [] = .sl 1 true [] := rfl
  have e2 : slE 10 .emp (List.map encS []) = .sl 10 true [] := rfl
  rw [e1, e2] at q
  by_cases hb : b.2 = 0
  · refine callD_pureR (fn := F7) rfl rfl (by simp) (by split <;> simp) ?_
    refine Ret_wp (fn := F7) rfl ?_
    rw [F7]
    simp [q, hb]
  · refine callD_pureR (fn := F7) rfl rfl (by simp) (by split <;> simp) ?_
    refine Ret_wp (fn := F7) rfl ?_
    rw [F7]
    have z : slE 10 .emp ([] : List D) = .sl 10 true [] := rfl
    simp [q, hb, z]
theorem l3 (l : List Stp) (fl fl' : Fl) (hl : l.length ≤ 1000) (hok : ∀ s ∈ l, s.p.length ≤ 20000 ∧ s.ns.length ≤ 20000 ∧ s.t.ok) :
    ∀ (r i : Nat) (s : List D) (bx : List (Nat × List D)), r = l.length - i → i ≤ l.length → get s 3 = slE 10 fl (l.map encS) → get s 5 = slE 10 fl' ((l.map rf).map encS) → get s 7 = .int .i64 i →
    Stops (lp T L3_0 ⟨⟨s, bx⟩, []⟩) fun e _ _ st' => st' = [] ∧ e = .exit 0 := by
  intro r
  induction r with
  | zero =>
    intro i s bx hr hi h3 h5 h7
    have e : i = l.length := by omega
    subst e
    refine Stops_wp L3_0.eq_1 ?_
    simp [h3, h5, h7]
  | succ r ihr =>
    intro i s bx hr hi h3 h5 h7
    have hlt : i < l.length := by omega
    have hw : IntKind.wrap .i64 ((i : Int) + 1) = ((i + 1 : Nat) : Int) := by rw [wrap64] <;> omega
    obtain ⟨k1, k2, k3⟩ := hok l[i] (List.getElem_mem hlt)
    have q := c8 l[i] (refF l[i].p) (by omega) (by omega) k3 []
    have nx := fun s' bx' => ihr (i + 1) s' bx' (by omega) (by omega)
    have i1 : idxAD (slE 10 fl (l.map encS)) i 10 (some 10) none = some (.iptr (encS l[i])) := by
      rw [slE_idx, List.getElem?_map, List.getElem?_eq_getElem hlt]; simp
    have i2 : idxAD (slE 10 fl' ((l.map rf).map encS)) i 10 (some 10) none = some (.iptr (encS { l[i] with pf := refF l[i].p })) := by
      rw [slE_idx, List.getElem?_map, List.getElem?_map, List.getElem?_eq_getElem hlt]; simp [rf]
    refine Stops_wp L3_0.eq_1 ?_
    have f1 := encS_fits l[i]
    generalize encS l[i] = d1 at *
    simp [h3, h5, h7, hlt, hw, i1, i2, q, f1, -Int.natCast_add, -slE_idx, -List.map_map]
    refine nx _ _ ?_ ?_ ?_ <;> simp [h3, h5]

theorem ev3 (d : Dv) (hd : d.ok) : ev T 3 [encV' d] [] = some (.bool true, []) := by
  have hc5 := c5
  obtain ⟨b, q4, hb⟩ := c4 d hd []
  rw [encV'_eq] at q4
  have go : Ret (ev T 3 [encV' d] []) fun r st' => (r, st') = (.bool true, []) := by
    refine Ret_wp (fn := F3) rfl ?_
    rw [F3, encV'_eq]
    cases b with
    | true => simp [q4, hc5]
    | false =>
      obtain ⟨h80, hs⟩ := hb rfl
      have q6 := c6 d hs hd []
      obtain ⟨fl, q7⟩ := c7 d hs hd []
      rw [encV'_eq] at q6 q7
      obtain ⟨m1, m2⟩ := see_below d ⟨[], .nil, [], 0⟩ rfl
      simp only [List.map_nil] at m1 m2
      have hlen := (seeM_in d ⟨[], .nil, [], 0⟩).2.2 (by simp)
      have hok := seeM_ok d hd 20 hs ⟨[], .nil, [], 0⟩ (by simp) (by intro s hs; cases hs)
      rw [← m1] at q7
      generalize seeM d ⟨[], .nil, [], 0⟩ = g at *
      generalize belowM d [] [] = b at *
      by_cases he : g.e = 0
      · rw [← m2 he] at q7
        rw [if_neg (by simp [he])] at q6 q7
        have lo := fun s bx => l3 g.out (if g.out = [] then .nil else .part) fl (by omega) hok g.out.length 0 s bx (by omega) (by omega)
        simp [q4, q6, q7, hc5]
        refine WL.use L3_0_p L3_0_w (lo _ _ ?_ ?_ ?_) ?_
        iterate 3 simp
        rintro e s' b' st' ⟨rfl, rfl⟩ hf
        simp [hc5]
      · rw [if_pos he] at q6 q7
        simp [q4, q6, q7, hc5, WL_un L3_0.eq_1]
  obtain ⟨r, st', h1, h2⟩ := go
  rw [h1, h2]
end Go.Nt.Ds
