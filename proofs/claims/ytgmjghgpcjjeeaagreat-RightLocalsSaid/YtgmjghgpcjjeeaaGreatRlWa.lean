/-
  THE SAME EQUATIONS IN AN ORDER THAT SPARES WORK: a text that imports this has 'simp' run code head first (it does not go into frames and code that is still to come), and part runs at branches that are not decided (with '+contextual' each way knows its truth).
  No condition.
-/
import Derived.Test.YtgmjghgpcjjeeaaGreatRtIr2
import Derived.Test.YtgmjghgpcjjeeaaGreatTzLaw
import Derived.Test.YtgmjghgpcjjeeaaGreatRlX1
namespace Go.Nt

variable {T : Nat → Option IFunc} {go : GoF} {lp' : Ic → Cfg → Option (Ex × Cfg)}

/-! ### What is looked at -/
@[congr] theorem kseq_cg {k : Cfg → Option (Ex × Cfg)} {x x' : Option (Ex × Cfg)} (h : x = x') : kseq k x = kseq k x' := by rw [h]
@[congr] theorem kblock_cg {id : Nat} {x x' : Option (Ex × Cfg)} (h : x = x') : kblock id x = kblock id x' := by rw [h]
@[congr] theorem kfin_cg {r : List Rv} {x x' : Option (Ex × Cfg)} (h : x = x') : kfin r x = kfin r x' := by rw [h]
@[congr] theorem kL_cg {a : Ic} {x x' : Option (Ex × Cfg)} (h : x = x') : kL T a x = kL T a x' := by rw [h]
@[congr] theorem kE_cg {d d' : Option Nat} {s : List D} {b : List (Nat × List D)} {st : St} {os : List Gi} {x x' : Option Eff} (hd : d = d') (hx : x = x') : kE T go d s b st os x = kE T go d' s b st os x' := by rw [hd, hx]
@[congr] theorem kG_cg {w : Bool} {io : Io} {os : List Gi} {s : List D} {b : List (Nat × List D)} {st : St} {d d' : D} (h : d = d') : kG T go w io os s b st d = kG T go w io os s b st d' := by rw [h]
@[congr] theorem kC_cg {a b : Ic} {c : Cfg} {d d' : D} (h : d = d') : kC T go lp' a b c d = kC T go lp' a b c d' := by rw [h]
@[congr] theorem Stops_cg {r r' : Option (Ex × Cfg)} {Q : Ex → List D → List (Nat × List D) → St → Prop} (h : r = r') : Stops r Q = Stops r' Q := by rw [h]
@[congr] theorem Ret_cg {r r' : Option (D × St)} {Q : D → St → Prop} (h : r = r') : Ret r Q = Ret r' Q := by rw [h]
@[congr] theorem loadD_cg {rb : Nat → Nat × List D} {st : St} {p p' : D} {n l : Option Nat} {q : Bool} (h : p = p') : loadD rb st p n l q = loadD rb st p' n l q := by rw [h]
attribute [congr] ite_congr

/-! ### Branches -/
attribute [simp] kC_b kG_b kseq_ite kblock_ite kfin_ite kL_ite kE_ite map_ite obind_ite Stops_ite Ret_ite

/-! ### Head first -/
attribute [simp ↓] kseq_n kseq_r kseq_e kblock_n kblock_r kblock_e kL_n kL_r kL_e kfin_r kfin_n kseq_ite kblock_ite kfin_ite kL_ite kE_ite map_ite obind_ite Stops_ite Ret_ite Stops_some Ret_some Option.map_some
attribute [simp ↓] rn_skip rn_ops rn_seq rn_block rn_loop rn_exit rn_ret rn_cond runOps_g0 runOps_kG runOps_nil get_put getB_putB

@[simp ↓] theorem ev_t (s : List D) (n : Nat) : Opd.ev s (.t n) = get s n := (rfl)
@[simp ↓] theorem ev_c (s : List D) (d : D) : Opd.ev s (.c d) = d := (rfl)
@[simp ↓] theorem ev_f (s : List D) (n : Nat) : Opd.ev s (.f n) = .fn n [] [] := (rfl)

@[simp high] theorem kE_vs (d : Nat) (s : List D) (b : List (Nat × List D)) (st : St) (os : List Gi) (v : D) : kE T go (some d) s b st os (some (v, none, none)) = runOps T go os ⟨⟨put s d v, b⟩, st⟩ := (rfl)
@[simp high] theorem kE_vn (s : List D) (b : List (Nat × List D)) (st : St) (os : List Gi) (v : D) : kE T go none s b st os (some (v, none, none)) = runOps T go os ⟨⟨s, b⟩, st⟩ := (rfl)
@[simp high] theorem kE_hs (d : Nat) (s : List D) (b : List (Nat × List D)) (st st' : St) (os : List Gi) (v : D) : kE T go (some d) s b st os (some (v, none, some st')) = runOps T go os ⟨⟨put s d v, b⟩, st'⟩ := (rfl)
@[simp high] theorem kE_hn (s : List D) (b : List (Nat × List D)) (st st' : St) (os : List Gi) (v : D) : kE T go none s b st os (some (v, none, some st')) = runOps T go os ⟨⟨s, b⟩, st'⟩ := (rfl)
@[simp high] theorem kE_bs (d : Nat) (s : List D) (b : List (Nat × List D)) (st : St) (os : List Gi) (v : D) (x g : Nat) (cs : List D) : kE T go (some d) s b st os (some (v, some (x, g, cs), none)) = runOps T go os ⟨⟨put s d v, putB b x (g, cs)⟩, st⟩ := (rfl)
@[simp high] theorem kE_bn (s : List D) (b : List (Nat × List D)) (st : St) (os : List Gi) (v : D) (x g : Nat) (cs : List D) : kE T go none s b st os (some (v, some (x, g, cs), none)) = runOps T go os ⟨⟨s, putB b x (g, cs)⟩, st⟩ := (rfl)

attribute [simp ↓] kE_vs kE_vn kE_hs kE_hn kE_bs kE_bn

/-- Operands. -/
def rdL (rd : Opd → D) (xs : List Opd) : List D := xs.map rd
@[simp ↓] theorem rdL_nil (s : List D) : rdL (Opd.ev s) [] = [] := (rfl)
@[simp ↓] theorem rdL_cons (s : List D) (x : Opd) (xs : List Opd) : rdL (Opd.ev s) (x :: xs) = Opd.ev s x :: rdL (Opd.ev s) xs := (rfl)
def rdO (rd : Opd → D) (x : Option Opd) : Option D := x.map rd
@[simp ↓] theorem rdO_none (s : List D) : rdO (Opd.ev s) none = none := (rfl)
@[simp ↓] theorem rdO_some (s : List D) (x : Opd) : rdO (Opd.ev s) (some x) = some (Opd.ev s x) := (rfl)
def rdP (rd : Opd → D) (ps : List (Nat × Nat × Opd)) : List (Nat × Nat × D) := ps.map fun p => (p.1, p.2.1, rd p.2.2)
@[simp ↓] theorem rdP_nil (s : List D) : rdP (Opd.ev s) [] = [] := (rfl)
@[simp ↓] theorem rdP_cons (s : List D) (a n : Nat) (x : Opd) (xs : List (Nat × Nat × Opd)) : rdP (Opd.ev s) ((a, n, x) :: xs) = (a, n, Opd.ev s x) :: rdP (Opd.ev s) xs := (rfl)

def kCall : Option (D × St) → Option Eff
  | some r => some (r.1, none, some r.2)
  | none => none
@[simp] theorem kCall_some (r : D) (st : St) : kCall (some (r, st)) = some (r, none, some st) := (rfl)
theorem kCall_ite {p : Prop} [Decidable p] (x y : Option (D × St)) : kCall (if p then x else y) = if p then kCall x else kCall y := by split <;> rfl
attribute [simp] kCall_ite
def kPick (x a b : D) : Option Eff := match x with
  | .bool t => val (if t then a else b)
  | _ => none
@[simp] theorem kPick_b (t : Bool) (a b : D) : kPick (.bool t) a b = some (if t = true then a else b, none, none) := (rfl)
@[simp high] theorem kPick_bb (t a b : Bool) : kPick (.bool t) (.bool a) (.bool b) = some (.bool (if t = true then a else b), none, none) := by cases t <;> rfl
def kNil (x : D) : Option Bool → Option Eff
  | some false => val x
  | _ => none
@[simp] theorem kNil_f (x : D) : kNil x (some false) = some (x, none, none) := (rfl)
def kEq (neg : Bool) : Option Bool → Option Eff
  | some b => val (.bool (if neg then !b else b))
  | none => none
@[simp] theorem kEq_t (b : Bool) : kEq true (some b) = some (.bool (!b), none, none) := (rfl)
@[simp] theorem kEq_f (b : Bool) : kEq false (some b) = some (.bool b, none, none) := (rfl)
def kFld (off : Nat) (n : Option Nat) (x : D) : Option Eff := match x with
  | .agg cs => (part cs off n).bind val
  | _ => none
@[simp] theorem kFld_a (off : Nat) (n : Option Nat) (cs : List D) : kFld off n (.agg cs) = (part cs off n).bind val := (rfl)
def kIdx (sz : Nat) (n arr : Option Nat) (x i : D) : Option Eff := match i with
  | .int _ i => if i < 0 then none else (idxAD x i.toNat sz n arr).bind val
  | _ => none
@[simp] theorem kIdx_i (sz : Nat) (n arr : Option Nat) (x : D) (k : IntKind) (i : Int) : kIdx sz n arr x (.int k i) = if i < 0 then none else (idxAD x i.toNat sz n arr).bind val := (rfl)
def kIxS (x i : D) : Option Eff := match i with
  | .int _ i => if i < 0 then none else match x with
    | .str s => (s[i.toNat]?).bind fun b => val (byteD b)
    | _ => none
  | _ => none
@[simp] theorem kIxS_s (s : List UInt8) (k : IntKind) (i : Int) : kIxS (.str s) (.int k i) = if i < 0 then none else (s[i.toNat]?).bind fun b => val (byteD b) := (rfl)
def kExt (i : Nat) (x : D) : Option Eff := match x with
  | .tup ds => (ds[i]?).bind val
  | _ => none
@[simp] theorem kExt_t (i : Nat) (ds : List D) : kExt i (.tup ds) = (ds[i]?).bind val := (rfl)
def kCvI (k : IntKind) (x : D) : Option Eff := match x with
  | .int _ n => val (.int k (k.wrap n))
  | _ => none
@[simp] theorem kCvI_i (k k' : IntKind) (n : Int) : kCvI k (.int k' n) = some (.int k (k.wrap n), none, none) := (rfl)
def kCvS (x : D) : Option Eff := match x with
  | .str s => val (.str s)
  | _ => none
@[simp] theorem kCvS_s (s : List UInt8) : kCvS (.str s) = some (.str s, none, none) := (rfl)
def kCvB : Option (List D) → Option Eff
  | some l => (l.mapM unbyte).bind fun s => val (.str s)
  | none => none
@[simp] theorem kCvB_s (l : List D) : kCvB (some l) = (l.mapM unbyte).bind fun s => val (.str s) := (rfl)
def kMM (mx : Bool) (x y : D) : Option Eff := match x, y with
  | .int k a, .int k' b => if k = k' then val (.int k (if mx then (if b > a then b else a) else (if b < a then b else a))) else none
  | _, _ => none
@[simp] theorem kMM_i (mx : Bool) (k k' : IntKind) (a b : Int) : kMM mx (.int k a) (.int k' b) = if k = k' then val (.int k (if mx then (if b > a then b else a) else (if b < a then b else a))) else none := (rfl)
def kAp (st : St) (sz : Nat) (s : D) : Option (List D) → Option Eff
  | some l => kCall (appendD st s l sz)
  | none => none
@[simp] theorem kAp_s (st : St) (sz : Nat) (s : D) (l : List D) : kAp st sz s (some l) = kCall (appendD st s l sz) := (rfl)
def kApT (ty : Nat) (st : St) (sz : Nat) (s : D) : Option (List D) → Option Eff
  | some l => kCall (appendTD ty st s l sz)
  | none => none
@[simp] theorem kApT_s (ty : Nat) (st : St) (sz : Nat) (s : D) (l : List D) : kApT ty st sz s (some l) = kCall (appendTD ty st s l sz) := (rfl)
def kCallV (T : Nat → Option IFunc) (go : GoF) (xs : List D) (st : St) (f : D) : Option Eff := match f with
  | .fn g first cap => kCall (callD T go g (first ++ xs ++ cap) st)
  | _ => none
@[simp] theorem kCallV_f (xs : List D) (st : St) (g : Nat) (a b : List D) : kCallV T go xs st (.fn g a b) = kCall (callD T go g (a ++ xs ++ b) st) := (rfl)
def kBuild (zero : List D) (ps : List (Nat × Nat × D)) : Option Eff := if ps.all (fun p => p.2.2.okv) then (fillD zero ps).bind fun cs => val (.agg cs) else none
@[simp] theorem kBuild_ (zero : List D) (ps : List (Nat × Nat × D)) : kBuild zero ps = if ps.all (fun p => p.2.2.okv) then (fillD zero ps).bind fun cs => val (.agg cs) else none := (rfl)
def kBsl (sz : Nat) (agg : Bool) (xs : List D) : Option Eff := if xs.all fun v => v.fits (if agg then some sz else none) && (v.cells.length == sz && v.pure) then val (.sl sz true xs) else none
@[simp] theorem kBsl_ (sz : Nat) (agg : Bool) (xs : List D) : kBsl sz agg xs = if xs.all fun v => v.fits (if agg then some sz else none) && (v.cells.length == sz && v.pure) then val (.sl sz true xs) else none := (rfl)
def kBoxH (n : Option Nat) (st : St) (x : D) : Option Eff := if x.fits n then some (.hp st.length 0 (n.getD 1) 0 0, none, some (st ++ [.cells true (n.getD 1) 0 0 false [x]])) else none
@[simp] theorem kBoxH_ (n : Option Nat) (st : St) (x : D) : kBoxH n st x = if x.fits n then some (.hp st.length 0 (n.getD 1) 0 0, none, some (st ++ [.cells true (n.getD 1) 0 0 false [x]])) else none := (rfl)
def kBoxI (n : Option Nat) (x : D) : Option Eff := (boxID n x).bind val
def kBoxJ (n : Option Nat) (x : D) : Option Eff := (match x with | .hp id ver sz i o => if n.isNone then some (D.kp id ver sz i o) else none | _ => none).bind val
@[simp] theorem kBoxI_ (n : Option Nat) (x : D) : kBoxI n x = if x.fits n && x.pure then val (.iptr x) else kBoxJ n x := by unfold kBoxI kBoxJ boxID; split <;> rfl
@[simp] theorem kBoxJ_hp (id ver sz i o : Nat) : kBoxJ none (.hp id ver sz i o) = val (.kp id ver sz i o) := (rfl)
def kBoxL (d g n : Nat) (cs : List D) : Option Eff := if cs.length = n ∧ cs.all D.okv = true then some (.lp d (g + 1) 0, some (d, g + 1, cs), none) else none
@[simp] theorem kBoxL_ (d g n : Nat) (cs : List D) : kBoxL d g n cs = if cs.length = n ∧ cs.all D.okv = true then some (.lp d (g + 1) 0, some (d, g + 1, cs), none) else none := (rfl)
def kMkfn (f : Nat) (first cap : List D) : Option Eff := if first.all D.okv && cap.all D.okv then val (.fn f first cap) else none
@[simp] theorem kMkfn_ (f : Nat) (first cap : List D) : kMkfn f first cap = if first.all D.okv && cap.all D.okv then val (.fn f first cap) else none := (rfl)
def kSlc (s : Option Nat) (x : D) (lo hi mx : Option D) : Option Eff := if slcTy s x then (sliceD x lo hi mx).bind val else none
@[simp] theorem kSlc_ (s : Option Nat) (x : D) (lo hi mx : Option D) : kSlc s x lo hi mx = if slcTy s x then (sliceD x lo hi mx).bind val else none := (rfl)

variable {rd : Opd → D} {rb : Nat → Nat × List D} {st : St}
@[simp ↓] theorem a_mv (d : Nat) (x : Opd) : actO T go rd rb st (.mv d x) = some (rd x, none, none) := (rfl)
@[simp ↓] theorem a_mvn : actO T go rd rb st .mvn = some (.undef, none, none) := (rfl)
@[simp ↓] theorem a_pick (d : Nat) (x a b : Opd) : actO T go rd rb st (.pick d x a b) = kPick (rd x) (rd a) (rd b) := by simp only [actO]; cases rd x <;> rfl
@[simp ↓] theorem a_boxLn (d n : Nat) (zero : List D) : actO T go rd rb st (.boxL d n none zero) = kBoxL d (rb d).1 n zero := (rfl)
@[simp ↓] theorem a_boxLs (d n : Nat) (x : Opd) (zero : List D) : actO T go rd rb st (.boxL d n (some x) zero) = kBoxL d (rb d).1 n (rd x).cells := (rfl)
@[simp ↓] theorem a_boxH (d : Nat) (n : Option Nat) (x : Opd) : actO T go rd rb st (.boxH d n x) = kBoxH n st (rd x) := (rfl)
@[simp ↓] theorem a_boxI (d : Nat) (n : Option Nat) (x : Opd) : actO T go rd rb st (.boxI d n x) = kBoxI n (rd x) := (rfl)
@[simp ↓] theorem a_build (d : Nat) (zero : List D) (ps : List (Nat × Nat × Opd)) : actO T go rd rb st (.build d zero ps) = kBuild zero (rdP rd ps) := by simp only [actO, kBuild, rdP, List.all_map]; rfl
@[simp ↓] theorem a_bsl (d sz : Nat) (agg : Bool) (xs : List Opd) : actO T go rd rb st (.bsl d sz agg xs) = kBsl sz agg (rdL rd xs) := (rfl)
@[simp ↓] theorem a_load (d : Nat) (p : Opd) (n l : Option Nat) (q : Bool) : actO T go rd rb st (.load d p n l q) = (loadD rb st (rd p) n l q).bind val := (rfl)
@[simp ↓] theorem a_store (p x : Opd) (n : Nat) (l : Option Nat) : actO T go rd rb st (.store p x n l) = storeD rb st (rd p) (rd x) n l := (rfl)
@[simp ↓] theorem a_storeX (box : Bool) (p x : Opd) (n : Nat) : actO T go rd rb st (.storeX box p x n) = storeXD box st (rd p) (rd x) n := (rfl)
@[simp ↓] theorem a_nilc (d : Option Nat) (x : Opd) : actO T go rd rb st (.nilc d x) = kNil (rd x) (nilD .ptr (rd x)) := by simp only [actO]; rcases nilD .ptr (rd x) with _ | (_ | _) <;> rfl
@[simp ↓] theorem a_bin (d : Nat) (op : BinOp) (x y : Opd) : actO T go rd rb st (.bin d op x y) = (binD op (rd x) (rd y)).bind val := (rfl)
@[simp ↓] theorem a_eqn (d : Nat) (neg : Bool) (k : Kd) (x y : Opd) : actO T go rd rb st (.eqn d neg k x y) = kEq neg (eqnD k (rd x) (rd y)) := by simp only [actO, kEq]; cases eqnD k (rd x) (rd y) <;> rfl
@[simp ↓] theorem a_un (d : Nat) (op : UnOp) (x : Opd) : actO T go rd rb st (.un d op x) = (unD op (rd x)).bind val := (rfl)
@[simp ↓] theorem a_cvI (d : Nat) (k : IntKind) (x : Opd) : actO T go rd rb st (.conv d (.int k) x) = kCvI k (rd x) := by simp only [actO]; cases rd x <;> rfl
@[simp ↓] theorem a_cvS (d : Nat) (x : Opd) : actO T go rd rb st (.conv d .same x) = kCvS (rd x) := by simp only [actO]; cases rd x <;> rfl
@[simp ↓] theorem a_cvB (d : Nat) (x : Opd) : actO T go rd rb st (.conv d .bytesstr x) = kCvB (listD st 1 (rd x)) := by simp only [actO]; cases listD st 1 (rd x) <;> rfl
@[simp ↓] theorem a_mkfn (d f : Nat) (first cap : List Opd) : actO T go rd rb st (.mkfn d f first cap) = kMkfn f (rdL rd first) (rdL rd cap) := (rfl)
@[simp ↓] theorem a_fldA (d : Nat) (x : Opd) (off : Nat) (n : Option Nat) : actO T go rd rb st (.fldA d x off n) = (fldD (rd x) off n).bind val := (rfl)
@[simp ↓] theorem a_fld (d : Nat) (x : Opd) (off : Nat) (n : Option Nat) : actO T go rd rb st (.fld d x off n) = kFld off n (rd x) := by simp only [actO]; cases rd x <;> rfl
@[simp ↓] theorem a_idxA (d : Nat) (x i : Opd) (sz : Nat) (n arr : Option Nat) : actO T go rd rb st (.idxA d x i sz n arr) = kIdx sz n arr (rd x) (rd i) := by simp only [actO]; cases rd i <;> rfl
@[simp ↓] theorem a_idxS (d : Nat) (x i : Opd) (n : Option Nat) (sz : Nat) : actO T go rd rb st (.idx d x i n sz none) = kIxS (rd x) (rd i) := by simp only [actO]; cases rd i <;> first | rfl | (cases rd x <;> rfl)
@[simp ↓] theorem a_slc (d : Nat) (s : Option Nat) (x : Opd) (lo hi mx : Option Opd) : actO T go rd rb st (.slc d s x lo hi mx) = kSlc s (rd x) (rdO rd lo) (rdO rd hi) (rdO rd mx) := (rfl)
@[simp ↓] theorem a_ext (d : Nat) (x : Opd) (i : Nat) : actO T go rd rb st (.ext d x i) = kExt i (rd x) := by simp only [actO]; cases rd x <;> rfl
@[simp ↓] theorem a_call (d : Option Nat) (f : Nat) (xs : List Opd) : actO T go rd rb st (.call d f xs) = kCall (callD T go f (rdL rd xs) st) := by simp only [actO, rdL]; cases callD T go f (xs.map rd) st <;> rfl
@[simp ↓] theorem a_callR (d : Option Nat) (f : Nat) (xs : List Opd) : actO T go rd rb st (.callR d f xs) = (callRD T go f (rdL rd xs) st).bind val := (rfl)
@[simp ↓] theorem a_callQ (d : Option Nat) (f : Nat) (xs : List Opd) : actO T go rd rb st (.callQ d f xs) = (callQD T go f (rdL rd xs)).bind val := (rfl)
@[simp ↓] theorem a_callV (d : Option Nat) (f : Opd) (xs : List Opd) : actO T go rd rb st (.callV d f xs) = kCallV T go (rdL rd xs) st (rd f) := by
  simp only [actO, rdL]
  cases rd f with
  | fn g a b => simp only [kCallV]; cases callD T go g (a ++ xs.map rd ++ b) st <;> rfl
  | _ => rfl
@[simp ↓] theorem a_len (d : Nat) (k : Kd) (x : Opd) (q : Bool) : actO T go rd rb st (.len d k x q) = (lenD st k (rd x) q).bind val := (rfl)
@[simp ↓] theorem a_app (d : Nat) (s x : Opd) (sz : Nat) : actO T go rd rb st (.app d s x sz) = kAp st sz (rd s) (srcD st sz (rd x)) := by
  simp only [actO]; cases srcD st sz (rd x) with
  | none => rfl
  | some l => simp only [Option.bind_some, kAp]; cases appendD st (rd s) l sz <;> rfl
@[simp ↓] theorem a_appT (d : Nat) (s x : Opd) (sz ty : Nat) : actO T go rd rb st (.appT d s x sz ty) = kApT ty st sz (rd s) (srcD st sz (rd x)) := by
  simp only [actO]; cases srcD st sz (rd x) with
  | none => rfl
  | some l => simp only [Option.bind_some, kApT]; cases appendTD ty st (rd s) l sz <;> rfl
@[simp ↓] theorem a_mm (d : Nat) (mx : Bool) (x y : Opd) : actO T go rd rb st (.mm d mx x y) = kMM mx (rd x) (rd y) := by simp only [actO]; cases rd x <;> first | rfl | (cases rd y <;> rfl)

@[simp] theorem listD_sl (st : St) (sz : Nat) (fl : Bool) (ds : List D) : listD st sz (.sl sz fl ds) = some ds := by simp [listD]
@[simp] theorem listD_nils (st : St) (sz : Nat) : listD st sz .nils = some [] := (rfl)
@[simp] theorem srcD_sl (st : St) (sz : Nat) (fl : Bool) (ds : List D) : srcD st sz (.sl sz fl ds) = some ds := by simp [srcD]
@[simp] theorem srcD_nils (st : St) (sz : Nat) : srcD st sz .nils = some [] := (rfl)
@[simp] theorem srcD_slE (st : St) (sz : Nat) (fl : Fl) (ds : List D) : srcD st sz (slE sz fl ds) = some ds := by
  have := slE_list st sz fl ds
  cases fl <;> cases ds <;> exact this

/-- A slice of an array. -/
def kSlcA (st : St) (n : Nat) (x : D) (lo hi : Option D) : Option Eff := match x with
    | .hp id ver sz 0 0 => match St.at st id with
      | .cells box sz' ver' mod false [.agg cs] =>
        if ver' = ver ∧ sz' = sz ∧ sz = n ∧ cs.length = n ∧ cs.all D.pure1 = true then
          (boundD hi n n).bind fun h => (boundD lo 0 h).bind fun l =>
            some (.sl 1 (h == n) ((cs.drop l).take (h - l)), none, some (List.set st id (.cells box sz ver (mod + 1) true [.agg cs])))
        else none
      | _ => none
    | _ => none
@[simp ↓] theorem a_slcA {T : Nat → Option IFunc} {go : GoF} {rd : Opd → D} {rb : Nat → Nat × List D} {st : St} (d : Nat) (x : Opd) (lo hi : Option Opd) (n : Nat) : actO T go rd rb st (.slcA d x lo hi n) = kSlcA st n (rd x) (rdO rd lo) (rdO rd hi) := (rfl)

/-! ### A nil slice's room, zeros behind it; a store of what is freed first -/
def kCapn : D → Option Eff
  | .nils => val (.i 0)
  | _ => none
@[simp] theorem kCapn_nils : kCapn .nils = val (.i 0) := (rfl)
@[simp ↓] theorem a_capn {T : Nat → Option IFunc} {go : GoF} {rd : Opd → D} {rb : Nat → Nat × List D} {st : St} (d : Nat) (x : Opd) : actO T go rd rb st (.capn d x) = kCapn (rd x) := by simp only [actO]; cases rd x <;> rfl
def kAppz (st : St) (sz : Nat) (zero : D) : D → D → Option Eff
  | .nils, .int _ k => if 0 < k ∧ k ≤ most then some (.rs st.length 0 sz 0 k.toNat false, none, some (st ++ [.cells false sz 0 0 false (List.replicate k.toNat zero)])) else none
  | _, _ => none
@[simp] theorem kAppz_nils (st : St) (sz : Nat) (zero : D) (i : IntKind) (k : Int) : kAppz st sz zero .nils (.int i k) = if 0 < k ∧ k ≤ most then some (.rs st.length 0 sz 0 k.toNat false, none, some (st ++ [.cells false sz 0 0 false (List.replicate k.toNat zero)])) else none := (rfl)
@[simp ↓] theorem a_appz {T : Nat → Option IFunc} {go : GoF} {rd : Opd → D} {rb : Nat → Nat × List D} {st : St} (d : Nat) (s n : Opd) (sz : Nat) (zero : D) : actO T go rd rb st (.appz d s n sz zero) = kAppz st sz zero (rd s) (rd n) := by
  simp only [actO]; cases rd s <;> first | rfl | (cases rd n <;> rfl)
def kStoF (rb : Nat → Nat × List D) (p : D) (n b : Nat) : Option (D × St) → Option Eff
  | some r => (storeD rb r.2 p r.1 n (some b)).bind fun e => some (.undef, e.2.1, some r.2)
  | none => none
@[simp] theorem kStoF_some (rb : Nat → Nat × List D) (p : D) (n b : Nat) (r : D × St) : kStoF rb p n b (some r) = (storeD rb r.2 p r.1 n (some b)).bind fun e => some (.undef, e.2.1, some r.2) := (rfl)
@[simp ↓] theorem a_stoF {T : Nat → Option IFunc} {go : GoF} {rd : Opd → D} {rb : Nat → Nat × List D} {st : St} (p x : Opd) (n b : Nat) : actO T go rd rb st (.stoF p x n b) = kStoF rb (rd p) n b (fz1 st (rd x)) := by
  simp only [actO]; cases fz1 st (rd x) <;> rfl
@[simp ↓] theorem a_no {T : Nat → Option IFunc} {go : GoF} {rd : Opd → D} {rb : Nat → Nat × List D} {st : St} (d : Option Nat) : actO T go rd rb st (.no d) = none := (rfl)

end Go.Nt

/-
  RUNS WITH WHAT IS ASKED BEHIND THEM: 'simp' walks code head first, parts at branches ('+contextual': each way knows its truth), and leaves what is asked at each way's end.
  No condition.
-/
namespace Go.Nt

variable {T : Nat → Option IFunc}

abbrev Kt : Type := Ex → Cfg → Prop

/-- The code's run ends, so. -/
def WP (T : Nat → Option IFunc) (a : Ic) (c : Cfg) (K : Kt) : Prop := ∃ e c', rn T (ev T) (lp T) a c = some (e, c') ∧ K e c'
def WO (T : Nat → Option IFunc) (l : List Gi) (c : Cfg) (K : Kt) : Prop := ∃ c', runOps T (ev T) l c = some c' ∧ K .normal c'
def WE (T : Nat → Option IFunc) (d : Option Nat) (s : List D) (b : List (Nat × List D)) (st : St) (os : List Gi) (x : Option Eff) (K : Kt) : Prop := ∃ c', kE T (ev T) d s b st os x = some c' ∧ K .normal c'
/-- A loop's run ends, so. -/
def WL (T : Nat → Option IFunc) (L : Ic) (c : Cfg) (K : Kt) : Prop := ∃ e c', lp T L c = some (e, c') ∧ K e c'
def WC (T : Nat → Option IFunc) (a b : Ic) (c : Cfg) (d : D) (K : Kt) : Prop := ∃ e c', kC T (ev T) (lp T) a b c d = some (e, c') ∧ K e c'
def WG (T : Nat → Option IFunc) (w : Bool) (io : Io) (os : List Gi) (s : List D) (b : List (Nat × List D)) (st : St) (d : D) (K : Kt) : Prop := ∃ c', kG T (ev T) w io os s b st d = some c' ∧ K .normal c'

def qSq (T : Nat → Option IFunc) (b : Ic) (K : Kt) : Kt
  | .normal, c => WP T b c K
  | e, c => K e c
def qBk (id : Nat) (K : Kt) : Kt
  | .exit id', c => K (if id' = id then .normal else .exit id') c
  | e, c => K e c
def qLp (T : Nat → Option IFunc) (L : Ic) (Q : Ex → List D → List (Nat × List D) → St → Prop) : Kt
  | .normal, c => Stops (lp T L c) Q
  | e, c => Q e c.1.s c.1.b c.2
def qFn (res : List Rv) (Q : D → St → Prop) : Kt
  | .exit _, _ => False
  | _, c => Ret (finish res c) Q

@[congr] theorem WE_cg {d d' : Option Nat} {s : List D} {b : List (Nat × List D)} {st : St} {os : List Gi} {x x' : Option Eff} {K : Kt} (hd : d = d') (hx : x = x') : WE T d s b st os x K = WE T d' s b st os x' K := by rw [hd, hx]
@[congr] theorem WG_cg {w : Bool} {io : Io} {os : List Gi} {s : List D} {b : List (Nat × List D)} {st : St} {d d' : D} {K : Kt} (h : d = d') : WG T w io os s b st d K = WG T w io os s b st d' K := by rw [h]
@[congr] theorem WC_cg {a b : Ic} {c : Cfg} {d d' : D} {K : Kt} (h : d = d') : WC T a b c d K = WC T a b c d' K := by rw [h]

@[simp ↓] theorem qSq_n (b : Ic) (K : Kt) (c : Cfg) : qSq T b K .normal c = WP T b c K := (rfl)
@[simp ↓] theorem qSq_r (b : Ic) (K : Kt) (c : Cfg) : qSq T b K .ret c = K .ret c := (rfl)
@[simp ↓] theorem qSq_e (b : Ic) (K : Kt) (id : Nat) (c : Cfg) : qSq T b K (.exit id) c = K (.exit id) c := (rfl)
@[simp ↓] theorem qBk_n (id : Nat) (K : Kt) (c : Cfg) : qBk id K .normal c = K .normal c := (rfl)
@[simp ↓] theorem qBk_r (id : Nat) (K : Kt) (c : Cfg) : qBk id K .ret c = K .ret c := (rfl)
@[simp ↓] theorem qBk_e0 (id : Nat) (K : Kt) (c : Cfg) : qBk id K (.exit id) c = K .normal c := by simp [qBk]
@[simp ↓] theorem qBk_e (id id' : Nat) (K : Kt) (c : Cfg) (h : id' ≠ id) : qBk id K (.exit id') c = K (.exit id') c := by simp [qBk, h]
@[simp ↓] theorem qLp_n (L : Ic) (Q : Ex → List D → List (Nat × List D) → St → Prop) (c : Cfg) : qLp T L Q .normal c = Stops (lp T L c) Q := (rfl)
@[simp ↓] theorem qLp_r (L : Ic) (Q : Ex → List D → List (Nat × List D) → St → Prop) (s : List D) (b : List (Nat × List D)) (st : St) : qLp T L Q .ret ⟨⟨s, b⟩, st⟩ = Q .ret s b st := (rfl)
@[simp ↓] theorem qLp_e (L : Ic) (Q : Ex → List D → List (Nat × List D) → St → Prop) (id : Nat) (s : List D) (b : List (Nat × List D)) (st : St) : qLp T L Q (.exit id) ⟨⟨s, b⟩, st⟩ = Q (.exit id) s b st := (rfl)
@[simp ↓] theorem qFn_n (res : List Rv) (Q : D → St → Prop) (c : Cfg) : qFn res Q .normal c = Ret (finish res c) Q := (rfl)
@[simp ↓] theorem qFn_r (res : List Rv) (Q : D → St → Prop) (c : Cfg) : qFn res Q .ret c = Ret (finish res c) Q := (rfl)

@[simp ↓] theorem WP_skip (c : Cfg) (K : Kt) : WP T .skip c K = K .normal c := propext ⟨fun ⟨_, _, h, k⟩ => by cases h; exact k, fun k => ⟨_, _, rfl, k⟩⟩
@[simp ↓] theorem WP_exit (id : Nat) (c : Cfg) (K : Kt) : WP T (.exit id) c K = K (.exit id) c := propext ⟨fun ⟨_, _, h, k⟩ => by cases h; exact k, fun k => ⟨_, _, rfl, k⟩⟩
@[simp ↓] theorem WP_ret (c : Cfg) (K : Kt) : WP T .ret c K = K .ret c := propext ⟨fun ⟨_, _, h, k⟩ => by cases h; exact k, fun k => ⟨_, _, rfl, k⟩⟩
@[simp ↓] theorem WP_loop (L : Ic) (c : Cfg) (K : Kt) : WP T (.loop L) c K = WL T L c K := (rfl)
@[simp ↓] theorem WP_seq (a b : Ic) (c : Cfg) (K : Kt) : WP T (.seq a b) c K = WP T a c (qSq T b K) := by
  refine propext ⟨fun ⟨e, c', h, k⟩ => ?_, fun ⟨e, c', h, k⟩ => ?_⟩
  · rw [rn_seq] at h
    cases hq : rn T (ev T) (lp T) a c with
    | none => rw [hq] at h; cases h
    | some r =>
      obtain ⟨e1, c1⟩ := r
      rw [hq] at h
      refine ⟨e1, c1, hq, ?_⟩
      cases e1 with
      | normal => exact ⟨e, c', h, k⟩
      | ret => cases h; exact k
      | exit id => cases h; exact k
  · cases e with
    | normal =>
      obtain ⟨e2, c2, h2, k2⟩ := k
      exact ⟨e2, c2, by rw [rn_seq, h]; exact h2, k2⟩
    | ret => exact ⟨_, _, by rw [rn_seq, h]; rfl, k⟩
    | exit id => exact ⟨_, _, by rw [rn_seq, h]; rfl, k⟩
@[simp ↓] theorem WP_block (id : Nat) (a : Ic) (c : Cfg) (K : Kt) : WP T (.block id a) c K = WP T a c (qBk id K) := by
  refine propext ⟨fun ⟨e, c', h, k⟩ => ?_, fun ⟨e, c', h, k⟩ => ?_⟩
  · rw [rn_block] at h
    cases hq : rn T (ev T) (lp T) a c with
    | none => rw [hq] at h; cases h
    | some r =>
      obtain ⟨e1, c1⟩ := r
      rw [hq] at h
      refine ⟨e1, c1, hq, ?_⟩
      cases e1 <;> (cases h; exact k)
  · cases e <;> exact ⟨_, _, by rw [rn_block, h]; rfl, k⟩
@[simp ↓] theorem WP_cond (x : Opd) (a b : Ic) (c : Cfg) (K : Kt) : WP T (.cond x a b) c K = WC T a b c (x.ev c.1.s) K := by simp only [WP, WC, rn_cond]
@[simp ↓] theorem WC_b (t : Bool) (a b : Ic) (c : Cfg) (K : Kt) : WC T a b c (.bool t) K = ((t = true → WP T a c K) ∧ (t = false → WP T b c K)) := by cases t <;> simp [WC, WP]
@[simp ↓] theorem WP_ops (l : List Gi) (c : Cfg) (K : Kt) : WP T (.ops l) c K = WO T l c K := by
  refine propext ⟨fun ⟨e, c', h, k⟩ => ?_, fun ⟨c', h, k⟩ => ⟨.normal, c', by rw [rn_ops, h]; rfl, k⟩⟩
  rw [rn_ops, Option.map_eq_some_iff] at h
  obtain ⟨c1, h1, h2⟩ := h
  cases h2
  exact ⟨_, h1, k⟩
@[simp ↓] theorem WO_nil (c : Cfg) (K : Kt) : WO T [] c K = K .normal c := propext ⟨fun ⟨_, h, k⟩ => by cases h; exact k, fun k => ⟨_, rfl, k⟩⟩
@[simp ↓] theorem WO_g0 (io : Io) (os : List Gi) (s : List D) (b : List (Nat × List D)) (st : St) (K : Kt) : WO T (g0 io :: os) ⟨⟨s, b⟩, st⟩ K = WE T io.dst s b st os (actO T (ev T) (Opd.ev s) (getB b) st io) K := by simp only [WO, WE, runOps_g0]
@[simp ↓] theorem WO_g1 (j : Nat) (w : Bool) (io : Io) (os : List Gi) (s : List D) (b : List (Nat × List D)) (st : St) (K : Kt) : WO T (g1 j w io :: os) ⟨⟨s, b⟩, st⟩ K = WG T w io os s b st (get s j) K := by simp only [WO, WG, runOps_kG]
@[simp ↓] theorem WG_u (w : Bool) (io : Io) (os : List Gi) (s : List D) (b : List (Nat × List D)) (st : St) (K : Kt) : WG T w io os s b st (.tup []) K = WO T os ⟨⟨putO s io.dst .undef, b⟩, st⟩ K := (rfl)
@[simp ↓] theorem WG_t (t : Bool) (io : Io) (os : List Gi) (s : List D) (b : List (Nat × List D)) (st : St) (K : Kt) : WG T true io os s b st (.bool t) K = ((t = true → WO T (g0 io :: os) ⟨⟨s, b⟩, st⟩ K) ∧ (t = false → WE T io.dst s b st os (some (.undef, none, none)) K)) := by cases t <;> simp [WG, WE]
@[simp ↓] theorem WG_f (t : Bool) (io : Io) (os : List Gi) (s : List D) (b : List (Nat × List D)) (st : St) (K : Kt) : WG T false io os s b st (.bool t) K = ((t = false → WO T (g0 io :: os) ⟨⟨s, b⟩, st⟩ K) ∧ (t = true → WE T io.dst s b st os (some (.undef, none, none)) K)) := by cases t <;> simp [WG, WE]
@[simp ↓ high] theorem WC_tt (a b : Ic) (c : Cfg) (K : Kt) : WC T a b c (.bool true) K = WP T a c K := by simp
@[simp ↓ high] theorem WC_ff (a b : Ic) (c : Cfg) (K : Kt) : WC T a b c (.bool false) K = WP T b c K := by simp
@[simp ↓ high] theorem WG_tt (io : Io) (os : List Gi) (s : List D) (b : List (Nat × List D)) (st : St) (K : Kt) : WG T true io os s b st (.bool true) K = WO T (g0 io :: os) ⟨⟨s, b⟩, st⟩ K := by simp [WG, WO]
@[simp ↓ high] theorem WG_tf (io : Io) (os : List Gi) (s : List D) (b : List (Nat × List D)) (st : St) (K : Kt) : WG T true io os s b st (.bool false) K = WE T io.dst s b st os (some (.undef, none, none)) K := by simp [WG, WE]
@[simp ↓ high] theorem WG_ff (io : Io) (os : List Gi) (s : List D) (b : List (Nat × List D)) (st : St) (K : Kt) : WG T false io os s b st (.bool false) K = WO T (g0 io :: os) ⟨⟨s, b⟩, st⟩ K := by simp [WG, WO]
@[simp ↓ high] theorem WG_ft (io : Io) (os : List Gi) (s : List D) (b : List (Nat × List D)) (st : St) (K : Kt) : WG T false io os s b st (.bool true) K = WE T io.dst s b st os (some (.undef, none, none)) K := by simp [WG, WE]
@[simp ↓] theorem WE_vs (d : Nat) (s : List D) (b : List (Nat × List D)) (st : St) (os : List Gi) (v : D) (K : Kt) : WE T (some d) s b st os (some (v, none, none)) K = WO T os ⟨⟨put s d v, b⟩, st⟩ K := (rfl)
@[simp ↓] theorem WE_vn (s : List D) (b : List (Nat × List D)) (st : St) (os : List Gi) (v : D) (K : Kt) : WE T none s b st os (some (v, none, none)) K = WO T os ⟨⟨s, b⟩, st⟩ K := (rfl)
@[simp ↓] theorem WE_hs (d : Nat) (s : List D) (b : List (Nat × List D)) (st st' : St) (os : List Gi) (v : D) (K : Kt) : WE T (some d) s b st os (some (v, none, some st')) K = WO T os ⟨⟨put s d v, b⟩, st'⟩ K := (rfl)
@[simp ↓] theorem WE_hn (s : List D) (b : List (Nat × List D)) (st st' : St) (os : List Gi) (v : D) (K : Kt) : WE T none s b st os (some (v, none, some st')) K = WO T os ⟨⟨s, b⟩, st'⟩ K := (rfl)
@[simp ↓] theorem WE_bs (d : Nat) (s : List D) (b : List (Nat × List D)) (st : St) (os : List Gi) (v : D) (x g : Nat) (cs : List D) (K : Kt) : WE T (some d) s b st os (some (v, some (x, g, cs), none)) K = WO T os ⟨⟨put s d v, putB b x (g, cs)⟩, st⟩ K := (rfl)
@[simp ↓] theorem WE_bn (s : List D) (b : List (Nat × List D)) (st : St) (os : List Gi) (v : D) (x g : Nat) (cs : List D) (K : Kt) : WE T none s b st os (some (v, some (x, g, cs), none)) K = WO T os ⟨⟨s, putB b x (g, cs)⟩, st⟩ K := (rfl)
@[simp ↓] theorem WE_ite {p : Prop} [Decidable p] (d : Option Nat) (s : List D) (b : List (Nat × List D)) (st : St) (os : List Gi) (x y : Option Eff) (K : Kt) :
    WE T d s b st os (if p then x else y) K = ((p → WE T d s b st os x K) ∧ (¬ p → WE T d s b st os y K)) := by
  by_cases h : p <;> simp [h]
/-- An operation that is not defined. -/
@[simp ↓] theorem WE_no (d : Option Nat) (s : List D) (b : List (Nat × List D)) (st : St) (os : List Gi) (K : Kt) : WE T d s b st os none K = False := propext ⟨fun ⟨_, h, _⟩ => (by cases h), False.elim⟩

/-- Two ways, of which either may be gone. -/
@[simp ↓] theorem WP_amb (y x : Nat) (a b : Ic) (s : List D) (bx : List (Nat × List D)) (st : St) (K : Kt) : WP T (.amb y x a b) ⟨⟨s, bx⟩, st⟩ K =
    WP T a ⟨⟨put (put s y .unk) x (.bool true), bx⟩, st⟩ (fun e d => e = .normal ∧ WP T b ⟨⟨put (put s y .unk) x (.bool false), bx⟩, st⟩ fun e' d' => e' = .normal ∧ ∃ st', joinSt st d.2 d'.2 = some st' ∧ K .normal ⟨⟨clearS (y :: x :: (a.wr ++ b.wr)) s, bx⟩, st'⟩) := by
  refine propext ⟨fun ⟨e, c', h, k⟩ => ?_, fun ⟨e, c1, h, he, e', c2, h', he', st', hj, k⟩ => ?_⟩
  · simp only [rn, Option.bind_eq_some_iff] at h
    obtain ⟨⟨e1, c1⟩, h1, ⟨e2, c2⟩, h2, h⟩ := h
    unfold ambJ at h
    split at h
    · rename_i g1 g2
      simp only at g1 g2
      subst g1 g2
      rw [Option.map_eq_some_iff] at h
      obtain ⟨st', hj, h⟩ := h
      cases h
      exact ⟨_, c1, h1, rfl, _, c2, h2, rfl, st', hj, k⟩
    · cases h
  · subst he he'
    refine ⟨.normal, _, ?_, k⟩
    simp only [rn]
    rw [show ambC y x true ⟨⟨s, bx⟩, st⟩ = ⟨⟨put (put s y .unk) x (.bool true), bx⟩, st⟩ from rfl, show ambC y x false ⟨⟨s, bx⟩, st⟩ = ⟨⟨put (put s y .unk) x (.bool false), bx⟩, st⟩ from rfl, h, h']
    simp only [Option.bind_some, ambJ, hj, Option.map_some]

/-- A box written and the heap turned. -/
@[simp ↓] theorem WE_bh (s : List D) (b : List (Nat × List D)) (st st' : St) (os : List Gi) (v : D) (x g : Nat) (cs : List D) (K : Kt) : WE T none s b st os (some (v, some (x, g, cs), some st')) K = WO T os ⟨⟨s, putB b x (g, cs)⟩, st'⟩ K := (rfl)

/-- One round of a loop. -/
theorem Stops_wp {L body : Ic} (h : L = body) {c : Cfg} {Q : Ex → List D → List (Nat × List D) → St → Prop} (k : WP T body c (qLp T L Q)) : Stops (lp T L c) Q := by
  obtain ⟨e, c', hr, hk⟩ := k
  rw [lp_at L body h, hr]
  cases e with
  | normal => exact hk
  | ret => exact ⟨_, _, _, _, rfl, hk⟩
  | exit id => exact ⟨_, _, _, _, rfl, hk⟩

/-- A function's run. -/
theorem Ret_wp {f : Nat} {fn : IFunc} (hf : T f = some fn) {args : List D} {st : St} {Q : D → St → Prop} (k : WP T fn.code ⟨⟨args, []⟩, st⟩ (qFn fn.res Q)) : Ret (ev T f args st) Q := by
  obtain ⟨e, c', hr, hk⟩ := k
  rw [ev_eq f fn hf, hr]
  cases e with
  | normal => exact hk
  | ret => exact hk
  | exit id => cases hk

/-- What is known of a loop. -/
theorem WL.use {L : Ic} (hp : L.plain = true) {W : List Nat} (hW : L.wr = W) {s0 : List D} {b0 : List (Nat × List D)} {st0 : St} {Q : Ex → List D → List (Nat × List D) → St → Prop} {K : Kt} (h : Stops (lp T L ⟨⟨s0, b0⟩, st0⟩) Q)
    (k : ∀ e s b st, Q e s b st → (∀ t, W.contains t = false → get s t = get s0 t) → K e ⟨⟨s, b⟩, st⟩) : WL T L ⟨⟨s0, b0⟩, st0⟩ K :=
  Stops.fr hp hW h (fun r => ∃ e c', r = some (e, c') ∧ K e c') fun e s b st q f => ⟨e, _, rfl, k e s b st q f⟩
theorem WL.useB {L : Ic} (hp : L.plain = true) {W WB : List Nat} (hW : L.wr = W) (hB : L.wrB = WB) {s0 : List D} {b0 : List (Nat × List D)} {st0 : St} {Q : Ex → List D → List (Nat × List D) → St → Prop} {K : Kt} (h : Stops (lp T L ⟨⟨s0, b0⟩, st0⟩) Q)
    (k : ∀ e s b st, Q e s b st → (∀ t, W.contains t = false → get s t = get s0 t) → (∀ t, WB.contains t = false → getB b t = getB b0 t) → K e ⟨⟨s, b⟩, st⟩) : WL T L ⟨⟨s0, b0⟩, st0⟩ K :=
  Stops.frB hp hW hB h (fun r => ∃ e c', r = some (e, c') ∧ K e c') fun e s b st q f g => ⟨e, _, rfl, k e s b st q f g⟩

/-! ### What a way knows -/
@[simp] theorem ile_f {a b : Int} (h : b < a) : (a ≤ b) = False := eq_false (by omega)
@[simp] theorem ilt_f {a b : Int} (h : b ≤ a) : (a < b) = False := eq_false (by omega)
@[simp] theorem nle_f {a b : Nat} (h : b < a) : (a ≤ b) = False := eq_false (by omega)
@[simp] theorem nlt_f {a b : Nat} (h : b ≤ a) : (a < b) = False := eq_false (by omega)

end Go.Nt

/-
  LOOPS, round by round; a nested read of an aggregate.
  No condition.
-/
namespace Go.Nt

variable {T : Nat → Option IFunc}

def qW (T : Nat → Option IFunc) (L : Ic) (K : Kt) : Kt
  | .normal, c => WL T L c K
  | e, c => K e c
@[simp ↓] theorem qW_n (L : Ic) (K : Kt) (c : Cfg) : qW T L K .normal c = WL T L c K := (rfl)
@[simp ↓] theorem qW_r (L : Ic) (K : Kt) (c : Cfg) : qW T L K .ret c = K .ret c := (rfl)
@[simp ↓] theorem qW_e (L : Ic) (K : Kt) (id : Nat) (c : Cfg) : qW T L K (.exit id) c = K (.exit id) c := (rfl)

/-- One round of a loop is met. -/
theorem WL_un {L body : Ic} (h : L = body) (c : Cfg) (K : Kt) : WL T L c K = WP T body c (qW T L K) := by
  refine propext ⟨fun ⟨e, c', hr, hk⟩ => ?_, fun ⟨e, c', hr, hk⟩ => ?_⟩
  · rw [lp_at L body h] at hr
    cases hq : rn T (ev T) (lp T) body c with
    | none => rw [hq] at hr; cases hr
    | some r =>
      obtain ⟨e1, c1⟩ := r
      rw [hq] at hr
      refine ⟨e1, c1, hq, ?_⟩
      cases e1 with
      | normal => exact ⟨e, c', hr, hk⟩
      | ret => cases hr; exact hk
      | exit id => cases hr; exact hk
  · cases e with
    | normal =>
      obtain ⟨e2, c2, h2, k2⟩ := hk
      exact ⟨e2, c2, by rw [lp_at L body h, hr]; exact h2, k2⟩
    | ret => exact ⟨_, _, by rw [lp_at L body h, hr]; rfl, hk⟩
    | exit id => exact ⟨_, _, by rw [lp_at L body h, hr]; rfl, hk⟩

end Go.Nt

/-
  RIGHT MODULES, walked (1): the looker in the heap; rows that grow beside it; a term without names.
  No condition.
-/
set_option linter.unusedSimpArgs false
namespace Go.Nt.Ty
open Go Go.Nt

/-- The heap went on, its older objects as they were. -/
def Grow (st st' : St) : Prop := st.length ≤ st'.length ∧ ∀ i, i < st.length → St.at st' i = St.at st i
theorem Grow.refl (st : St) : Grow st st := ⟨Nat.le_refl _, fun _ _ => rfl⟩
theorem Grow.trans {a b c : St} (h : Grow a b) (k : Grow b c) : Grow a c := ⟨Nat.le_trans h.1 k.1, fun i hi => by rw [k.2 i (by have := h.1; omega), h.2 i hi]⟩

def lidOf : D → Nat
  | .rs id .. => id
  | _ => 0

/-- A row that grew behind this heap. -/
def RawT (st0 st : St) (L : D) (l : List Tm) : Prop :=
  (l = [] ∧ L = .nils) ∨ ∃ id md, l ≠ [] ∧ L = .rs id (l.length - 1) 6 0 l.length false ∧ St.at st id = .cells false 6 (l.length - 1) md false (encTs l) ∧ st0.length ≤ id ∧ id < st.length

theorem RawT.nil (st0 st : St) : RawT st0 st .nils [] := .inl ⟨rfl, rfl⟩
theorem RawT.facts {st0 st : St} {L : D} {l : List Tm} (h : RawT st0 st L l) : L.okv = true ∧ L.cells = [L] ∧ L.fits none = true ∧ ∀ st' q, lenD st' .slice L q = some (.i l.length) := by
  rcases h with ⟨rfl, rfl⟩ | ⟨id, md, _, rfl, _, _, _⟩
  · exact ⟨rfl, rfl, rfl, fun _ _ => rfl⟩
  · exact ⟨rfl, rfl, rfl, fun _ _ => rfl⟩
theorem RawT.keep {st0 st st' : St} {L : D} {l : List Tm} (h : RawT st0 st L l) (hl : st.length ≤ st'.length) (ha : l ≠ [] → St.at st' (lidOf L) = St.at st (lidOf L)) : RawT st0 st' L l := by
  rcases h with h | ⟨id, md, h0, rfl, h1, h2, h3⟩
  · exact .inl h
  · exact .inr ⟨id, md, h0, rfl, by rw [← h1]; exact ha h0, h2, by omega⟩
theorem RawT.grow {st0 st st' : St} {L : D} {l : List Tm} (h : RawT st0 st L l) (g : Grow st st') : RawT st0 st' L l := by
  rcases h with h | ⟨id, md, h0, rfl, h1, h2, h3⟩
  · exact .inl h
  · exact .inr ⟨id, md, h0, rfl, by rw [g.2 _ h3]; exact h1, h2, by have := g.1; omega⟩
theorem RawT.older {s0 st0 st : St} {L : D} {l : List Tm} (h : RawT st0 st L l) (hs : s0.length ≤ st0.length) : RawT s0 st L l := by
  rcases h with h | ⟨id, md, h0, rfl, h1, h2, h3⟩
  · exact .inl h
  · exact .inr ⟨id, md, h0, rfl, h1, by omega, h3⟩

/-- The row, one longer. -/
theorem RawT.app {st0 st : St} {L : D} {l : List Tm} (h : RawT st0 st L l) (hb : l.length ≤ 1000000) (hs : st0.length ≤ st.length) (x : Tm) :
    ∃ L' st', appendD st L [encT x] 6 = some (L', st') ∧ RawT st0 st' L' (l ++ [x]) ∧ st.length ≤ st'.length ∧ (∀ i, i < st.length → (l = [] ∨ i ≠ lidOf L) → St.at st' i = St.at st i) ∧ (lidOf L' = lidOf L ∧ l ≠ [] ∨ l = [] ∧ lidOf L' = st.length) := by
  rcases h with ⟨rfl, rfl⟩ | ⟨id, md, h0, rfl, h1, h2, h3⟩
  · refine ⟨.rs st.length 0 6 0 1 false, st ++ [.cells false 6 0 0 false [encT x]], by simp [appendD, most], .inr ⟨st.length, 0, by simp, by simp, by simp [at_last], hs, by simp⟩, by simp, fun i hi _ => at_lt _ _ hi, .inr ⟨rfl, rfl⟩⟩
  · have hp : 0 < l.length := List.length_pos_iff.2 h0
    have e1 : l.length - 1 + 1 = l.length := by omega
    have ht : l.length < tagB := by unfold tagB; omega
    have hm : l.length ≤ most := by unfold most; omega
    refine ⟨.rs id l.length 6 0 (l.length + 1) false, List.set st id (.cells false 6 l.length (md + 1) false (encTs (l ++ [x]))), ?_, .inr ⟨id, md + 1, by simp, by simp, ?_, h2, by simpa using h3⟩, by simp, fun i hi hne => ?_, .inl ⟨rfl, h0⟩⟩
    · have e2 : List.take l.length (encTs l) = encTs l := List.take_of_length_le (by simp)
      have hm2 : l.length ≤ 134217728 := by omega
      simp [appendD, h1, ht, hm, hm2, most, e1, e2, encTs_append]
    · rw [at_set _ _ _ _ h3, if_pos rfl]; simp
    · rw [at_set _ _ _ _ h3, if_neg (by rcases hne with q | q; exact absurd q h0; exact q)]

/-- The row, not written any more. -/
theorem RawT.fz {st0 st : St} {L : D} {l : List Tm} (h : RawT st0 st L l) : ∃ st', fz0 st L = some (slE 6 (pfl l) (encTs l), st') ∧ st'.length = st.length ∧ ∀ i, i < st0.length → St.at st' i = St.at st i := by
  rcases h with ⟨rfl, rfl⟩ | ⟨id, md, h0, rfl, h1, h2, h3⟩
  · exact ⟨st, rfl, rfl, fun _ _ => rfl⟩
  · refine ⟨List.set st id (.cells false 6 (l.length - 1) (md + 1) true (encTs l)), ?_, by simp, fun i hi => by rw [at_set _ _ _ _ h3, if_neg (by omega)]⟩
    have e2 : List.take l.length (encTs l) = encTs l := List.take_of_length_le (by simp)
    have e3 : slE 6 (pfl l) (encTs l) = .sl 6 false (encTs l) := by cases l with | nil => exact absurd rfl h0 | cons a b => rfl
    rw [fz0_rs, h1, e3]
    simp [e2]
theorem RawT.fzG {st0 st : St} {L : D} {l : List Tm} (h : RawT st0 st L l) (g : Grow st0 st) : ∃ st', fz0 st L = some (slE 6 (pfl l) (encTs l), st') ∧ Grow st0 st' := by
  obtain ⟨st', h1, h2, h3⟩ := h.fz
  exact ⟨st', h1, by rw [Grow, h2]; exact ⟨g.1, fun i hi => by rw [h3 i hi, g.2 i hi]⟩⟩

/-! ### A term without names and places -/

def outR (k n : Int) (L : D) : D := .agg [.int .i64 k, .int .i64 n, .str [], L, .int .i64 0, .int .i64 0]

theorem l116 (t : Tm) (st0 : St) (hl : t.l.length ≤ 1000000)
    (ih : ∀ u, u ∈ t.l → ∀ st, ∃ L st', callD T (ev T) 116 [encT u] st = some (outR u.k u.n L, st') ∧ RawT st st' L (u.l.map cleanT) ∧ Grow st st') :
    ∀ (r i : Nat) (s : List D) (bx : List (Nat × List D)) (L : D) (st : St), r = t.l.length - i → i ≤ t.l.length → Grow st0 st → RawT st0 st L ((t.l.take i).map cleanT) →
      get s 12 = slE 6 t.fl (encTs t.l) → get s 13 = .i t.l.length → get s 14 = .int .i64 i → get s 3 = .lp 3 1 0 → getB bx 3 = (1, [.int .i64 t.k, .int .i64 t.n, .str [], L, .int .i64 0, .int .i64 0]) →
    Stops (lp T L116_0 ⟨⟨s, bx⟩, st⟩) fun e _ b' st' => e = .exit 0 ∧ ∃ L', getB b' 3 = (1, [.int .i64 t.k, .int .i64 t.n, .str [], L', .int .i64 0, .int .i64 0]) ∧ RawT st0 st' L' (t.l.map cleanT) ∧ Grow st0 st' := by
  intro r
  induction r with
  | zero =>
    intro i s bx L st hr hi hg hR h12 h13 h14 h3 b3
    have e : i = t.l.length := by omega
    subst e
    refine Stops_wp L116_0.eq_1 ?_
    rw [List.take_length] at hR
    simp [h12, h13, h14, h3, b3]
    exact ⟨hR, hg⟩
  | succ r ihr =>
    intro i s bx L st hr hi hg hR h12 h13 h14 h3 b3
    have hlt : i < t.l.length := by omega
    have hw : IntKind.wrap .i64 ((i : Int) + 1) = ((i + 1 : Nat) : Int) := by rw [wrap64] <;> omega
    obtain ⟨L1, st1, q, R1, g1⟩ := ih t.l[i] (List.getElem_mem hlt) st
    obtain ⟨st2, f1, g2⟩ := R1.fzG g1
    have hR2 : RawT st0 st2 L _ := hR.grow g2
    have hg2 := hg.trans g2
    have hlen : ((t.l.take i).map cleanT).length ≤ 1000000 := by simp; omega
    obtain ⟨L3, st3, a1, R3, hl3, a3, _⟩ := hR2.app hlen hg2.1 (cleanT t.l[i])
    have hg3 : Grow st0 st3 := ⟨by have := hg2.1; omega, fun j hj => by
      rw [a3 j (by have := hg2.1; omega) ?_, hg2.2 j hj]
      rcases hR2 with ⟨h, _⟩ | ⟨id, md, _, rfl, _, h2, _⟩
      · exact .inl h
      · exact .inr (by simp only [lidOf]; omega)⟩
    have e1 : (t.l.take i).map cleanT ++ [cleanT t.l[i]] = (t.l.take (i + 1)).map cleanT := by
      rw [← List.map_singleton, ← List.map_append, List.take_append_getElem hlt]
    rw [e1] at R3
    have nx := fun s' bx' => ihr (i + 1) s' bx' L3 st3 (by omega) (by omega) hg3 R3
    obtain ⟨x1, x2, x3, x4⟩ := hR.facts
    obtain ⟨y1, y2, y3, y4⟩ := R1.facts
    obtain ⟨z1, z2, z3, z4⟩ := R3.facts
    have ea : encT (cleanT t.l[i]) = .agg [.int .i64 t.l[i].k, .int .i64 t.l[i].n, .str [], slE 6 (pfl (t.l[i].l.map cleanT)) (encTs (t.l[i].l.map cleanT)), .int .i64 0, .int .i64 0] := by
      rw [cleanT_eq, encT_eq]; simp [pfl]
      cases t.l[i].l <;> rfl
    rw [ea] at a1
    rw [outR] at q
    refine Stops_wp L116_0.eq_1 ?_
    simp [h12, h13, h14, h3, b3, hlt, hw, ← encT_eq, q, f1, a1, x1, x2, x3, x4, y1, y2, y3, z1, z2, z3, splice, -Int.natCast_add]
    refine nx _ _ ?_ ?_ ?_ ?_ ?_ <;> simp [h12, h13, h3]

theorem encT_clean (t : Tm) : encT (cleanT t) = outR t.k t.n (slE 6 (pfl (t.l.map cleanT)) (encTs (t.l.map cleanT))) := by
  rw [cleanT_eq, encT_eq, outR]; simp
  cases t.l <;> rfl

theorem c116 (t : Tm) : good t → ∀ st, ∃ L st', callD T (ev T) 116 [encT t] st = some (outR t.k t.n L, st') ∧ RawT st st' L (t.l.map cleanT) ∧ Grow st st' := by
  induction t using Tm.ind with
  | h t ih =>
    intro gt st
    have hl := good_len gt
    have lo := fun s bx => l116 t st hl (fun u hu st => ih u hu (good_mem gt hu) st) t.l.length 0 s bx .nils st (by omega) (by omega) (Grow.refl st) (RawT.nil st st)
    rw [callD_rawE (fn := F116) rfl rfl (by simp)]
    have go : Ret (ev T 116 [encT t] st) fun r st' => ∃ L, r = outR t.k t.n L ∧ RawT st st' L (t.l.map cleanT) ∧ Grow st st' := by
      refine Ret_wp (fn := F116) rfl ?_
      rw [F116]
      simp
      refine WL.useB L116_0_p L116_0_w (WB := L116_0.wrB) rfl (lo _ _ ?_ ?_ ?_ ?_ ?_) ?_
      iterate 5 simp
      rintro e s' b' st' ⟨rfl, L', p3, R, g⟩ hf hb
      obtain ⟨x1, x2, x3, x4⟩ := R.facts
      have e1 := hf 2 rfl
      have e3 := hf 3 rfl
      have e4 := hb 2 rfl
      simp at e1 e3 e4
      simp [p3, x1, x2, x3, splice, e1, e3, e4]
      exact ⟨L', rfl, R, g⟩
    obtain ⟨r, st', h1, L, rfl, R, g⟩ := go
    exact ⟨L, st', h1, R, g⟩
end Go.Nt.Ty

/-
  RIGHT MODULES, walked (2): the looker's object; the first error; expressions; types.
  No condition.
-/
set_option linter.unusedSimpArgs false
namespace Go.Nt.Ty
open Go Go.Nt

/-- The looker, as it lies in the heap. -/
def lkO (m : Tm) (lv : D) (ret : Tm) (at0 e : Int) (md : Nat) : Ob :=
  .cells true 15 0 md false [.agg [.int .i64 m.k, .int .i64 m.n, .str m.s, slE 6 m.fl (encTs m.l), .int .i64 m.a, .int .i64 m.b, lv, .int .i64 ret.k, .int .i64 ret.n, .str ret.s, slE 6 ret.fl (encTs ret.l), .int .i64 ret.a, .int .i64 ret.b, .int .i64 at0, .int .i64 e]]

/-- The looker's locals, which still grow. -/
def LocW (st : St) (lv : D) (locs : List Tm) : Prop :=
  (lv = .nils ∧ locs = []) ∨ ∃ id ver md full more, lv = .rs id ver 6 0 locs.length full ∧ St.at st id = .cells false 6 ver md false (encTs (locs ++ more)) ∧ 0 < id ∧ id < st.length ∧ (full = false → more = []) ∧ ver < (locs ++ more).length + 1 ∧ (locs ++ more).length ≤ 2000000

theorem LocW.locR {st : St} {lv : D} {locs : List Tm} (h : LocW st lv locs) : LocR st lv locs := by
  rcases h with ⟨rfl, rfl⟩ | ⟨id, ver, md, full, more, rfl, h1, _, h3, _⟩
  · exact .inl ⟨.nil, rfl⟩
  · exact .inr ⟨id, ver, md, false, full, more, rfl, h1, h3⟩
theorem LocW.facts {st : St} {lv : D} {locs : List Tm} (h : LocW st lv locs) : lv.okv = true ∧ lv.cells = [lv] ∧ lv.fits none = true ∧ ∀ st' q, lenD st' .slice lv q = some (.i locs.length) := by
  rcases h with ⟨rfl, rfl⟩ | ⟨id, ver, md, full, more, rfl, _⟩
  · exact ⟨rfl, rfl, rfl, fun _ _ => rfl⟩
  · exact ⟨rfl, rfl, rfl, fun _ _ => rfl⟩
theorem LocW.lt {st : St} {lv : D} {locs : List Tm} (h : LocW st lv locs) (hl : 0 < st.length) : lidOf lv < st.length := by
  rcases h with ⟨rfl, rfl⟩ | ⟨id, ver, md, full, more, rfl, _, _, h, _⟩
  · exact hl
  · exact h
theorem LocW.keep {st st' : St} {lv : D} {locs : List Tm} (h : LocW st lv locs) (hl : st.length ≤ st'.length) (ha : lidOf lv ≠ 0 → St.at st' (lidOf lv) = St.at st (lidOf lv)) : LocW st' lv locs := by
  rcases h with h | ⟨id, ver, md, full, more, rfl, h1, h2, h3, h4⟩
  · exact .inl h
  · exact .inr ⟨id, ver, md, full, more, rfl, by rw [← h1]; exact ha (by simp only [lidOf]; omega), h2, by omega, h4⟩

/-- The looker stands in the heap. -/
structure Lk (m ret : Tm) (st : St) (lv : D) (locs : List Tm) (at0 e : Int) : Prop where
  hl : 0 < st.length
  h0 : ∃ md, St.at st 0 = lkO m lv ret at0 e md
  hw : LocW st lv locs

/-- How the heap went on beside the looker and its locals. -/
def Went (st : St) (lv : D) (st' : St) (lv' : D) : Prop :=
  st.length ≤ st'.length ∧ (lidOf lv' = lidOf lv ∨ st.length ≤ lidOf lv' ∨ lidOf lv' = 0) ∧ ∀ i, i < st.length → i ≠ 0 → i ≠ lidOf lv → St.at st' i = St.at st i
theorem Went.refl (st : St) (lv : D) : Went st lv st lv := ⟨Nat.le_refl _, .inl rfl, fun _ _ _ _ => rfl⟩
theorem Went.trans {a b c : St} {u v w : D} (h : Went a u b v) (k : Went b v c w) : Went a u c w := by
  obtain ⟨h1, h2, h3⟩ := h
  obtain ⟨k1, k2, k3⟩ := k
  refine ⟨by omega, by omega, fun i hi h0 hn => ?_⟩
  rw [k3 i (by omega) h0 (by omega), h3 i hi h0 hn]
theorem Went.of0 {st st' : St} {lv : D} (hl : st.length ≤ st'.length) (h : ∀ i, i < st.length → i ≠ 0 → St.at st' i = St.at st i) : Went st lv st' lv := ⟨hl, .inl rfl, fun i hi h0 _ => h i hi h0⟩
theorem Went.grow {st st' : St} {lv : D} (h : Grow st st') : Went st lv st' lv := .of0 h.1 fun i hi _ => h.2 i hi

variable {m ret : Tm} {st : St} {lv : D} {locs : List Tm} {at0 e : Int}

theorem Lk.grow {st' : St} (K : Lk m ret st lv locs at0 e) (g : Grow st st') : Lk m ret st' lv locs at0 e := by
  obtain ⟨hl, ⟨md, h0⟩, hw⟩ := K
  exact ⟨by have := g.1; omega, ⟨md, by rw [g.2 0 hl]; exact h0⟩, hw.keep g.1 fun _ => g.2 _ (hw.lt hl)⟩

/-- The looker anew. -/
theorem Lk.put (K : Lk m ret st lv locs at0 e) (a1 e1 : Int) (md : Nat) : Lk m ret (List.set st 0 (lkO m lv ret a1 e1 md)) lv locs a1 e1 ∧ Went st lv (List.set st 0 (lkO m lv ret a1 e1 md)) lv := by
  obtain ⟨hl, ⟨_, h0⟩, hw⟩ := K
  refine ⟨⟨by simpa using hl, ⟨md, by rw [at_set _ _ _ _ hl, if_pos rfl]⟩, hw.keep (by simp) fun h => by rw [at_set _ _ _ _ hl, if_neg h]⟩, .of0 (by simp) fun i hi hi0 => by rw [at_set _ _ _ _ hl, if_neg hi0]⟩

/-- The first error is noted. -/
theorem c118 (K : Lk m ret st lv locs at0 e) (t : Tm) (x : Int) : ∃ st', callD T (ev T) 118 [.hp 0 0 15 0 0, encT t, .int .i64 x] st = some (.tup [], st') ∧ Lk m ret st' lv locs (if e = 0 then t.a else at0) (if e = 0 then x else e) ∧ Went st lv st' lv := by
  obtain ⟨md, h0⟩ := K.h0
  obtain ⟨x1, x2, x3, _⟩ := K.hw.facts
  have hl := K.hl
  have ha : ∀ o, St.at (List.set st 0 o) 0 = o := fun o => by rw [at_set _ _ _ _ K.hl, if_pos rfl]
  rw [callD_rawE (fn := F118) rfl rfl (by simp)]
  by_cases he : e = 0
  · subst he
    obtain ⟨K1, W⟩ := K.put t.a x (md + 2)
    have go : Ret (ev T 118 [.hp 0 0 15 0 0, encT t, .int .i64 x] st) fun r st' => r = .tup [] ∧ st' = List.set st 0 (lkO m lv ret t.a x (md + 2)) := by
      refine Ret_wp (fn := F118) rfl ?_
      rw [F118]
      simp [h0, lkO, kHs, ha, hl, splice, x1, x2, x3]
    obtain ⟨r, st', h1, rfl, rfl⟩ := go
    exact ⟨_, h1, by simpa using K1, W⟩
  · have go : Ret (ev T 118 [.hp 0 0 15 0 0, encT t, .int .i64 x] st) fun r st' => r = .tup [] ∧ st' = st := by
      refine Ret_wp (fn := F118) rfl ?_
      rw [F118]
      simp [h0, lkO, kHs, splice, x1, x2, x3, he]
    obtain ⟨r, st', h1, rfl, rfl⟩ := go
    exact ⟨st', h1, by rw [if_neg he, if_neg he]; exact K, .refl _ _⟩

/-- An expression's type and settled form. -/
theorem c232 (gm : good m) (gl : e = 0 → ∀ t, t ∈ locs → good t) (hll : locs.length ≤ 1000000) (K : Lk m ret st lv locs at0 e) (t : Tm) (gt : good t) :
    ∃ a s st', callD T (ev T) 232 [.hp 0 0 15 0 0, encT t] st = some (.tup [encT a, encT s], st') ∧ Went st lv st' lv ∧
      (e ≠ 0 → st' = st ∧ a = T0 ∧ s = T0) ∧ (e = 0 → match ofT m locs t with
        | .ok (a', s') => a' = a ∧ s' = s ∧ st' = st
        | .error (x, y) => a = T0 ∧ s = T0 ∧ y ≠ 0 ∧ Lk m ret st' lv locs x y) := by
  obtain ⟨md, h0⟩ := K.h0
  obtain ⟨x1, x2, x3, _⟩ := K.hw.facts
  have hl := K.hl
  have ha : ∀ o, St.at (List.set st 0 o) 0 = o := fun o => by rw [at_set _ _ _ _ K.hl, if_pos rfl]
  by_cases he : e = 0
  · subst he
    have q := c62 gm (gl rfl) hll t gt st K.hw.locR
    unfold tells at q
    cases ho : ofT m locs t with
    | ok x =>
      obtain ⟨a, s⟩ := x
      rw [ho] at q
      simp only at q
      refine ⟨a, s, st, ?_, .refl _ _, fun h => absurd rfl h, fun _ => ⟨rfl, rfl, rfl⟩⟩
      have go : Ret (ev T 232 [.hp 0 0 15 0 0, encT t] st) fun r st' => r = .tup [encT a, encT s] ∧ st' = st := by
        refine Ret_wp (fn := F232) rfl ?_
        rw [F232]
        simp [h0, lkO, kHs, splice, x1, x2, x3, ← encT_eq, q]
      obtain ⟨r, st', h1, rfl, rfl⟩ := go
      exact callD_freE (fn := F232) rfl rfl (by simp) h1 (by simp) (by simp)
    | error x =>
      obtain ⟨a, y⟩ := x
      rw [ho] at q
      simp only at q
      have hy := ofT_err _ _ _ ho
      obtain ⟨K1, W⟩ := K.put a y (md + 2)
      refine ⟨T0, T0, _, ?_, W, fun h => absurd rfl h, fun _ => ⟨rfl, rfl, hy, K1⟩⟩
      have go : Ret (ev T 232 [.hp 0 0 15 0 0, encT t] st) fun r st' => r = .tup [encT T0, encT T0] ∧ st' = List.set st 0 (lkO m lv ret a y (md + 2)) := by
        refine Ret_wp (fn := F232) rfl ?_
        rw [F232]
        simp [h0, lkO, kHs, splice, x1, x2, x3, ← encT_eq, q, hy, ha, hl]
        rw [encT_0] <;> rfl
      obtain ⟨r, st', h1, rfl, rfl⟩ := go
      exact callD_freE (fn := F232) rfl rfl (by simp) h1 (by simp) (by simp)
  · refine ⟨T0, T0, st, ?_, .refl _ _, fun _ => ⟨rfl, rfl, rfl⟩, fun h => absurd h he⟩
    have go : Ret (ev T 232 [.hp 0 0 15 0 0, encT t] st) fun r st' => r = .tup [encT T0, encT T0] ∧ st' = st := by
      refine Ret_wp (fn := F232) rfl ?_
      rw [F232]
      simp [h0, lkO, kHs, splice, x1, x2, x3, he, encT_0]
    obtain ⟨r, st', h1, rfl, rfl⟩ := go
    exact callD_freE (fn := F232) rfl rfl (by simp) h1 (by simp) (by simp)

/-- A type that may stand. -/
theorem c119 (gm : good m) (K : Lk m ret st lv locs at0 e) (t : Tm) (gt : good t) :
    ∃ st', callD T (ev T) 119 [.hp 0 0 15 0 0, encT t] st = some (encT (cleanT t), st') ∧ Went st lv st' lv ∧
      Lk m ret st' lv locs (if e = 0 ∧ cellsV m t = 0 then t.a else at0) (if e = 0 ∧ cellsV m t = 0 then 11 else e) := by
  obtain ⟨md, h0⟩ := K.h0
  obtain ⟨x1, x2, x3, _⟩ := K.hw.facts
  have hc := fun st => c46 m t (good_ok _ gm) (good_len gm) (good_ok _ gt) st
  have fin : ∀ st1 at1 e1, Lk m ret st1 lv locs at1 e1 → Went st lv st1 lv → ∀ L st2, RawT st1 st2 L (t.l.map cleanT) → Grow st1 st2 → ∃ st', fz st2 (outR t.k t.n L) = some (encT (cleanT t), st') ∧ Went st lv st' lv ∧ Lk m ret st' lv locs at1 e1 := by
    intro st1 at1 e1 K1 W1 L st2 R g
    obtain ⟨st3, f, g3⟩ := R.fzG g
    refine ⟨st3, ?_, W1.trans (.grow g3), K1.grow g3⟩
    rw [encT_clean]
    simp [outR, fz, fz1, fzL, f]
  by_cases hz : e = 0 ∧ cellsV m t = 0
  · obtain ⟨he, hz⟩ := hz
    subst he
    obtain ⟨st1, q1, K1, W1⟩ := c118 K t 11
    obtain ⟨L, st2, q2, R, g⟩ := c116 t gt st1
    simp only [if_true] at K1
    obtain ⟨st3, f, W3, K3⟩ := fin st1 _ _ K1 W1 L st2 R g
    obtain ⟨y1, y2, y3, _⟩ := R.facts
    refine ⟨st3, ?_, W3, by simpa [hz] using K3⟩
    have go : Ret (ev T 119 [.hp 0 0 15 0 0, encT t] st) fun r st' => r = outR t.k t.n L ∧ st' = st2 := by
      refine Ret_wp (fn := F119) rfl ?_
      rw [F119]
      rw [outR] at q2
      simp [h0, lkO, kHs, splice, x1, x2, x3, ← encT_eq, hc, hz, q1, q2, y1, y2, y3, outR]
    obtain ⟨r, st', h1, rfl, rfl⟩ := go
    exact callD_freE (fn := F119) rfl rfl (by simp) h1 f (by simp)
  · obtain ⟨L, st2, q2, R, g⟩ := c116 t gt st
    obtain ⟨st3, f, W3, K3⟩ := fin st _ _ K (.refl _ _) L st2 R g
    obtain ⟨y1, y2, y3, _⟩ := R.facts
    refine ⟨st3, ?_, W3, by rw [if_neg hz, if_neg hz]; exact K3⟩
    have go : Ret (ev T 119 [.hp 0 0 15 0 0, encT t] st) fun r st' => r = outR t.k t.n L ∧ st' = st2 := by
      refine Ret_wp (fn := F119) rfl ?_
      rw [F119]
      rw [outR] at q2
      by_cases he : e = 0
      · have hz' : ¬ cellsV m t = 0 := fun h => hz ⟨he, h⟩
        simp [h0, lkO, kHs, splice, x1, x2, x3, ← encT_eq, hc, hz', he, q2, y1, y2, y3, outR]
      · simp [h0, lkO, kHs, splice, x1, x2, x3, ← encT_eq, he, q2, y1, y2, y3, outR]
    obtain ⟨r, st', h1, rfl, rfl⟩ := go
    exact callD_freE (fn := F119) rfl rfl (by simp) h1 f (by simp)

/-- The kinds, gone through. -/
theorem l234 (a sp : Tm) (ks : List Int) (hl : ks.length ≤ 1000) :
    ∀ (r i : Nat) (s : List D) (bx : List (Nat × List D)) (st : St), r = ks.length - i → i ≤ ks.length → get s 23 = .sl 1 true (ks.map fun k => .int .i64 k) → get s 24 = .i ks.length → get s 25 = .int .i64 i →
      get s 7 = .lp 7 1 0 → getB bx 7 = (1, clT a) → get s 8 = .lp 8 1 0 → getB bx 8 = (1, clT sp) → get s 6 = .lp 6 1 0 → (getB bx 6).1 = 1 → (getB bx 6).2.length = 6 →
    Stops (lp T L234_0 ⟨⟨s, bx⟩, st⟩) fun e _ b' st' => st' = st ∧ if (ks.drop i).any (fun k => isT a k) then e = .ret ∧ getB b' 6 = (1, clT sp) else e = .exit 0 ∧ getB b' 6 = getB bx 6 := by
  intro r
  induction r with
  | zero =>
    intro i s bx st hr hi h23 h24 h25 h7 b7 h8 b8 h6 b6 b6'
    have e : i = ks.length := by omega
    subst e
    refine Stops_wp L234_0.eq_1 ?_
    rw [List.drop_length]
    simp [h23, h24, h25]
  | succ r ihr =>
    intro i s bx st hr hi h23 h24 h25 h7 b7 h8 b8 h6 b6 b6'
    have hlt : i < ks.length := by omega
    have hw : IntKind.wrap .i64 ((i : Int) + 1) = ((i + 1 : Nat) : Int) := by rw [wrap64] <;> omega
    have nx := fun s' bx' => ihr (i + 1) s' bx' st (by omega) (by omega)
    have hd : (ks.drop i).any (fun k => isT a k) = (isT a ks[i] || (ks.drop (i + 1)).any fun k => isT a k) := by rw [List.drop_eq_getElem_cons hlt, List.any_cons]
    have i1 : idxAD (.sl 1 true (ks.map fun k => .int .i64 k)) i 1 none none = some (.iptr (.int .i64 ks[i])) := by
      have : (ks.map fun k => D.int .i64 k)[i]? = some (.int .i64 ks[i]) := by rw [List.getElem?_map, List.getElem?_eq_getElem hlt] <;> rfl
      simp only [idxAD, this, if_true, Option.bind_some]
      rfl
    rw [hd]
    refine Stops_wp L234_0.eq_1 ?_
    by_cases hk : a.k = ks[i]
    · by_cases hn : a.l = []
      · have ht : isT a ks[i] = true := by simp [isT, hk, hn]
        rw [ht]
        simp [h23, h24, h25, h7, b7, h8, b8, h6, b6, b6', hlt, hw, i1, hk, hn, splice, -Int.natCast_add, -List.any_eq_true]
      · have ht : isT a ks[i] = false := by simp [isT, hk, hn]
        rw [ht, Bool.false_or]
        simp [h23, h24, h25, h7, b7, h8, b8, h6, b6, b6', hlt, hw, i1, hk, hn, splice, -Int.natCast_add, -List.any_eq_true]
        refine nx _ _ ?_ ?_ ?_ ?_ ?_ ?_ ?_ ?_ ?_ ?_ <;> simp [h23, h24, h7, b7, h8, b8, h6, b6, b6']
    · have ht : isT a ks[i] = false := by simp [isT, hk]
      rw [ht, Bool.false_or]
      simp [h23, h24, h25, h7, b7, h8, b8, h6, b6, b6', hlt, hw, i1, hk, splice, -Int.natCast_add, -List.any_eq_true]
      refine nx _ _ ?_ ?_ ?_ ?_ ?_ ?_ ?_ ?_ ?_ ?_ <;> simp [h23, h24, h7, b7, h8, b8, h6, b6, b6']

/-- An expression of one of these kinds of types. -/
def onlyK (m : Tm) (locs : List Tm) (t : Tm) (ks : List Int) : Er Tm :=
  match ofT m locs t with
  | .error e => .error e
  | .ok (a, s) => if ks.any (fun k => isT a k) = true then .ok s else .error (t.a, 10)
theorem onlyK2 (m : Tm) (locs : List Tm) (t : Tm) (k1 k2 : Int) : onlyT m locs t k1 k2 = onlyK m locs t [k1, k2] := by
  unfold onlyT onlyK
  cases ofT m locs t <;> simp
theorem onlyK1 (m : Tm) (locs : List Tm) (t : Tm) (k : Int) : onlyT m locs t k k = onlyK m locs t [k] := by
  unfold onlyT onlyK
  cases ofT m locs t <;> simp

/-- How a method that looks at one thing ends: as was said, or with the first error. -/
def Ends1 (m ret : Tm) (st : St) (lv : D) (locs : List Tm) (at0 e : Int) (R : Er Tm) (r : Tm) (st' : St) : Prop :=
  Went st lv st' lv ∧ (e ≠ 0 → Lk m ret st' lv locs at0 e) ∧ (e = 0 → match R with
    | .ok s => s = r ∧ Lk m ret st' lv locs at0 0
    | .error (x, y) => y ≠ 0 ∧ Lk m ret st' lv locs x y)

theorem c234 (gm : good m) (gl : e = 0 → ∀ t, t ∈ locs → good t) (hll : locs.length ≤ 1000000) (K : Lk m ret st lv locs at0 e) (t : Tm) (gt : good t) (ks : List Int) (hk : ks.length ≤ 1000) :
    ∃ r st', callD T (ev T) 234 [.hp 0 0 15 0 0, encT t, .sl 1 true (ks.map fun k => .int .i64 k)] st = some (encT r, st') ∧ Ends1 m ret st lv locs at0 e (onlyK m locs t ks) r st' := by
  obtain ⟨md, h0⟩ := K.h0
  obtain ⟨x1, x2, x3, _⟩ := K.hw.facts
  have hsl : (D.sl 1 true (ks.map fun k => .int .i64 k)).okv = true := rfl
  have hln : ∀ st q, lenD st .slice (D.sl 1 true (ks.map fun k => .int .i64 k)) q = some (.i ks.length) := fun st q => by simp [lenD]
  obtain ⟨a, s, st1, q, W, c1, c2⟩ := c232 gm gl hll K t gt
  by_cases he : e = 0
  · have c2 := c2 he
    unfold onlyK
    cases ho : ofT m locs t with
    | error x =>
      obtain ⟨x, y⟩ := x
      rw [ho] at c2
      simp only at c2
      obtain ⟨rfl, rfl, hy, K1⟩ := c2
      obtain ⟨md1, k1⟩ := K1.h0
      refine ⟨T0, st1, ?_, W, fun h => absurd he h, fun _ => ⟨hy, K1⟩⟩
      have go : Ret (ev T 234 [.hp 0 0 15 0 0, encT t, .sl 1 true (ks.map fun k => .int .i64 k)] st) fun r st' => r = encT T0 ∧ st' = st1 := by
        refine Ret_wp (fn := F234) rfl ?_
        rw [F234]
        simp [q, k1, lkO, kHs, splice, x1, x2, x3, ← encT_eq, hy]
        rw [encT_0] <;> rfl
      obtain ⟨r, st', h1, rfl, rfl⟩ := go
      exact callD_freE (fn := F234) rfl rfl (by simp [hsl]) h1 (by simp) (by simp)
    | ok x =>
      obtain ⟨a', s'⟩ := x
      rw [ho] at c2
      simp only at c2
      obtain ⟨rfl, rfl, rfl⟩ := c2
      subst he
      have lo := fun s bx => l234 a' s' ks hk ks.length 0 s bx st1 (by omega) (by omega)
      rw [List.drop_zero] at lo
      cases hq : ks.any (fun k => isT a' k) with
      | true =>
        rw [hq] at lo
        refine ⟨s', st1, ?_, .refl _ _, fun h => absurd rfl h, fun _ => by simp only [hq, if_true]; exact ⟨trivial, K⟩⟩
        have go : Ret (ev T 234 [.hp 0 0 15 0 0, encT t, .sl 1 true (ks.map fun k => .int .i64 k)] st1) fun r st' => r = encT s' ∧ st' = st1 := by
          refine Ret_wp (fn := F234) rfl ?_
          rw [F234]
          simp [q, h0, lkO, kHs, splice, x1, x2, x3, ← encT_eq, hln]
          refine WL.useB L234_0_p L234_0_w (WB := L234_0.wrB) rfl (lo _ _ ?_ ?_ ?_ ?_ ?_ ?_ ?_ ?_ ?_ ?_) ?_
          iterate 10 simp
          rintro e s1 b1 st2 ⟨rfl, h⟩ hf hb
          simp only [if_true] at h
          obtain ⟨rfl, p6⟩ := h
          have e6 := hf 6 rfl
          simp at e6
          simp [p6, e6, ← encT_eq]
        obtain ⟨r, st', h1, rfl, rfl⟩ := go
        exact callD_freE (fn := F234) rfl rfl (by simp [hsl]) h1 (by simp) (by simp)
      | false =>
        rw [hq] at lo
        obtain ⟨st2, q2, K2, W2⟩ := c118 K t 10
        refine ⟨s', st2, ?_, W2, fun h => absurd rfl h, fun _ => by simp only [hq, Bool.false_eq_true, if_false]; exact ⟨by decide, by simpa using K2⟩⟩
        have go : Ret (ev T 234 [.hp 0 0 15 0 0, encT t, .sl 1 true (ks.map fun k => .int .i64 k)] st1) fun r st' => r = encT s' ∧ st' = st2 := by
          refine Ret_wp (fn := F234) rfl ?_
          rw [F234]
          simp [q, q2, h0, lkO, kHs, splice, x1, x2, x3, ← encT_eq, hln]
          refine WL.useB L234_0_p L234_0_w (WB := L234_0.wrB) rfl (lo _ _ ?_ ?_ ?_ ?_ ?_ ?_ ?_ ?_ ?_ ?_) ?_
          iterate 10 simp
          rintro e s1 b1 st3 ⟨rfl, h⟩ hf hb
          simp only [Bool.false_eq_true, if_false] at h
          obtain ⟨rfl, p6⟩ := h
          have e0 := hf 0 rfl
          have e4 := hf 4 rfl
          have e6 := hf 6 rfl
          have e8 := hf 8 rfl
          have b4 := hb 4 rfl
          have b8 := hb 8 rfl
          simp at e0 e4 e6 e8 b4 b8 p6
          simp [p6, e0, e4, e6, e8, b4, b8, q2, splice, ← encT_eq]
        obtain ⟨r, st', h1, rfl, rfl⟩ := go
        exact callD_freE (fn := F234) rfl rfl (by simp [hsl]) h1 (by simp) (by simp)
  · obtain ⟨rfl, rfl, rfl⟩ := c1 he
    refine ⟨T0, st1, ?_, W, fun _ => K, fun h => absurd h he⟩
    have go : Ret (ev T 234 [.hp 0 0 15 0 0, encT t, .sl 1 true (ks.map fun k => .int .i64 k)] st1) fun r st' => r = encT T0 ∧ st' = st1 := by
      refine Ret_wp (fn := F234) rfl ?_
      rw [F234]
      simp [q, h0, lkO, kHs, splice, x1, x2, x3, ← encT_eq, he]
      rw [encT_0] <;> rfl
    obtain ⟨r, st', h1, rfl, rfl⟩ := go
    exact callD_freE (fn := F234) rfl rfl (by simp [hsl]) h1 (by simp) (by simp)
end Go.Nt.Ty

/-
  RIGHT MODULES, walked (3): what has no heap: shapes, parts, roots, plain types.
  No condition.
-/
set_option linter.unusedSimpArgs false
namespace Go.Nt.Ty
open Go Go.Nt

/-- Parts of one part each. -/
theorem l117 (fl : Fl) (l : List Tm) (hl : l.length ≤ 1000000) :
    ∀ (r i : Nat) (s : List D) (bx : List (Nat × List D)) (st : St), r = l.length - i → i ≤ l.length → get s 5 = slE 6 fl (encTs l) → get s 6 = .i l.length → get s 7 = .int .i64 i →
    Stops (lp T L117_0 ⟨⟨s, bx⟩, st⟩) fun e s' _ _ => if partedT (l.drop i) then e = .exit 0 else e = .ret ∧ get s' 2 = .bool false := by
  intro r
  induction r with
  | zero =>
    intro i s bx st hr hi h5 h6 h7
    have e : i = l.length := by omega
    subst e
    refine Stops_wp L117_0.eq_1 ?_
    rw [List.drop_length]
    simp [h5, h6, h7, partedT]
  | succ r ihr =>
    intro i s bx st hr hi h5 h6 h7
    have hlt : i < l.length := by omega
    have hw : IntKind.wrap .i64 ((i : Int) + 1) = ((i + 1 : Nat) : Int) := by rw [wrap64] <;> omega
    have nx := fun s' bx' => ihr (i + 1) s' bx' st (by omega) (by omega)
    have hd : partedT (l.drop i) = (decide (l[i].k = 34) && decide (l[i].l.length = 1) && partedT (l.drop (i + 1))) := by rw [List.drop_eq_getElem_cons hlt, partedT, List.all_cons] <;> rfl
    rw [hd]
    refine Stops_wp L117_0.eq_1 ?_
    by_cases hk : l[i].k = 34
    · by_cases hn : l[i].l.length = 1
      · simp [h5, h6, h7, hlt, hw, hk, hn, -Int.natCast_add]
        refine nx _ _ ?_ ?_ ?_ <;> simp [h5, h6]
      · simp [h5, h6, h7, hlt, hw, hk, hn, -Int.natCast_add]
    · simp [h5, h6, h7, hlt, hw, hk, -Int.natCast_add]

theorem c117 (fl : Fl) (l : List Tm) (hl : l.length ≤ 1000000) (st : St) : callD T (ev T) 117 [slE 6 fl (encTs l)] st = some (.bool (partedT l), st) := by
  refine callD_pureR (fn := F117) rfl rfl (by simp) (by simp) ?_
  refine Ret_wp (fn := F117) rfl ?_
  rw [F117]
  have lo := fun s bx st => l117 fl l hl l.length 0 s bx st (by omega) (by omega)
  simp
  refine WL.use L117_0_p L117_0_w (lo _ _ _ ?_ ?_ ?_) ?_
  iterate 3 simp
  rintro e s' b' st' h hf
  rw [List.drop_zero] at h
  cases hp : partedT l with
  | true => rw [hp] at h; simp at h; subst h; simp
  | false => rw [hp] at h; simp at h; obtain ⟨rfl, q2⟩ := h; simp [q2]

/-- Blocks alone. -/
theorem l231 (fl : Fl) (l : List Tm) (hl : l.length ≤ 1000000) :
    ∀ (r i : Nat) (s : List D) (bx : List (Nat × List D)) (st : St), r = l.length - i → i ≤ l.length → get s 35 = slE 6 fl (encTs l) → get s 36 = .i l.length → get s 37 = .int .i64 i →
    Stops (lp T L231_0 ⟨⟨s, bx⟩, st⟩) fun e s' _ _ => if (l.drop i).all (fun x => decide (x.k = 29)) then e = .exit 1 else e = .ret ∧ get s' 2 = .bool false := by
  intro r
  induction r with
  | zero =>
    intro i s bx st hr hi h5 h6 h7
    have e : i = l.length := by omega
    subst e
    refine Stops_wp L231_0.eq_1 ?_
    rw [List.drop_length]
    simp [h5, h6, h7]
  | succ r ihr =>
    intro i s bx st hr hi h5 h6 h7
    have hlt : i < l.length := by omega
    have hw : IntKind.wrap .i64 ((i : Int) + 1) = ((i + 1 : Nat) : Int) := by rw [wrap64] <;> omega
    have nx := fun s' bx' => ihr (i + 1) s' bx' st (by omega) (by omega)
    rw [List.drop_eq_getElem_cons hlt, List.all_cons]
    refine Stops_wp L231_0.eq_1 ?_
    by_cases hk : l[i].k = 29
    · simp [h5, h6, h7, hlt, hw, hk, -Int.natCast_add, -List.all_eq_true]
      refine nx _ _ ?_ ?_ ?_ <;> simp [h5, h6]
    · simp [h5, h6, h7, hlt, hw, hk, -Int.natCast_add]

theorem slice_from (fl : Fl) (l : List Tm) (h : l ≠ []) (n : Nat) (hn : n ≤ l.length) : ∃ fl', sliceD (slE 6 fl (encTs l)) (some (.int .i64 n)) none none = some (slE 6 fl' (encTs (l.drop n))) := by
  have e : ∃ b, slE 6 fl (encTs l) = .sl 6 b (encTs l) := by
    cases l with
    | nil => exact absurd rfl h
    | cons x r => cases fl <;> exact ⟨_, rfl⟩
  obtain ⟨b, e⟩ := e
  rw [e]
  have e2 : List.take l.length (encTs l) = encTs l := List.take_of_length_le (by simp)
  refine ⟨if b then .full else .part, ?_⟩
  have e3 : ∀ ds, slE 6 (if b then .full else .part) ds = .sl 6 b ds := by intro ds; cases b <;> rfl
  rw [e3]
  have hn' : (n : Int) ≤ l.length := by omega
  simp [sliceD, boundD, e2, hn, hn', encTs_drop]

theorem c231 (t : Tm) (gt : good t) (st : St) : callD T (ev T) 231 [encT t] st = some (.bool (shapeT t), st) := by
  have hl := good_len gt
  refine callD_pureR (fn := F231) rfl rfl (by simp) (by simp) ?_
  refine Ret_wp (fn := F231) rfl ?_
  rw [F231, encT_eq]
  unfold shapeT isStmt
  have w1 : IntKind.wrap .i64 1 = 1 := by decide
  have w2 : IntKind.wrap .i64 2 = 2 := by decide
  by_cases k29 : t.k = 29
  · simp [k29]
  by_cases hk : t.k = 20 ∨ t.k = 21 ∨ t.k = 22 ∨ t.k = 23 ∨ t.k = 24 ∨ t.k = 25 ∨ t.k = 26 ∨ t.k = 27 ∨ t.k = 28
  · rcases hk with hk | hk | hk | hk | hk | hk | hk | hk | hk
    all_goals
      by_cases hn : t.l.length = (partsN t.k).1
      · have hne : t.l ≠ [] := by intro q; rw [q, hk] at hn; simp [partsN] at hn
        obtain ⟨fl', hs⟩ := slice_from t.fl t.l hne ((partsN t.k).1 - (partsN t.k).2) (by omega)
        have lo := fun s bx st => l231 fl' (t.l.drop ((partsN t.k).1 - (partsN t.k).2)) (by simp; omega) _ 0 s bx st rfl (Nat.zero_le _)
        rw [List.drop_zero] at lo
        have hnl : (t.l.drop ((partsN t.k).1 - (partsN t.k).2)).length = (partsN t.k).2 := by
          rw [List.length_drop, hn, hk]; simp [partsN]
        generalize hd : t.l.drop ((partsN t.k).1 - (partsN t.k).2) = d at *
        simp [hk, partsN, -List.all_eq_true] at hn hs hd hnl lo
        simp [hk, partsN, hn, hs, hd, w1, w2, -List.drop_one, -List.all_eq_true]
        refine WL.use L231_0_p L231_0_w (lo _ _ _ ?_ ?_ ?_) ?_
        iterate 3 simp [hnl]
        rintro e s' b' st' h hf
        cases ha : d.all (fun x => decide (x.k = 29)) with
        | true => rw [ha] at h; simp at h; subst h; simp
        | false => rw [ha] at h; simp at h; obtain ⟨rfl, q2⟩ := h; simp [q2]
      · simp [hk, partsN] at hn
        have hc1 : ((t.l.length : Int) = 1) = (t.l.length = 1) := propext (by omega)
        have hc2 : ((t.l.length : Int) = 2) = (t.l.length = 2) := propext (by omega)
        have hc3 : ((t.l.length : Int) = 3) = (t.l.length = 3) := propext (by omega)
        simp [hk, partsN, hn, hc1, hc2, hc3]
  · simp only [not_or] at hk
    obtain ⟨h1, h2, h3, h4, h5, h6, h7, h8, h9⟩ := hk
    simp [k29, h1, h2, h3, h4, h5, h6, h7, h8, h9]
end Go.Nt.Ty

/-
  RIGHT MODULES, walked (4): roots, plain types, alike modules.
  No condition.
-/
set_option linter.unusedSimpArgs false
namespace Go.Nt.Ty
open Go Go.Nt

theorem l274 (t : Tm) : good t → ∀ (s : List D) (bx : List (Nat × List D)) (st : St), get s 1 = .lp 1 1 0 → getB bx 1 = (1, clT t) →
    Stops (lp T L274_0 ⟨⟨s, bx⟩, st⟩) fun e _ b' st' => e = .exit 0 ∧ st' = st ∧ getB b' 1 = (1, clT (rootT t)) := by
  induction t using Tm.ind with
  | h t ih =>
    intro gt s bx st h1 b1
    refine Stops_wp L274_0.eq_1 ?_
    by_cases hk : t.k = 12 ∨ t.k = 13
    · cases hl : t.l with
      | nil =>
        rw [root_in hk, hl]
        rcases hk with hk | hk <;> simp [h1, b1, hk, hl]
      | cons x r =>
        rw [root_in hk, hl]
        have nx := fun s' bx' => ih x (by rw [hl]; simp) (good_mem gt (by rw [hl]; simp)) s' bx' st
        rcases hk with hk | hk
        · simp [h1, b1, hk, hl, splice]
          refine nx _ _ ?_ ?_ <;> simp [h1]
        · simp [h1, b1, hk, hl, splice]
          refine nx _ _ ?_ ?_ <;> simp [h1]
    · rw [root_out hk]
      have h12 : ¬ t.k = 12 := fun h => hk (.inl h)
      have h13 : ¬ t.k = 13 := fun h => hk (.inr h)
      simp [h1, b1, h12, h13]

theorem c274 (t : Tm) (gt : good t) (st : St) : callD T (ev T) 274 [encT t] st = some (encT (rootT t), st) := by
  refine callD_pureR (fn := F274) rfl rfl (by simp) (by simp) ?_
  refine Ret_wp (fn := F274) rfl ?_
  rw [F274]
  have lo := fun s bx st => l274 t gt s bx st
  simp
  refine WL.useB L274_0_p L274_0_w (WB := L274_0.wrB) rfl (lo _ _ _ ?_ ?_) ?_
  iterate 2 simp
  rintro e s' b' st' ⟨rfl, rfl, p1⟩ hf hb
  have e1 := hf 1 rfl
  have e2 := hf 2 rfl
  have b2 := hb 2 rfl
  simp at e1 e2 b2
  simp [p1, e1, e2, b2, splice, ← encT_eq]

theorem plain_3 {t x : Tm} {r : List Tm} (hk : t.k = 3) (hl : t.l = x :: r) : plainT t = plainT x := by
  cases t; simp only [Tm.k, Tm.l] at hk hl; subst hk; subst hl; rw [plainT.eq_def]; simp
theorem plain_n {t : Tm} (hk : t.k ≠ 3) : plainT t = !decide (t.k = 4) := by
  cases t; simp only [Tm.k] at hk; rw [plainT.eq_def]; simp [hk, Tm.k] <;> rfl

theorem cells_part {m t : Tm} (hk : t.k = 3) (h : cellsV m t ≠ 0) : ∃ x r, t.l = x :: r ∧ cellsV m x ≠ 0 := by
  unfold cellsV at h ⊢
  rw [arrM_eq, if_neg (by omega), if_pos hk] at h
  split at h
  · next x hx =>
    refine ⟨x, [], hx, fun q => h ?_⟩
    rw [q]
    simp [prod]
  · exact absurd rfl h

theorem l121 {m : Tm} (t : Tm) : cellsV m t ≠ 0 → ∀ (s : List D) (bx : List (Nat × List D)) (st : St), get s 3 = .lp 3 1 0 → getB bx 3 = (1, clT t) →
    Stops (lp T L121_0 ⟨⟨s, bx⟩, st⟩) fun e _ b' st' => e = .exit 0 ∧ st' = st ∧ ∃ u : Tm, getB b' 3 = (1, clT u) ∧ plainT t = !decide (u.k = 4) := by
  induction t using Tm.ind with
  | h t ih =>
    intro hc s bx st h3 b3
    refine Stops_wp L121_0.eq_1 ?_
    by_cases hk : t.k = 3
    · obtain ⟨x, r, hl, hx⟩ := cells_part hk hc
      have nx := fun s' bx' => ih x (by rw [hl]; simp) hx s' bx' st
      rw [plain_3 hk hl]
      generalize plainT x = p at *
      simp [h3, b3, hk, hl, splice, -ne_eq, -decide_not]
      refine nx _ _ ?_ ?_ <;> simp [h3]
    · rw [plain_n hk]
      simp [h3, b3, hk, -ne_eq, -decide_not]
      exact ⟨t, ⟨rfl, rfl, rfl, rfl, rfl, rfl⟩, Iff.rfl⟩

theorem c121 {m : Tm} (gm : good m) (t : Tm) (gt : good t) (hc : cellsV m t ≠ 0) (st : St) : callD T (ev T) 121 [encT m, encT t] st = some (.bool (plainT t), st) := by
  have q := fun st => c46 m t (good_ok _ gm) (good_len gm) (good_ok _ gt) st
  refine callD_pureR (fn := F121) rfl rfl (by simp) (by simp) ?_
  refine Ret_wp (fn := F121) rfl ?_
  rw [F121]
  have lo := fun s bx st => l121 t hc s bx st
  simp [← encT_eq, q, hc]
  refine WL.useB L121_0_p L121_0_w (WB := L121_0.wrB) rfl (lo _ _ _ ?_ ?_) ?_
  iterate 2 simp
  rintro e s' b' st' ⟨rfl, rfl, u, p3, hp⟩ hf hb
  have e3 := hf 3 rfl
  simp at e3
  simp [p3, e3, hp]

/-- Alike, and the second one without names and places. -/
theorem l70 (a b : Tm) (gb : good b) (hl : a.l.length ≤ 1000000) (hlen : a.l.length = b.l.length) (ih : ∀ u, u ∈ a.l → ∀ v, good v → ∀ st, callD T (ev T) 70 [encT u, encT v] st = some (.bool (sameR u v), st)) :
    ∀ (r i : Nat) (s : List D) (bx : List (Nat × List D)), r = a.l.length - i → i ≤ a.l.length → get s 44 = slE 6 a.fl (encTs a.l) → get s 45 = .i a.l.length → get s 46 = .int .i64 i → get s 3 = .lp 3 1 0 → getB bx 3 = (1, clT b) →
    Stops (lp T L70_0 ⟨⟨s, bx⟩, []⟩) fun e s' _ _ => if sameR.sameRs (a.l.drop i) (b.l.drop i) then e = .exit 0 else e = .ret ∧ get s' 4 = .bool false := by
  intro r
  induction r with
  | zero =>
    intro i s bx hr hi h44 h45 h46 h3 b3
    have e : i = a.l.length := by omega
    subst e
    refine Stops_wp L70_0.eq_1 ?_
    rw [List.drop_length, hlen, List.drop_length]
    simp [h44, h45, h46, sameR.sameRs]
  | succ r ihr =>
    intro i s bx hr hi h44 h45 h46 h3 b3
    have hlt : i < a.l.length := by omega
    have hlt' : i < b.l.length := by omega
    have hw : IntKind.wrap .i64 ((i : Int) + 1) = ((i + 1 : Nat) : Int) := by rw [wrap64] <;> omega
    have nx := fun s' bx' => ihr (i + 1) s' bx' (by omega) (by omega)
    have q := ih a.l[i] (List.getElem_mem hlt) b.l[i] (good_mem gb (List.getElem_mem hlt')) []
    rw [List.drop_eq_getElem_cons hlt, List.drop_eq_getElem_cons hlt', sameR.sameRs]
    refine Stops_wp L70_0.eq_1 ?_
    cases hs : sameR a.l[i] b.l[i] with
    | true =>
      rw [hs] at q
      rw [Bool.true_and]
      simp [h44, h45, h46, h3, b3, hlt, hlt', hw, ← encT_eq, q, -Int.natCast_add]
      refine nx _ _ ?_ ?_ ?_ ?_ ?_ <;> simp [h44, h45, h3, b3]
    | false =>
      rw [hs] at q
      simp [h44, h45, h46, h3, b3, hlt, hlt', hw, ← encT_eq, q, -Int.natCast_add]

theorem c70 (a : Tm) : ∀ (b : Tm), good b → ∀ (st : St), callD T (ev T) 70 [encT a, encT b] st = some (.bool (sameR a b), st) := by
  induction a using Tm.ind with
  | h a ih =>
    intro b gb st
    refine callD_pureR (fn := F70) rfl rfl (by simp) (by simp) ?_
    refine Ret_wp (fn := F70) rfl ?_
    rw [F70, encT_eq a, encT_eq b]
    rw [show sameR a b = (a.k == b.k && (a.n == b.n && (b.s == [] && (b.a == 0 && (b.b == 0 && sameR.sameRs a.l b.l))))) from sameR_eq a b]
    by_cases hk : a.k = b.k
    case neg => simp [hk]
    by_cases hn : a.n = b.n
    case neg => simp [hk, hn]
    by_cases hs : b.s = []
    case neg => simp [hk, hn, hs]
    by_cases ha : b.a = 0
    case neg => simp [hk, hn, hs, ha]
    by_cases hb : b.b = 0
    case neg => simp [hk, hn, hs, ha, hb]
    by_cases hl : a.l.length = b.l.length
    · have lo := fun s bx => l70 a b gb (by have := good_len gb; omega) hl (fun u hu v gv st => ih u hu v gv st) a.l.length 0 s bx (by omega) (by omega)
      rw [List.drop_zero, List.drop_zero] at lo
      have hl' : ((a.l.length : Int) = b.l.length) = True := eq_true (by omega)
      generalize sameR.sameRs a.l b.l = q at *
      simp [hk, hn, hs, ha, hb, hl]
      refine WL.use L70_0_p L70_0_w (lo _ _ ?_ ?_ ?_ ?_ ?_) ?_
      iterate 5 simp [hl, ha, hb, hs]
      rintro e s' b' st' h hf
      cases q with
      | true => simp at h; subst h; simp
      | false => simp at h; obtain ⟨rfl, q2⟩ := h; simp [q2]
    · have hl' : ((a.l.length : Int) = b.l.length) = False := eq_false (by omega)
      have hq : sameR.sameRs a.l b.l = false := by
        have : ∀ (l r : List Tm), sameR.sameRs l r = true → l.length = r.length := by
          intro l
          induction l with
          | nil => intro r h; cases r with | nil => rfl | cons x r => simp [sameR.sameRs] at h
          | cons y l ihl => intro r h; cases r with | nil => simp [sameR.sameRs] at h | cons x r => simp [sameR.sameRs] at h; simp [ihl r h.2]
        cases hq : sameR.sameRs a.l b.l with
        | false => rfl
        | true => exact absurd (this _ _ hq) hl
      simp [hk, hn, hs, ha, hb, hl, hq]
end Go.Nt.Ty

/-
  RIGHT MODULES BY THE REFERENCE, walked (1): bare and nameless terms, terms alike, ways.
  No condition.
-/
set_option linter.unusedSimpArgs false
namespace Go.Nt.Ty
open Go Go.Nt

theorem l160 (t : Tm) (hl : t.l.length ≤ 1000000) (hc : ∀ u, u ∈ t.l → ∀ st, callD T (ev T) 160 [encT u] st = some (encT (bareE u), st)) :
    ∀ (r i : Nat) (s : List D) (bx : List (Nat × List D)), r = t.l.length - i → i ≤ t.l.length → get s 1 = .lp 1 1 0 → getB bx 1 = (1, clT t) → get s 3 = (grown (seed 6 .emp) 6 (encTs ((t.l.map bareE).take i))).1 → get s 4 = .int .i64 i →
    Stops (lp T L160_0 ⟨⟨s, bx⟩, (grown (seed 6 .emp) 6 (encTs ((t.l.map bareE).take i))).2⟩) fun e s' _ st' => e = .exit 0 ∧ get s' 3 = (grown (seed 6 .emp) 6 (encTs (t.l.map bareE))).1 ∧ st' = (grown (seed 6 .emp) 6 (encTs (t.l.map bareE))).2 := by
  intro r
  induction r with
  | zero =>
    intro i s bx hr hi h1 b1 h3 h4
    have e : i = t.l.length := by omega
    subst e
    have q : (t.l.map bareE).take t.l.length = t.l.map bareE := List.take_of_length_le (by simp)
    rw [q] at h3 ⊢
    refine Stops_wp L160_0.eq_1 ?_
    simp [h1, b1, h3, h4]
  | succ r ihr =>
    intro i s bx hr hi h1 b1 h3 h4
    have hlt : i < t.l.length := by omega
    have hw : IntKind.wrap .i64 ((i : Int) + 1) = ((i + 1 : Nat) : Int) := by rw [wrap64] <;> omega
    have c0 := hc _ (List.getElem_mem hlt)
    have gr := grow .emp 6 (encTs ((t.l.map bareE).take i)) (encT (bareE t.l[i])) (by simp; omega)
    have q : encTs ((t.l.map bareE).take (i + 1)) = encTs ((t.l.map bareE).take i) ++ [encT (bareE t.l[i])] := by
      rw [List.take_succ_eq_append_getElem (by simpa using hlt), encTs_append]; simp
    have nx := fun s' bx' => ihr (i + 1) s' bx' (by omega) (by omega)
    rw [q] at nx
    generalize (t.l.map bareE) = L at *
    generalize grown (seed 6 .emp) 6 (encTs (L.take i) ++ [encT (bareE t.l[i])]) = G at *
    obtain ⟨g1, g2⟩ := G
    refine Stops_wp L160_0.eq_1 ?_
    simp [h1, b1, h3, h4, hlt, hw, ← encT_eq, c0, gr, -Int.natCast_add]
    refine nx _ _ ?_ ?_ ?_ ?_ <;> simp [h1, b1]

theorem c160 (t : Tm) : good t → ∀ st, callD T (ev T) 160 [encT t] st = some (encT (bareE t), st) := by
  induction t using Tm.ind with
  | h t ih =>
    intro gt st
    refine callD_pureR (fn := F160) rfl rfl (by simp) (by simp) ?_
    refine Ret_wp (fn := F160) rfl ?_
    rw [F160, bareE_eq]
    have lo := fun s bx => l160 t (good_len gt) (fun u hu st => ih u hu (good_mem gt hu) st) t.l.length 0 s bx (by omega) (by omega)
    simp [splice, fillD] at lo ⊢
    refine WL.useB L160_0_p L160_0_w (WB := L160_0.wrB) rfl (lo _ _ ?_ ?_ ?_ ?_) ?_
    iterate 4 simp [seed]
    rintro e s' b' st' ⟨rfl, q3, rfl⟩ hf hb
    have e1 := hf 1 rfl
    have e2 := hf 2 rfl
    have b1 := hb 1 rfl
    have b2 := hb 2 rfl
    simp at e1 e2 b1 b2
    simp [q3, e1, e2, b1, b2, splice, fillD, encT, Fl.grew]

theorem slE_pfl (l : List Tm) : slE 6 (pfl l) (encTs l) = slE 6 .nil (encTs l) := by cases l <;> rfl
theorem nlE_k (t : Tm) : (nlE t).k = t.k := by rw [nlE_eq, k_mk]
theorem nlE_n (t : Tm) : (nlE t).n = t.n := by rw [nlE_eq, n_mk]
theorem nlE_s (t : Tm) : (nlE t).s = [] := by rw [nlE_eq, s_mk]
theorem nlE_a (t : Tm) : (nlE t).a = 0 := by rw [nlE_eq, a_mk]
theorem nlE_b (t : Tm) : (nlE t).b = 0 := by rw [nlE_eq, b_mk]
theorem nlE_fl (t : Tm) : (nlE t).fl = .nil := by rw [nlE_eq, fl_mk]
theorem nlE_l (t : Tm) : (nlE t).l = t.l.map nlE := by rw [nlE_eq, l_mk]
theorem nl_out (t : Tm) : encT (nlE t) = outR t.k t.n (slE 6 (pfl (t.l.map nlE)) (encTs (t.l.map nlE))) := by
  rw [nlE_eq, encT_eq, outR]; simp
  cases t.l <;> rfl

theorem l139 (t : Tm) (st0 : St) (hl : t.l.length ≤ 1000000)
    (ih : ∀ u, u ∈ t.l → ∀ st, ∃ L st', callD T (ev T) 139 [encT u] st = some (outR u.k u.n L, st') ∧ RawT st st' L (u.l.map nlE) ∧ Grow st st') :
    ∀ (r i : Nat) (s : List D) (bx : List (Nat × List D)) (L : D) (st : St), r = t.l.length - i → i ≤ t.l.length → Grow st0 st → RawT st0 st L ((t.l.take i).map nlE) →
      get s 1 = .lp 1 1 0 → getB bx 1 = (1, clT t) → get s 4 = .int .i64 i → get s 3 = .lp 3 1 0 → getB bx 3 = (1, [.int .i64 t.k, .int .i64 t.n, .str [], L, .int .i64 0, .int .i64 0]) →
    Stops (lp T L139_0 ⟨⟨s, bx⟩, st⟩) fun e _ b' st' => e = .exit 0 ∧ ∃ L', getB b' 3 = (1, [.int .i64 t.k, .int .i64 t.n, .str [], L', .int .i64 0, .int .i64 0]) ∧ RawT st0 st' L' (t.l.map nlE) ∧ Grow st0 st' := by
  intro r
  induction r with
  | zero =>
    intro i s bx L st hr hi hg hR h1 b1 h4 h3 b3
    have e : i = t.l.length := by omega
    subst e
    refine Stops_wp L139_0.eq_1 ?_
    rw [List.take_length] at hR
    simp [h1, b1, h4, h3, b3]
    exact ⟨hR, hg⟩
  | succ r ihr =>
    intro i s bx L st hr hi hg hR h1 b1 h4 h3 b3
    have hlt : i < t.l.length := by omega
    have hw : IntKind.wrap .i64 ((i : Int) + 1) = ((i + 1 : Nat) : Int) := by rw [wrap64] <;> omega
    obtain ⟨L1, st1, q, R1, g1⟩ := ih t.l[i] (List.getElem_mem hlt) st
    obtain ⟨st2, f1, g2⟩ := R1.fzG g1
    have hR2 : RawT st0 st2 L _ := hR.grow g2
    have hg2 := hg.trans g2
    have hlen : ((t.l.take i).map nlE).length ≤ 1000000 := by simp; omega
    obtain ⟨L3, st3, a1, R3, hl3, a3, _⟩ := hR2.app hlen hg2.1 (nlE t.l[i])
    have hg3 : Grow st0 st3 := ⟨by have := hg2.1; omega, fun j hj => by
      rw [a3 j (by have := hg2.1; omega) ?_, hg2.2 j hj]
      rcases hR2 with ⟨h, _⟩ | ⟨id, md, _, rfl, _, h2, _⟩
      · exact .inl h
      · exact .inr (by simp only [lidOf]; omega)⟩
    have e1 : (t.l.take i).map nlE ++ [nlE t.l[i]] = (t.l.take (i + 1)).map nlE := by
      rw [← List.map_singleton, ← List.map_append, List.take_append_getElem hlt]
    rw [e1] at R3
    have nx := fun s' bx' => ihr (i + 1) s' bx' L3 st3 (by omega) (by omega) hg3 R3
    obtain ⟨x1, x2, x3, x4⟩ := hR.facts
    obtain ⟨y1, y2, y3, y4⟩ := R1.facts
    obtain ⟨z1, z2, z3, z4⟩ := R3.facts
    rw [nl_out] at a1
    rw [outR] at q a1
    refine Stops_wp L139_0.eq_1 ?_
    simp [h1, b1, h4, h3, b3, hlt, hw, ← encT_eq, q, f1, a1, x1, x2, x3, x4, y1, y2, y3, z1, z2, z3, splice, -Int.natCast_add]
    refine nx _ _ ?_ ?_ ?_ ?_ ?_ <;> simp [h1, b1, h3]

theorem c139 (t : Tm) : good t → ∀ st, ∃ L st', callD T (ev T) 139 [encT t] st = some (outR t.k t.n L, st') ∧ RawT st st' L (t.l.map nlE) ∧ Grow st st' := by
  induction t using Tm.ind with
  | h t ih =>
    intro gt st
    have hl := good_len gt
    have lo := fun s bx => l139 t st hl (fun u hu st => ih u hu (good_mem gt hu) st) t.l.length 0 s bx .nils st (by omega) (by omega) (Grow.refl st) (RawT.nil st st)
    rw [callD_rawE (fn := F139) rfl rfl (by simp)]
    have go : Ret (ev T 139 [encT t] st) fun r st' => ∃ L, r = outR t.k t.n L ∧ RawT st st' L (t.l.map nlE) ∧ Grow st st' := by
      refine Ret_wp (fn := F139) rfl ?_
      rw [F139]
      simp [splice, fillD]
      refine WL.useB L139_0_p L139_0_w (WB := L139_0.wrB) rfl (lo _ _ ?_ ?_ ?_ ?_ ?_) ?_
      iterate 5 simp
      rintro e s' b' st' ⟨rfl, L', p3, R, g⟩ hf hb
      obtain ⟨x1, x2, x3, x4⟩ := R.facts
      have e1 := hf 2 rfl
      have e3 := hf 3 rfl
      have e4 := hb 2 rfl
      simp at e1 e3 e4
      simp [p3, x1, x2, x3, splice, e1, e3, e4]
      exact ⟨L', rfl, R, g⟩
    obtain ⟨r, st', h1, L, rfl, R, g⟩ := go
    exact ⟨L, st', h1, R, g⟩

theorem l74 (a b : Tm) (hl : a.l.length ≤ 1000000) (hlen : a.l.length = b.l.length) (ih : ∀ u, u ∈ a.l → ∀ v, ∀ st, callD T (ev T) 74 [encT u, encT v] st = some (.bool (sameT u v), st)) :
    ∀ (r i : Nat) (s : List D) (bx : List (Nat × List D)), r = a.l.length - i → i ≤ a.l.length → get s 2 = .lp 2 1 0 → getB bx 2 = (1, clT a) → get s 3 = .lp 3 1 0 → getB bx 3 = (1, clT b) → get s 5 = .int .i64 i →
    Stops (lp T L74_0 ⟨⟨s, bx⟩, []⟩) fun e s' _ _ => if sameT.sameTs (a.l.drop i) (b.l.drop i) then e = .exit 0 else e = .ret ∧ get s' 4 = .bool false := by
  intro r
  induction r with
  | zero =>
    intro i s bx hr hi h2 b2 h3 b3 h5
    have e : i = a.l.length := by omega
    subst e
    refine Stops_wp L74_0.eq_1 ?_
    rw [List.drop_length, hlen, List.drop_length]
    simp [h2, b2, h3, b3, h5, hlen, sameT.sameTs]
  | succ r ihr =>
    intro i s bx hr hi h2 b2 h3 b3 h5
    have hlt : i < a.l.length := by omega
    have hlt' : i < b.l.length := by omega
    have hw : IntKind.wrap .i64 ((i : Int) + 1) = ((i + 1 : Nat) : Int) := by rw [wrap64] <;> omega
    have nx := fun s' bx' => ihr (i + 1) s' bx' (by omega) (by omega)
    have q := ih a.l[i] (List.getElem_mem hlt) b.l[i] []
    rw [List.drop_eq_getElem_cons hlt, List.drop_eq_getElem_cons hlt', sameT.sameTs]
    refine Stops_wp L74_0.eq_1 ?_
    cases hs : sameT a.l[i] b.l[i] with
    | true =>
      rw [hs] at q
      rw [Bool.true_and]
      simp [h2, b2, h3, b3, h5, hlt, hlt', hw, ← encT_eq, q, -Int.natCast_add]
      refine nx _ _ ?_ ?_ ?_ ?_ ?_ <;> simp [h2, b2, h3, b3]
    | false =>
      rw [hs] at q
      simp [h2, b2, h3, b3, h5, hlt, hlt', hw, ← encT_eq, q, -Int.natCast_add]

theorem c74 (a : Tm) : good a → ∀ (b : Tm) (st : St), callD T (ev T) 74 [encT a, encT b] st = some (.bool (sameT a b), st) := by
  induction a using Tm.ind with
  | h a ih =>
    intro ga b st
    refine callD_pureR (fn := F74) rfl rfl (by simp) (by simp) ?_
    refine Ret_wp (fn := F74) rfl ?_
    rw [F74, sameT_eq a b]
    by_cases hk : a.k = b.k
    case neg => simp [hk]
    by_cases hn : a.n = b.n
    case neg => simp [hk, hn]
    by_cases hs : a.s = b.s
    case neg => simp [hk, hn, hs]
    by_cases hl : a.l.length = b.l.length
    · have lo := fun s bx => l74 a b (good_len ga) hl (fun u hu v st => ih u hu (good_mem ga hu) v st) a.l.length 0 s bx (by omega) (by omega)
      rw [List.drop_zero, List.drop_zero] at lo
      have hl' : ((a.l.length : Int) = b.l.length) = True := eq_true (by omega)
      generalize sameT.sameTs a.l b.l = q at *
      simp [hk, hn, hs, hl]
      refine WL.use L74_0_p L74_0_w (lo _ _ ?_ ?_ ?_ ?_ ?_) ?_
      iterate 5 simp [hk, hn, hs]
      rintro e s' b' st' h hf
      cases q with
      | true => simp at h; subst h; simp
      | false => simp at h; obtain ⟨rfl, q2⟩ := h; simp [q2]
    · have hl' : ((a.l.length : Int) = b.l.length) = False := eq_false (by omega)
      have hq := sameTs_len a.l b.l hl
      simp [hk, hn, hs, hl, hl', hq]

theorem l66 (a b : Tm) (gb : good b) (hlen : a.l.length = b.l.length) (ih : ∀ u, u ∈ a.l → ∀ v, good v → ∀ st, callD T (ev T) 66 [encT u, encT v] st = some (.bool (placedT u v), st)) :
    ∀ (r i : Nat) (s : List D) (bx : List (Nat × List D)), r = a.l.length - i → i ≤ a.l.length → get s 2 = .lp 2 1 0 → getB bx 2 = (1, clT a) → get s 3 = .lp 3 1 0 → getB bx 3 = (1, clT b) → get s 5 = .int .i64 i →
    Stops (lp T L66_0 ⟨⟨s, bx⟩, []⟩) fun e s' _ _ => if placedT.placedTs (a.l.drop i) (b.l.drop i) then e = .exit 0 else e = .ret ∧ get s' 4 = .bool false := by
  intro r
  induction r with
  | zero =>
    intro i s bx hr hi h2 b2 h3 b3 h5
    have e : i = a.l.length := by omega
    subst e
    refine Stops_wp L66_0.eq_1 ?_
    rw [List.drop_length, hlen, List.drop_length]
    simp [h2, b2, h3, b3, h5, hlen, placedT.placedTs]
  | succ r ihr =>
    intro i s bx hr hi h2 b2 h3 b3 h5
    have hlt : i < a.l.length := by omega
    have hlt' : i < b.l.length := by omega
    have hbl := good_len gb
    have hw : IntKind.wrap .i64 ((i : Int) + 1) = ((i + 1 : Nat) : Int) := by rw [wrap64] <;> omega
    have nx := fun s' bx' => ihr (i + 1) s' bx' (by omega) (by omega)
    have q := ih a.l[i] (List.getElem_mem hlt) b.l[i] (good_mem gb (List.getElem_mem hlt')) []
    rw [List.drop_eq_getElem_cons hlt, List.drop_eq_getElem_cons hlt', placedT.placedTs]
    refine Stops_wp L66_0.eq_1 ?_
    cases hs : placedT a.l[i] b.l[i] with
    | true =>
      rw [hs] at q
      rw [Bool.true_and]
      simp [h2, b2, h3, b3, h5, hlt, hlt', hw, ← encT_eq, q, -Int.natCast_add]
      refine nx _ _ ?_ ?_ ?_ ?_ ?_ <;> simp [h2, b2, h3, b3]
    | false =>
      rw [hs] at q
      simp [h2, b2, h3, b3, h5, hlt, hlt', hw, ← encT_eq, q, -Int.natCast_add]

theorem c66 (a : Tm) : ∀ (b : Tm), good b → ∀ (st : St), callD T (ev T) 66 [encT a, encT b] st = some (.bool (placedT a b), st) := by
  induction a using Tm.ind with
  | h a ih =>
    intro b gb st
    refine callD_pureR (fn := F66) rfl rfl (by simp) (by simp) ?_
    refine Ret_wp (fn := F66) rfl ?_
    rw [F66, placedT_eq a b]
    by_cases hk : a.k = b.k
    case neg => simp [hk]
    by_cases hn : a.n = b.n
    case neg => simp [hk, hn]
    by_cases hs : a.s = b.s
    case neg => simp [hk, hn, hs]
    by_cases ha : a.a = b.a
    case neg => simp [hk, hn, hs, ha]
    by_cases hb : a.b = b.b
    case neg => simp [hk, hn, hs, ha, hb]
    by_cases hl : a.l.length = b.l.length
    · have lo := fun s bx => l66 a b gb hl (fun u hu v gv st => ih u hu v gv st) a.l.length 0 s bx (by omega) (by omega)
      rw [List.drop_zero, List.drop_zero] at lo
      have hl' : ((a.l.length : Int) = b.l.length) = True := eq_true (by omega)
      generalize placedT.placedTs a.l b.l = q at *
      simp [hk, hn, hs, ha, hb, hl]
      refine WL.use L66_0_p L66_0_w (lo _ _ ?_ ?_ ?_ ?_ ?_) ?_
      iterate 5 simp [hk, hn, hs, ha, hb]
      rintro e s' b' st' h hf
      cases q with
      | true => simp at h; subst h; simp
      | false => simp at h; obtain ⟨rfl, q2⟩ := h; simp [q2]
    · have hl' : ((a.l.length : Int) = b.l.length) = False := eq_false (by omega)
      have hq := placedTs_len a.l b.l hl
      simp [hk, hn, hs, ha, hb, hl, hl', hq]

theorem l241 (t : Tm) (hl : t.l.length ≤ 1000000) (ih : ∀ u, u ∈ t.l → ∀ st, callD T (ev T) 241 [encT u] st = some (.bool (freeT u), st)) :
    ∀ (r i : Nat) (s : List D) (bx : List (Nat × List D)), r = t.l.length - i → i ≤ t.l.length → get s 1 = .lp 1 1 0 → getB bx 1 = (1, clT t) → get s 3 = .int .i64 i →
    Stops (lp T L241_0 ⟨⟨s, bx⟩, []⟩) fun e s' _ _ => if (t.l.drop i).all freeT then e = .exit 0 else e = .ret ∧ get s' 2 = .bool false := by
  intro r
  induction r with
  | zero =>
    intro i s bx hr hi h1 b1 h3
    have e : i = t.l.length := by omega
    subst e
    refine Stops_wp L241_0.eq_1 ?_
    rw [List.drop_length]
    simp [h1, b1, h3]
  | succ r ihr =>
    intro i s bx hr hi h1 b1 h3
    have hlt : i < t.l.length := by omega
    have hw : IntKind.wrap .i64 ((i : Int) + 1) = ((i + 1 : Nat) : Int) := by rw [wrap64] <;> omega
    have nx := fun s' bx' => ihr (i + 1) s' bx' (by omega) (by omega)
    have q := ih t.l[i] (List.getElem_mem hlt) []
    rw [List.drop_eq_getElem_cons hlt, List.all_cons]
    generalize List.all (t.l.drop (i + 1)) freeT = g at *
    refine Stops_wp L241_0.eq_1 ?_
    cases hs : freeT t.l[i] with
    | true =>
      rw [hs] at q
      rw [Bool.true_and]
      simp [h1, b1, h3, hlt, hw, ← encT_eq, q, -Int.natCast_add]
      refine nx _ _ ?_ ?_ ?_ <;> simp [h1, b1]
    | false =>
      rw [hs] at q
      simp [h1, b1, h3, hlt, hw, ← encT_eq, q, -Int.natCast_add]

theorem c241 (t : Tm) : good t → ∀ (st : St), callD T (ev T) 241 [encT t] st = some (.bool (freeT t), st) := by
  induction t using Tm.ind with
  | h t ih =>
    intro gt st
    refine callD_pureR (fn := F241) rfl rfl (by simp) (by simp) ?_
    refine Ret_wp (fn := F241) rfl ?_
    rw [F241, freeT_eq t]
    have lo := fun s bx => l241 t (good_len gt) (fun u hu st => ih u hu (good_mem gt hu) st) t.l.length 0 s bx (by omega) (by omega)
    rw [List.drop_zero] at lo
    generalize t.l.all freeT = q at *
    by_cases hk : t.k = 4
    · simp [hk]
    · simp [hk]
      refine WL.use L241_0_p L241_0_w (lo _ _ ?_ ?_ ?_) ?_
      iterate 3 simp [hk]
      rintro e s' b' st' h hf
      cases q with
      | true => simp at h; subst h; simp
      | false => simp at h; obtain ⟨rfl, q2⟩ := h; simp [q2]
end Go.Nt.Ty

/-
  THE CELLS OF TYPES BY THE REFERENCE: the walks of 'Shaped', 'Within', 'Cells'.
-/
set_option linter.unusedSimpArgs false
namespace Go.Nt.Ty
open Go Go.Nt

/-- A call whose arguments are freed of the heap first. -/
theorem callD_args {f : Nat} {fn : IFunc} (hT : T f = some fn) (hm : fn.mode = .pure) {args args' : List D} {st st' : St} {q : D} (h1 : pureArgs st args = some (args', st')) (h2 : pureArgs st' args' = some (args', st'))
    (h : callD T (ev T) f args' st' = some (q, st')) : callD T (ev T) f args st = some (q, st') := by
  simp only [callD, hT, hm, h2, Option.bind_some] at h
  simp only [callD, hT, hm, h1, Option.bind_some, h]

def shapedP (p : Tm) : Bool := p.k == 34 && p.l.length == 1
def shaped (d : Tm) : Bool := d.k == 30 && (!d.l.isEmpty && d.l.all shapedP)

theorem l136 (v : Tm) (hv : v.l.length ≤ 9223372036854775807) :
    ∀ (r i : Nat) (s : List D) (bx : List (Nat × List D)), r = v.l.length - i → i ≤ v.l.length → get s 1 = .lp 1 1 0 → getB bx 1 = (1, clT v) → get s 3 = .int .i64 i →
    Stops (lp T L136_0 ⟨⟨s, bx⟩, []⟩) fun e s' _ st' => st' = [] ∧ (if (v.l.drop i).all shapedP then e = .exit 0 else e = .ret ∧ get s' 2 = .bool false) := by
  intro r
  induction r with
  | zero =>
    intro i s bx hr hi h1 b1 h3
    have e : i = v.l.length := by omega
    subst e
    rw [lp_kL, L136_0, List.drop_length]
    simp [h1, b1, h3]
  | succ r ihr =>
    intro i s bx hr hi h1 b1 h3
    rw [lp_kL, L136_0]
    have hlt : i < v.l.length := by omega
    have hw : IntKind.wrap .i64 ((i : Int) + 1) = i + 1 := by rw [wrap64] <;> omega
    rw [List.drop_eq_getElem_cons hlt, List.all_cons]
    by_cases hk : v.l[i].k = 34
    · by_cases hl : v.l[i].l.length = 1
      · have e : shapedP v.l[i] = true := by simp [shapedP, hk, hl]
        simp [h1, b1, h3, hlt, hw, hk, hl, e]
        rw [← L136_0]
        have := ihr (i + 1)
        simp only [List.all_eq_true] at this
        refine this _ _ (by omega) (by omega) ?_ b1 ?_
        iterate 2 simp [h1]
      · have e : shapedP v.l[i] = false := by simp [shapedP, hl]
        have e2 : ¬ ((v.l[i].l.length : Int) = 1) := by omega
        simp [h1, b1, h3, hlt, hw, hk, hl, e, e2]
    · have e : shapedP v.l[i] = false := by simp [shapedP, hk]
      simp [h1, b1, h3, hlt, hw, hk, e]

theorem c136 (v : Tm) (hv : v.l.length ≤ 9223372036854775807) (st : St) : callD T (ev T) 136 [encT v] st = some (.bool (shaped v), st) := by
  refine callD_pure (fn := F136) rfl rfl (by simp) (r := .bool (shaped v)) (st1 := []) (st2 := []) ?_ (by simp) (by simp)
  rw [ev_eq 136 F136 rfl, F136]
  unfold shaped
  by_cases hk : v.k = 30
  · by_cases hl : v.l = []
    · simp [hk, hl]
    · have e2 : ¬ v.l.length = 0 := by simpa using hl
      have e3 : ¬ ((v.l.length : Int) = 0) := by omega
      simp [hk, hl, e2, e3]
      refine (l136 v hv _ 0 _ _ rfl (by omega) ?_ ?_ ?_).use (fun r => kfin _ (kseq _ (kblock 0 r)) = _) ?_
      iterate 3 simp [hk]
      rintro e s' b' st ⟨rfl, h⟩
      cases hs : v.l.all shapedP with
      | true => simp [hs] at h; simp [h, hl]
      | false => simp [hs] at h; simp [h.1, h.2]
  · simp [hk]

/-- A record's cells by the reference: 'inn': the records around it. -/
def recW (m : Tm) : Nat → List Int → Int → Int
  | 0, _, _ => 0
  | r + 1, inn, n => if h : 0 ≤ n ∧ n < m.l.length then (if n ∈ inn then 0 else if shaped (m.l[n.toNat]'(by omega)) then sumM (arrM (recW m r (inn ++ [n]))) (m.l[n.toNat]'(by omega)).l 0 else 0) else 0

theorem recW_in (m : Tm) (r : Nat) (inn : List Int) (n : Int) : 0 ≤ recW m r inn n ∧ recW m r inn n ≤ 64 := by
  induction r generalizing inn n with
  | zero => simp [recW]
  | succ r ih =>
    rw [recW]
    split
    · split
      · omega
      · split
        · exact sumM_in _ (arrM_in _ (ih _)) _ _ (by omega)
        · omega
    · omega

theorem countP_lt' {α : Type} (p q : α → Bool) (l : List α) (h : ∀ x, q x = true → p x = true) (x : α) (hx : x ∈ l) (h1 : p x = true) (h2 : q x = false) : l.countP q < l.countP p := by
  induction l with
  | nil => cases hx
  | cons y l ih =>
    have hle : l.countP q ≤ l.countP p := List.countP_mono_left fun z _ => h z
    simp only [List.countP_cons]
    cases hx with
    | head => simp [h1, h2]; omega
    | tail _ hx =>
      have := ih hx
      by_cases g : q y = true
      · simp [g, h y g]; omega
      · simp [g]; split <;> omega

/-- So many records are not around. -/
def avail (m : Tm) (inn : List Int) : Nat := List.countP (fun i : Nat => !(inn.contains (i : Int))) (List.range m.l.length)

theorem avail_le (m : Tm) (inn : List Int) : avail m inn ≤ m.l.length := by
  have := List.countP_le_length (p := fun i : Nat => !(inn.contains (i : Int))) (l := List.range m.l.length)
  simpa [avail] using this

theorem avail_lt (m : Tm) (inn : List Int) (n : Int) (h : 0 ≤ n ∧ n < m.l.length) (hn : ¬ n ∈ inn) : avail m (inn ++ [n]) < avail m inn := by
  refine countP_lt' _ _ _ (fun x hx => ?_) n.toNat (by simp; omega) ?_ ?_
  · simp at hx ⊢; exact fun g => hx.1 g
  · have : (n.toNat : Int) = n := by omega
    simp [this, hn]
  · have : (n.toNat : Int) = n := by omega
    simp [this]

theorem l92 (w : List Int) (hw' : w.length ≤ 1000000) (fl : Fl) (n : Int) :
    ∀ (r i : Nat) (s : List D) (bx : List (Nat × List D)), r = w.length - i → i ≤ w.length → get s 2 = slE 1 fl (encW w) → get s 8 = .int .i64 n → get s 9 = .int .i64 i → get s 3 = .lp 3 1 0 → get s 4 = .lp 4 1 0 →
    Stops (lp T L92_0 ⟨⟨s, bx⟩, []⟩) fun e s' b' st' => st' = [] ∧ b' = bx ∧ (if n ∈ w.drop i then e = .ret ∧ get s' 6 = .int .i64 0 else e = .exit 0 ∧ get s' 2 = slE 1 fl (encW w) ∧ get s' 8 = .int .i64 n ∧ get s' 3 = .lp 3 1 0 ∧ get s' 4 = .lp 4 1 0) := by
  intro r
  induction r with
  | zero =>
    intro i s bx hr hi h2 h8 h9 h3 h4
    have e : i = w.length := by omega
    subst e
    rw [lp_kL, L92_0, List.drop_length]
    simp [h2, h8, h9, h3, h4]
  | succ r ihr =>
    intro i s bx hr hi h2 h8 h9 h3 h4
    rw [lp_kL, L92_0]
    have hlt : i < w.length := by omega
    have hw : IntKind.wrap .i64 ((i : Int) + 1) = i + 1 := by rw [wrap64] <;> omega
    have q : (n ∈ w.drop i) = (n = w[i] ∨ n ∈ w.drop (i + 1)) := by rw [List.drop_eq_getElem_cons hlt, List.mem_cons]
    simp only [q]
    by_cases hn : w[i] = n
    · simp [h2, h8, h9, h3, h4, hlt, hw, hn]
    · have hn' : ¬ n = w[i] := fun h => hn h.symm
      simp [h2, h8, h9, h3, h4, hlt, hw, hn, hn']
      rw [← L92_0]
      refine ihr (i + 1) _ _ (by omega) (by omega) ?_ ?_ ?_ ?_ ?_
      iterate 5 simp [h2, h8, h3, h4]

theorem at_set_last (st : St) (o o' : Ob) : St.at (List.set (st ++ [o]) st.length o') st.length = o' := by simp [St.at]

theorem app2 (st : St) (ds : List D) (x : D) (h : ds.length ≤ 1000000) : ∃ (r1 : D) (s1 : St) (id ver : Nat) (s2 : St), appendD st (.sl 1 true []) ds 1 = some (r1, s1) ∧ appendD s1 r1 [x] 1 = some (.rs id ver 1 0 (ds.length + 1) false, s2) ∧
    ∃ s3, fz1 s2 (.rs id ver 1 0 (ds.length + 1) false) = some (.sl 1 false (ds ++ [x]), s3) := by
  cases ds with
  | nil =>
    refine ⟨.sl 1 true [], st, st.length, 0, st ++ [.cells false 1 0 0 false [x]], ?_, ?_, List.set (st ++ [.cells false 1 0 0 false [x]]) st.length (.cells false 1 0 1 true [x]), ?_⟩
    · simp [appendD]
    · simp [appendD, most]
    · simp [at_last]
  | cons d l =>
    have h' : ¬ most < (d :: l).length := by unfold most; omega
    have h2 : l.length + 1 ≤ 67108864 := by simp at h; omega
    refine ⟨.rs st.length 0 1 0 (l.length + 1) false, st ++ [.cells false 1 0 0 false (d :: l)], st.length, 1, List.set (st ++ [.cells false 1 0 0 false (d :: l)]) st.length (.cells false 1 1 1 false (d :: l ++ [x])), ?_, ?_, List.set (List.set (st ++ [.cells false 1 0 0 false (d :: l)]) st.length (.cells false 1 1 1 false (d :: l ++ [x]))) st.length (.cells false 1 1 2 true (d :: l ++ [x])), ?_⟩
    · simp only [appendD, if_neg h']; simp [most]
    · simp [appendD, at_last, most, tagB]; omega
    · have e : List.take (l.length + 1) (l ++ [x]) = l ++ [x] := List.take_of_length_le (by simp)
      simp [at_last, e]


theorem l92b (m d : Tm) (fl : Fl) (w : List Int) (n : Int) (f : Tm → Int) (hf : ∀ t, 0 ≤ f t ∧ f t ≤ 64) (hd : d.ok) (hs : d.l.all shapedP = true) (hw' : w.length ≤ 1000000)
    (hc : ∀ t st, t.ok → callD T (ev T) 92 [encT m, encT t, slE 1 .part (encW (w ++ [n]))] st = some (.int .i64 (f t), st)) :
    ∀ (r i : Nat) (acc : Int) (s : List D) (bx : List (Nat × List D)) (st : St), r = d.l.length - i → i ≤ d.l.length → 0 ≤ acc ∧ acc ≤ 64 → get s 2 = slE 1 fl (encW w) → get s 3 = .lp 3 1 0 → getB bx 3 = (1, clT m) → get s 8 = .int .i64 n →
    get s 10 = .lp 10 1 0 → getB bx 10 = (1, clT d) → get s 11 = .int .i64 acc → get s 12 = .int .i64 i →
    Stops (lp T L92_1 ⟨⟨s, bx⟩, st⟩) fun e s' _ _ => e = .exit 2 ∧ get s' 11 = .int .i64 (sumM f (d.l.drop i) acc) ∨ e = .ret ∧ get s' 6 = .int .i64 0 ∧ sumM f (d.l.drop i) acc = 0 := by
  obtain ⟨k1, k2, k4, k5, k6, k7, k3⟩ := (Tm.ok_iff d).1 hd
  intro r
  induction r with
  | zero =>
    intro i acc s bx st hr hi ha h2 h3 b3 h8 h10 b10 h11 h12
    have e : i = d.l.length := by omega
    subst e
    rw [lp_kL, L92_1, List.drop_length]
    simp [h2, h3, b3, h8, h10, b10, h11, h12, sumM]
  | succ r ihr =>
    intro i acc s bx st hr hi ha h2 h3 b3 h8 h10 b10 h11 h12
    have hlt : i < d.l.length := by omega
    have hw : IntKind.wrap .i64 ((i : Int) + 1) = i + 1 := by rw [wrap64] <;> omega
    rw [lp_kL, L92_1, List.drop_eq_getElem_cons hlt, sumM]
    have hok := k3 _ (List.getElem_mem hlt)
    have hsh : shapedP d.l[i] = true := List.all_eq_true.1 hs _ (List.getElem_mem hlt)
    simp [shapedP] at hsh
    obtain ⟨hk, hl1⟩ := hsh
    match hl : d.l[i].l, hl1 with
    | [x], _ =>
      have hxo := ((Tm.ok_iff _).1 hok).2.2.2.2.2.2 x (by rw [hl]; simp)
      obtain ⟨r1, s1, id, ver, s2, a1, a2, s3, a3⟩ := app2 st (encW w) (.int .i64 n) (by simpa using hw')
      have hx : callD T (ev T) 92 [encT m, encT x, .rs id ver 1 0 ((encW w).length + 1) false] s2 = some (.int .i64 (f x), s3) := by
        refine callD_args (fn := F92) rfl rfl (args' := [encT m, encT x, slE 1 .part (encW (w ++ [n]))]) ?_ (by simp) (hc x s3 hxo)
        simp only [pureArgs_cons, encT_fz1, kPA_some, encT_pure, if_true, a3, pureArgs_nil]
        simp [slE]
      have hfx := hf x
      have hw2 : IntKind.wrap .i64 (acc + f x) = acc + f x := by rw [wrap64] <;> omega
      have e4 : ∀ st, srcD st 1 (slE 1 fl (encW w)) = some (encW w) := by
        intro st
        have : srcD st 1 (slE 1 fl (encW w)) = listD st 1 (slE 1 fl (encW w)) := by cases fl <;> cases w <;> rfl
        rw [this, slE_list]
      have e5 : ∀ st, srcD st 1 (.sl 1 true [.int .i64 n]) = some [.int .i64 n] := fun st => rfl
      simp only [encW, List.length_map] at a1 a2 hx e4
      by_cases h0 : f x = 0
      · have hw3 : IntKind.wrap .i64 acc = acc := by rw [wrap64] <;> omega
        simp [h2, h3, b3, h8, h10, b10, h11, h12, hlt, hk, hl, ← encT_eq, a1, a2, e4, e5, hx, h0, hw3]
      · by_cases h1 : 64 < acc + f x
        · simp [h2, h3, b3, h8, h10, b10, h11, h12, hlt, hk, hl, ← encT_eq, a1, a2, e4, e5, hx, h0, h1, hw2]
        · simp [h2, h3, b3, h8, h10, b10, h11, h12, hlt, hk, hl, ← encT_eq, a1, a2, e4, e5, hx, h0, h1, hw2, hw]
          rw [← L92_1]
          refine ihr (i + 1) (acc + f x) _ _ _ (by omega) (by omega) (by omega) ?_ ?_ b3 ?_ ?_ b10 ?_ ?_
          iterate 6 simp [h2, h3, h8, h10]


theorem c92 (m : Tm) (hm : m.ok) : ∀ (r : Nat) (w : List Int), avail m w < r → w.length + r ≤ 1000000 → ∀ (t : Tm), t.ok → ∀ (fl : Fl) (st : St),
    callD T (ev T) 92 [encT m, encT t, slE 1 fl (encW w)] st = some (.int .i64 (arrM (recW m r w) t), st) := by
  intro r
  induction r with
  | zero => intro w hw; omega
  | succ r ihr =>
    intro w hav hwr t
    obtain ⟨m1, m2, m4, m5, m6, m7, m3⟩ := (Tm.ok_iff m).1 hm
    induction t using Tm.ind with
    | h t ih =>
      intro ht fl st
      obtain ⟨k1, k2, k4, k5, k6, k7, k3⟩ := (Tm.ok_iff t).1 ht
      have go : ∃ st1, ev T 92 [encT m, encT t, slE 1 fl (encW w)] [] = some (.int .i64 (arrM (recW m (r + 1) w) t), st1) := by
        have fin : ∀ {x : Option (D × St)} {y : D}, x = some (y, []) → ∃ st1, x = some (y, st1) := fun h => ⟨[], h⟩
        rw [ev_eq 92 F92 rfl, F92, arrM_eq]
        by_cases h1 : t.k = 1
        · cases hl : t.l with
          | nil => apply fin; simp [h1, hl]
          | cons x l => apply fin; simp [h1, hl]
        · by_cases h2 : t.k = 2
          · cases hl : t.l with
            | nil => apply fin; simp [h1, h2, hl]
            | cons x l => apply fin; simp [h1, h2, hl]
          · by_cases h3 : t.k = 3
            · match hl : t.l with
              | [] => apply fin; simp [h1, h2, h3, hl]
              | x :: y :: l =>
                have e : ¬ ((l.length : Int) + 1 + 1 = 1) := by omega
                apply fin; simp [h1, h2, h3, hl, e]
              | [x] =>
                have hx := ih x (by rw [hl]; simp) (k3 x (by rw [hl]; simp)) fl []
                have hb := arrM_in _ (recW_in m (r + 1) w) x
                unfold prod
                by_cases g1 : t.n < 1
                · have g1' : ¬ 1 ≤ t.n := by omega
                  apply fin; simp [h1, h2, h3, hl, g1, g1']
                · by_cases g2 : 16 < t.n
                  · have g1' : 1 ≤ t.n := by omega
                    have g2' : ¬ t.n ≤ 16 := by omega
                    apply fin; simp [h1, h2, h3, hl, g1, g1', g2, g2']
                  · have g1' : 1 ≤ t.n := by omega
                    have g2' : t.n ≤ 16 := by omega
                    have hc : arrM (recW m (r + 1) w) x * t.n = t.n * arrM (recW m (r + 1) w) x := Int.mul_comm _ _
                    have hb1 : t.n * arrM (recW m (r + 1) w) x ≤ 16 * 64 := Int.mul_le_mul (by omega) hb.2 hb.1 (by omega)
                    have hb0 : 0 ≤ t.n * arrM (recW m (r + 1) w) x := Int.mul_nonneg (by omega) hb.1
                    have hw : IntKind.wrap .i64 (t.n * arrM (recW m (r + 1) w) x) = t.n * arrM (recW m (r + 1) w) x := by rw [wrap64] <;> omega
                    by_cases g3 : 64 < t.n * arrM (recW m (r + 1) w) x
                    · apply fin; simp [h1, h2, h3, hl, g1, g1', g2, g2', ← encT_eq, hx, hc, hw, g3]
                    · apply fin; simp [h1, h2, h3, hl, g1, g1', g2, g2', ← encT_eq, hx, hc, hw, g3]
            · by_cases h4 : t.k = 4
              · cases hl : t.l with
                | nil =>
                  by_cases g1 : t.n < 0
                  · have g : ¬ (0 ≤ t.n ∧ t.n < m.l.length) := by omega
                    rw [recW, dif_neg g]
                    apply fin; simp [h1, h2, h3, h4, hl, g1]
                  · by_cases g2 : (m.l.length : Int) ≤ t.n
                    · have g : ¬ (0 ≤ t.n ∧ t.n < m.l.length) := by omega
                      rw [recW, dif_neg g]
                      apply fin; simp [h1, h2, h3, h4, hl, g1, g2]
                    · have g : 0 ≤ t.n ∧ t.n < m.l.length := by omega
                      have g3 : t.n.toNat < m.l.length := by omega
                      rw [recW, dif_pos g]
                      simp [h1, h2, h3, h4, hl, g1, g2]
                      refine (l92 w (by omega) fl t.n _ 0 _ _ rfl (by omega) ?_ ?_ ?_ ?_ ?_).use (fun r => ∃ st1, kfin _ (kseq _ (kblock 0 r)) = some (_, st1)) ?_
                      iterate 5 simp [h1, h2, h3, h4, hl]
                      rintro e s' b' st ⟨rfl, rfl, h⟩
                      by_cases hin : t.n ∈ w
                      · simp [hin] at h
                        apply fin; simp [h.1, h.2, hin]
                      · simp [hin] at h
                        obtain ⟨rfl, q2, q8, q3, q4⟩ := h
                        have hdok := m3 _ (List.getElem_mem g3)
                        have c := c136 m.l[t.n.toNat] ((Tm.ok_iff _).1 hdok).2.2.2.2.2.1 []
                        cases hsh : shaped m.l[t.n.toNat] with
                        | false => apply fin; simp [hin, q2, q8, q3, q4, g1, g3, ← encT_eq, c, hsh]
                        | true =>
                          have hshp : m.l[t.n.toNat].l.all shapedP = true := by simp [shaped] at hsh; simpa using hsh.2.2
                          simp [hin, q2, q8, q3, q4, g1, g3, ← encT_eq, c, hsh]
                          refine (l92b m m.l[t.n.toNat] fl w t.n (arrM (recW m r (w ++ [t.n]))) (arrM_in _ (recW_in m r _)) hdok hshp (by omega) (fun t' st ht' => ihr (w ++ [t.n]) (by have := avail_lt m w t.n g hin; omega) (by simp; omega) t' ht' .part st)
                            _ 0 0 _ _ [] rfl (by omega) (by omega) ?_ ?_ ?_ ?_ ?_ ?_ ?_ ?_).use (fun r => ∃ st1, kfin _ (kseq _ (kblock 2 r)) = some (_, st1)) ?_
                          iterate 8 simp [q2, q8, q3, q4]
                          rintro e s'' b'' st'' (⟨rfl, q⟩ | ⟨rfl, q, q'⟩)
                          · simp at q; exact ⟨st'', by simp [q]⟩
                          · simp at q'; exact ⟨st'', by simp [q, q']⟩
                | cons x l => apply fin; simp [h1, h2, h3, h4, hl]
              · apply fin; simp [h1, h2, h3, h4]
      obtain ⟨st1, h⟩ := go
      exact callD_pure (fn := F92) (st2 := st1) rfl rfl (by simp) h (by simp) (by simp)


/-- A type's cells by the reference. -/
def cellsW (m t : Tm) : Int := arrM (recW m (m.l.length + 1) []) t

theorem c60 (m t : Tm) (hm : m.ok) (hb : m.l.length ≤ 1000) (ht : t.ok) (st : St) : callD T (ev T) 60 [encT m, encT t] st = some (.int .i64 (cellsW m t), st) := by
  refine callD_pure (fn := F60) rfl rfl (by simp) (r := .int .i64 (cellsW m t)) (st1 := []) (st2 := []) ?_ (by simp) (by simp)
  have h := c92 m hm (m.l.length + 1) [] (by have := avail_le m []; omega) (by simp; omega) t ht .full []
  simp [slE] at h
  rw [ev_eq 60 F60 rfl, F60]
  simp [← encT_eq, h, cellsW]

end Go.Nt.Ty

/-
  BOTH WAYS OF TELLING A TYPE's CELLS AGREE: plain; no program in sight.
-/
set_option linter.unusedSimpArgs false
namespace Go.Nt.Ty
open Go Go.Nt

/-- What stands within arrays: the record's place, if it is one. -/
def baseT : Tm → Option Int
  | .mk k n _ _ l _ _ => if (k = 1 ∨ k = 2) ∧ l = [] then none else if k = 3 then (match l with | [x] => baseT x | _ => none) else if k = 4 ∧ l = [] then some n else none

theorem baseT_eq (t : Tm) : baseT t = if (t.k = 1 ∨ t.k = 2) ∧ t.l = [] then none else if t.k = 3 then (match t.l with | [x] => baseT x | _ => none) else if t.k = 4 ∧ t.l = [] then some t.n else none := by
  cases t with
  | mk k n s fl l a b =>
    match l with
    | [] => simp [baseT, Tm.k, Tm.n, Tm.l]
    | [x] => simp [baseT, Tm.k, Tm.n, Tm.l]
    | x :: y :: l => simp [baseT, Tm.k, Tm.n, Tm.l]

theorem prod0 (n : Int) : prod n 0 = 0 := by unfold prod; split <;> simp

/-- An array's cells depend on its record's alone. -/
theorem arrM_congr (f g : Int → Int) (t : Tm) (h : ∀ n, baseT t = some n → f n = g n) : arrM f t = arrM g t := by
  induction t using Tm.ind with
  | h t ih =>
    rw [baseT_eq] at h
    rw [arrM_eq, arrM_eq]
    split
    · rfl
    · next h1 =>
      rw [if_neg h1] at h
      split
      · next h2 =>
        rw [if_pos h2] at h
        split
        · next x hx => rw [hx] at h; rw [ih x (by rw [hx]; simp) h]
        · rfl
      · next h2 =>
        rw [if_neg h2] at h
        split
        · next h3 => rw [if_pos h3] at h; exact h _ rfl
        · rfl

theorem arrM_ne (f : Int → Int) (t : Tm) (n : Int) (hb : baseT t = some n) (h : arrM f t ≠ 0) : f n ≠ 0 := by
  induction t using Tm.ind with
  | h t ih =>
    rw [baseT_eq] at hb
    rw [arrM_eq] at h
    split at hb
    · cases hb
    · next h1 =>
      rw [if_neg h1] at h
      split at hb
      · next h2 =>
        rw [if_pos h2] at h
        split at hb
        · next x hx =>
          rw [hx] at h
          refine ih x (by rw [hx]; simp) hb fun e => h ?_
          simp only [e, prod0]
        · cases hb
      · next h2 =>
        rw [if_neg h2] at h
        split at hb
        · next h3 => cases hb; rw [if_pos h3] at h; exact h
        · cases hb

/-- One record's part is of another one. -/
def Uses (m : Tm) (a b : Int) : Prop := ∃ (_ : 0 ≤ a ∧ a < m.l.length) (p x : Tm), p ∈ (m.l[a.toNat]'(by omega)).l ∧ p.l = [x] ∧ baseT x = some b

theorem sumM_ne (f : Tm → Int) (l : List Tm) (acc : Int) (h : sumM f l acc ≠ 0) (p x : Tm) (hp : p ∈ l) (hx : p.l = [x]) : f x ≠ 0 := by
  induction l generalizing acc with
  | nil => cases hp
  | cons q l ih =>
    rw [sumM] at h
    split at h
    · next y hy =>
      split at h
      · split at h
        · exact absurd rfl h
        · next g =>
          cases hp with
          | head => rw [hx] at hy; cases hy; exact fun e => g (.inl e)
          | tail _ hp => exact ih _ h hp
      · exact absurd rfl h
    · exact absurd rfl h

theorem uses_ne (m : Tm) (r : Nat) (a b : Int) (hu : Uses m a b) (h : recM m (r + 1) a ≠ 0) : recM m r b ≠ 0 := by
  obtain ⟨ha, p, x, hp, hx, hb⟩ := hu
  rw [recM, dif_pos ha] at h
  split at h
  · exact arrM_ne _ x b hb (sumM_ne _ _ _ h p x hp hx)
  · exact absurd rfl h

inductive Path (m : Tm) : Int → Nat → Int → Prop
  | one (a b : Int) (h : Uses m a b) : Path m a 1 b
  | more (a b c : Int) (j : Nat) (h : Path m a j b) (k : Uses m b c) : Path m a (j + 1) c

theorem path_ne (m : Tm) {a b : Int} {j : Nat} (h : Path m a j b) : ∀ r, recM m r a ≠ 0 → j < r ∧ recM m (r - j) b ≠ 0 := by
  induction h with
  | one b h =>
    intro r hr
    match r, hr with
    | 0, hr => simp [recM] at hr
    | r + 1, hr =>
      have q := uses_ne m r _ _ h hr
      have : r ≠ 0 := by rintro rfl; simp [recM] at q
      exact ⟨by omega, q⟩
  | more b c j h k ih =>
    intro r hr
    obtain ⟨h1, h2⟩ := ih r hr
    obtain ⟨q, hq⟩ : ∃ q, r - j = q + 1 := ⟨r - j - 1, by omega⟩
    rw [hq] at h2
    have e := uses_ne m q _ _ k h2
    have : q ≠ 0 := by rintro rfl; simp [recM] at e
    exact ⟨by omega, by rw [show r - (j + 1) = q by omega]; exact e⟩

theorem path_pos (m : Tm) {a b : Int} {j : Nat} (h : Path m a j b) : 0 < j := by cases h <;> omega

theorem cycle (m : Tm) (a : Int) (j : Nat) (h : Path m a j a) : ∀ r, recM m r a = 0 := by
  intro r
  induction r using Nat.strongRecOn with
  | ind r ih =>
    refine Classical.byContradiction fun hr => ?_
    obtain ⟨h1, h2⟩ := path_ne m h r hr
    have := path_pos m h
    exact h2 (ih (r - j) (by omega))

theorem sumM_bad (f : Tm → Int) (l : List Tm) (acc : Int) (h : l.all shapedP = false) : sumM f l acc = 0 := by
  induction l generalizing acc with
  | nil => simp at h
  | cons p l ih =>
    rw [sumM]
    split
    · next x hx =>
      split
      · next hk =>
        split
        · rfl
        · refine ih _ ?_
          have : shapedP p = true := by simp [shapedP, hk, hx]
          simpa [this] using h
      · rfl
    · rfl

theorem sumM_congr (f g : Tm → Int) (l : List Tm) (h : ∀ p x, p ∈ l → p.l = [x] → f x = g x) (acc : Int) : sumM f l acc = sumM g l acc := by
  induction l generalizing acc with
  | nil => rfl
  | cons p l ih =>
    rw [sumM, sumM]
    split
    · next x hx =>
      rw [h p x (List.mem_cons_self ..) hx, ih fun p x hp => h p x (List.mem_cons_of_mem _ hp)]
    · rfl

theorem rec_eq (m : Tm) : ∀ (r : Nat) (w : List Int) (n : Int), (∀ a, a ∈ w → ∃ j, Path m a j n) → recW m r w n = recM m r n := by
  intro r
  induction r with
  | zero => intro w n _ <;> rfl
  | succ r ih =>
    intro w n hw
    by_cases hin : n ∈ w
    · obtain ⟨j, hj⟩ := hw n hin
      rw [cycle m n j hj, recW]
      split
      · rfl
      · rfl
    · rw [recW, recM]
      split
      · next hn =>
        cases hs : (m.l[n.toNat]'(by omega)).l.all shapedP with
        | true =>
          by_cases hk : (m.l[n.toNat]'(by omega)).k = 30
          · rw [if_pos hk]
            by_cases hl : (m.l[n.toNat]'(by omega)).l = []
            · simp [shaped, hl, sumM]
            · have : shaped (m.l[n.toNat]'(by omega)) = true := by simp only [shaped, hs, hk]; simp [hl]
              rw [if_pos this]
              refine sumM_congr _ _ _ (fun p x hp hx => arrM_congr _ _ x fun b hb => ih _ b ?_) 0
              intro a ha
              have u : Uses m n b := ⟨hn, p, x, hp, hx, hb⟩
              rcases List.mem_append.1 ha with ha | ha
              · obtain ⟨j, hj⟩ := hw a ha
                exact ⟨j + 1, .more _ _ _ _ hj u⟩
              · simp at ha; subst ha; exact ⟨1, .one _ _ u⟩
          · have : shaped (m.l[n.toNat]'(by omega)) = false := by simp [shaped, hk]
            rw [if_neg hk, this] <;> rfl
        | false =>
          have : shaped (m.l[n.toNat]'(by omega)) = false := by simp only [shaped, hs]; simp
          rw [this, sumM_bad (arrM (recM m r)) _ _ hs]
          simp
      · rfl

theorem cells_eq (m t : Tm) : cellsW m t = cellsV m t := arrM_congr _ _ t fun n _ => rec_eq m _ [] n fun a ha => by cases ha

end Go.Nt.Ty

/-
  RIGHT MODULES BY THE REFERENCE, walked (2): what the types of expressions lean on.
  No condition.
-/
set_option linter.unusedSimpArgs false
namespace Go.Nt.Ty
open Go Go.Nt

theorem c161 (st : St) : callD T (ev T) 161 [] st = some (encT (tK 1), st) := by
  refine callD_pureR (fn := F161) rfl rfl (by simp) (by simp) ?_
  refine Ret_wp (fn := F161) rfl ?_
  rw [F161, encT_K]
  simp [splice, fillD]
theorem c196 (st : St) : callD T (ev T) 196 [] st = some (encT (tK 2), st) := by
  refine callD_pureR (fn := F196) rfl rfl (by simp) (by simp) ?_
  refine Ret_wp (fn := F196) rfl ?_
  rw [F196, encT_K]
  simp [splice, fillD]

theorem c163 (t : Tm) (k : Int) (st : St) : callD T (ev T) 163 [encT t, .int .i64 k] st = some (.bool (isT t k), st) := by
  refine callD_pureR (fn := F163) rfl rfl (by simp) (by simp) ?_
  refine Ret_wp (fn := F163) rfl ?_
  rw [F163]
  unfold isT
  by_cases hk : t.k = k
  · cases hl : t.l <;> simp [hk, hl]
  · simp [hk]

theorem c138 (t : Tm) (st : St) : callD T (ev T) 138 [encT t] st = some (encT (litT t), st) := by
  have q1 := c161
  have q2 := c196
  rw [encT_K] at q1 q2
  refine callD_pureR (fn := F138) rfl rfl (by simp) (by simp) ?_
  refine Ret_wp (fn := F138) rfl ?_
  rw [F138]
  unfold litT
  by_cases h5 : t.k = 5
  · rw [if_pos h5, encT_K]
    simp [h5, q1, splice]
  · by_cases h6 : t.k = 6
    · rw [if_neg h5, if_pos h6, encT_K]
      simp [h5, h6, q2, splice]
    · rw [if_neg h5, if_neg h6, encT_0]
      simp [h5, h6, splice, fillD]

/-- What is wrong, by the reference. -/
def badG (a e : Int) : D := .agg [.int .i64 0, .int .i64 0, .str [], .nils, .int .i64 0, .int .i64 0, .int .i64 0, .int .i64 0, .str [], .nils, .int .i64 0, .int .i64 0, .int .i64 a, .int .i64 e]
theorem c104 (t : Tm) (e : Int) (st : St) : callD T (ev T) 104 [encT t, .int .i64 e] st = some (badG t.a e, st) := by
  refine callD_pureR (fn := F104) rfl rfl (by simp) (by simp [badG]) ?_
  refine Ret_wp (fn := F104) rfl ?_
  rw [F104, badG]
  simp [splice, fillD]

theorem c194 (m t : Tm) (gm : good m) (hb : m.l.length ≤ 1000) (gt : good t) (st : St) : callD T (ev T) 194 [encT m, encT t] st = some (.bool (decide (cellsV m t ≠ 0) && freeT t), st) := by
  have q1 := fun st => c60 m t (good_ok _ gm) hb (good_ok _ gt) st
  rw [cells_eq] at q1
  have q2 := c241 t gt
  have hc := arrM_in _ (recM_in m (m.l.length + 1)) t
  refine callD_pureR (fn := F194) rfl rfl (by simp) (by simp) ?_
  refine Ret_wp (fn := F194) rfl ?_
  rw [F194]
  change 0 ≤ cellsV m t ∧ _ at hc
  by_cases h0 : cellsV m t = 0
  · simp [← encT_eq, q1, h0]
  · have h1 : 0 < cellsV m t := by omega
    simp [← encT_eq, q1, q2, h0, h1]

theorem c165 (m : Tm) (n : Int) (hn : in64 n) (st : St) : callD T (ev T) 165 [encT m, .int .i64 n] st = some (.tup [encT (typField m n).1, .bool (typField m n).2], st) := by
  refine callD_pureR (fn := F165) rfl rfl (by simp) (by simp) ?_
  refine Ret_wp (fn := F165) rfl ?_
  rw [F165]
  unfold typField
  have hq : IntKind.wrap .i64 (n.tdiv 64) = n.tdiv 64 := by
    have h1 := Int.mul_tdiv_add_tmod n 64
    have h2 := Int.tmod_lt_of_pos n (by omega : (0 : Int) < 64)
    have h3 : -64 < n.tmod 64 := by have := Int.lt_tmod_of_pos n (by omega : (0 : Int) < 64); omega
    unfold in64 at hn
    rw [wrap64] <;> omega
  by_cases h0 : n < 0
  · have g : ¬ (0 ≤ n ∧ n.tdiv 64 < m.l.length) := by omega
    simp [h0, g, encT_K, splice, fillD]
  · have hd := Int.tdiv_nonneg (by omega : 0 ≤ n) (by omega : (0 : Int) ≤ 64)
    have hm0 := Int.tmod_nonneg (64 : Int) (by omega : 0 ≤ n)
    by_cases h1 : n.tdiv 64 < m.l.length
    · have g : 0 ≤ n ∧ n.tdiv 64 < m.l.length := ⟨by omega, h1⟩
      have h1' : ¬ (m.l.length : Int) ≤ n.tdiv 64 := by omega
      have h2 : (n.tdiv 64).toNat < m.l.length := by omega
      have hd' : ¬ n.tdiv 64 < 0 := by omega
      have hm' : ¬ n.tmod 64 < 0 := by omega
      rw [dif_pos g]
      generalize hD : m.l[(n.tdiv 64).toNat] = d at *
      by_cases h3 : d.k = 30
      · cases hp : d.l[(n.tmod 64).toNat]? with
        | none =>
          have h4 : (d.l.length : Int) ≤ n.tmod 64 := by rw [List.getElem?_eq_none_iff] at hp; omega
          simp [h0, h1, h1', h2, h3, h4, hq, hd', hm', hp, hD, encT_K, splice, fillD]
        | some p =>
          have h4 : (n.tmod 64).toNat < d.l.length := by
            by_cases c : (n.tmod 64).toNat < d.l.length
            · exact c
            · rw [List.getElem?_eq_none (by omega)] at hp; cases hp
          have h4' : ¬ (d.l.length : Int) ≤ n.tmod 64 := by omega
          have hp2 : d.l[(n.tmod 64).toNat] = p := by rw [List.getElem?_eq_getElem h4] at hp; simpa using hp
          by_cases h5 : p.k = 34
          · by_cases h6 : p.l.length = 1
            · match hpl : p.l, h6 with
              | [x], _ => simp [h0, h1, h1', h2, h3, h4, h4', h5, hpl, hq, hd', hm', hp, hp2, hD, splice, fillD, ← encT_eq]
            · have h6' : ¬ ((p.l.length : Int) = 1) := by omega
              simp [h0, h1, h1', h2, h3, h4, h4', h5, h6, h6', hq, hd', hm', hp, hp2, hD, encT_K, splice, fillD]
          · simp [h0, h1, h1', h2, h3, h4, h4', h5, hq, hd', hm', hp, hp2, hD, encT_K, splice, fillD]
      · cases hp : d.l[(n.tmod 64).toNat]? <;> simp [h0, h1, h1', h2, h3, hq, hd', hm', hp, hD, encT_K, splice, fillD]
    · have g : ¬ (0 ≤ n ∧ n.tdiv 64 < m.l.length) := by omega
      have h1' : (m.l.length : Int) ≤ n.tdiv 64 := by omega
      simp [h0, h1, h1', g, hq, encT_K, splice, fillD]
end Go.Nt.Ty

/-
  RIGHT MODULES BY THE REFERENCE, walked (3): what an expression names, fields, operands.
  No condition.
-/
set_option linter.unusedSimpArgs false
namespace Go.Nt.Ty
open Go Go.Nt

variable {m : Tm} {locs : List Tm}

theorem c103 (t : Tm) (st : St) : callD T (ev T) 103 [encT t] st = some (.bool (shapedT t), st) := by
  refine callD_pureR (fn := F103) rfl rfl (by simp) (by simp) ?_
  refine Ret_wp (fn := F103) rfl ?_
  rw [F103]
  unfold shapedT
  by_cases h5 : t.k = 5
  · simp [h5]
  by_cases h7 : t.k = 7
  · simp [h7]
  by_cases h8 : t.k = 8
  · simp [h8]
  by_cases h9 : t.k = 9
  · simp [h9]
  by_cases h18 : t.k = 18
  · simp [h18]
  by_cases h6 : t.k = 6
  · by_cases q : t.l = []
    · by_cases n0 : t.n = 0
      · simp [h6, q, n0]
      · by_cases n1 : t.n = 1 <;> simp [h6, q, n0, n1]
    · simp [h6, q]
  by_cases h11 : t.k = 11
  · by_cases q : t.l.length = 1
    · by_cases n0 : t.n = 1
      · simp [h11, q, n0]
      · by_cases n1 : t.n = 2 <;> simp [h11, q, n0, n1]
    · simp [h11, q]
  by_cases h10 : t.k = 10
  · by_cases q : t.l.length = 2
    · by_cases n0 : 1 ≤ t.n
      · simp [h10, q, n0]
      · simp [h10, q, n0]
    · simp [h10, q]
  by_cases h13 : t.k = 13
  · simp [h13]
  by_cases h12 : t.k = 12
  · simp [h12]
  have e1 : decide ((1 : Int) ≤ t.l.length) = decide (0 < t.l.length) := decide_eq_decide.2 (by omega)
  by_cases h14 : t.k = 14
  · simp [h14, e1]
  by_cases h15 : t.k = 15
  · simp [h15, e1]
  by_cases h16 : t.k = 16
  · simp [h16]
  by_cases h17 : t.k = 17
  · simp [h17]
  simp [h5, h6, h7, h8, h9, h10, h11, h12, h13, h14, h15, h16, h17, h18]

theorem shaped_bad (d : Tm) (h : d.k = 30) : shaped d = (!d.l.any badPart && decide (0 < d.l.length)) := by
  unfold shaped
  have e : d.l.all shapedP = !d.l.any badPart := by
    induction d.l with
    | nil => rfl
    | cons p l ih =>
      rw [List.all_cons, List.any_cons, ih]
      by_cases h1 : p.k = 34 <;> by_cases h2 : p.l.length = 1 <;> simp [shapedP, badPart, h1, h2]
  rw [e]
  cases hl : d.l with
  | nil => simp [h]
  | cons p l => simp [h]

theorem c159 (gm : good m) (n kind : Int) (hk : kind = 30 ∨ kind = 31 ∨ kind = 32 ∨ kind = 33) (st : St) : callD T (ev T) 159 [encT m, .int .i64 n, .int .i64 kind] st = some (.bool (declT m n kind).2, st) := by
  refine callD_pureR (fn := F159) rfl rfl (by simp) (by simp) ?_
  refine Ret_wp (fn := F159) rfl ?_
  rw [F159]
  unfold declT
  by_cases g : 0 ≤ n ∧ n < m.l.length
  · have g1 : ¬ n < 0 := by omega
    have g2 : ¬ (m.l.length : Int) ≤ n := by omega
    have g3 : n.toNat < m.l.length := by omega
    rw [dif_pos g]
    have gd := good_mem gm (List.getElem_mem g3)
    generalize hD : m.l[n.toNat] = d at *
    by_cases hd : d.k = kind
    · rw [if_pos hd]
      rcases hk with rfl | rfl | rfl | rfl
      · have q := c136 d (by have := good_len gd; omega)
        rw [shaped_bad d hd, encT_eq d, hd] at q
        cases hb : d.l.any badPart with
        | true => rw [hb] at q; simp [g1, g2, g3, hD, hd, ← encT_eq, q, splice, -List.any_eq_true]
        | false => rw [hb] at q; simp [g1, g2, g3, hD, hd, ← encT_eq, q, splice, -List.any_eq_true]
      · match hl : d.l with
        | [] => simp [g1, g2, g3, hD, hd, hl, splice]
        | [x] =>
          have q := c138 x
          rw [encT_eq (litT x)] at q
          simp [g1, g2, g3, hD, hd, hl, ← encT_eq x, q, splice]
        | x :: y :: r => simp [g1, g2, g3, hD, hd, hl, splice]
      · simp [g1, g2, g3, hD, hd, splice]
      · simp [g1, g2, g3, hD, hd, splice]
    · rw [if_neg hd]
      simp [g1, g2, g3, hD, hd, splice]
  · rw [dif_neg g]
    by_cases g1 : n < 0
    · simp [g1]
    · have g2 : (m.l.length : Int) ≤ n := by omega
      simp [g1, g2]

theorem c105 (gm : good m) (fl : Fl) (t : Tm) (st : St) : callD T (ev T) 105 [encT m, slE 6 fl (encTs locs), encT t] st = some (.bool (namedT m locs t).2, st) := by
  refine callD_pureR (fn := F105) rfl rfl (by simp) (by simp) ?_
  refine Ret_wp (fn := F105) rfl ?_
  rw [F105]
  unfold namedT
  by_cases h7 : t.k = 7
  · by_cases g : 0 ≤ t.n ∧ t.n < locs.length
    · simp [h7, g.1, g.2, localT_some g]
    · have e : localT locs t.n = none := by rw [localT, if_neg g]
      by_cases g1 : 0 ≤ t.n
      · have g2 : ¬ t.n < locs.length := by omega
        have g2' : (locs.length : Int) ≤ t.n := by omega
        simp [h7, g1, g2, g2', e]
      · simp [h7, g1, e]
  by_cases h8 : t.k = 8
  · have q := c159 gm t.n 31 (by simp)
    cases hd : (declT m t.n 31).2 <;> (rw [hd] at q; simp [h8, ← encT_eq, q, hd])
  by_cases h9 : t.k = 9
  · have q := c159 gm t.n 32 (by simp)
    cases hd : (declT m t.n 32).2 <;> (rw [hd] at q; simp [h9, ← encT_eq, q, hd])
  by_cases h15 : t.k = 15
  · have q := c159 gm t.n 30 (by simp)
    simp [h15, ← encT_eq, q]
  by_cases h16 : t.k = 16
  · have q := c159 gm t.n 33 (by simp)
    simp [h16, ← encT_eq, q]
  by_cases h17 : t.k = 17
  · simp [h17]
  simp [h7, h8, h9, h15, h16, h17]

theorem declT_some {n kind : Int} (h : (declT m n kind).2 = true) : ∃ g : 0 ≤ n ∧ n < m.l.length, (declT m n kind).1 = m.l[n.toNat]'(by omega) ∧ (declT m n kind).1.k = kind := by
  unfold declT at h ⊢
  split at h
  · next g =>
    refine ⟨g, ?_⟩
    rw [dif_pos g]
    split at h
    · next hk =>
      rw [if_pos hk]
      split
      · exact ⟨rfl, hk⟩
      split
      · exact ⟨rfl, hk⟩
      split
      · exact ⟨rfl, hk⟩
      next n1 n2 n3 =>
      rw [if_neg n1, if_neg n2, if_neg n3] at h
      split at h
      · cases h
      · next hb => rw [if_neg hb]; exact ⟨rfl, hk⟩
    · cases h
  · cases h
theorem declT_one {n kind : Int} (hk : kind = 31 ∨ kind = 32) (h : (declT m n kind).2 = true) : ∃ x, (declT m n kind).1.l = [x] := by
  unfold declT at h ⊢
  split at h
  · next g =>
    rw [dif_pos g]
    split at h
    · next hk' =>
      rw [if_pos hk']
      rcases hk with rfl | rfl
      · simp at h ⊢; exact List.length_eq_one_iff.1 h.1
      · simp at h ⊢; exact List.length_eq_one_iff.1 h
    · cases h
  · cases h

theorem c106 (gm : good m) (fl : Fl) (gl : ∀ t, t ∈ locs → good t) (hll : locs.length ≤ 1000000) (t : Tm) (h : (namedT m locs t).2 = true) (st : St) : callD T (ev T) 106 [encT m, slE 6 fl (encTs locs), encT t] st = some (encT (aloneE m locs t), st) := by
  refine callD_pureR (fn := F106) rfl rfl (by simp) (by simp) ?_
  refine Ret_wp (fn := F106) rfl ?_
  rw [F106]
  unfold aloneE
  by_cases h7 : t.k = 7
  · rw [if_pos (.inl h7)]
    unfold namedT at h ⊢
    rw [if_pos h7] at h ⊢
    by_cases g : 0 ≤ t.n ∧ t.n < locs.length
    · rw [localT_some g]
      have w1 : IntKind.wrap .i64 ((locs.length : Int) - 1) = locs.length - 1 := by rw [wrap64] <;> omega
      have w2 : IntKind.wrap .i64 ((locs.length : Int) - 1 - t.n) = locs.length - 1 - t.n := by rw [wrap64] <;> omega
      have w3 : ¬ (locs.length : Int) - 1 - t.n < 0 := by omega
      have w4 : ((locs.length : Int) - 1 - t.n).toNat = locs.length - 1 - t.n.toNat := by omega
      have w5 : locs.length - 1 - t.n.toNat < locs.length := by omega
      have q := c160 _ (gl _ (List.getElem_mem w5))
      rw [encT_eq (bareE _)] at q
      simp [h7, w1, w2, w3, w4, w5, ← encT_eq locs[locs.length - 1 - t.n.toNat], q, splice]
      rw [encT_eq]
    · rw [localT, if_neg g] at h; cases h
  by_cases h9 : t.k = 9
  · rw [if_pos (.inr h9)]
    unfold namedT at h ⊢
    rw [if_neg h7, if_neg (by omega), if_pos h9] at h ⊢
    cases hd : (declT m t.n 32).2 with
    | false => rw [hd] at h; cases h
    | true =>
      obtain ⟨g, e, _⟩ := declT_some hd
      obtain ⟨x, hx⟩ := declT_one (.inr rfl) hd
      have g1 : ¬ t.n < 0 := by omega
      have g3 : t.n.toNat < m.l.length := by omega
      rw [e] at hx
      have gx : good x := good_mem (good_mem gm (List.getElem_mem g3)) (by rw [hx]; simp)
      have q := c160 x gx
      rw [encT_eq (bareE _)] at q
      rw [if_pos rfl, e, hx]
      simp [h9, g1, g3, hx, ← encT_eq x, q, splice]
      rw [encT_eq]
  rw [if_neg (by omega)]
  by_cases h8 : t.k = 8
  · rw [if_pos h8]
    unfold namedT at h ⊢
    rw [if_neg h7, if_pos h8] at h ⊢
    cases hd : (declT m t.n 31).2 with
    | false => rw [hd] at h; cases h
    | true =>
      obtain ⟨g, e, _⟩ := declT_some hd
      obtain ⟨x, hx⟩ := declT_one (.inl rfl) hd
      have g1 : ¬ t.n < 0 := by omega
      have g3 : t.n.toNat < m.l.length := by omega
      rw [e] at hx
      have q := c138 x
      rw [encT_eq (litT _)] at q
      rw [if_pos rfl, e, hx]
      simp [h8, g1, g3, hx, ← encT_eq x, q, splice]
      rw [encT_eq]
  rw [if_neg h8]
  by_cases h18 : t.k = 18
  · have q := c161
    rw [encT_K] at q
    rw [if_pos h18, encT_K]
    simp [h18, q, splice]
  · have q := c138 t
    rw [encT_eq (litT t)] at q
    rw [if_neg h18]
    simp [h7, h8, h9, h18, ← encT_eq t, q, splice]
    rw [encT_eq]

set_option maxHeartbeats 4000000 in
set_option maxRecDepth 20000 in
theorem c162 (op : Int) (a b : Tm) (ho : 1 ≤ op ∧ op ≤ 13) (st : St) : callD T (ev T) 162 [.int .i64 op, encT a, encT b] st = some (encT (binT op a b), st) := by
  have q1 := c163 a
  have q2 := c163 b
  have q3 := c161
  have q4 := c196
  rw [encT_K] at q3 q4
  refine callD_pureR (fn := F162) rfl rfl (by simp) (by simp) ?_
  refine Ret_wp (fn := F162) rfl ?_
  rw [F162]
  unfold binT
  have tw : ∀ x : Tm, (isT x 1 = true ∧ isT x 2 = false) ∨ (isT x 1 = false ∧ isT x 2 = true) ∨ (isT x 1 = false ∧ isT x 2 = false) := by
    intro x
    unfold isT
    by_cases h1 : x.k = 1
    · cases hl : x.l <;> simp [h1]
    · by_cases h2 : x.k = 2
      · cases hl : x.l <;> simp [h2]
      · simp [h1, h2]
  rcases (show op = 1 ∨ op = 2 ∨ op = 3 ∨ op = 4 ∨ op = 5 ∨ op = 6 ∨ op = 7 ∨ op = 8 ∨ op = 9 ∨ op = 10 ∨ op = 11 ∨ op = 12 ∨ op = 13 by omega) with rfl | rfl | rfl | rfl | rfl | rfl | rfl | rfl | rfl | rfl | rfl | rfl | rfl
  all_goals rcases tw a with ⟨ha1, ha2⟩ | ⟨ha1, ha2⟩ | ⟨ha1, ha2⟩ <;> rcases tw b with ⟨hb1, hb2⟩ | ⟨hb1, hb2⟩ | ⟨hb1, hb2⟩
  all_goals simp [← encT_eq, q1, q2, q3, q4, ha1, ha2, hb1, hb2, splice, fillD, encT_K]
end Go.Nt.Ty

/-
  RIGHT MODULES BY THE REFERENCE, walked (4): fields, arguments, rules.
  No condition.
-/
set_option linter.unusedSimpArgs false
namespace Go.Nt.Ty
open Go Go.Nt

variable {m : Tm} {locs : List Tm}

theorem l164 (d t : Tm) (n : Int) (hd : d.l.length ≤ 1000000) (hn : 0 ≤ n ∧ n ≤ 1000000) :
    ∀ (r i : Nat) (s : List D) (bx : List (Nat × List D)) (st : St), r = d.l.length - i → i ≤ d.l.length → get s 4 = .lp 4 1 0 → getB bx 4 = (1, clT t) → get s 9 = .lp 9 1 0 → getB bx 9 = (1, clT d) → get s 10 = .int .i64 i → get s 2 = .int .i64 n →
    Stops (lp T L164_0 ⟨⟨s, bx⟩, st⟩) fun e s' _ _ => match byName t.s i (d.l.drop i) with | some (j, _) => e = .ret ∧ get s' 6 = .int .i64 (n * 64 + j) | none => e = .exit 0 := by
  intro r
  induction r with
  | zero =>
    intro i s bx st hr hi h4 b4 h9 b9 h10 h2
    have e : i = d.l.length := by omega
    subst e
    refine Stops_wp L164_0.eq_1 ?_
    rw [List.drop_length, byName]
    simp [h4, b4, h9, b9, h10, h2]
  | succ r ihr =>
    intro i s bx st hr hi h4 b4 h9 b9 h10 h2
    have hlt : i < d.l.length := by omega
    have hw : IntKind.wrap .i64 ((i : Int) + 1) = ((i + 1 : Nat) : Int) := by rw [wrap64] <;> omega
    have w1 : IntKind.wrap .i64 (n * 64) = n * 64 := by rw [wrap64] <;> omega
    have nx := fun s' bx' => ihr (i + 1) s' bx' st (by omega) (by omega)
    rw [List.drop_eq_getElem_cons hlt, byName]
    refine Stops_wp L164_0.eq_1 ?_
    by_cases h64 : i < 64
    · have w2 : IntKind.wrap .i64 (n * 64 + i) = n * 64 + i := by rw [wrap64] <;> omega
      have h64' : (i : Int) < 64 := by omega
      by_cases hs : d.l[i].s = t.s
      · simp [h4, b4, h9, b9, h10, h2, hlt, h64, h64', hs, hw, w1, w2, -Int.natCast_add]
      · rw [if_neg (fun q => hs q.1)]
        generalize byName t.s (i + 1) (d.l.drop (i + 1)) = bn at *
        simp [h4, b4, h9, b9, h10, h2, hlt, h64, h64', hs, hw, w1, w2, -Int.natCast_add]
        refine nx _ _ ?_ ?_ ?_ ?_ ?_ ?_ <;> simp [h4, b4, h9, b9, h2]
    · rw [if_neg (fun q => h64 q.2)]
      have e : byName t.s (i + 1) (d.l.drop (i + 1)) = none := by
        rcases byName_up t.s (d.l.drop (i + 1)) (i + 1) with h | ⟨j, f, h, hj, hj', _⟩
        · exact h
        · omega
      rw [e]
      have h64' : ¬ (i : Int) < 64 := by omega
      simp [h4, b4, h9, b9, h10, h2, hlt, h64, h64', hw, w1, -Int.natCast_add]

theorem c164 (gm : good m) (t of : Tm) (hn : in64 t.n) (st : St) :
    callD T (ev T) 164 [encT m, encT t, .int .i64 of.n] st = some (.int .i64 (if (fieldT m t.n t.s of).2.2 then (fieldT m t.n t.s of).1 else -1), st) := by
  have q1 := c159 gm of.n 30 (by simp)
  have q2 := c165 m t.n hn
  refine callD_pureR (fn := F164) rfl rfl (by simp) (by simp) ?_
  refine Ret_wp (fn := F164) rfl ?_
  rw [F164]
  unfold fieldT
  cases hd : (declT m of.n 30).2 with
  | false => rw [hd] at q1; simp [← encT_eq m, q1]
  | true =>
    rw [hd] at q1
    by_cases hs : t.s = []
    · have hq : IntKind.wrap .i64 (t.n.tdiv 64) = t.n.tdiv 64 := by
        have h1 := Int.mul_tdiv_add_tmod t.n 64
        have h2 := Int.tmod_lt_of_pos t.n (by omega : (0 : Int) < 64)
        have h3 : -64 < t.n.tmod 64 := by have := Int.lt_tmod_of_pos t.n (by omega : (0 : Int) < 64); omega
        unfold in64 at hn
        rw [wrap64] <;> omega
      rw [encT_eq (typField m t.n).1] at q2
      cases hf : (typField m t.n).2 with
      | false => rw [hf] at q2; simp [← encT_eq m, q1, q2, hs, hf, splice]
      | true =>
        rw [hf] at q2
        by_cases hk : t.n.tdiv 64 = of.n
        · have hq' := hq
          rw [hk] at hq'
          simp [← encT_eq m, q1, q2, hs, hf, hk, hq', splice]
        · simp [← encT_eq m, q1, q2, hs, hf, hk, hq, splice]
    · obtain ⟨g, e, _⟩ := declT_some hd
      have g1 : ¬ of.n < 0 := by omega
      have g3 : of.n.toNat < m.l.length := by omega
      have gd := good_mem gm (List.getElem_mem g3)
      have hml := good_len gm
      rw [e]
      have lo := fun s bx st => l164 m.l[of.n.toNat] t of.n (good_len gd) (by omega) _ 0 s bx st rfl (by omega)
      rw [List.drop_zero] at lo
      generalize hD : m.l[of.n.toNat] = d at *
      simp only [if_true, if_neg hs]
      generalize byName t.s 0 d.l = bn at *
      simp [← encT_eq m, q1, hs, g1, g3, hD, splice]
      refine WL.use L164_0_p L164_0_w (lo _ _ _ ?_ ?_ ?_ ?_ ?_ ?_) ?_
      iterate 6 simp [hD]
      rintro e s' b' st' h hf
      cases bn with
      | none => simp at h; subst h; simp
      | some p => obtain ⟨j, f⟩ := p; simp at h; obtain ⟨rfl, q6⟩ := h; simp [q6]

theorem same_bare (x : Tm) : ∀ a, sameT a (bareE x) = sameT a (bareT x) := by
  induction x using Tm.ind with
  | h x ih =>
    intro a
    rw [sameT_eq, sameT_eq, bareE_eq, bareT_eq]
    have : ∀ (l : List Tm) (r : List Tm), (∀ u, u ∈ r → u ∈ x.l) → sameT.sameTs l (r.map bareE) = sameT.sameTs l (r.map bareT) := by
      intro l
      induction l with
      | nil => intro r _; cases r <;> rfl
      | cons y l ihl =>
        intro r hr
        cases r with
        | nil => rfl
        | cons z r => simp only [List.map_cons, sameT.sameTs]; rw [ih z (hr z (by simp)), ihl r (fun u hu => hr u (by simp [hu]))]
    simp only [k_mk, n_mk, s_mk, l_mk, this a.l x.l (fun u hu => hu)]

theorem l166 (ts ps : List Tm) (fl fl' : Fl) (hl : ts.length = ps.length) (hb : ps.length ≤ 1000000) (gt : ∀ t, t ∈ ts → good t) (gp : ∀ p, p ∈ ps → good p) :
    ∀ (r i : Nat) (s : List D) (bx : List (Nat × List D)) (st : St), r = ps.length - i → i ≤ ps.length → get s 0 = slE 6 fl (encTs ts) → get s 1 = slE 6 fl' (encTs ps) → get s 5 = .int .i64 i →
    Stops (lp T L166_0 ⟨⟨s, bx⟩, st⟩) fun e s' _ _ => if allT (ts.drop i) (ps.drop i) then e = .exit 0 else e = .ret ∧ get s' 4 = .bool false := by
  intro r
  induction r with
  | zero =>
    intro i s bx st hr hi h0 h1 h5
    have e : i = ps.length := by omega
    subst e
    refine Stops_wp L166_0.eq_1 ?_
    rw [List.drop_length, ← hl, List.drop_length]
    simp [h0, h1, h5, hl, allT]
  | succ r ihr =>
    intro i s bx st hr hi h0 h1 h5
    have hlt : i < ps.length := by omega
    have hlt' : i < ts.length := by omega
    have hw : IntKind.wrap .i64 ((i : Int) + 1) = ((i + 1 : Nat) : Int) := by rw [wrap64] <;> omega
    have nx := fun s' bx' => ihr (i + 1) s' bx' st (by omega) (by omega)
    rw [List.drop_eq_getElem_cons hlt, List.drop_eq_getElem_cons hlt', allT]
    generalize allT (ts.drop (i + 1)) (ps.drop (i + 1)) = A at *
    have gpi := gp _ (List.getElem_mem hlt)
    have gti := gt _ (List.getElem_mem hlt')
    refine Stops_wp L166_0.eq_1 ?_
    match hp : ps[i].l with
    | [] => simp [h0, h1, h5, hlt, hlt', hp, hw, -Int.natCast_add]
    | x :: y :: rr =>
      have hc : ¬ ((rr.length : Int) + 1 + 1 = 1) := by omega
      simp [h0, h1, h5, hlt, hlt', hp, hw, hc, -Int.natCast_add]
    | [x] =>
      have q1 := c160 x (good_mem gpi (by rw [hp]; simp)) st
      have q2 := c74 ts[i] gti (bareE x) st
      rw [same_bare] at q2
      cases hs : sameT ts[i] (bareT x) with
      | true =>
        rw [hs] at q2
        simp [h0, h1, h5, hlt, hlt', hp, hw, ← encT_eq, q1, q2, hs, -Int.natCast_add]
        refine nx _ _ ?_ ?_ ?_ <;> simp [h0, h1]
      | false =>
        rw [hs] at q2
        simp [h0, h1, h5, hlt, hlt', hp, hw, ← encT_eq, q1, q2, hs, -Int.natCast_add]

theorem c166 (ts ps : List Tm) (fl fl' : Fl) (hb : ps.length ≤ 1000000) (gt : ∀ t, t ∈ ts → good t) (gp : ∀ p, p ∈ ps → good p) (st : St) : callD T (ev T) 166 [slE 6 fl (encTs ts), slE 6 fl' (encTs ps)] st = some (.bool (allT ts ps), st) := by
  refine callD_pureR (fn := F166) rfl rfl (by simp) (by simp) ?_
  refine Ret_wp (fn := F166) rfl ?_
  rw [F166]
  by_cases hl : ts.length = ps.length
  · have lo := fun s bx st => l166 ts ps fl fl' hl hb gt gp ps.length 0 s bx st (by omega) (by omega)
    rw [List.drop_zero, List.drop_zero] at lo
    generalize allT ts ps = A at *
    simp [hl]
    refine WL.use L166_0_p L166_0_w (lo _ _ _ ?_ ?_ ?_) ?_
    iterate 3 simp
    rintro e s' b' st' h hf
    cases A with
    | true => simp at h; subst h; simp
    | false => simp at h; obtain ⟨rfl, q2⟩ := h; simp [q2]
  · have hl' : ¬ ((ts.length : Int) = ps.length) := by omega
    simp [hl, hl', allT_len ts ps hl]
end Go.Nt.Ty

/-
  RIGHT MODULES BY THE REFERENCE, walked (5): the rules of types.
  No condition.
-/
set_option linter.unusedSimpArgs false
set_option maxRecDepth 20000
namespace Go.Nt.Ty
open Go Go.Nt

variable {m : Tm} {locs : List Tm}

def ruleD : Except Int (Tm × Int) → D
  | .ok (a, n) => .tup [encT a, .int .i64 n, .int .i64 0]
  | .error e => .tup [encT T0, .int .i64 0, .int .i64 e]
theorem ruleD_pure (r : Except Int (Tm × Int)) : (ruleD r).pureT = true := by
  rcases r with e | ⟨a, n⟩ <;> simp [ruleD]

theorem rE10 (m : Tm) (n : Int) (s : List UInt8) (d a b : Tm) : ruleE m 10 n s d [a, b] = if (binT n a b).k = 0 then .error 10 else .ok (binT n a b, n) := by
  unfold ruleE ruleT; by_cases h : (binT n a b).k = 0 <;> simp [h]
theorem rE11 (m : Tm) (n : Int) (s : List UInt8) (d a : Tm) : ruleE m 11 n s d [a] = if (n = 1 ∧ isT a 1 = true) ∨ (n = 2 ∧ isT a 2 = true) then .ok (a, n) else .error 10 := by
  unfold ruleE ruleT; by_cases h : (n = 1 ∧ isT a 1 = true) ∨ (n = 2 ∧ isT a 2 = true) <;> simp [h]
theorem rE12 (m : Tm) (n : Int) (s : List UInt8) (d a b : Tm) : ruleE m 12 n s d [a, b] = if (a.k = 3 ∧ a.l.length = 1) ∧ isT b 1 = true then .ok (a.l.headD T0, n) else .error 10 := by
  unfold ruleE ruleT; by_cases h : (a.k = 3 ∧ a.l.length = 1) ∧ isT b 1 = true <;> simp [h]
theorem rE13 (m : Tm) (n : Int) (s : List UInt8) (d a : Tm) : ruleE m 13 n s d [a] = if a.k = 4 ∧ a.l = [] then (if (fieldT m n s a).2.2 then .ok (bareE (typField m (fieldT m n s a).1).1, (fieldT m n s a).1) else .error 8) else .error 10 := by
  unfold ruleE; simp
theorem rE14 (m : Tm) (n : Int) (s : List UInt8) (d : Tm) (p : List Tm) : ruleE m 14 n s d p = if p.all (fun t => sameT t (p.headD T0)) = true then (if cellsV m (.mk 3 p.length [] .full [p.headD T0] 0 0) = 0 then .error 11 else .ok (.mk 3 p.length [] .full [p.headD T0] 0 0, n)) else .error 10 := by
  unfold ruleE ruleT listT
  by_cases h : p.all (fun t => sameT t (p.headD T0)) = true
  · by_cases h2 : cellsV m (.mk 3 p.length [] .full [p.headD T0] 0 0) = 0
    · simp only [h, h2]; simp
    · simp only [h, h2]; simp
  · simp only [h]; simp
theorem rE15 (m : Tm) (n : Int) (s : List UInt8) (d : Tm) (p : List Tm) : ruleE m 15 n s d p = if allT p d.l = true then .ok (.mk 4 n [] .nil [] 0 0, n) else .error 10 := by
  unfold ruleE ruleT; by_cases h : allT p d.l = true <;> simp [h]
theorem rE16 (m : Tm) (n : Int) (s : List UInt8) (d : Tm) (p : List Tm) : ruleE m 16 n s d p = if allT p (d.l.headD T0).l = true then .ok (bareE (d.l.tail.headD T0), n) else .error 10 := by
  unfold ruleE; simp

theorem slE_one (fl : Fl) (a : Tm) (l : List Tm) : ∃ b, slE 6 fl (encTs (a :: l)) = .sl 6 b (encTs (a :: l)) := by cases fl <;> exact ⟨_, rfl⟩

theorem c107_10 (t : Tm) (a b d : Tm) (hk : t.k = 10) (hn : 1 ≤ t.n ∧ t.n ≤ 13) (fl : Fl) (st : St) : callD T (ev T) 107 [encT m, encT t, slE 6 fl (encTs [a, b])] st = some (ruleD (ruleE m 10 t.n t.s d [a, b]), st) := by
  have q := c162 t.n a b hn
  rw [encT_eq (binT t.n a b)] at q
  refine callD_pureR (fn := F107) rfl rfl (by simp) (ruleD_pure _) ?_
  refine Ret_wp (fn := F107) rfl ?_
  rw [F107, rE10]
  by_cases h : (binT t.n a b).k = 0
  · rw [if_pos h]
    simp [hk, ← encT_eq a, ← encT_eq b, q, h, splice, fillD, ruleD, encT_K]
  · rw [if_neg h]
    simp [hk, ← encT_eq a, ← encT_eq b, q, h, splice, fillD, ruleD]
    rw [encT_eq]

theorem c107_11 (t : Tm) (a d : Tm) (hk : t.k = 11) (hn : t.n = 1 ∨ t.n = 2) (fl : Fl) (st : St) : callD T (ev T) 107 [encT m, encT t, slE 6 fl (encTs [a])] st = some (ruleD (ruleE m 11 t.n t.s d [a]), st) := by
  have q := c163 a
  refine callD_pureR (fn := F107) rfl rfl (by simp) (ruleD_pure _) ?_
  refine Ret_wp (fn := F107) rfl ?_
  rw [F107, rE11]
  rcases hn with hn | hn <;> cases h1 : isT a 1 <;> cases h2 : isT a 2
  all_goals simp [hk, hn, h1, h2, ← encT_eq a, q, splice, fillD, ruleD, encT_K]
  all_goals rw [encT_eq]

theorem c107_12 (t : Tm) (a b d : Tm) (hk : t.k = 12) (fl : Fl) (st : St) : callD T (ev T) 107 [encT m, encT t, slE 6 fl (encTs [a, b])] st = some (ruleD (ruleE m 12 t.n t.s d [a, b]), st) := by
  have q := c163 b
  refine callD_pureR (fn := F107) rfl rfl (by simp) (ruleD_pure _) ?_
  refine Ret_wp (fn := F107) rfl ?_
  rw [F107, rE12]
  by_cases h3 : a.k = 3
  · match hl : a.l with
    | [] => simp [hk, h3, hl, ← encT_eq b, q, splice, fillD, ruleD, encT_K]
    | x :: y :: r =>
      have hc : ¬ ((r.length : Int) + 1 + 1 = 1) := by omega
      simp [hk, h3, hl, hc, ← encT_eq b, q, splice, fillD, ruleD, encT_K]
    | [x] =>
      cases h1 : isT b 1
      · simp [hk, h3, hl, h1, ← encT_eq b, q, splice, fillD, ruleD, encT_K]
      · simp [hk, h3, hl, h1, ← encT_eq b, q, splice, fillD, ruleD]
        rw [encT_eq]
  · simp [hk, h3, splice, fillD, ruleD, encT_K]

theorem c107_13 (gm : good m) (t : Tm) (gt : good t) (a d : Tm) (hk : t.k = 13) (fl : Fl) (st : St) : callD T (ev T) 107 [encT m, encT t, slE 6 fl (encTs [a])] st = some (ruleD (ruleE m 13 t.n t.s d [a]), st) := by
  have hn : in64 t.n := ((good_iff t).1 gt).2.1
  have q := c164 gm t a hn
  rw [encT_eq t, hk] at q
  refine callD_pureR (fn := F107) rfl rfl (by simp) (ruleD_pure _) ?_
  refine Ret_wp (fn := F107) rfl ?_
  rw [F107, rE13]
  by_cases h4 : a.k = 4
  · cases hl : a.l with
    | cons x r =>
      have hc : ¬ ((r.length : Int) + 1 = 0) := by omega
      simp [hk, h4, hl, hc, ← encT_eq m, splice, fillD, ruleD, encT_K]
    | nil =>
      cases hf : (fieldT m t.n t.s a).2.2 with
      | false =>
        rw [hf] at q
        simp [hk, h4, hl, ← encT_eq m, q, splice, fillD, ruleD, encT_K]
      | true =>
        rw [hf] at q
        have gf := fieldT_good gm hn t.s a
        have h0 : ¬ (fieldT m t.n t.s a).1 < 0 := by
          have e := field_again hf
          unfold fieldT at e hf ⊢
          split at hf
          · next hd =>
            rw [if_pos hd] at e ⊢
            obtain ⟨g, _⟩ := declT_some hd
            split at hf
            · next hs =>
              rw [if_pos hs]
              simp only [Bool.and_eq_true] at hf
              have := hf.1
              unfold typField at this
              split at this
              · next g' => simp only; omega
              · cases this
            · next hs =>
              rw [if_neg hs]
              split
              · simp only; omega
              · simp only; omega
          · cases hf
        have q2 := c165 m (fieldT m t.n t.s a).1 gf.2
        have q3 := c160 _ (typField_good gm (fieldT m t.n t.s a).1)
        rw [encT_eq (typField m (fieldT m t.n t.s a).1).1] at q2
        rw [encT_eq (bareE _)] at q3
        simp only [if_true] at q ⊢
        generalize (fieldT m t.n t.s a).1 = N at *
        simp [hk, h4, hl, ← encT_eq m, ← encT_eq (typField m N).1, q, q2, q3, h0, splice, fillD, ruleD]
        rw [encT_eq]
  · simp [hk, h4, splice, fillD, ruleD, encT_K]

theorem l107 (p0 : Tm) (l : List Tm) (fl : Fl) (hl : l.length ≤ 1000000) (gp : ∀ t, t ∈ p0 :: l → good t) :
    ∀ (r i : Nat) (s : List D) (bx : List (Nat × List D)) (st : St), r = (p0 :: l).length - i → i ≤ (p0 :: l).length → get s 2 = slE 6 fl (encTs (p0 :: l)) → get s 12 = .int .i64 i → get s 6 = .lp 6 1 0 → getB bx 6 = (1, z6) →
    Stops (lp T L107_0 ⟨⟨s, bx⟩, st⟩) fun e s' b' _ => if ((p0 :: l).drop i).all (fun t => sameT t p0) then e = .exit 0 ∧ getB b' 6 = (1, z6) else e = .ret ∧ getB b' 6 = (1, z6) ∧ get s' 7 = .int .i64 0 ∧ get s' 8 = .int .i64 10 := by
  intro r
  induction r with
  | zero =>
    intro i s bx st hr hi h2 h12 h6 b6
    have e : i = (p0 :: l).length := by omega
    subst e
    refine Stops_wp L107_0.eq_1 ?_
    rw [List.drop_length]
    simp [h2, h12, h6, b6, -encTs_cons]
  | succ r ihr =>
    intro i s bx st hr hi h2 h12 h6 b6
    have hlt : i < (p0 :: l).length := by omega
    have hw : IntKind.wrap .i64 ((i : Int) + 1) = ((i + 1 : Nat) : Int) := by rw [wrap64] <;> simp at hlt <;> omega
    have nx := fun s' bx' => ihr (i + 1) s' bx' st (by omega) (by omega)
    have q := c74 (p0 :: l)[i] (gp _ (List.getElem_mem hlt)) p0 st
    have e0 : (encTs (p0 :: l))[0]? = some (encT p0) := by simp
    have ei : (encTs (p0 :: l))[i]? = some (encT (p0 :: l)[i]) := by rw [encTs_get, List.getElem?_eq_getElem hlt]; rfl
    have hlc : (i : Int) < ((encTs (p0 :: l)).length : Int) := by rw [encTs_len]; omega
    rw [List.drop_eq_getElem_cons hlt, List.all_cons]
    generalize List.all ((p0 :: l).drop (i + 1)) (fun t => sameT t p0) = A at *
    generalize encTs (p0 :: l) = es at *
    generalize (p0 :: l)[i] = pi at *
    refine Stops_wp L107_0.eq_1 ?_
    cases hs : sameT pi p0 with
    | true =>
      rw [hs] at q
      rw [Bool.true_and]
      simp [h2, h12, h6, b6, hlc, hw, e0, ei, ← encT_eq, q, -Int.natCast_add]
      refine nx _ _ ?_ ?_ ?_ ?_ <;> simp [h2, h6, b6]
    | false =>
      rw [hs] at q
      simp [h2, h12, h6, b6, hlc, hw, e0, ei, ← encT_eq, q, splice, fillD, -Int.natCast_add]

theorem c107_14 (gm : good m) (hb : m.l.length ≤ 1000) (t : Tm) (d p0 : Tm) (l : List Tm) (hl : l.length < 1000000) (gp : ∀ t, t ∈ p0 :: l → good t) (hk : t.k = 14) (fl : Fl) (st : St) :
    callD T (ev T) 107 [encT m, encT t, slE 6 fl (encTs (p0 :: l))] st = some (ruleD (ruleE m 14 t.n t.s d (p0 :: l)), st) := by
  have go : good (.mk 3 ((p0 :: l).length : Nat) [] .full [p0] 0 0) := (good_iff _).2 ⟨by simp [in64], by simp only [n_mk, List.length_cons, in64]; omega, by simp, by simp [in64], by simp [in64], by simp, fun u hu => by simp at hu; subst hu; exact gp _ (by simp)⟩
  have q := fun st => c60 m _ (good_ok _ gm) hb (good_ok _ go) st
  rw [cells_eq, encT_eq (.mk 3 _ _ _ _ _ _)] at q
  refine callD_pureR (fn := F107) rfl rfl (by simp) (ruleD_pure _) ?_
  refine Ret_wp (fn := F107) rfl ?_
  rw [F107, rE14]
  have lo := fun s bx st => l107 p0 l fl (by omega) gp (p0 :: l).length 0 s bx st (by omega) (by omega)
  rw [List.drop_zero] at lo
  have hd : (p0 :: l).headD T0 = p0 := rfl
  rw [hd]
  have e0 : (encTs (p0 :: l))[0]? = some (encT p0) := by simp
  generalize List.all (p0 :: l) (fun t => sameT t p0) = A at *
  have hlen := encTs_len (p0 :: l)
  generalize hc : cellsV m (.mk 3 ((p0 :: l).length : Nat) [] .full [p0] 0 0) = C at *
  simp only [k_mk, n_mk, s_mk, fl_mk, l_mk, a_mk, b_mk] at q
  rw [show slE 6 .full (encTs [p0]) = .sl 6 true [encT p0] by simp [slE]] at q
  generalize (p0 :: l).length = N at *
  generalize encTs (p0 :: l) = es at *
  simp [hk, splice, fillD]
  refine WL.useB L107_0_p L107_0_w (WB := L107_0.wrB) rfl (lo _ _ _ ?_ ?_ ?_ ?_) ?_
  iterate 4 simp
  rintro e s' b' st' h hf hbx
  have e2 := hf 2 rfl
  have e3 := hf 3 rfl
  have e4 := hf 4 rfl
  have e6 := hf 6 rfl
  have b3 := hbx 3 rfl
  have b4 := hbx 4 rfl
  simp at e2 e3 e4 e6 b3 b4
  cases A with
  | false =>
    simp at h
    obtain ⟨rfl, b6, q7, q8⟩ := h
    simp [e6, b6, q7, q8, ruleD, encT_K]
  | true =>
    simp at h
    obtain ⟨rfl, b6⟩ := h
    by_cases hC : C = 0
    · simp [e2, e3, e4, e6, b3, b4, b6, e0, hlen, ← encT_eq m, q, hC, splice, fillD, ruleD, encT_K]
    · simp [e2, e3, e4, e6, b3, b4, b6, e0, hlen, ← encT_eq m, q, hC, splice, fillD, ruleD]
      simp [encT, slE]

theorem c107_15 (gm : good m) (t : Tm) (p : List Tm) (hl : p.length ≤ 1000000) (gp : ∀ t, t ∈ p → good t) (hk : t.k = 15) (hn : (declT m t.n 30).2 = true) (fl : Fl) (st : St) :
    callD T (ev T) 107 [encT m, encT t, slE 6 fl (encTs p)] st = some (ruleD (ruleE m 15 t.n t.s (declT m t.n 30).1 p), st) := by
  obtain ⟨g, e, _⟩ := declT_some hn
  have g1 : ¬ t.n < 0 := by omega
  have g3 : t.n.toNat < m.l.length := by omega
  have gd := good_mem gm (List.getElem_mem g3)
  have q := fun st => c166 p m.l[t.n.toNat].l fl m.l[t.n.toNat].fl (good_len gd) gp (fun u hu => good_mem gd hu) st
  refine callD_pureR (fn := F107) rfl rfl (by simp) (ruleD_pure _) ?_
  refine Ret_wp (fn := F107) rfl ?_
  rw [F107, rE15, e]
  by_cases hA : allT p m.l[t.n.toNat].l = true
  case neg =>
    rw [if_neg hA]
    rw [eq_false_of_ne_true hA] at q
    simp [hk, g1, g3, q, splice, fillD, ruleD, encT_K]
  case pos =>
    rw [if_pos hA]
    rw [hA] at q
    simp [hk, g1, g3, q, splice, fillD, ruleD]
    simp [encT, slE]

theorem c107_16 (gm : good m) (t : Tm) (p : List Tm) (hl : p.length ≤ 1000000) (gp : ∀ t, t ∈ p → good t) (hk : t.k = 16) (hn : (declT m t.n 33).2 = true) (fl : Fl) (st : St) :
    callD T (ev T) 107 [encT m, encT t, slE 6 fl (encTs p)] st = some (ruleD (ruleE m 16 t.n t.s (declT m t.n 33).1 p), st) := by
  obtain ⟨g, e, _⟩ := declT_some hn
  have g1 : ¬ t.n < 0 := by omega
  have g3 : t.n.toNat < m.l.length := by omega
  have gd := good_mem gm (List.getElem_mem g3)
  have h3 : (declT m t.n 33).1.l.length = 3 := by
    unfold declT at hn ⊢
    rw [dif_pos g] at hn ⊢
    split at hn
    · next hk => rw [if_pos hk]; simpa using hn
    · cases hn
  rw [e] at h3
  rw [e]
  refine callD_pureR (fn := F107) rfl rfl (by simp) (ruleD_pure _) ?_
  refine Ret_wp (fn := F107) rfl ?_
  rw [F107]
  generalize hD : m.l[t.n.toNat] = d at *
  match hdl : d.l, h3 with
  | [x, y, z], _ =>
    have gx := good_mem gd (by rw [hdl]; simp : x ∈ d.l)
    have gy := good_mem gd (by rw [hdl]; simp : y ∈ d.l)
    have q := fun st => c166 p x.l fl x.fl (good_len gx) gp (fun u hu => good_mem gx hu) st
    have q2 := c160 y gy
    rw [encT_eq (bareE y)] at q2
    have r16 : ruleE m 16 t.n t.s d p = if allT p x.l = true then .ok (bareE y, t.n) else .error 10 := by rw [rE16, hdl]; rfl
    rw [r16]
    by_cases hA : allT p x.l = true
    case neg =>
      rw [if_neg hA]
      rw [eq_false_of_ne_true hA] at q
      simp [hk, g1, g3, hD, hdl, q, splice, fillD, ruleD, encT_K]
    case pos =>
      rw [if_pos hA]
      rw [hA] at q
      simp [hk, g1, g3, hD, hdl, ← encT_eq y, q, q2, splice, fillD, ruleD]
      rw [encT_eq]
end Go.Nt.Ty

/-
  RIGHT MODULES BY THE REFERENCE, walked (6): the types of expressions.
  No condition.
-/
set_option linter.unusedSimpArgs false
namespace Go.Nt.Ty
open Go Go.Nt

variable {m : Tm} {locs : List Tm}

theorem named_decl15 {t : Tm} (h : t.k = 15) : namedT m locs t = declT m t.n 30 := by unfold namedT; simp [h]
theorem named_decl16 {t : Tm} (h : t.k = 16) : namedT m locs t = declT m t.n 33 := by unfold namedT; simp [h]
theorem named_17 {t : Tm} (h : t.k = 17) : (namedT m locs t).2 = false := by unfold namedT; simp [h]

theorem c107 (gm : good m) (hb : m.l.length ≤ 1000) (t : Tm) (gt : good t) (hs : shapedT t = true) (hn : (namedT m locs t).2 = true) (h0 : ¬ (t.l = [] ∧ t.k ≠ 16)) (p : List Tm) (hp : p.length = t.l.length) (hl : p.length < 1000000) (gp : ∀ u, u ∈ p → good u) (fl : Fl) (st : St) :
    callD T (ev T) 107 [encT m, encT t, slE 6 fl (encTs p)] st = some (ruleD (ruleE m t.k t.n t.s (namedT m locs t).1 p), st) := by
  have hs' := hs
  unfold shapedT at hs
  have len0 : t.l.length = 0 → t.k = 16 := fun h => Classical.byContradiction fun hk => h0 ⟨List.length_eq_zero_iff.1 h, hk⟩
  by_cases k0 : t.k = 5 ∨ t.k = 7 ∨ t.k = 8 ∨ t.k = 9 ∨ t.k = 18
  · rw [if_pos k0] at hs; have := len0 (by simpa using hs); omega
  rw [if_neg k0] at hs
  by_cases k6 : t.k = 6
  · rw [if_pos k6] at hs; simp only [Bool.and_eq_true, decide_eq_true_eq] at hs; have := len0 hs.1; omega
  rw [if_neg k6] at hs
  by_cases k11 : t.k = 11
  · rw [if_pos k11] at hs; simp only [Bool.and_eq_true, Bool.or_eq_true, decide_eq_true_eq] at hs
    rw [hs.1] at hp
    match p, hp with
    | [a], _ => rw [k11]; exact c107_11 t a _ k11 hs.2 fl st
  rw [if_neg k11] at hs
  by_cases k10 : t.k = 10
  · rw [if_pos k10] at hs; simp only [Bool.and_eq_true, decide_eq_true_eq] at hs
    rw [hs.1] at hp
    match p, hp with
    | [a, b], _ => rw [k10]; exact c107_10 t a b _ k10 hs.2 fl st
  rw [if_neg k10] at hs
  by_cases k13 : t.k = 13
  · rw [if_pos k13] at hs; simp only [decide_eq_true_eq] at hs
    rw [hs] at hp
    match p, hp with
    | [a], _ => rw [k13]; exact c107_13 gm t gt a _ k13 fl st
  rw [if_neg k13] at hs
  by_cases k12 : t.k = 12
  · rw [if_pos k12] at hs; simp only [decide_eq_true_eq] at hs
    rw [hs] at hp
    match p, hp with
    | [a, b], _ => rw [k12]; exact c107_12 t a b _ k12 fl st
  rw [if_neg k12] at hs
  by_cases k14 : t.k = 14
  · rw [if_pos (.inl k14)] at hs; simp only [decide_eq_true_eq] at hs
    cases p with
    | nil => simp at hp; omega
    | cons a l => rw [k14]; exact c107_14 gm hb t _ a l (by simp at hl; omega) gp k14 fl st
  by_cases k15 : t.k = 15
  · rw [named_decl15 k15] at hn ⊢; rw [k15]; exact c107_15 gm t p (by omega) gp k15 hn fl st
  by_cases k16 : t.k = 16
  · rw [named_decl16 k16] at hn ⊢; rw [k16]; exact c107_16 gm t p (by omega) gp k16 hn fl st
  rw [if_neg (by omega)] at hs
  simp only [Bool.or_eq_true, decide_eq_true_eq] at hs
  have k17 : t.k = 17 := by omega
  rw [named_17 k17] at hn; cases hn

/-! ### Rows that grow from an empty one -/
def RawE (st : St) (L : D) (l : List Tm) : Prop :=
  (l = [] ∧ L = .sl 6 true []) ∨ ∃ id md, l ≠ [] ∧ L = .rs id (l.length - 1) 6 0 l.length false ∧ St.at st id = .cells false 6 (l.length - 1) md false (encTs l) ∧ id < st.length
theorem RawE.nil (st : St) : RawE st (.sl 6 true []) [] := .inl ⟨rfl, rfl⟩
theorem RawE.facts {st : St} {L : D} {l : List Tm} (h : RawE st L l) : L.okv = true ∧ L.cells = [L] ∧ L.fits none = true ∧ ∀ st' q, lenD st' .slice L q = some (.i l.length) := by
  rcases h with ⟨rfl, rfl⟩ | ⟨id, md, _, rfl, _, _⟩
  · exact ⟨rfl, rfl, rfl, fun _ _ => rfl⟩
  · exact ⟨rfl, rfl, rfl, fun _ _ => rfl⟩
theorem RawE.keep {st st' : St} {L : D} {l : List Tm} (h : RawE st L l) (hl : st.length ≤ st'.length) (ha : l ≠ [] → St.at st' (lidOf L) = St.at st (lidOf L)) : RawE st' L l := by
  rcases h with h | ⟨id, md, h0, rfl, h1, h2⟩
  · exact .inl h
  · exact .inr ⟨id, md, h0, rfl, by rw [← h1]; exact ha h0, by omega⟩
theorem RawE.app {st : St} {L : D} {l : List Tm} (h : RawE st L l) (hb : l.length ≤ 1000000) (x : Tm) :
    ∃ L' st', appendD st L [encT x] 6 = some (L', st') ∧ RawE st' L' (l ++ [x]) ∧ st.length ≤ st'.length ∧ (∀ i, i < st.length → (l = [] ∨ i ≠ lidOf L) → St.at st' i = St.at st i) ∧ (lidOf L' = lidOf L ∧ l ≠ [] ∨ l = [] ∧ lidOf L' = st.length) := by
  rcases h with ⟨rfl, rfl⟩ | ⟨id, md, h0, rfl, h1, h3⟩
  · refine ⟨.rs st.length 0 6 0 1 false, st ++ [.cells false 6 0 0 false [encT x]], by simp [appendD, most], .inr ⟨st.length, 0, by simp, by simp, by simp [at_last], by simp⟩, by simp, fun i hi _ => at_lt _ _ hi, .inr ⟨rfl, rfl⟩⟩
  · have hp : 0 < l.length := List.length_pos_iff.2 h0
    have e1 : l.length - 1 + 1 = l.length := by omega
    have ht : l.length < tagB := by unfold tagB; omega
    have hm : l.length ≤ most := by unfold most; omega
    refine ⟨.rs id l.length 6 0 (l.length + 1) false, List.set st id (.cells false 6 l.length (md + 1) false (encTs (l ++ [x]))), ?_, .inr ⟨id, md + 1, by simp, by simp, ?_, by simpa using h3⟩, by simp, fun i hi hne => ?_, .inl ⟨rfl, h0⟩⟩
    · have e2 : List.take l.length (encTs l) = encTs l := List.take_of_length_le (by simp)
      have hm2 : l.length ≤ 134217728 := by omega
      simp [appendD, h1, ht, hm, hm2, most, e1, e2, encTs_append]
    · rw [at_set _ _ _ _ h3, if_pos rfl]; simp
    · rw [at_set _ _ _ _ h3, if_neg (by rcases hne with q | q; exact absurd q h0; exact q)]
/-- The row, not written any more. -/
theorem RawE.fz {st : St} {L : D} {l : List Tm} (h : RawE st L l) : ∃ st', fz0 st L = some (slE 6 .emp (encTs l), st') ∧ st'.length = st.length ∧ ∀ i, (l = [] ∨ i ≠ lidOf L) → St.at st' i = St.at st i := by
  rcases h with ⟨rfl, rfl⟩ | ⟨id, md, h0, rfl, h1, h3⟩
  · exact ⟨st, rfl, rfl, fun _ _ => rfl⟩
  · refine ⟨List.set st id (.cells false 6 (l.length - 1) (md + 1) true (encTs l)), ?_, by simp, fun i hi => by rw [at_set _ _ _ _ h3, if_neg (by rcases hi with q | q; exact absurd q h0; exact q)]⟩
    have e2 : List.take l.length (encTs l) = encTs l := List.take_of_length_le (by simp)
    have e3 : slE 6 .emp (encTs l) = .sl 6 false (encTs l) := by cases l with | nil => exact absurd rfl h0 | cons a b => rfl
    rw [fz0_rs, h1, e3]
    simp [e2]
theorem RawE.lid {st : St} {L : D} {l : List Tm} (h : RawE st L l) : l = [] ∨ lidOf L < st.length := by
  rcases h with ⟨rfl, _⟩ | ⟨id, md, _, rfl, _, h3⟩
  · exact .inl rfl
  · exact .inr h3
/-- Freeing what stands in a slice's place. -/
theorem RawE.fz1 {st : St} {L : D} {l : List Tm} (h : RawE st L l) : fz1 st L = fz0 st L := by
  rcases h with ⟨rfl, rfl⟩ | ⟨id, md, _, rfl, _, _⟩ <;> rfl
end Go.Nt.Ty

/-
  RIGHT MODULES BY THE REFERENCE, walked (7): the types of expressions, whole.
  No condition.
-/
set_option linter.unusedSimpArgs false
set_option maxRecDepth 20000
namespace Go.Nt.Ty
open Go Go.Nt

variable {m : Tm} {locs : List Tm}

theorem bareE_good (t : Tm) : good t → good (bareE t) := by
  induction t using Tm.ind with
  | h t ih =>
    intro gt
    obtain ⟨k1, k2, k3, k4, k5, k6, k7⟩ := (good_iff t).1 gt
    rw [bareE_eq]
    exact (good_iff _).2 ⟨k1, k2, k3, by simp [in64], by simp [in64], by simpa using k6, fun u hu => by
      simp only [l_mk, List.mem_map] at hu
      obtain ⟨v, hv, rfl⟩ := hu
      exact ih v hv (k7 v hv)⟩

theorem ruleE_good (hm : good m) {k n : Int} (hn : in64 n) (s : List UInt8) {d : Tm} (hd : good d) {p : List Tm} (hp : ∀ t, t ∈ p → good t) (hl : p.length ≤ 1000000) {a : Tm} {n' : Int} (h : ruleE m k n s d p = .ok (a, n')) : good a ∧ in64 n' := by
  unfold ruleE at h
  split at h
  · split at h
    · next a' =>
      split at h
      · split at h
        · simp only [Except.ok.injEq, Prod.mk.injEq] at h
          obtain ⟨rfl, rfl⟩ := h
          exact ⟨bareE_good _ (typField_good hm _), (fieldT_good hm hn s a').2⟩
        · cases h
      · cases h
    · cases h
  split at h
  · split at h
    · simp only [Except.ok.injEq, Prod.mk.injEq] at h
      obtain ⟨rfl, rfl⟩ := h
      refine ⟨bareE_good _ (good_head fun t ht => ?_), hn⟩
      exact good_mem hd (List.mem_of_mem_tail ht)
    · cases h
  split at h
  · simp only [Except.ok.injEq, Prod.mk.injEq] at h
    obtain ⟨rfl, rfl⟩ := h
    exact ⟨(ruleT_good hm hn s hd hp hl).1, hn⟩
  · cases h

theorem aloneE_good (gm : good m) (gl : ∀ t, t ∈ locs → good t) (t : Tm) : good (aloneE m locs t) := by
  unfold aloneE
  split
  · exact bareE_good _ (namedT_good gm gl t)
  split
  · exact namedT_good gm gl t
  split
  · exact good_K 1 (by simp [in64])
  · exact litT_good t

theorem ofE_good (gm : good m) (gl : ∀ t, t ∈ locs → good t) (t : Tm) : good t → ∀ a s, ofE m locs t = .ok (a, s) → good a ∧ good s := by
  induction t using Tm.ind with
  | h t ih =>
    intro gt a s h
    obtain ⟨k1, k2, k3, k4, k5, k6, k7⟩ := (good_iff t).1 gt
    rw [ofE_eq] at h
    split at h
    · cases h
    split at h
    · cases h
    split at h
    · simp only [Except.ok.injEq, Prod.mk.injEq] at h
      obtain ⟨rfl, rfl⟩ := h
      exact ⟨aloneE_good gm gl t, (good_iff _).2 ⟨k1, k2, by simp, by simp [in64], by simp [in64], by simp, fun u hu => by cases hu⟩⟩
    have hofs : ∀ (l : List Tm), (∀ u, u ∈ l → u ∈ t.l) → ∀ ts ss, ofsE m locs l = .ok (ts, ss) → (∀ x, x ∈ ts → good x) ∧ (∀ x, x ∈ ss → good x) ∧ ts.length = l.length ∧ ss.length = l.length := by
      intro l
      induction l with
      | nil => intro _ ts ss h; rw [ofsE] at h; cases h; simp
      | cons x l ihl =>
        intro hl ts ss h
        rw [ofsE] at h
        split at h
        · cases h
        next a1 s1 e1 =>
        split at h
        · cases h
        next ts1 ss1 e2 =>
        cases h
        obtain ⟨g1, g2⟩ := ih x (hl x (by simp)) (k7 x (hl x (by simp))) _ _ e1
        obtain ⟨g3, g4, g5, g6⟩ := ihl (fun u hu => hl u (by simp [hu])) _ _ e2
        exact ⟨fun y hy => by rcases List.mem_cons.1 hy with rfl | q; exact g1; exact g3 y q, fun y hy => by rcases List.mem_cons.1 hy with rfl | q; exact g2; exact g4 y q, by simp [g5], by simp [g6]⟩
    split at h
    · cases h
    next ts ss e =>
    obtain ⟨g3, g4, g5, g6⟩ := hofs t.l (fun u hu => hu) _ _ e
    split at h
    · cases h
    next ty n' er =>
    cases h
    obtain ⟨g7, g8⟩ := ruleE_good gm k2 t.s (namedT_good gm gl t) g3 (by omega) er
    exact ⟨g7, (good_iff _).2 ⟨k1, g8, by simp, by simp [in64], by simp [in64], by simp; omega, g4⟩⟩

theorem ofsE_good (gm : good m) (gl : ∀ t, t ∈ locs → good t) : ∀ (l : List Tm), (∀ u, u ∈ l → good u) → ∀ ts ss, ofsE m locs l = .ok (ts, ss) → (∀ x, x ∈ ts → good x) ∧ (∀ x, x ∈ ss → good x) ∧ ts.length = l.length ∧ ss.length = l.length
  | [], _, ts, ss, h => by rw [ofsE] at h; cases h; simp
  | x :: l, hl, ts, ss, h => by
    rw [ofsE] at h
    split at h
    · cases h
    next a1 s1 e1 =>
    split at h
    · cases h
    next ts1 ss1 e2 =>
    cases h
    obtain ⟨g1, g2⟩ := ofE_good gm gl x (hl x (by simp)) _ _ e1
    obtain ⟨g3, g4, g5, g6⟩ := ofsE_good gm gl l (fun u hu => hl u (by simp [hu])) _ _ e2
    exact ⟨fun y hy => by rcases List.mem_cons.1 hy with rfl | q; exact g1; exact g3 y q, fun y hy => by rcases List.mem_cons.1 hy with rfl | q; exact g2; exact g4 y q, by simp [g5], by simp [g6]⟩

theorem ruleE_err {k n : Int} {s : List UInt8} {d : Tm} {p : List Tm} {e : Int} (h : ruleE m k n s d p = .error e) : e ≠ 0 := by
  unfold ruleE at h
  split at h
  · split at h
    · split at h
      · split at h <;> cases h; simp
      · cases h; simp
    · cases h; simp
  split at h
  · split at h <;> cases h; simp
  split at h
  · cases h
  · next q => cases h; exact q
theorem ofE_err (t : Tm) : ∀ a e, ofE m locs t = .error (a, e) → e ≠ 0 := by
  induction t using Tm.ind with
  | h t ih =>
    intro a e h
    rw [ofE_eq] at h
    split at h
    · cases h; simp
    split at h
    · cases h; simp
    split at h
    · cases h
    have hofs : ∀ (l : List Tm), (∀ u, u ∈ l → u ∈ t.l) → ∀ a e, ofsE m locs l = .error (a, e) → e ≠ 0 := by
      intro l
      induction l with
      | nil => intro _ a e h; rw [ofsE] at h; cases h
      | cons x l ihl =>
        intro hl a e h
        rw [ofsE] at h
        split at h
        · next e1 => cases h; exact ih x (hl x (by simp)) _ _ e1
        split at h
        · next e2 => cases h; exact ihl (fun u hu => hl u (by simp [hu])) _ _ e2
        · cases h
    split at h
    · next e1 => cases h; exact hofs t.l (fun u hu => hu) _ _ e1
    split at h
    · next e1 => cases h; exact ruleE_err e1
    · cases h

/-- What is told of an expression. -/
def gotE : Er (Tm × Tm) → D
  | .ok (a, s) => .agg [.int .i64 a.k, .int .i64 a.n, .str a.s, slE 6 a.fl (encTs a.l), .int .i64 a.a, .int .i64 a.b, .int .i64 s.k, .int .i64 s.n, .str s.s, slE 6 s.fl (encTs s.l), .int .i64 s.a, .int .i64 s.b, .int .i64 0, .int .i64 0]
  | .error (x, y) => badG x y
theorem gotE_pure (r : Er (Tm × Tm)) : (gotE r).pureT = true := by rcases r with ⟨x, y⟩ | ⟨a, s⟩ <;> simp [gotE, badG]

def z14 : List D := [.int .i64 0, .int .i64 0, .str [], .nils, .int .i64 0, .int .i64 0, .int .i64 0, .int .i64 0, .str [], .nils, .int .i64 0, .int .i64 0, .int .i64 0, .int .i64 0]
def Q65 (R : Er (List Tm × List Tm)) (ts ss : List Tm) (e : Ex) (s' : List D) (b' : List (Nat × List D)) (st' : St) : Prop :=
  match R with
  | .error (x, y) => e = .ret ∧ getB b' 6 = (1, [.int .i64 0, .int .i64 0, .str [], .nils, .int .i64 0, .int .i64 0, .int .i64 0, .int .i64 0, .str [], .nils, .int .i64 0, .int .i64 0, .int .i64 x, .int .i64 y])
  | .ok (ts', ss') => e = .exit 0 ∧ getB b' 6 = (1, z14) ∧ RawE st' (get s' 7) (ts ++ ts') ∧ RawE st' (get s' 8) (ss ++ ss') ∧ (ts ++ ts' = [] ∨ lidOf (get s' 7) ≠ lidOf (get s' 8))

theorem l65 (t : Tm) (fl : Fl) (hl : t.l.length ≤ 1000000) (hc : ∀ u, u ∈ t.l → ∀ st, callD T (ev T) 65 [encT m, slE 6 fl (encTs locs), encT u] st = some (gotE (ofE m locs u), st)) :
    ∀ (r i : Nat) (s : List D) (bx : List (Nat × List D)) (st : St) (L7 L8 : D) (ts ss : List Tm), r = t.l.length - i → i ≤ t.l.length → RawE st L7 ts → RawE st L8 ss → ts.length = i → ss.length = i → (ts = [] ∨ lidOf L7 ≠ lidOf L8) →
      get s 3 = .lp 3 1 0 → getB bx 3 = (1, clT m) → get s 1 = slE 6 fl (encTs locs) → get s 5 = .lp 5 1 0 → getB bx 5 = (1, clT t) → get s 6 = .lp 6 1 0 → getB bx 6 = (1, z14) → get s 7 = L7 → get s 8 = L8 → get s 9 = .int .i64 i →
    Stops (lp T L65_0 ⟨⟨s, bx⟩, st⟩) fun e s' b' st' => Q65 (ofsE m locs (t.l.drop i)) ts ss e s' b' st' := by
  intro r
  induction r with
  | zero =>
    intro i s bx st L7 L8 ts ss hr hi R7 R8 n7 n8 hne h3 b3 h1 h5 b5 h6 b6 h7 h8 h9
    have e : i = t.l.length := by omega
    refine Stops_wp L65_0.eq_1 ?_
    rw [e, List.drop_length, ofsE]
    simp [h5, b5, h9, e, Q65, h7, h8, b6]
    exact ⟨R7, R8, hne⟩
  | succ r ihr =>
    intro i s bx st L7 L8 ts ss hr hi R7 R8 n7 n8 hne h3 b3 h1 h5 b5 h6 b6 h7 h8 h9
    have hlt : i < t.l.length := by omega
    have hw : IntKind.wrap .i64 ((i : Int) + 1) = ((i + 1 : Nat) : Int) := by rw [wrap64] <;> omega
    have q := hc _ (List.getElem_mem hlt)
    rw [List.drop_eq_getElem_cons hlt, ofsE]
    refine Stops_wp L65_0.eq_1 ?_
    cases hO : ofE m locs t.l[i] with
    | error v =>
      obtain ⟨x, y⟩ := v
      have hy := ofE_err _ _ _ hO
      rw [hO] at q
      simp [gotE, badG] at q
      simp [h3, b3, h1, h5, b5, h6, b6, h9, hlt, ← encT_eq m, ← encT_eq t.l[i], q, hy, Q65, splice, z14, -Int.natCast_add]
    | ok v =>
      obtain ⟨a, sf⟩ := v
      rw [hO] at q
      simp [gotE] at q
      obtain ⟨M7, st1, p1, S7, g1, o1, d1⟩ := R7.app (by omega) a
      have S8 : RawE st1 L8 ss := R8.keep g1 fun hs => o1 _ (by rcases R8.lid with h | h; exact absurd h hs; exact h) (by
        rcases hne with h | h
        · exact .inl h
        · exact .inr (fun q => h q.symm))
      obtain ⟨M8, st2, p2, T8, g2, o2, d2⟩ := S8.app (by omega) sf
      have hM : lidOf M7 ≠ lidOf M8 := by
        rcases S7.lid with h | h
        · simp at h
        · rcases d2 with ⟨e2, hs⟩ | ⟨hs, e2⟩
          · rcases d1 with ⟨e1, ht⟩ | ⟨ht, e1⟩
            · rw [e1, e2]
              rcases hne with h | h
              · exact absurd h ht
              · exact h
            · rw [ht] at n7; rw [← n7] at n8; exact absurd (List.length_eq_zero_iff.1 n8) hs
          · omega
      have T7 : RawE st2 M7 (ts ++ [a]) := S7.keep g2 fun _ => o2 _ (by rcases S7.lid with h | h; simp at h; exact h) (by
        rcases d2 with ⟨e2, hs⟩ | ⟨hs, e2⟩
        · exact .inr (by rw [← e2]; exact hM)
        · exact .inl hs)
      have nx := fun s' bx' => ihr (i + 1) s' bx' st2 M7 M8 (ts ++ [a]) (ss ++ [sf]) (by omega) (by omega) T7 T8 (by simp; omega) (by simp; omega) (.inr hM)
      obtain ⟨x1, x2, x3, x4⟩ := S7.facts
      obtain ⟨y1, y2, y3, y4⟩ := T8.facts
      have cv : ∀ e s' b' st', Q65 (ofsE m locs (t.l.drop (i + 1))) (ts ++ [a]) (ss ++ [sf]) e s' b' st' → Q65 (match ofsE m locs (t.l.drop (i + 1)) with
          | .error e => .error e
          | .ok (ts, ss) => .ok (a :: ts, sf :: ss)) ts ss e s' b' st' := by
        intro e s' b' st' h
        cases hR : ofsE m locs (t.l.drop (i + 1)) with
        | error v => rw [hR] at h; exact h
        | ok v => rw [hR] at h; obtain ⟨t1, t2⟩ := v; simpa [Q65] using h
      simp only
      generalize hG : Q65 (match ofsE m locs (t.l.drop (i + 1)) with
          | .error e => .error e
          | .ok (ts, ss) => .ok (a :: ts, sf :: ss)) ts ss = G at *
      simp [h3, b3, h1, h5, b5, h6, b6, h7, h8, h9, hlt, hw, ← encT_eq m, ← encT_eq t.l[i], ← encT_eq a, ← encT_eq sf, q, p1, p2, x1, x2, x3, y1, y2, y3, splice, -Int.natCast_add]
      refine Stops.mono (nx _ _ ?_ ?_ ?_ ?_ ?_ ?_ ?_ ?_ ?_ ?_) (fun e s' b' st' h => cv e s' b' st' h)
      all_goals simp [h3, b3, h1, h5, b5, h6, b6]
end Go.Nt.Ty

/-
  RIGHT MODULES BY THE REFERENCE, walked (8): Of.
  No condition.
-/
set_option linter.unusedSimpArgs false
set_option maxRecDepth 20000
namespace Go.Nt.Ty
open Go Go.Nt

variable {m : Tm} {locs : List Tm}

theorem c65 (gm : good m) (hb : m.l.length ≤ 1000) (gl : ∀ t, t ∈ locs → good t) (hll : locs.length ≤ 1000000) (fl : Fl) (t : Tm) : good t → cntT t < 1000000 → ∀ (st : St), callD T (ev T) 65 [encT m, slE 6 fl (encTs locs), encT t] st = some (gotE (ofE m locs t), st) := by
  induction t using Tm.ind with
  | h t ih =>
    intro gt hct st
    have hcl : ∀ u, u ∈ t.l → cntT u < 1000000 := fun u hu => by have := cntTs_mem hu; have := cntT_eq t; omega
    have htl : t.l.length < 1000000 := by have := cntT_eq t; have := cntTs_len t.l; omega
    have q1 := c103 t
    have q2 := fun st => c105 (locs := locs) gm fl t st
    have qb := fun e st => c104 t e st
    refine callD_pureR (fn := F65) rfl rfl (by simp) (gotE_pure _) ?_
    refine Ret_wp (fn := F65) rfl ?_
    rw [F65, ofE_eq]
    by_cases hs : shapedT t = false
    · rw [if_pos hs]
      rw [hs] at q1
      simp [badG] at qb
      simp [← encT_eq t, q1, qb, gotE, badG, splice]
    rw [if_neg hs]
    have hs' : shapedT t = true := by simpa using hs
    rw [hs'] at q1
    by_cases hn : (namedT m locs t).2 = false
    · rw [if_pos hn]
      rw [hn] at q2
      simp [badG] at qb
      simp [← encT_eq t, ← encT_eq m, q1, q2, qb, gotE, badG, splice]
    rw [if_neg hn]
    have hn' : (namedT m locs t).2 = true := by simpa using hn
    rw [hn'] at q2
    by_cases h0 : t.l = [] ∧ t.k ≠ 16
    · rw [if_pos h0]
      have q3 := fun st => c106 gm fl gl hll t hn' st
      rw [encT_eq (aloneE m locs t)] at q3
      have e1 : t.l.length = 0 := by rw [h0.1]; rfl
      simp [← encT_eq t, ← encT_eq m, q1, q2, q3, e1, h0.2, gotE, splice, fillD]
      simp [slE]
    rw [if_neg h0]
    have lo := fun s bx st => l65 (m := m) (locs := locs) t fl (by omega) (fun u hu st => ih u hu (good_mem gt hu) (hcl u hu) st) t.l.length 0 s bx st (.sl 6 true []) (.sl 6 true []) [] [] (by omega) (by omega) (RawE.nil _) (RawE.nil _) rfl rfl (.inl rfl)
    rw [List.drop_zero] at lo
    have go : ∀ s bx, get s 3 = .lp 3 1 0 → getB bx 3 = (1, clT m) → get s 1 = slE 6 fl (encTs locs) → get s 5 = .lp 5 1 0 → getB bx 5 = (1, clT t) → get s 6 = .lp 6 1 0 → getB bx 6 = (1, z14) → get s 7 = .sl 6 true [] → get s 8 = .sl 6 true [] → get s 9 = .int .i64 0 → _ := fun s bx g1 g2 g3 g4 g5 g6 g7 g8 g9 g10 => lo s bx [] g1 g2 g3 g4 g5 g6 g7 g8 g9 g10
    have hz : z14 = [.int .i64 0, .int .i64 0, .str [], .nils, .int .i64 0, .int .i64 0, .int .i64 0, .int .i64 0, .str [], .nils, .int .i64 0, .int .i64 0, .int .i64 0, .int .i64 0] := rfl
    have h0' : t.l.length = 0 → t.k = 16 := fun h => Classical.byContradiction fun hk => h0 ⟨List.length_eq_zero_iff.1 h, hk⟩
    have fin : ∀ (s' : List D) (b' : List (Nat × List D)) (st' : St) (ts ss : List Tm), ofsE m locs t.l = .ok (ts, ss) → RawE st' (get s' 7) ts → RawE st' (get s' 8) ss → (ts = [] ∨ lidOf (get s' 7) ≠ lidOf (get s' 8)) →
        get s' 3 = .lp 3 1 0 → getB b' 3 = (1, clT m) → get s' 5 = .lp 5 1 0 → getB b' 5 = (1, clT t) → get s' 6 = .lp 6 1 0 → getB b' 6 = (1, z14) → (getB b' 11).1 = 0 →
        WP T (.seq (.ops [lF 77 3 3, lF 78 5 5, mV 79 7, cA 80 107 [(.t 77), (.t 78), (.t 79)], mV 76 80, eX 81 76 0, eX 82 76 1, eX 83 76 2, bZ 11, sT 11 81 6 11, mV 12 82, mV 13 83])
  (.seq (.seq (.ops [mV 84 13, bK 85 .neq 84 0])
  (.cond (.t 85) (.seq (.ops [lF 86 5 5, mV 87 13, cA 88 104 [(.t 86), (.t 87)], sT 6 88 14 6])
  (.ret))
  (.skip)))
  (.seq (.ops [lF 89 11 11, fA 90 5 0, lA 91 90 5, mV 92 12, mV 93 8, g0 (.build 94 zT [(0, 1, (.t 91)), (1, 1, (.t 92)), (3, 1, (.t 93))]), g0 (.build 95 [(.int .i64 0), (.int .i64 0), (.str []), .nils, (.int .i64 0), (.int .i64 0), (.int .i64 0), (.int .i64 0), (.str []), .nils, (.int .i64 0), (.int .i64 0), (.int .i64 0), (.int .i64 0)] [(0, 6, (.t 89)), (6, 6, (.t 94))]), sT 6 95 14 6])
  (.ret)))) ⟨⟨s', b'⟩, st'⟩ (qFn [.cell 6 (some 14) (some 6)] fun r st1 => ∃ st2, fz st1 r = some (gotE (match ruleE m t.k t.n t.s (namedT m locs t).1 ts with
        | .error e => .error (t.a, e)
        | .ok (ty, n') => .ok (ty, .mk t.k n' [] .emp ss 0 0)), st2)) := by
      intro s' b' st' ts ss hO R7 R8 hne h3 b3 h5 b5 h6 b6 b11
      obtain ⟨g3, g4, g5, g6⟩ := ofsE_good gm gl t.l (fun u hu => good_mem gt hu) _ _ hO
      obtain ⟨st2, f1, f2, f3⟩ := R7.fz
      have R8' : RawE st2 (get s' 8) ss := R8.keep (by omega) fun hss => f3 _ (by
        rcases hne with h | h
        · exact .inl h
        · exact .inr fun q => h q.symm)
      obtain ⟨st3, f4, f5, f6⟩ := R8'.fz
      have q7 : callD T (ev T) 107 [encT m, encT t, get s' 7] st' = some (ruleD (ruleE m t.k t.n t.s (namedT m locs t).1 ts), st2) := by
        refine callD_free (fn := F107) rfl rfl (args' := [encT m, encT t, slE 6 .emp (encTs ts)]) ?_ (by simp) (c107 gm hb t gt hs' hn' h0 ts g5 (by omega) g3 .emp st2)
        simp [R7.fz1, f1]
      obtain ⟨x1, x2, x3, x4⟩ := R7.facts
      obtain ⟨y1, y2, y3, y4⟩ := R8.facts
      cases hr : ruleE m t.k t.n t.s (namedT m locs t).1 ts with
      | error e =>
        have he := ruleE_err hr
        rw [hr] at q7
        simp [ruleD, encT_K] at q7
        simp [badG] at qb
        simp [h3, b3, h5, b5, h6, b6, b11, z14, ← encT_eq m, ← encT_eq t, q7, he, qb, splice, gotE, badG]
      | ok v =>
        obtain ⟨a, n'⟩ := v
        rw [hr] at q7
        simp [ruleD] at q7
        rw [encT_eq a] at q7
        simp [h3, b3, h5, b5, h6, b6, b11, z14, ← encT_eq m, ← encT_eq t, q7, splice, fillD, y1, y2, y3, f4, gotE]
    have tail : ∀ (s0 : List D) (b0 : List (Nat × List D)) (e : Ex) (s' : List D) (b' : List (Nat × List D)) (st' : St), Q65 (ofsE m locs t.l) [] [] e s' b' st' → get s0 3 = .lp 3 1 0 → get s0 5 = .lp 5 1 0 → get s0 6 = .lp 6 1 0 → getB b0 3 = (1, clT m) → getB b0 5 = (1, clT t) → getB b0 11 = (0, []) →
        (∀ k, L65_0.wr.contains k = false → get s' k = get s0 k) → (∀ k, L65_0.wrB.contains k = false → getB b' k = getB b0 k) → qBk 0 (qSq T (.seq (.ops [lF 77 3 3, lF 78 5 5, mV 79 7, cA 80 107 [(.t 77), (.t 78), (.t 79)], mV 76 80, eX 81 76 0, eX 82 76 1, eX 83 76 2, bZ 11, sT 11 81 6 11, mV 12 82, mV 13 83])
  (.seq (.seq (.ops [mV 84 13, bK 85 .neq 84 0])
  (.cond (.t 85) (.seq (.ops [lF 86 5 5, mV 87 13, cA 88 104 [(.t 86), (.t 87)], sT 6 88 14 6])
  (.ret))
  (.skip)))
  (.seq (.ops [lF 89 11 11, fA 90 5 0, lA 91 90 5, mV 92 12, mV 93 8, g0 (.build 94 zT [(0, 1, (.t 91)), (1, 1, (.t 92)), (3, 1, (.t 93))]), g0 (.build 95 [(.int .i64 0), (.int .i64 0), (.str []), .nils, (.int .i64 0), (.int .i64 0), (.int .i64 0), (.int .i64 0), (.str []), .nils, (.int .i64 0), (.int .i64 0), (.int .i64 0), (.int .i64 0)] [(0, 6, (.t 89)), (6, 6, (.t 94))]), sT 6 95 14 6])
  (.ret)))) (qFn [.cell 6 (some 14) (some 6)] fun r st1 => ∃ st2, fz st1 r = some (gotE (match ofsE m locs t.l with
      | .error e => .error e
      | .ok (ts, ss) => match ruleE m t.k t.n t.s (namedT m locs t).1 ts with
        | .error e => .error (t.a, e)
        | .ok (ty, n') => .ok (ty, .mk t.k n' [] .emp ss 0 0)), st2))) e ⟨⟨s', b'⟩, st'⟩ := by
      intro s0 b0 e s' b' st' h g3 g5 g6 p3 p5 p11 hf hbx
      have e3 := hf 3 rfl
      have e5 := hf 5 rfl
      have e6 := hf 6 rfl
      have b3 := hbx 3 rfl
      have b5 := hbx 5 rfl
      have b11 := hbx 11 rfl
      rw [g3] at e3; rw [g5] at e5; rw [g6] at e6; rw [p3] at b3; rw [p5] at b5; rw [p11] at b11
      cases hO : ofsE m locs t.l with
      | error v =>
        obtain ⟨x, y⟩ := v
        rw [hO] at h
        obtain ⟨rfl, b6⟩ := h
        simp [e6, b6, gotE, badG]
      | ok v =>
        obtain ⟨ts, ss⟩ := v
        rw [hO] at h
        obtain ⟨rfl, b6, R7, R8, hne⟩ := h
        rw [List.nil_append] at R7 R8 hne
        rw [qBk_e0, qSq_n]
        exact fin s' b' st' ts ss hO R7 R8 hne e3 b3 e5 b5 e6 b6 (by rw [b11])
    by_cases hz0 : t.l.length = 0
    · have hk16 := h0' hz0
      have hz1 : t.l = [] := List.length_eq_zero_iff.1 hz0
      rw [encT_eq t, hk16, hz1, encTs_nil] at q1 q2
      simp [← encT_eq m, q1, q2, hz1, hk16, splice, fillD]
      refine WL.useB L65_0_p L65_0_w (WB := L65_0.wrB) rfl (go _ _ ?_ ?_ ?_ ?_ ?_ ?_ ?_ ?_ ?_ ?_) fun e s' b' st' h hf hb => ?_
      iterate 10 simp [z14, hz1, hk16]
      rw [← L65_0_w] at hf
      rw [hz1] at tail h
      rw [hk16] at tail
      refine tail _ _ e s' b' st' h ?_ ?_ ?_ ?_ ?_ ?_ hf hb
      iterate 6 simp [hz1, hk16]
    · have hz1 : t.l ≠ [] := fun h => hz0 (by rw [h]; rfl)
      simp [← encT_eq t, ← encT_eq m, q1, q2, hz1, splice, fillD]
      refine WL.useB L65_0_p L65_0_w (WB := L65_0.wrB) rfl (go _ _ ?_ ?_ ?_ ?_ ?_ ?_ ?_ ?_ ?_ ?_) fun e s' b' st' h hf hb => ?_
      iterate 10 simp [z14]
      rw [← L65_0_w] at hf
      refine tail _ _ e s' b' st' h ?_ ?_ ?_ ?_ ?_ ?_ hf hb
      iterate 6 simp
end Go.Nt.Ty

/-
  RIGHT MODULES BY THE REFERENCE, walked (9): roots, shapes, locals that statements bring.
  No condition.
-/
set_option linter.unusedSimpArgs false
set_option maxRecDepth 20000
namespace Go.Nt.Ty
open Go Go.Nt

variable {m ret : Tm} {locs : List Tm}

theorem c282 (t : Tm) : good t → ∀ st, callD T (ev T) 282 [encT t] st = some (encT (rootT t), st) := by
  induction t using Tm.ind with
  | h t ih =>
    intro gt st
    refine callD_pureR (fn := F282) rfl rfl (by simp) (by simp) ?_
    refine Ret_wp (fn := F282) rfl ?_
    rw [F282]
    by_cases hk : t.k = 12 ∨ t.k = 13
    · rw [root_in hk]
      cases hl : t.l with
      | nil =>
        rcases hk with hk | hk
        · simp [hk, hl, splice]; rw [encT_eq]; simp [hk, hl]
        · simp [hk, hl, splice]; rw [encT_eq]; simp [hk, hl]
      | cons x r =>
        have q := ih x (by rw [hl]; simp) (good_mem gt (by rw [hl]; simp))
        rw [encT_eq (rootT x)] at q
        rcases hk with hk | hk
        · simp [hk, hl, ← encT_eq x, q, splice]; rw [encT_eq]
        · simp [hk, hl, ← encT_eq x, q, splice]; rw [encT_eq]
    · rw [root_out hk]
      have h12 : ¬ t.k = 12 := fun h => hk (.inl h)
      have h13 : ¬ t.k = 13 := fun h => hk (.inr h)
      simp [h12, h13, splice]
      rw [encT_eq]

theorem c296 (k : Int) (st : St) : callD T (ev T) 296 [.int .i64 k] st = some (.tup [.int .i64 (partsE k).1, .int .i64 (partsE k).2], st) := by
  refine callD_pureR (fn := F296) rfl rfl (by simp) (by simp) ?_
  refine Ret_wp (fn := F296) rfl ?_
  rw [F296]
  unfold partsE
  by_cases h : k = 20 ∨ k = 21 ∨ k = 22 ∨ k = 23 ∨ k = 24 ∨ k = 25 ∨ k = 26 ∨ k = 27 ∨ k = 28
  · rcases h with rfl | rfl | rfl | rfl | rfl | rfl | rfl | rfl | rfl <;> simp
  · simp only [not_or] at h
    obtain ⟨h1, h2, h3, h4, h5, h6, h7, h8, h9⟩ := h
    simp [h1, h2, h3, h4, h5, h6, h7, h8, h9]

theorem partsE_in (k : Int) : -1 ≤ (partsE k).1 ∧ (partsE k).1 ≤ 3 ∧ 0 ≤ (partsE k).2 ∧ (partsE k).2 ≤ 2 ∧ (0 ≤ (partsE k).1 → (partsE k).2 < (partsE k).1) ∧ ((partsE k).1 < 0 → (partsE k).2 = 0) := by
  unfold partsE; split
  · simp
  split
  · simp
  split
  · simp
  split
  · simp
  split <;> simp

theorem l280 (t : Tm) (n : Int) (hn : (t.l.length : Int) = n) (h3 : n ≤ 3) :
    ∀ (r i : Nat) (s : List D) (bx : List (Nat × List D)) (st : St), r = t.l.length - i → i ≤ t.l.length → get s 1 = .lp 1 1 0 → getB bx 1 = (1, clT t) → get s 3 = .int .i64 n → get s 5 = .int .i64 i →
    Stops (lp T L280_0 ⟨⟨s, bx⟩, st⟩) fun e s' _ _ => if (t.l.drop i).all (fun x => decide (x.k = 29)) then e = .exit 0 else e = .ret ∧ get s' 2 = .bool false := by
  intro r
  induction r with
  | zero =>
    intro i s bx st hr hi h1 b1 h3' h5
    have e : i = t.l.length := by omega
    refine Stops_wp L280_0.eq_1 ?_
    have e2 : (i : Int) = n := by omega
    rw [e, List.drop_length]
    simp [h1, b1, h3', h5, e2]
  | succ r ihr =>
    intro i s bx st hr hi h1 b1 h3' h5
    have hlt : i < t.l.length := by omega
    have hlt' : (i : Int) < n := by omega
    have hw : IntKind.wrap .i64 ((i : Int) + 1) = ((i + 1 : Nat) : Int) := by rw [wrap64] <;> omega
    have nx := fun s' bx' => ihr (i + 1) s' bx' st (by omega) (by omega)
    rw [List.drop_eq_getElem_cons hlt, List.all_cons]
    generalize List.all (t.l.drop (i + 1)) (fun x => decide (x.k = 29)) = A at *
    refine Stops_wp L280_0.eq_1 ?_
    by_cases hk : t.l[i].k = 29
    · simp [h1, b1, h3', h5, hlt, hlt', hw, hk, -Int.natCast_add]
      refine nx _ _ ?_ ?_ ?_ ?_ <;> simp [h1, b1, h3']
    · simp [h1, b1, h3', h5, hlt, hlt', hw, hk, -Int.natCast_add]

theorem c280 (t : Tm) (st : St) : callD T (ev T) 280 [encT t] st = some (.bool (shapeE t), st) := by
  refine callD_pureR (fn := F280) rfl rfl (by simp) (by simp) ?_
  refine Ret_wp (fn := F280) rfl ?_
  rw [F280]
  unfold shapeE
  by_cases h29 : t.k = 29
  · simp [h29]
  rw [if_neg h29]
  have q := c296 t.k
  obtain ⟨p1, p2, p3, p4, p5, p6⟩ := partsE_in t.k
  generalize (partsE t.k).1 = n at *
  generalize (partsE t.k).2 = b at *
  by_cases hn : (t.l.length : Int) = n
  · have hw : IntKind.wrap .i64 (n - b) = n - b := by rw [wrap64] <;> omega
    have lo := fun s bx st => l280 t n hn p2 _ (n - b).toNat s bx st rfl (by omega)
    have e1 : (((n - b).toNat : Nat) : Int) = n - b := by omega
    rw [e1] at lo
    generalize List.all (t.l.drop (n - b).toNat) (fun x => decide (x.k = 29)) = A at *
    simp [h29, q, hn, hw]
    refine WL.use L280_0_p L280_0_w (lo _ _ _ ?_ ?_ ?_ ?_) ?_
    iterate 4 simp
    rintro e s' b' st' h hf
    cases A with
    | true => simp at h; subst h; simp
    | false => simp at h; obtain ⟨rfl, q2⟩ := h; simp [q2]
  · simp [h29, q, hn]

/-- What is told of a statement. -/
def got8 : Er Tm → D
  | .ok s => .agg [.int .i64 s.k, .int .i64 s.n, .str s.s, slE 6 s.fl (encTs s.l), .int .i64 s.a, .int .i64 s.b, .int .i64 0, .int .i64 0]
  | .error (x, y) => .agg [.int .i64 0, .int .i64 0, .str [], .nils, .int .i64 0, .int .i64 0, .int .i64 x, .int .i64 y]
theorem got8_pure (r : Er Tm) : (got8 r).pureT = true := by rcases r with ⟨x, y⟩ | s <;> simp [got8]

theorem c137 (t : Tm) (e : Int) (st : St) : callD T (ev T) 137 [encT t, .int .i64 e] st = some (got8 (.error (t.a, e)), st) := by
  refine callD_pureR (fn := F137) rfl rfl (by simp) (got8_pure _) ?_
  refine Ret_wp (fn := F137) rfl ?_
  rw [F137, got8]
  simp [splice, fillD]

def formE : Er (Tm × Tm) → Er Tm
  | .ok (_, s) => .ok s
  | .error e => .error e
theorem c298 (r : Er (Tm × Tm)) (st : St) : callD T (ev T) 298 [gotE r] st = some (got8 (formE r), st) := by
  refine callD_pureR (fn := F298) rfl rfl (by rcases r with ⟨x, y⟩ | ⟨a, s⟩ <;> simp [gotE, badG]) (got8_pure _) ?_
  refine Ret_wp (fn := F298) rfl ?_
  rw [F298]
  rcases r with ⟨x, y⟩ | ⟨a, s⟩
  · simp [gotE, badG, formE, got8, splice, fillD]
  · simp [gotE, formE, got8, splice, fillD]

theorem c297 (gm : good m) (hb : m.l.length ≤ 1000) (gl : ∀ t, t ∈ locs → good t) (hll : locs.length ≤ 1000000) (fl : Fl) (t : Tm) (gt : good t) (hct : cntT t < 1000000) (a b : Int) (st : St) :
    callD T (ev T) 297 [encT m, slE 6 fl (encTs locs), encT t, .int .i64 a, .int .i64 b] st = some (got8 (onlyE m locs t a b), st) := by
  have q := fun st => c65 gm hb gl hll fl t gt hct st
  refine callD_pureR (fn := F297) rfl rfl (by simp) (got8_pure _) ?_
  refine Ret_wp (fn := F297) rfl ?_
  rw [F297]
  unfold onlyE
  cases hO : ofE m locs t with
  | error v =>
    obtain ⟨x, y⟩ := v
    have hy := ofE_err _ _ _ hO
    rw [hO] at q
    have q2 := c298 (.error (x, y))
    simp [gotE, badG, formE, got8] at q q2
    simp [← encT_eq m, ← encT_eq t, q, q2, hy, got8, splice, fillD]
  | ok v =>
    obtain ⟨ty, s⟩ := v
    rw [hO] at q
    have q2 := c298 (.ok (ty, s))
    have q3 := c163 ty
    have q4 := c137 t 10
    simp [gotE, formE, got8] at q q2 q4
    cases h1 : isT ty a <;> cases h2 : isT ty b
    · simp [← encT_eq m, ← encT_eq t, q, ← encT_eq ty, q3, q4, h1, h2, got8, splice, fillD]
    · simp [← encT_eq m, ← encT_eq t, q, ← encT_eq ty, q3, h1, h2, got8, splice, fillD]
      simp [encT_eq ty, q2]
    · simp [← encT_eq m, ← encT_eq t, q, ← encT_eq ty, q3, h1, h2, got8, splice, fillD]
      simp [encT_eq ty, q2]
    · simp [← encT_eq m, ← encT_eq t, q, ← encT_eq ty, q3, h1, h2, got8, splice, fillD]
      simp [encT_eq ty, q2]
end Go.Nt.Ty

/-
  RIGHT MODULES BY THE REFERENCE, walked (10): locals that statements bring.
  No condition.
-/
set_option linter.unusedSimpArgs false
set_option maxRecDepth 20000
namespace Go.Nt.Ty
open Go Go.Nt

variable {m ret : Tm} {locs : List Tm}

/-- A row with one more, made anew. -/
theorem app2T (st : St) (l : List Tm) (x : D) (h : l.length ≤ 1000000) : ∃ (r1 : D) (s1 : St) (r2 : D) (s2 s3 : St), appendD st (.sl 6 true []) (encTs l) 6 = some (r1, s1) ∧ appendD s1 r1 [x] 6 = some (r2, s2) ∧
    (r2.okv = true ∧ r2.cells = [r2] ∧ r2.fits none = true) ∧ Nt.fz1 s2 r2 = some (slE 6 .emp (encTs l ++ [x]), s3) ∧ fz s2 r2 = some (slE 6 .emp (encTs l ++ [x]), s3) := by
  cases l with
  | nil =>
    refine ⟨.sl 6 true [], st, .rs st.length 0 6 0 1 false, st ++ [.cells false 6 0 0 false [x]], List.set (st ++ [.cells false 6 0 0 false [x]]) st.length (.cells false 6 0 1 true [x]), ?_, ?_, ⟨rfl, rfl, rfl⟩, ?_, ?_⟩
    · simp [appendD]
    · simp [appendD, most]
    · simp [at_last, slE]
    · simp [at_last, slE]
  | cons d l =>
    have hl : l.length + 1 ≤ 1000000 := by simpa using h
    have h2 : ¬ most < (encTs (d :: l)).length := by rw [encTs_len]; unfold most; omega
    have e : List.take (l.length + 1) (encTs l ++ [x]) = encTs l ++ [x] := List.take_of_length_le (by simp)
    refine ⟨.rs st.length 0 6 0 (l.length + 1) false, st ++ [.cells false 6 0 0 false (encTs (d :: l))], .rs st.length 1 6 0 (l.length + 1 + 1) false, List.set (st ++ [.cells false 6 0 0 false (encTs (d :: l))]) st.length (.cells false 6 1 1 false (encTs (d :: l) ++ [x])), List.set (List.set (st ++ [.cells false 6 0 0 false (encTs (d :: l))]) st.length (.cells false 6 1 1 false (encTs (d :: l) ++ [x]))) st.length (.cells false 6 1 2 true (encTs (d :: l) ++ [x])), ?_, ?_, ⟨rfl, rfl, rfl⟩, ?_, ?_⟩
    · simp only [appendD, if_neg h2]; simp [most]
    · have h3 : l.length ≤ 134217727 := by omega
      have e4 : List.take l.length (encTs l) = encTs l := List.take_of_length_le (by simp)
      simp [appendD, at_last, most, tagB, h3, e4]
    · simp [at_last, e, slE]
    · simp [at_last, e, slE]

theorem c122 (gm : good m) (hb : m.l.length ≤ 1000) (gl : ∀ t, t ∈ locs → good t) (hll : locs.length < 1000000) (fl : Fl) (t : Tm) (gt : good t) (hct : cntT t < 1000000) (st : St) :
    ∃ fl', callD T (ev T) 122 [encT m, slE 6 fl (encTs locs), encT t] st = some (slE 6 fl' (encTs (bringsE m locs t)), st) := by
  unfold bringsE
  have keep : (¬ (t.k = 20 ∧ t.l.length = 1)) → (¬ (t.k = 21 ∧ t.l.length = 1)) → callD T (ev T) 122 [encT m, slE 6 fl (encTs locs), encT t] st = some (slE 6 fl (encTs locs), st) := by
    intro h1 h2
    refine callD_pureR (fn := F122) rfl rfl (by simp) (by simp) ?_
    refine Ret_wp (fn := F122) rfl ?_
    rw [F122]
    have hc : ((t.l.length : Int) = 1) = (t.l.length = 1) := propext (by omega)
    by_cases k20 : t.k = 20
    · have hn : ¬ t.l.length = 1 := fun h => h1 ⟨k20, h⟩
      simp [k20, hc, hn]
    · by_cases k21 : t.k = 21
      · have hn : ¬ t.l.length = 1 := fun h => h2 ⟨k21, h⟩
        simp [k21, hc, hn]
      · simp [k20, k21]
  by_cases h1 : t.k = 20 ∧ t.l.length = 1
  · rw [if_pos h1]
    obtain ⟨k20, hl1⟩ := h1
    match hl : t.l, hl1 with
    | [x], _ =>
      have gx := good_mem gt (by rw [hl]; simp : x ∈ t.l)
      have hcx : cntT x < 1000000 := by have := cntT_eq t; rw [hl] at this; simp [cntTs] at this; omega
      have q := fun st => c65 gm hb gl (by omega) fl x gx hcx st
      have key : ∀ y : Tm, (∃ rest, gotE (ofE m locs x) = .agg ([.int .i64 y.k, .int .i64 y.n, .str y.s, slE 6 y.fl (encTs y.l), .int .i64 y.a, .int .i64 y.b] ++ rest) ∧ rest.length = 8) →
          callD T (ev T) 122 [encT m, slE 6 fl (encTs locs), encT t] st = some (slE 6 .emp (encTs (locs ++ [y])), st) := by
        rintro y ⟨rest, hg, hr⟩
        rw [hg] at q
        obtain ⟨r1, s1, r2, s2, s3, p1, p2, ⟨p3, p4, p5⟩, p6, p7⟩ := app2T [] locs (encT y) (by omega)
        refine callD_pureR (fn := F122) rfl rfl (by simp) (by simp) ?_
        refine Ret_wp (fn := F122) rfl ?_
        rw [F122]
        rw [encTs_append]
        simp only [encTs_cons, encTs_nil]
        match rest, hr with
        | [a1, a2, a3, a4, a5, a6, a7, a8], _ =>
          simp at q
          simp [k20, hl, p1, ← encT_eq m, ← encT_eq x, q, ← encT_eq y, p2, p3, p7]
      cases hO : ofE m locs x with
      | error v =>
        obtain ⟨a, b⟩ := v
        exact ⟨.emp, by simp only [List.headD_cons]; rw [hO]; exact key T0 ⟨_, by rw [hO, gotE, badG]; rfl, rfl⟩⟩
      | ok v =>
        obtain ⟨ty, s⟩ := v
        exact ⟨.emp, by simp only [List.headD_cons]; rw [hO]; exact key ty ⟨_, by rw [hO, gotE]; rfl, rfl⟩⟩
  rw [if_neg h1]
  by_cases h2 : t.k = 21 ∧ t.l.length = 1
  · rw [if_pos h2]
    obtain ⟨k21, hl1⟩ := h2
    match hl : t.l, hl1 with
    | [x], _ =>
      obtain ⟨r1, s1, r2, s2, s3, p1, p2, ⟨p3, p4, p5⟩, p6, p7⟩ := app2T [] locs (encT x) (by omega)
      refine ⟨.emp, ?_⟩
      refine callD_pureR (fn := F122) rfl rfl (by simp) (by simp) ?_
      refine Ret_wp (fn := F122) rfl ?_
      rw [F122]
      simp only [List.headD_cons]
      rw [encTs_append]
      simp only [encTs_cons, encTs_nil]
      simp [k21, hl, p1, ← encT_eq x, p2, p3, p7]
  rw [if_neg h2]
  exact ⟨fl, keep h1 h2⟩
end Go.Nt.Ty
