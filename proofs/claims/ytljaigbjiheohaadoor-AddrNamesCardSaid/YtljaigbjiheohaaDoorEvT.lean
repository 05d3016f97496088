/- Proved here: the rules by which a walk unfolds. No condition. -/
import Derived.Test.YtljaigbjiheohaaDoorEvS
namespace Go.Proofs.YtljaigbjiheohaaDoor
set_option linter.unusedSimpArgs false
set_option linter.unusedVariables false
open Go.RowKit

section
variable {P : Program} {O : Orc} {S0 : Mem} {rd : Bool} {e : Env} {S : Mem} {d : List Nat} {Q : Kont} {k : AV → Mem → Prop} {k' : Env → Mem → Prop}

/-! ### Code -/
theorem W_skip : W P O S0 rd .skip e S d Q = Q .normal e S d := (rfl)
theorem W_region {ops : List ROp} : W P O S0 rd (.region ops) e S d Q = wOps O ops e S (normK Q d) := (rfl)
theorem W_seq {a b : ICode} : W P O S0 rd (.seq a b) e S d Q = W P O S0 rd a e S d (seqK (W P O S0 rd b) Q) := (rfl)
theorem W_live {l : List Nat} {c : ICode} : W P O S0 rd (.live l c) e S d Q = W P O S0 rd c (keepE e l) S d Q := (rfl)
theorem W_cond {c : X} {a b : ICode} : W P O S0 rd (.cond c a b) e S d Q = wCond (c.ev e) (W P O S0 rd a e S d Q) (W P O S0 rd b e S d Q) := (rfl)
theorem W_block {id : Nat} {c : ICode} : W P O S0 rd (.block id c) e S d Q = W P O S0 rd c e S d (blockK id Q) := (rfl)
theorem W_exit {id : Nat} : W P O S0 rd (.exit id) e S d Q = Q (.exit id) e S d := (rfl)
theorem W_ret : W P O S0 rd .ret e S d Q = Q .ret e S d := (rfl)
theorem W_goto {l : Nat} : W P O S0 rd (.goto l) e S d Q = Q (.goto l) e S d := (rfl)
theorem normK_app : normK Q d e S = Q .normal e S d := (rfl)
theorem blockK_exit_same {id : Nat} : blockK id Q (.exit id) e S d = Q .normal e S d := by rw [blockK_exit, if_pos rfl]
theorem wCond_true {A B : Prop} : wCond (.b true) A B = A := by simp [wCond]
theorem wCond_false {A B : Prop} : wCond (.b false) A B = B := by simp [wCond]
theorem wCond_dec {p : Prop} [Decidable p] {A B : Prop} : wCond (.b (decide p)) A B = ((p → A) ∧ (¬ p → B)) := by simp [wCond]

/-! ### Operations in the order of the text -/
def opsK (O : Orc) (r : List ROp) (e : Env) (dst : Option Nat) (k : Env → Mem → Prop) : AV → Mem → Prop := fun x S => wOps O r (putE e dst x) S k
def gA (O : Orc) (io : IOp) (S : Mem) (r : List ROp) (dst : Option Nat) (k : Env → Mem → Prop) : Env → Prop := fun e => optK (evOp O e S io) (opsK O r e dst k)
def gB (O : Orc) (r : List ROp) (S : Mem) (dst : Option Nat) (k : Env → Mem → Prop) : Env → Prop := fun e => wOps O r (putE e dst .ud) S k
theorem wOps_nil : wOps O [] e S k' = k' e S := (rfl)
theorem wOps_op {dst : Option Nat} {io : IOp} {r : List ROp} : wOps O (⟨dst, none, io⟩ :: r) e S k' = optK (evOp O e S io) (opsK O r e dst k') := (rfl)
theorem wOps_mv {t : Nat} {x : X} {r : List ROp} : wOps O (⟨some t, none, .op (.mv x)⟩ :: r) e S k' = wOps O r ((t, x.ev e) :: e) S k' := (rfl)
theorem wOps_gd {dst : Option Nat} {t : Nat} {b : Bool} {io : IOp} {r : List ROp} : wOps O (⟨dst, some (t, b), io⟩ :: r) e S k' = wGd (e.get t) e t b (gA O io S r dst k') (gB O r S dst k') := (rfl)
theorem opsK_some {r : List ROp} {t : Nat} {x : AV} : opsK O r e (some t) k' x S = wOps O r ((t, x) :: e) S k' := (rfl)
theorem opsK_none {r : List ROp} {x : AV} : opsK O r e none k' x S = wOps O r e S k' := (rfl)
theorem gA_app {io : IOp} {r : List ROp} {dst : Option Nat} : gA O io S r dst k' e = optK (evOp O e S io) (opsK O r e dst k') := (rfl)
theorem gB_some {r : List ROp} {t : Nat} : gB O r S (some t) k' e = wOps O r ((t, .ud) :: e) S k' := (rfl)
theorem gB_none {r : List ROp} : gB O r S none k' e = wOps O r e S k' := (rfl)

theorem wGd_tt {t : Nat} {A B : Env → Prop} : wGd (.b true) e t true A B = A ((t, .b true) :: e) := by simp [wGd]
theorem wGd_tf {t : Nat} {A B : Env → Prop} : wGd (.b true) e t false A B = B ((t, .b true) :: e) := by simp [wGd]
theorem wGd_ft {t : Nat} {A B : Env → Prop} : wGd (.b false) e t true A B = B ((t, .b false) :: e) := by simp [wGd]
theorem wGd_ff {t : Nat} {A B : Env → Prop} : wGd (.b false) e t false A B = A ((t, .b false) :: e) := by simp [wGd]
theorem wGd_dect {p : Prop} [Decidable p] {t : Nat} {A B : Env → Prop} : wGd (.b (decide p)) e t true A B = ((p → A ((t, .b true) :: e)) ∧ (¬ p → B ((t, .b false) :: e))) := by simp [wGd]
theorem wGd_decf {p : Prop} [Decidable p] {t : Nat} {A B : Env → Prop} : wGd (.b (decide p)) e t false A B = ((¬ p → A ((t, .b false) :: e)) ∧ (p → B ((t, .b true) :: e))) := by simp [wGd]
theorem wGd_ud {t : Nat} {b : Bool} {A B : Env → Prop} : wGd .ud e t b A B = B e := (rfl)
theorem wGd_not {t : Nat} {b : Bool} {x : AV} {A B : Env → Prop} (h : (match x with | .b _ => false | .u => false | _ => true) = true) : wGd x e t b A B = B e := by
  unfold wGd; split at h <;> first | cases h | skip
  split <;> first | rfl | simp_all

/-! ### Operations whose order is drawn -/
def flK (O : Orc) (r : List (ROp × Bool)) (e : Env) (dst : Option Nat) (k : Env → Mem → Prop) : AV → Mem → Prop := fun x S => wFl O r (putE e dst x) S k
def flM (O : Orc) (r : List (ROp × Bool)) (e : Env) (dst : Option Nat) (k : Env → Mem → Prop) (S : Mem) : AV → Mem → Prop := fun x S' => S <+: S' ∧ wFl O r (putE e dst x) S' k
def fA (O : Orc) (io : IOp) (S : Mem) (r : List (ROp × Bool)) (dst : Option Nat) (k : Env → Mem → Prop) : Env → Prop := fun e => optK (evOp O e S io) (flK O r e dst k)
def fAM (O : Orc) (io : IOp) (S : Mem) (r : List (ROp × Bool)) (dst : Option Nat) (k : Env → Mem → Prop) : Env → Prop := fun e => optK (evOp O e S io) (flM O r e dst k S)
def fB (O : Orc) (r : List (ROp × Bool)) (S : Mem) (dst : Option Nat) (k : Env → Mem → Prop) : Env → Prop := fun e => wFl O r (putE e dst .ud) S k
theorem wFl_nil : wFl O [] e S k' = k' e S := (rfl)
theorem wFl_op {dst : Option Nat} {io : IOp} {r : List (ROp × Bool)} : wFl O ((⟨dst, none, io⟩, false) :: r) e S k' = optK (evOp O e S io) (flK O r e dst k') := by
  simp only [wFl]; congr 1; funext x S'; simp [flK]
theorem wFl_mv {t : Nat} {x : X} {r : List (ROp × Bool)} : wFl O ((⟨some t, none, .op (.mv x)⟩, false) :: r) e S k' = wFl O r ((t, x.ev e) :: e) S k' := by
  rw [wFl_op]; rfl
theorem wFl_m {dst : Option Nat} {io : IOp} {r : List (ROp × Bool)} : wFl O ((⟨dst, none, io⟩, true) :: r) e S k' = optK (evOp O e S io) (flM O r e dst k' S) := by
  simp only [wFl]; congr 1; funext x S'; simp [flM]
theorem wFl_gd {dst : Option Nat} {t : Nat} {b : Bool} {io : IOp} {r : List (ROp × Bool)} : wFl O ((⟨dst, some (t, b), io⟩, false) :: r) e S k' = wGd (e.get t) e t b (fA O io S r dst k') (fB O r S dst k') := by
  simp only [wFl]; congr 1; funext e; simp only [fA]; congr 1; funext x S'; simp [flK]
theorem wFl_gm {dst : Option Nat} {t : Nat} {b : Bool} {io : IOp} {r : List (ROp × Bool)} : wFl O ((⟨dst, some (t, b), io⟩, true) :: r) e S k' = wGd (e.get t) e t b (fAM O io S r dst k') (fB O r S dst k') := by
  simp only [wFl]; congr 1; funext e; simp only [fAM]; congr 1; funext x S'; simp [flM]
theorem flK_some {r : List (ROp × Bool)} {t : Nat} {x : AV} : flK O r e (some t) k' x S = wFl O r ((t, x) :: e) S k' := (rfl)
theorem flK_none {r : List (ROp × Bool)} {x : AV} : flK O r e none k' x S = wFl O r e S k' := (rfl)
theorem flM_some {r : List (ROp × Bool)} {t : Nat} {x : AV} {S' : Mem} : flM O r e (some t) k' S x S' = (S <+: S' ∧ wFl O r ((t, x) :: e) S' k') := (rfl)
theorem flM_none {r : List (ROp × Bool)} {x : AV} {S' : Mem} : flM O r e none k' S x S' = (S <+: S' ∧ wFl O r e S' k') := (rfl)
theorem fA_app {io : IOp} {r : List (ROp × Bool)} {dst : Option Nat} : fA O io S r dst k' e = optK (evOp O e S io) (flK O r e dst k') := (rfl)
theorem fAM_app {io : IOp} {r : List (ROp × Bool)} {dst : Option Nat} : fAM O io S r dst k' e = optK (evOp O e S io) (flM O r e dst k' S) := (rfl)
theorem fB_some {r : List (ROp × Bool)} {t : Nat} : fB O r S (some t) k' e = wFl O r ((t, .ud) :: e) S k' := (rfl)
theorem fB_none {r : List (ROp × Bool)} : fB O r S none k' e = wFl O r e S k' := (rfl)
theorem W_draw' {st : List Stage} {late : List Nat} {l : List (ROp × Bool)} (hk : growsSt late st = true) (hl : flatSt st = l) : W P O S0 rd (.draw st late) e S d Q = wFl O l e S (normK Q d) := by
  have h1 : stOk late st [] = true := by unfold growsSt at hk; simp only [Bool.and_eq_true] at hk; exact hk.1
  simp only [W, hk, if_true, hl, h1, true_and]
theorem W_drawE {st : List Stage} {late : List Nat} (hk : growsSt late st = false) : W P O S0 rd (.draw st late) e S d Q = drawK (evDraw O st late e S) (normK Q d) := by
  simp only [W, hk, Bool.false_eq_true, if_false]
theorem drawK_some {e : Env} {S : Mem} {k : Env → Mem → Prop} : drawK (some (e, S)) k = k e S := (rfl)
theorem flatSt_eq {st : List Stage} : flatSt st = flatS st (marks st 0 []) := (rfl)
theorem flatS_nil {ms : List Bool} : flatS [] ms = [] := (rfl)
theorem flatS_cons {ns : List (ROp × Nat)} {a m : Option ROp} {st : List Stage} {mk : Bool} {ms : List Bool} : flatS (⟨ns, a, m⟩ :: st) (mk :: ms) = ns.map (fun q => (q.1, false)) ++ ((a.toList.map fun o => (o, true)) ++ (m.toList.map fun o => (o, mk)) ++ flatS st ms) := by
  simp [flatS, flatG]
theorem pre_same : (S <+: S) = True := by simp
theorem pre_app {T : Mem} : (S <+: S ++ T) = True := by simp

/-! ### One operation -/
theorem evOp_op {io : IO'} : evOp O e S (.op io) = evIO e S io := (rfl)
theorem evOp_call {f : FuncId} {xs : List X} : evOp O e S (.call f xs) = O.fn f (xs.map (·.ev e)) S := (rfl)
theorem evOp_callv {x : X} {xs : List X} : evOp O e S (.callv x xs) = (match x.ev e with | .f (.func f) a b => O.fn f (a ++ xs.map (·.ev e) ++ b) S | .y i => O.y i (xs.map (·.ev e)) S | _ => none) := (rfl)
theorem optK_some {x : AV} : optK (some (x, S)) k = k x S := (rfl)
theorem optV_some {x : AV} : optV (some x) S k = k x S := (rfl)
theorem optM_some {x : AV} : optM (some S) x k = k x S := (rfl)
theorem xev_t {t : Nat} : X.ev e (.t t) = e.get t := (rfl)
theorem xev_c {v : AV} : X.ev e (.c v) = v := (rfl)
theorem get_eq {t : Nat} {x : AV} : Env.get ((t, x) :: e) t = x := get_put_same e t x
theorem get_ne {t t' : Nat} {x : AV} (h : (t == t') = false) : Env.get ((t, x) :: e) t' = e.get t' := get_put_ne e x (by simpa using h)
theorem get_ite {t t' : Nat} {x : AV} : Env.get ((t, x) :: e) t' = if t = t' then x else e.get t' := by
  by_cases h : t = t'
  · subst h; rw [get_put_same, if_pos rfl]
  · rw [get_put_ne _ _ h, if_neg h]
theorem get_nil {t : Nat} : Env.get [] t = .u := (rfl)

theorem oK (o : Option AV) : optK (match o with | some y => some (y, S) | none => none) k = optV o S k := by cases o <;> rfl
theorem oi_mv {x : X} : optK (evIO e S (.mv x)) k = k (x.ev e) S := (rfl)
theorem pick_t {a b : AV} : (match AV.b true with | .b true => some (a, S) | .b false => some (b, S) | _ => none : Option (AV × Mem)) = some (a, S) := (rfl)
def pickV (c a b : AV) : Option AV := match c with
  | .b true => some a
  | .b false => some b
  | _ => none
theorem oi_pick {c a b : X} : optK (evIO e S (.pick c a b)) k = optV (pickV (c.ev e) (a.ev e) (b.ev e)) S k := by
  simp only [evIO, pickV]
  generalize c.ev e = y
  cases y with
  | b x => cases x <;> rfl
  | _ => rfl
theorem pickV_t {a b : AV} : pickV (.b true) a b = some a := (rfl)
theorem pickV_f {a b : AV} : pickV (.b false) a b = some b := (rfl)
theorem oi_fresh {z : List AV} : optK (evIO e S (.fresh z)) k = k (.p S.length 0 0) (S ++ [.cells z 0 none true]) := (rfl)
def boxV (S : Mem) (c : Option (List AV)) : Option (AV × Mem) := match c with
  | some cs => some (.p S.length 0 0, S ++ [.cells cs 0 none true])
  | none => none
theorem oi_box {x : X} : optK (evIO e S (.box x)) k = optK (boxV S (x.ev e).cells) k := (rfl)
theorem boxV_some {cs : List AV} : boxV S (some cs) = some (.p S.length 0 0, S ++ [.cells cs 0 none true]) := (rfl)
def agV (o : Option (List AV)) : Option AV := o.map .ag
theorem agV_some {cs : List AV} : agV (some cs) = some (.ag cs) := (rfl)
theorem oi_build {z : List AV} {ps : List (Nat × Nat × X)} : optK (evIO e S (.build z ps)) k = optV (agV (fillV z (evParts e ps))) S k := by
  simp only [evIO]; cases fillV z (evParts e ps) <;> rfl
def bsV (S : Mem) (len : Nat) (o : Option (List AV)) : Option (AV × Mem) := match o with
  | some r => some (.sl S.length 0 0 len len true, S ++ [.cells r 0 none true])
  | none => none
theorem bsV_some {len : Nat} {r : List AV} : bsV S len (some r) = some (.sl S.length 0 0 len len true, S ++ [.cells r 0 none true]) := (rfl)
theorem oi_bslice {z : List AV} {len : Nat} {ps : List (Nat × Nat × X)} : optK (evIO e S (.bslice z len ps)) k = optK (bsV S len (fillV (zerosV z len) (evParts e ps))) k := (rfl)
theorem oi_load {n : Option Nat} {x : X} : optK (evIO e S (.load n x)) k = optV (ldCells S n (x.ev e)) S k := oK _
theorem oi_store {n : Nat} {x y : X} : optK (evIO e S (.store n x y)) k = optM (stCells S n (x.ev e) (y.ev e)) .u k := by
  simp only [evIO]; cases stCells S n (x.ev e) (y.ev e) <;> rfl
theorem oi_nilck {x : X} : optK (evIO e S (.nilck x)) k = optV (nilV (x.ev e)) S k := oK _
theorem oi_bin {tk : TK} {c : Bool} {op : BinOp} {x y : X} : optK (evIO e S (.bin tk c op x y)) k = optV (binV tk c op (x.ev e) (y.ev e)) S k := oK _
theorem oi_un {op : UnOp} {x : X} : optK (evIO e S (.un op x)) k = optV (unV op (x.ev e)) S k := oK _
theorem oi_toInt {q : IntKind} {x : X} : optK (evIO e S (.toInt q x)) k = optV (toIntV q (x.ev e)) S k := oK _
theorem oi_faddr {o : Nat} {x : X} : optK (evIO e S (.faddr o x)) k = optV (faddrV o (x.ev e)) S k := oK _
theorem oi_fld {o : Nat} {n : Option Nat} {x : X} : optK (evIO e S (.fld o n x)) k = optV (fldV o n (x.ev e)) S k := oK _
theorem oi_iaddr {a : Option Nat} {s : Nat} {x y : X} : optK (evIO e S (.iaddr a s x y)) k = optV (iaddrV a s (x.ev e) (y.ev e)) S k := oK _
theorem oi_ixa {l s : Nat} {m : Option Nat} {x y : X} : optK (evIO e S (.ixa l s m x y)) k = optV (ixaV l s m (x.ev e) (y.ev e)) S k := oK _
theorem oi_ixs {x y : X} : optK (evIO e S (.ixs x y)) k = optV (ixsV (x.ev e) (y.ev e)) S k := oK _
theorem oi_slice {s : Nat} {x : X} {a b c : Option X} : optK (evIO e S (.slice s x a b c)) k = optV (sliceV S s (x.ev e) (a.map (·.ev e)) (b.map (·.ev e)) (c.map (·.ev e))) S k := oK _
theorem oi_sla {n s : Nat} {x : X} {a b c : Option X} : optK (evIO e S (.sla n s x a b c)) k = optV (slaV n s (x.ev e) (a.map (·.ev e)) (b.map (·.ev e)) (c.map (·.ev e))) S k := oK _
theorem oi_sls {x : X} {a b : Option X} : optK (evIO e S (.sls x a b)) k = optV (slsV (x.ev e) (a.map (·.ev e)) (b.map (·.ev e))) S k := oK _
theorem oi_ext {x : X} {n : Nat} : optK (evIO e S (.ext x n)) k = optV (extV n (x.ev e)) S k := oK _
theorem oi_mkf {fn : Fn} {a b : List X} : optK (evIO e S (.mkf fn a b)) k = k (.f fn (a.map (·.ev e)) (b.map (·.ev e))) S := (rfl)
def mksV (S : Mem) (z : List AV) (bytes : Nat) (l c : Option Nat) : Option (AV × Mem) := match l, c with
  | some l, some c => if l ≤ c ∧ bytes * c ≤ 140737488355328 ∧ c ≤ 140737488355328 then some (.sl S.length 0 0 l c true, S ++ [.cells (zerosV z c) 0 none true]) else none
  | _, _ => none
theorem oi_mks {z : List AV} {b : Nat} {l c : X} : optK (evIO e S (.mks z b l c)) k = optK (mksV S z b (natV (l.ev e)) (natV (c.ev e))) k := (rfl)
theorem mksV_some {z : List AV} {b l c : Nat} : mksV S z b (some l) (some c) = if l ≤ c ∧ b * c ≤ 140737488355328 ∧ c ≤ 140737488355328 then some (.sl S.length 0 0 l c true, S ++ [.cells (zerosV z c) 0 none true]) else none := (rfl)
def lenQ (q : LK) (S : Mem) (x : AV) : Option AV := if lenOk q x then (lenV S x).map fun n => .i .i64 n else none
theorem oi_len {q : LK} {x : X} : optK (evIO e S (.len q x)) k = optV (lenQ q S (x.ev e)) S k := by
  simp only [evIO, lenQ]; split
  · cases lenV S (x.ev e) <;> rfl
  · rfl
theorem lenQ_s {l : List UInt8} : lenQ .str S (.s l) = some (.i .i64 l.length) := (rfl)
theorem lenQ_sn : lenQ .slice S .sn = some (.i .i64 0) := (rfl)
theorem lenQ_se : lenQ .slice S .se = some (.i .i64 0) := (rfl)
theorem lenQ_sl {i o v l c : Nat} {x : Bool} : lenQ .slice S (.sl i o v l c x) = some (.i .i64 l) := (rfl)
def copyQ (o : Option (Nat × Mem)) : Option (AV × Mem) := o.map fun p => (.i .i64 p.1, p.2)
theorem copyQ_some {n : Nat} : copyQ (some (n, S)) = some (.i .i64 n, S) := (rfl)
theorem oi_copy {s : Nat} {x y : X} : optK (evIO e S (.copy s x y)) k = optK (copyQ (copyV S s (x.ev e) (y.ev e))) k := by
  simp only [evIO, copyQ]; cases copyV S s (x.ev e) (y.ev e) <;> rfl
def appQ (S : Mem) (s b : Nat) (x : AV) (o : Option (List AV × Nat)) : Option (AV × Mem) := match o with
  | some p => appV S s b x p.1 p.2
  | none => none
theorem oi_app {s b : Nat} {x y : X} : optK (evIO e S (.app s b x y)) k = optK (appQ S s b (x.ev e) (srcV S s (y.ev e))) k := by
  simp only [evIO, appQ]; cases srcV S s (y.ev e) <;> rfl
theorem appQ_some {s b n : Nat} {x : AV} {cs : List AV} : appQ S s b x (some (cs, n)) = appV S s b x cs n := (rfl)
def mmQ (m : Bool) (xs : List AV) : Option AV := match xs with
  | x :: r => mmV m x r
  | [] => none
theorem oi_mm {m : Bool} {xs : List X} : optK (evIO e S (.mm m xs)) k = optV (mmQ m (xs.map (·.ev e))) S k := by
  simp only [evIO, mmQ]
  generalize xs.map (·.ev e) = l
  cases l with
  | nil => rfl
  | cons x r => exact oK _
theorem mmQ_max {q : IntKind} {a b : Int} : mmQ true [.i q a, .i q b] = some (.i q (max a b)) := by
  simp only [mmQ, mmV, if_true]; congr 2; rw [Int.max_def]; split <;> split <;> omega
theorem mmQ_min {q : IntKind} {a b : Int} : mmQ false [.i q a, .i q b] = some (.i q (min a b)) := by
  simp only [mmQ, mmV, if_true]; congr 2; rw [Int.min_def]; simp; split <;> split <;> omega
theorem oi_eqag {n : Bool} {ks : List TK} {x y : X} : optK (evIO e S (.eqag n ks x y)) k = optV (eqAgV n ks (x.ev e) (y.ev e)) S k := oK _
def sameV (x : AV) : Option AV := match x with
  | .s l => some (.s l)
  | _ => none
theorem oi_same {x : X} : optK (evIO e S (.same x)) k = optV (sameV (x.ev e)) S k := by
  simp only [evIO, sameV]
  generalize x.ev e = y
  cases y <;> rfl
theorem sameV_s {l : List UInt8} : sameV (.s l) = some (.s l) := (rfl)
theorem oi_toStr {x : X} : optK (evIO e S (.toStr x)) k = optV (toStrV S (x.ev e)) S k := oK _
def toBytesV (S : Mem) (x : AV) : Option (AV × Mem) := match x with
  | .s l => some (if l.length = 0 then .se else .sl S.length 0 0 l.length l.length false, S ++ [.cells (l.map fun b => .i .u8 b.toNat) 0 (some 1) true])
  | _ => none
theorem oi_toBytes {x : X} : optK (evIO e S (.toBytes x)) k = optK (toBytesV S (x.ev e)) k := by
  simp only [evIO, toBytesV]
  generalize x.ev e = y
  cases y <;> rfl
theorem oi_clear {z : List AV} {x : X} : optK (evIO e S (.clear z x)) k = optK (clearV S z (x.ev e)) k := (rfl)
def ixbyteV (x y : AV) : Option AV := match x, y with
  | .s l, .i .u8 c => some (.i .i64 (Lib.indexByte l c.toNat.toUInt8))
  | _, _ => none
theorem oi_ixbyte {x y : X} : optK (evIO e S (.ixbyte x y)) k = optV (ixbyteV (x.ev e) (y.ev e)) S k := by
  simp only [evIO, ixbyteV]
  generalize x.ev e = a
  generalize y.ev e = b
  cases a <;> first | rfl | skip
  all_goals (cases b <;> first | rfl | skip)
  all_goals (rename_i k n; cases k <;> rfl)
theorem ixbyteV_s {l : List UInt8} {c : Int} : ixbyteV (.s l) (.i .u8 c) = some (.i .i64 (Lib.indexByte l c.toNat.toUInt8)) := (rfl)
def ovlV (S : Mem) (x y : AV) : Option AV := match x, y with
  | .sl i o v _ _ _, .sl j _ v2 _ _ _ => if i ≠ j ∧ apartB (S[i]?) (S[j]?) o v v2 = true then some (.b false) else none
  | _, _ => none
theorem oi_ovl {x y : X} : optK (evIO e S (.ovl x y)) k = optV (ovlV S (x.ev e) (y.ev e)) S k := by
  simp only [evIO, ovlV]
  generalize x.ev e = a
  generalize y.ev e = b
  cases a <;> first | rfl | skip
  all_goals (cases b <;> first | rfl | skip)
  rename_i i o v l c ex j o2 v2 l2 c2 ex2
  by_cases hc : i ≠ j ∧ apartB (S[i]?) (S[j]?) o v v2 = true
  · simp only [if_pos hc]; rfl
  · simp only [if_neg hc]; rfl
theorem ovlV_sl {i o v l c j o2 v2 l2 c2 : Nat} {ex ex2 : Bool} : ovlV S (.sl i o v l c ex) (.sl j o2 v2 l2 c2 ex2) = if i ≠ j ∧ apartB (S[i]?) (S[j]?) o v v2 = true then some (.b false) else none := (rfl)
def mknoV (S : Mem) (x : AV) : Option (AV × Mem) := match x with
  | .i .i64 z => if 0 < z ∧ z ≤ 140737488355328 then some (.sl S.length 0 0 z.toNat z.toNat false, S ++ [.cells (List.replicate z.toNat .u) 0 (some 1) true]) else none
  | _ => none
theorem oi_mkno {x : X} : optK (evIO e S (.mkno x)) k = optK (mknoV S (x.ev e)) k := by
  simp only [evIO, mknoV]
  generalize x.ev e = y
  cases y <;> first | rfl | skip
  all_goals (rename_i q z; cases q <;> rfl)
def capQ (x : AV) : Option AV := (capV x).map fun n => .i .i64 n
theorem oi_cap {x : X} : optK (evIO e S (.cap x)) k = optV (capQ (x.ev e)) S k := by
  simp only [evIO, capQ]; cases capV (x.ev e) <;> rfl
def mkmapV (S : Mem) (h : Option AV) : Option (AV × Mem) := match h with
  | none => some (.m S.length, S ++ [.map [] 0])
  | some (.i _ _) => some (.m S.length, S ++ [.map [] 0])
  | _ => none
theorem oi_mkmap {h : Option X} : optK (evIO e S (.mkmap h)) k = optK (mkmapV S (h.map (·.ev e))) k := by
  simp only [evIO, mkmapV]
  generalize h.map (·.ev e) = y
  cases y with
  | none => rfl
  | some y => cases y <;> rfl
theorem mkmapV_none : mkmapV S none = some (.m S.length, S ++ [.map [] 0]) := (rfl)
theorem mkmapV_some {q : IntKind} {n : Int} : mkmapV S (some (.i q n)) = some (.m S.length, S ++ [.map [] 0]) := (rfl)
theorem oi_mlook {ag : Bool} {ks : List TK} {z : AV} {ok : Bool} {x y : X} : optK (evIO e S (.mlook ag ks z ok x y)) k = optV (mlookV S ag ks z ok (x.ev e) (y.ev e)) S k := oK _
theorem oi_mentry {ag : Bool} {ks : List TK} {z : AV} {x y : X} : optK (evIO e S (.mentry ag ks z x y)) k = optK (mentryV S ag ks z (x.ev e) (y.ev e)) k := (rfl)
theorem oi_mstore {x s v : X} : optK (evIO e S (.mstore x s v)) k = optM (mstoreV S (x.ev e) (s.ev e) (v.ev e)) .u k := by
  simp only [evIO]; cases mstoreV S (x.ev e) (s.ev e) (v.ev e) <;> rfl
theorem oi_mupd {ag : Bool} {ks : List TK} {x y v : X} : optK (evIO e S (.mupd ag ks x y v)) k = optM (mupdV S ag ks (x.ev e) (y.ev e) (v.ev e)) .u k := by
  simp only [evIO]; cases mupdV S ag ks (x.ev e) (y.ev e) (v.ev e) <;> rfl
theorem oi_mdel {ag : Bool} {ks : List TK} {x y : X} : optK (evIO e S (.mdel ag ks x y)) k = optM (mdelV S ag ks (x.ev e) (y.ev e)) (.tu []) k := by
  simp only [evIO]; cases mdelV S ag ks (x.ev e) (y.ev e) <;> rfl

/-! ### Values -/
theorem bin_i {cst : Bool} {op : BinOp} {q : IntKind} {a b : Int} (h : isShift op = false) : binV .int cst op (.i q a) (.i q b) = intV op q a b := by simp [binV, h]
theorem bin_add {cst : Bool} {q : IntKind} {a b : Int} : binV .int cst .add (.i q a) (.i q b) = some (.i q (wrapV q (a + b))) := bin_i rfl
theorem bin_sub {cst : Bool} {q : IntKind} {a b : Int} : binV .int cst .sub (.i q a) (.i q b) = some (.i q (wrapV q (a - b))) := bin_i rfl
theorem bin_mul {cst : Bool} {q : IntKind} {a b : Int} : binV .int cst .mul (.i q a) (.i q b) = some (.i q (wrapV q (a * b))) := bin_i rfl
theorem bin_quo {cst : Bool} {q : IntKind} {a b : Int} (h : b ≠ 0) : binV .int cst .quo (.i q a) (.i q b) = some (.i q (wrapV q (a.tdiv b))) := by rw [bin_i rfl]; simp [intV, h]
theorem bin_rem {cst : Bool} {q : IntKind} {a b : Int} (h : b ≠ 0) : binV .int cst .rem (.i q a) (.i q b) = some (.i q (a.tmod b)) := by rw [bin_i rfl]; simp [intV, h]
theorem bin_rem_pos {cst : Bool} {q : IntKind} {a b : Int} (ha : 0 ≤ a) (h : 0 < b) : binV .int cst .rem (.i q a) (.i q b) = some (.i q (a % b)) := by
  rw [bin_rem (by omega), Int.tmod_eq_emod_of_nonneg ha]
theorem bin_quo_pos {cst : Bool} {q : IntKind} {a b : Int} (ha : 0 ≤ a) (h : 0 < b) : binV .int cst .quo (.i q a) (.i q b) = some (.i q (wrapV q (a / b))) := by
  rw [bin_quo (by omega), Int.tdiv_eq_ediv_of_nonneg ha]
theorem bin_eql {cst : Bool} {q : IntKind} {a b : Int} : binV .int cst .eql (.i q a) (.i q b) = some (.b (decide (a = b))) := by
  rw [bin_i rfl]; simp only [intV]; congr 2
theorem bin_neq {cst : Bool} {q : IntKind} {a b : Int} : binV .int cst .neq (.i q a) (.i q b) = some (.b (decide (a ≠ b))) := by
  rw [bin_i rfl]; simp only [intV]; congr 2; simp [bne]; rfl
theorem bin_lss {cst : Bool} {q : IntKind} {a b : Int} : binV .int cst .lss (.i q a) (.i q b) = some (.b (decide (a < b))) := bin_i rfl
theorem bin_leq {cst : Bool} {q : IntKind} {a b : Int} : binV .int cst .leq (.i q a) (.i q b) = some (.b (decide (a ≤ b))) := bin_i rfl
theorem bin_gtr {cst : Bool} {q : IntKind} {a b : Int} : binV .int cst .gtr (.i q a) (.i q b) = some (.b (decide (b < a))) := bin_i rfl
theorem bin_geq {cst : Bool} {q : IntKind} {a b : Int} : binV .int cst .geq (.i q a) (.i q b) = some (.b (decide (b ≤ a))) := bin_i rfl
theorem bin_shl {cst : Bool} {q q' : IntKind} {a b : Int} : binV .int cst .shl (.i q a) (.i q' b) = shiftV .shl q a b := by simp [binV, isShift]
theorem bin_shr {cst : Bool} {q q' : IntKind} {a b : Int} : binV .int cst .shr (.i q a) (.i q' b) = shiftV .shr q a b := by simp [binV, isShift]
theorem bin_beql {cst : Bool} {a b : Bool} : binV .bool cst .eql (.b a) (.b b) = some (.b (decide (a = b))) := by
  simp only [binV, eqOp]; congr 2
theorem bin_bneq {cst : Bool} {a b : Bool} : binV .bool cst .neq (.b a) (.b b) = some (.b (decide (a ≠ b))) := by
  simp only [binV, eqOp]; congr 2; cases a <;> cases b <;> rfl
theorem bin_seql {cst : Bool} {a b : List UInt8} : binV .str cst .eql (.s a) (.s b) = some (.b (decide (a = b))) := by
  have h : (a == b) = decide (a = b) := by rw [Bool.eq_iff_iff]; simp
  simp only [binV, strV, h]
theorem bin_sneq {cst : Bool} {a b : List UInt8} : binV .str cst .neq (.s a) (.s b) = some (.b (decide (a ≠ b))) := by
  have h : (a == b) = decide (a = b) := by rw [Bool.eq_iff_iff]; simp
  simp only [binV, strV, h, ne_eq, decide_not]
theorem bin_sadd {cst : Bool} {a b : List UInt8} (h : a.length + b.length ≤ 4611686018427387904) : binV .str cst .add (.s a) (.s b) = some (.s (a ++ b)) := by simp [binV, strV, h]
theorem un_not_true : unV .not (.b true) = some (.b false) := (rfl)
theorem un_not_false : unV .not (.b false) = some (.b true) := (rfl)
theorem un_not_dec {p : Prop} [Decidable p] : unV .not (.b (decide p)) = some (.b (decide (¬ p))) := by simp [unV]
theorem un_neg {q : IntKind} {n : Int} : unV .neg (.i q n) = some (.i q (wrapV q (0 - n))) := by rw [unV]; congr 2; exact wrapV_eq q _
theorem nilV_p {i o v : Nat} : nilV (.p i o v) = some (.p i o v) := (rfl)
theorem nilV_f {f : FuncId} {a b : List AV} : nilV (.f (.func f) a b) = some (.f (.func f) a b) := (rfl)
theorem nilV_y {i : Nat} : nilV (.y i) = some (.y i) := (rfl)
theorem toInt_i {q q' : IntKind} {n : Int} : toIntV q (.i q' n) = some (.i q (wrapV q n)) := by rw [toIntV]; congr 2; exact wrapV_eq q n
theorem faddr_p {o i o' v : Nat} : faddrV o (.p i o' v) = some (.p i (o' + o) v) := (rfl)
theorem fld_ag {o : Nat} {n : Option Nat} {cs : List AV} : fldV o n (.ag cs) = partV o n cs := (rfl)
theorem part_none {o : Nat} {cs : List AV} : partV o none cs = cs[o]? := (rfl)
theorem part_some {o n : Nat} {cs : List AV} : partV o (some n) cs = if o + n ≤ cs.length then some (.ag ((cs.drop o).take n)) else none := (rfl)
theorem ext_tu {n : Nat} {cs : List AV} : extV n (.tu cs) = cs[n]? := (rfl)
theorem natV_i {q : IntKind} {n : Int} (h : 0 ≤ n) : natV (.i q n) = some n.toNat := by simp [natV, h]
theorem natV_nat {q : IntKind} {n : Nat} : natV (.i q (n : Int)) = some n := by simp [natV]
theorem iaddr_arr {l s i o v n : Nat} {q : IntKind} (h : n < l) : iaddrV (some l) s (.p i o v) (.i q (n : Int)) = some (.p i (o + n * s) v) := by simp [iaddrV, natV_nat, h]
theorem iaddr_sl {s i o v l c n : Nat} {x : Bool} {q : IntKind} (h : n < l) : iaddrV none s (.sl i o v l c x) (.i q (n : Int)) = some (.p i (o + n * s) v) := by simp [iaddrV, natV_nat, h]
theorem cells_i {q : IntKind} {n : Int} : AV.cells (.i q n) = some [.i q n] := (rfl)
theorem cells_b {x : Bool} : AV.cells (.b x) = some [.b x] := (rfl)
theorem cells_s {l : List UInt8} : AV.cells (.s l) = some [.s l] := (rfl)
theorem cells_p {i o v : Nat} : AV.cells (.p i o v) = some [.p i o v] := (rfl)
theorem cells_pn : AV.cells .pn = some [.pn] := (rfl)
theorem cells_sn : AV.cells .sn = some [.sn] := (rfl)
theorem cells_se : AV.cells .se = some [.se] := (rfl)
theorem cells_sl {i o v l c : Nat} {x : Bool} : AV.cells (.sl i o v l c x) = some [.sl i o v l c x] := (rfl)
theorem cells_ag {cs : List AV} : AV.cells (.ag cs) = some cs := (rfl)
theorem cells_f {fn : Fn} {a b : List AV} : AV.cells (.f fn a b) = some [.f fn a b] := (rfl)
theorem cells_m {i : Nat} : AV.cells (.m i) = some [.m i] := (rfl)
theorem cells_mn : AV.cells .mn = some [.mn] := (rfl)
theorem one_i {q : IntKind} {n : Int} : AV.one (.i q n) = true := (rfl)
theorem one_b {x : Bool} : AV.one (.b x) = true := (rfl)
theorem one_s {l : List UInt8} : AV.one (.s l) = true := (rfl)
theorem one_p {i o v : Nat} : AV.one (.p i o v) = true := (rfl)
theorem one_pn : AV.one .pn = true := (rfl)
theorem one_sn : AV.one .sn = true := (rfl)
theorem one_se : AV.one .se = true := (rfl)
theorem one_sl {i o v l c : Nat} {x : Bool} : AV.one (.sl i o v l c x) = true := (rfl)
theorem one_f {fn : Fn} {a b : List AV} : AV.one (.f fn a b) = true := (rfl)
theorem one_m {i : Nat} : AV.one (.m i) = true := (rfl)
theorem one_mn : AV.one .mn = true := (rfl)

/-! ### Memory -/
def cellB (o : Option Blk) (off v : Nat) : Option AV := match o with
  | some (.cells cs ver _ _) => if ver = v then cs[off]? else none
  | _ => none
def rowB (o : Option Blk) (off v n : Nat) : Option (List AV) := match o with
  | some (.cells cs ver _ _) => if ver = v ∧ off + n ≤ cs.length then some ((cs.drop off).take n) else none
  | _ => none
theorem cellB_some {cs : List AV} {v off : Nat} {op : Option Nat} {r : Bool} : cellB (some (.cells cs v op r)) off v = cs[off]? := by simp [cellB]
theorem rowB_some {cs : List AV} {v off n : Nat} {op : Option Nat} {r : Bool} : rowB (some (.cells cs v op r)) off v n = if off + n ≤ cs.length then some ((cs.drop off).take n) else none := by simp [rowB]
theorem rowAt_B {i o v n : Nat} : rowAt S i o v n = rowB (S[i]?) o v n := by
  unfold rowAt rowB; rfl
theorem ld_one {i o v : Nat} : ldCells S none (.p i o v) = cellB (S[i]?) o v := by
  simp only [ldCells, rowAt_B]
  cases S[i]? with
  | none => rfl
  | some B =>
    cases B with
    | cells cs ver op r =>
      simp only [rowB, cellB]
      by_cases hv : ver = v
      · by_cases h : o < cs.length
        · have e1 : (cs.drop o).take 1 = [cs[o]] := by rw [List.drop_eq_getElem_cons h]; rfl
          rw [if_pos ⟨hv, by omega⟩, if_pos hv, e1, List.getElem?_eq_getElem h]
        · rw [if_neg (by omega), if_pos hv, List.getElem?_eq_none (by omega)]
      · rw [if_neg (by omega), if_neg hv]
    | _ => rfl
theorem ld_row {i o v n : Nat} : ldCells S (some n) (.p i o v) = agV (rowB (S[i]?) o v n) := by simp only [ldCells, rowAt_B, agV]
def stB (S : Mem) (i : Nat) (o : Option Blk) (off v n : Nat) (ys : Option (List AV)) : Option Mem := match o, ys with
  | some (.cells cs ver op true), some ys => if ver = v ∧ ys.length = n ∧ off + n ≤ cs.length ∧ ys.all AV.one = true then some (S.set i (.cells (splice cs off ys) v op true)) else none
  | _, _ => none
theorem st_B {i o v n : Nat} {y : AV} : stCells S n (.p i o v) y = stB S i (S[i]?) o v n y.cells := by
  unfold stCells stB
  cases y.cells with
  | none => cases S[i]? with
    | none => rfl
    | some B => cases B with
      | cells cs ver op r => cases r <;> rfl
      | _ => rfl
  | some ys =>
    dsimp only
    cases S[i]? with
    | none => rfl
    | some B => cases B with
      | cells cs ver op r => cases r <;> rfl
      | _ => rfl
theorem stB_some {i off v n : Nat} {cs ys : List AV} {op : Option Nat} : stB S i (some (.cells cs v op true)) off v n (some ys) = if ys.length = n ∧ off + n ≤ cs.length ∧ ys.all AV.one = true then some (S.set i (.cells (splice cs off ys) v op true)) else none := by simp [stB]

theorem at_app {L : Mem} {n : Nat} : (S ++ L)[S.length + n]? = L[n]? := by rw [List.getElem?_append_right (by omega)]; congr 1; omega
theorem at_app0 {L : Mem} : (S ++ L)[S.length]? = L[0]? := at_app (n := 0)
theorem set_app {L : Mem} {n : Nat} {B : Blk} : (S ++ L).set (S.length + n) B = S ++ L.set n B := by
  rw [List.set_append_right _ _ (by omega)]; congr 2; omega
theorem set_app0 {L : Mem} {B : Blk} : (S ++ L).set S.length B = S ++ L.set 0 B := set_app (n := 0)
theorem at_old {L : Mem} {i : Nat} {B : Blk} (h : S[i]? = some B) : (S ++ L)[i]? = some B := grow_get h
theorem set_old {L : Mem} {i : Nat} {B B' : Blk} (h : S[i]? = some B) : (S ++ L).set i B' = S.set i B' ++ L :=
  List.set_append_left _ _ (List.getElem?_eq_some_iff.1 h).1
theorem at_set {i : Nat} {B B' : Blk} (h : S[i]? = some B) : (S.set i B')[i]? = some B' := by
  have := (List.getElem?_eq_some_iff.1 h).1
  simp [this]
theorem at_set_ne {i j : Nat} {B' : Blk} (h : i ≠ j) : (S.set i B')[j]? = S[j]? := List.getElem?_set_ne h

/-! ### The end -/
theorem retK_ret {rs : List IR} {R : AV → Mem → Prop} {S1 : Mem} {xs : List AV} (h : evResults e S1 rs = some xs) (hR : R (resV xs) S1) : retK S0 rs R .ret e S1 [] := ⟨rfl, S1, xs, rfl, h, hR⟩
theorem retK_normal {rs : List IR} {R : AV → Mem → Prop} {S1 : Mem} {xs : List AV} (h : evResults e S1 rs = some xs) (hR : R (resV xs) S1) : retK S0 rs R .normal e S1 [] := ⟨rfl, S1, xs, rfl, h, hR⟩
def resQ (o : Option (List AV)) (S : Mem) (R : AV → Mem → Prop) : Prop := match o with
  | some xs => R (resV xs) S
  | none => False
theorem ret_eq {rs : List IR} {R : AV → Mem → Prop} {S1 : Mem} : retK S0 rs R .ret e S1 [] = resQ (evResults e S1 rs) S1 R := by
  apply propext
  constructor
  · rintro ⟨_, S2, xs, h1, h2, h3⟩
    simp only [evLeave, Option.some.injEq] at h1
    subst h1
    simp only [resQ, h2]; exact h3
  · intro h
    unfold resQ at h
    split at h
    · rename_i xs hx; exact retK_ret hx h
    · exact h.elim
theorem ret_eq' {rs : List IR} {R : AV → Mem → Prop} {S1 : Mem} : retK S0 rs R .normal e S1 [] = resQ (evResults e S1 rs) S1 R := by
  rw [← ret_eq (S0 := S0)]; rfl
theorem resQ_some {xs : List AV} {R : AV → Mem → Prop} : resQ (some xs) S R = R (resV xs) S := (rfl)
def consQ (x : Option AV) (xs : Option (List AV)) : Option (List AV) := match x, xs with
  | some x, some xs => some (x :: xs)
  | _, _ => none
theorem res_nil : evResults e S [] = some [] := (rfl)
theorem res_cons {r : IR} {rs : List IR} : evResults e S (r :: rs) = consQ (evRes e S r) (evResults e S rs) := by
  simp only [evResults, consQ]
  cases evRes e S r <;> cases evResults e S rs <;> rfl
theorem consQ_some {x : AV} {xs : List AV} : consQ (some x) (some xs) = some (x :: xs) := (rfl)
theorem res_tmp {t : Nat} : evRes e S (.tmp t) = some (e.get t) := (rfl)
theorem res_cell {t : Nat} {n : Option Nat} : evRes e S (.cell t n) = ldCells S n (e.get t) := (rfl)
theorem resV_one {x : AV} : resV [x] = x := (rfl)
theorem resV_two {x y : AV} {r : List AV} : resV (x :: y :: r) = .tu (x :: y :: r) := (rfl)
theorem resV_nil : resV [] = .tu [] := (rfl)
theorem argsE_nil {n : Nat} : argsE n [] = [] := (rfl)
theorem argsE_cons {n : Nat} {x : AV} {r : List AV} : argsE n (x :: r) = (n, x) :: argsE (n + 1) r := (rfl)
theorem keepE_nil : keepE e [] = [] := (rfl)
theorem keepE_cons {t : Nat} {r : List Nat} : keepE e (t :: r) = (t, e.get t) :: keepE e r := (rfl)
theorem orc_cons {f g : FuncId} {s : Spec} {r : List (FuncId × Spec)} : (orcOf ((g, s) :: r)).fn f = if g = f then s else (orcOf r).fn f := by
  funext a S
  simp only [orcOf, List.find?_cons]
  by_cases h : g = f
  · simp [h]
  · have : (g == f) = false := by simpa using h
    simp [h, this]

/-! ### Flat values -/
theorem flat_i {n : Nat} {q : IntKind} {z : Int} : AV.flat n (.i q z) := (rfl)
theorem flat_b {n : Nat} {x : Bool} : AV.flat n (.b x) := (rfl)
theorem flat_s {n : Nat} {l : List UInt8} : AV.flat n (.s l) := (rfl)
theorem flat_sn {n : Nat} : AV.flat n .sn := (rfl)
theorem flat_pn {n : Nat} : AV.flat n .pn := (rfl)
theorem flat_ag {n : Nat} {cs : List AV} (h : ∀ x ∈ cs, AV.flat n x) : AV.flat n (.ag cs) := by
  show ren n _ (.ag cs) = .ag cs
  rw [ren, renL_eq]; congr 1
  exact (List.map_congr_left (g := id) h).trans (List.map_id _)
theorem flat_tu {n : Nat} {cs : List AV} (h : ∀ x ∈ cs, AV.flat n x) : AV.flat n (.tu cs) := by
  show ren n _ (.tu cs) = .tu cs
  rw [ren, renL_eq]; congr 1
  exact (List.map_congr_left (g := id) h).trans (List.map_id _)
end

/-- A number that fits is not turned. -/
theorem wrap_i64 {n : Int} (h1 : -9223372036854775808 ≤ n) (h2 : n ≤ 9223372036854775807) : wrapV .i64 n = n := by simp only [wrapV]; omega
theorem wrap_u64 {n : Int} (h1 : 0 ≤ n) (h2 : n ≤ 18446744073709551615) : wrapV .u64 n = n := by simp only [wrapV]; omega
theorem wrap_u32 {n : Int} (h1 : 0 ≤ n) (h2 : n ≤ 4294967295) : wrapV .u32 n = n := by simp only [wrapV]; omega
theorem wrap_u8 {n : Int} (h1 : 0 ≤ n) (h2 : n ≤ 255) : wrapV .u8 n = n := by simp only [wrapV]; omega
theorem iaddr_arr_lit {l s i o v n : Nat} {q : IntKind} (h : n < l) : iaddrV (some l) s (.p i o v) (.i q (OfNat.ofNat n : Int)) = some (.p i (o + n * s) v) := iaddr_arr h
theorem iaddr_i {l s i o v : Nat} {q : IntKind} {n : Int} (h0 : 0 ≤ n) (h : n.toNat < l) : iaddrV (some l) s (.p i o v) (.i q n) = some (.p i (o + n.toNat * s) v) := by simp [iaddrV, natV_i h0, h]
theorem iaddr_sl_i {s i o v l c : Nat} {x : Bool} {q : IntKind} {n : Int} (h0 : 0 ≤ n) (h : n.toNat < l) : iaddrV none s (.sl i o v l c x) (.i q n) = some (.p i (o + n.toNat * s) v) := by simp [iaddrV, natV_i h0, h]
theorem fillV_nil {z : List AV} : fillV z [] = some z := (rfl)
def fillQ (z : List AV) (off n : Nat) (ys : Option (List AV)) (r : List (Nat × Nat × AV)) : Option (List AV) := match ys with
  | some ys => if ys.length = n ∧ off + n ≤ z.length then fillV (splice z off ys) r else none
  | none => none
theorem fillV_cons {z : List AV} {off n : Nat} {x : AV} {r : List (Nat × Nat × AV)} : fillV z ((off, n, x) :: r) = fillQ z off n x.cells r := (rfl)
theorem fillQ_some {z : List AV} {off n : Nat} {ys : List AV} {r : List (Nat × Nat × AV)} : fillQ z off n (some ys) r = if ys.length = n ∧ off + n ≤ z.length then fillV (splice z off ys) r else none := (rfl)
theorem parts_nil {e : Env} : evParts e [] = [] := (rfl)
theorem parts_cons {e : Env} {a b : Nat} {x : X} {r : List (Nat × Nat × X)} : evParts e ((a, b, x) :: r) = (a, b, x.ev e) :: evParts e r := (rfl)
theorem splice_eq {cs xs : List AV} {o : Nat} : splice cs o xs = cs.take o ++ (xs ++ cs.drop (o + xs.length)) := (rfl)
theorem zerosV_one {z : AV} {n : Nat} : zerosV [z] n = List.replicate n z := by
  simp only [zerosV, List.length_singleton, Nat.mul_one]
  apply List.ext_getElem (by simp)
  intro k h1 h2
  simp [Nat.mod_one]
theorem all_nil {p : AV → Bool} : List.all [] p = true := (rfl)
theorem all_cons {p : AV → Bool} {x : AV} {r : List AV} : List.all (x :: r) p = (p x && List.all r p) := (rfl)
attribute [go_sem] W_skip W_region W_live W_seq W_cond W_block W_exit W_ret W_goto normK_app blockK_exit_same blockK_normal blockK_ret blockK_goto blockK_exit seqK_normal seqK_ret seqK_exit seqK_goto wCond_true wCond_false wCond_dec
  loopK_normal loopK_ret loopK_exit loopK_goto jumpK_normal jumpK_ret jumpK_exit jumpK_goto
  wOps_nil wOps_op wOps_gd opsK_some opsK_none gA_app gB_some gB_none wGd_tt wGd_tf wGd_ft wGd_ff wGd_dect wGd_decf wGd_ud
  wFl_nil wFl_op wFl_m wFl_gd wFl_gm flK_some flK_none flM_some flM_none fA_app fAM_app fB_some fB_none pre_same pre_app Option.toList List.nil_append List.cons_append List.append_nil List.append_assoc List.map_cons List.map_nil true_and and_true
  evOp_op evOp_call evOp_callv optK_some optV_some optM_some xev_t xev_c get_ite get_nil oi_mv oi_pick pickV_t pickV_f oi_fresh oi_box boxV_some oi_build agV_some oi_bslice bsV_some oi_load oi_store oi_nilck oi_bin oi_un oi_toInt oi_faddr oi_fld oi_iaddr oi_ixa oi_ixs oi_slice oi_sla oi_sls oi_ext oi_mkf oi_mks mksV_some oi_len lenQ_s lenQ_sn lenQ_se lenQ_sl oi_copy copyQ_some oi_app appQ_some oi_mm mmQ_max mmQ_min oi_eqag oi_same sameV_s oi_toStr oi_toBytes oi_clear oi_ixbyte ixbyteV_s oi_ovl oi_mkno oi_cap oi_mkmap mkmapV_none mkmapV_some oi_mlook oi_mentry oi_mstore oi_mupd oi_mdel
  bin_add bin_sub bin_mul bin_rem_pos bin_quo_pos wrap_i64 wrap_u64 wrap_u32 wrap_u8 bin_eql bin_neq bin_lss bin_leq bin_gtr bin_geq bin_shl bin_shr bin_beql bin_bneq bin_seql bin_sneq un_not_true un_not_false un_not_dec un_neg nilV_p nilV_f nilV_y toInt_i faddr_p fld_ag part_none part_some ext_tu natV_nat
  cells_i cells_b cells_s cells_p cells_pn cells_sn cells_se cells_sl cells_ag cells_f cells_m cells_mn one_i one_b one_s one_p one_pn one_sn one_se one_sl one_f one_m one_mn
  rowAt_B ld_one ld_row st_B cellB_some rowB_some stB_some at_app at_app0 set_app set_app0 List.getElem?_cons_zero List.getElem?_cons_succ List.set_cons_zero List.set_cons_succ
  fillV_nil fillV_cons fillQ_some parts_nil parts_cons splice_eq zerosV_one all_nil all_cons Bool.and_true Bool.true_and Bool.and_self eq_self List.length_cons List.length_nil List.length_append List.take_zero List.drop_zero List.take_succ_cons List.drop_succ_cons List.take_nil List.drop_nil Nat.zero_add Nat.add_zero
  ret_eq ret_eq' resQ_some res_nil res_cons consQ_some res_tmp res_cell resV_one resV_two resV_nil argsE_nil argsE_cons keepE_nil keepE_cons
end Go.Proofs.YtljaigbjiheohaaDoor
