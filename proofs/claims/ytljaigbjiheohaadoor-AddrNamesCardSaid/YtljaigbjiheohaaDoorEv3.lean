/- Proved here: operands and the plain operations of the evaluator (moves, picks, new variables, loads, stores, fields, numbers) stand for the model's. No condition. -/
import Derived.Test.YtljaigbjiheohaaDoorEv2
namespace Go.Proofs.YtljaigbjiheohaaDoor
set_option linter.unusedSimpArgs false
set_option linter.unusedVariables false
open Go.RowKit

/-- An operand. -/
inductive X where
  | t (n : Nat)
  | c (v : AV)

def X.ev (e : Env) : X → AV
  | .t n => e.get n
  | .c v => v

/-- The constants of the code. -/
def aconst : Value → Option AV
  | .bool x => some (.b x)
  | .int k n => some (.i k n)
  | .string s => some (.s s.data.toList)
  | .pointer none => some .pn
  | .slice none 0 0 => some .sn
  | .map none => some .mn
  | .nilFunc => some .nf
  | .nilIface => some .ni
  | .iface t (.int k n) => some (.it t (.i k n))
  | .iface t (.string s) => some (.it t (.s s.data.toList))
  | _ => none

theorem VR.string {K : Ctx} {S : Mem} (s : ByteArray) : VR K S (.s s.data.toList) (.string s) := by
  have h := VR.s (K := K) (S := S) s.data.toList
  rw [Array.toArray_toList] at h
  exact h

theorem aconst_ok {K : Ctx} {S : Mem} {v : Value} {x : AV} (h : aconst v = some x) : VR K S x v := by
  unfold aconst at h
  split at h <;> first | (injection h with h; subst h; first | exact .b _ | exact .i _ _ | exact VR.string _ | exact .pn | exact .sn | exact .mn | exact .nf | exact .ni | exact .it _ _ _ (.i _ _) | exact .it _ _ _ (VR.string _)) | cases h

def compX : Operand → Option X
  | .tmp t => some (.t t)
  | .const v => (aconst v).map .c
  | .global _ => none
  | .func f => some (.c (.f (.func f) [] []))

/-- The frame's slots. -/
structure ER (K : Ctx) (S : Mem) (n : Nat) (e : Env) (a : Act) : Prop where
  size : a.tmps.size = n
  slot : ∀ t, VR K S (e.get t) (a.tmps.getD t undef)

theorem ER.mono {K K' : Ctx} {S S' : Mem} {n : Nat} {e : Env} {a : Act} (hE : Ext K S K' S') (h : ER K S n e a) : ER K' S' n e a := ⟨h.size, fun t => (h.slot t).mono hE⟩

theorem compX_ok {K : Ctx} {S : Mem} {n : Nat} {e : Env} {a : Act} {o : Operand} {x : X} (h : compX o = some x) (hr : ER K S n e a) : VR K S (x.ev e) (a.eval o) := by
  cases o with
  | tmp t => simp only [compX, Option.some.injEq] at h; subst h; exact hr.slot t
  | const v =>
    simp only [compX, Option.map_eq_some_iff] at h
    obtain ⟨y, hy, rfl⟩ := h
    exact aconst_ok hy
  | global g => simp [compX] at h
  | func f =>
    simp only [compX, Option.some.injEq] at h; subst h
    exact .f _ _ _ _ _ rfl rfl (fun k => by simp [X.ev]; exact .u _) (fun k => by simp; exact .u _)

theorem ER.put {K : Ctx} {S : Mem} {n : Nat} {e : Env} {a : Act} {x : AV} {v : Value} (hr : ER K S n e a) (hx : VR K S x v) (t : Nat) (ht : t < n) : ER K S n ((t, x) :: e) (a.put (some t) v) := by
  refine ⟨by simp [Act.put, hr.size], fun k => ?_⟩
  have hsz := hr.size
  by_cases hk : t = k
  · subst hk
    have : Env.get ((t, x) :: e) t = x := by simp [Env.get]
    rw [this]
    have : (a.put (some t) v).tmps.getD t undef = v := by simp [Act.put, Array.getD, hsz, ht]
    rw [this]; exact hx
  · have hb : Nat.beq t k = false := by
      cases hb : Nat.beq t k with
      | false => rfl
      | true => exact absurd (Nat.eq_of_beq_eq_true hb) hk
    have : Env.get ((t, x) :: e) k = e.get k := by simp [Env.get, hb]
    rw [this]
    have : (a.put (some t) v).tmps.getD k undef = a.tmps.getD k undef := by
      simp only [Act.put, Array.getD_eq_getD_getElem?, Array.getElem?_setIfInBounds_ne hk]
    rw [this]; exact hr.slot k

/-- What an operation that is carried out in the world 'w' must come to. -/
def Good (base : Bs) (w0 : World) (K : Ctx) (S : Mem) (w : World) (x : AV) (S' : Mem) (r : Result Next) : Prop :=
  ∃ K' w' v, (r = .ok (.value v) w' ∨ (r = .ok .skip w' ∧ v = undef)) ∧ VR K' S' x v ∧ Sim base w0 K' S' w' ∧ Stp K S w K' S' w'

section
variable {P : Program} {base : Bs} {w0 : World} {K : Ctx} {S : Mem} {w : World}

theorem Good.same (h : Sim base w0 K S w) {x : AV} {v : Value} {r : Result Next} (hr : r = .ok (.value v) w) (hx : VR K S x v) : Good base w0 K S w x S r :=
  ⟨K, w, v, .inl hr, hx, h, .refl K S w⟩

/-! ### The type table -/
theorem run_underlying' {t : TypeId} {d : TypeDesc} (h : P.underlying t = some d) : (underlying t).run P w = .ok d w := by
  simp [underlying, h]
theorem run_typeInfo' {t : TypeId} {i : TypeInfo} (h : P.info? t = some i) : (typeInfo t).run P w = .ok i w := by
  simp [typeInfo, h]
theorem run_zeroValue' {t : TypeId} {i : TypeInfo} {z : Value} (h : P.info? t = some i) (hz : i.zero = some z) : (zeroValue t).run P w = .ok z w := by
  simp [zeroValue, run_typeInfo' h, hz]
theorem run_sizeOf' {t : TypeId} {i : TypeInfo} (h : P.info? t = some i) : (sizeOf t).run P w = .ok i.size w := by
  simp [sizeOf, run_typeInfo' h]

/-- Is it a struct or an array? -/
def aggB : TypeDesc → Bool
  | .struct _ | .array _ _ => true
  | _ => false
theorem run_isAgg' {t : TypeId} {d : TypeDesc} (h : P.underlying t = some d) : (isAgg t).run P w = .ok (aggB d) w := by
  simp only [isAgg, Sem.run_bind, run_underlying' h, Result.andThen_ok]
  cases d <;> rfl

/-- Loads of a type: 'some n': n cells, one struct or array; 'none': one cell. -/
def shapeOf (P : Program) (t : TypeId) : Option (Option Nat) :=
  match P.underlying t, P.info? t with
  | some d, some i => some (if aggB d then some i.size else none)
  | _, _ => none

/-- The zero cells of a type. -/
def zeroOf (P : Program) (t : TypeId) : Option (List AV) :=
  match P.info? t with
  | some i => match i.zero with
    | some z => z.cells.toList.mapM aconst
    | none => none
  | none => none

theorem mapM_ok {α β : Type} {f : α → Option β} : ∀ {l : List α} {r : List β}, l.mapM f = some r → r.length = l.length ∧ ∀ k (h : k < l.length) (h' : k < r.length), f l[k] = some r[k]
  | [], r, h => by simp at h; subst h; simp
  | a :: l, r, h => by
    simp only [List.mapM_cons, Option.bind_eq_bind, Option.bind_eq_some_iff, Option.pure_def, Option.some.injEq] at h
    obtain ⟨b, hb, bs, hbs, rfl⟩ := h
    obtain ⟨h1, h2⟩ := mapM_ok hbs
    refine ⟨by simp [h1], fun k hk hk' => ?_⟩
    cases k with
    | zero => exact hb
    | succ k => exact h2 k (by simpa using hk) (by simpa using hk')

theorem zeroOf_ok {t : TypeId} {z : List AV} (h : zeroOf P t = some z) : ∃ i v, P.info? t = some i ∧ i.zero = some v ∧ z.length = v.cells.size ∧ ∀ K S k, k < z.length → VR K S (z.getD k .u) (v.cells.getD k undef) := by
  unfold zeroOf at h
  split at h
  · rename_i i hi
    split at h
    · rename_i v hv
      obtain ⟨h1, h2⟩ := mapM_ok h
      refine ⟨i, v, hi, hv, by simpa using h1, fun K S k hk => ?_⟩
      have hk' : k < v.cells.toList.length := by omega
      have := aconst_ok (K := K) (S := S) (h2 k hk' hk)
      have e1 : z.getD k .u = z[k] := by simp [List.getD_eq_getElem?_getD, hk]
      have e2 : v.cells.getD k undef = v.cells.toList[k] := by
        have : k < v.cells.size := by simpa using hk'
        simp [Array.getD, this]
      rw [e1, e2]; exact this
    · cases h
  · cases h

/-- A new row of cells. -/
theorem good_row (h : Sim base w0 K S w) (cs : List AV) (c : Array Value) (et : TypeId) (hl : cs.length = c.size) (hx : ∀ k, k < cs.length → VR K S (cs.getD k .u) (c.getD k undef)) :
    ∃ K', Sim base w0 K' (S ++ [.cells cs 0 none true]) (w.alloc (.cells c et)) ∧ Stp K S w K' (S ++ [.cells cs 0 none true]) (w.alloc (.cells c et)) ∧
      K'.μ S.length = w.heap.size ∧ K'.σ S.length = c.size := by
  obtain ⟨h1, h2⟩ := h.alloc (.cells cs 0 none true) (.cells c et) c.size fun K' S' w' hE e1 e2 e3 hb =>
    ⟨c, et, (0, 0), by rw [e1]; exact e3, by rw [e2], by omega, fun _ => by omega, fun k hk => (hx k hk).mono hE, fun _ => ⟨by rw [e1]; exact hb, fun o _ => by simp⟩⟩
  exact ⟨_, h1, h2, (K.put_same _ _ _).1, (K.put_same _ _ _).2⟩

theorem new_at (S : Mem) (B : Blk) : (S ++ [B])[S.length]? = some B := by simp

/-! ### A new variable -/
theorem good_fresh (h : Sim base w0 K S w) {t : TypeId} {z : List AV} (hz : zeroOf P t = some z) :
    Good base w0 K S w (.p S.length 0 0) (S ++ [.cells z 0 none true]) ((do let v ← Instr.alloc t true (.tuple #[]); pure (Next.value v) : Sem Next).run P w) := by
  obtain ⟨i, v, hi, hv, hl, hx⟩ := zeroOf_ok hz
  obtain ⟨K', h1, h2, h3, h4⟩ := good_row h z v.cells t hl (fun k hk => hx K S k hk)
  refine ⟨K', _, .pointer (some ⟨w.heap.size, 0, none⟩), .inl ?_, .p _ _ _ _ _ (new_at S _) (Nat.le_refl _) (fun _ => by rw [h3]), h1, h2⟩
  simp [Instr.alloc, run_zeroValue' hi hv, newVar, newRow]

/-- The cells of a value. -/
def AV.cells : AV → Option (List AV)
  | .u => none
  | .ud => none
  | .tu _ => none
  | .ag cs => some cs
  | x => some [x]

theorem VR.cells {x : AV} {v : Value} {cs : List AV} (h : VR K S x v) (hc : x.cells = some cs) : cs.length = v.cells.size ∧ ∀ k, k < cs.length → VR K S (cs.getD k .u) (v.cells.getD k undef) := by
  have one : ∀ (x : AV) (v : Value), VR K S x v → ([x] : List AV).length = (#[v] : Array Value).size ∧ ∀ k, k < ([x] : List AV).length → VR K S (([x] : List AV).getD k .u) ((#[v] : Array Value).getD k undef) := by
    intro x v h
    refine ⟨rfl, fun k hk => ?_⟩
    obtain rfl : k = 0 := by simp at hk; omega
    exact h
  cases h with
  | u v => simp [AV.cells] at hc
  | ud => simp [AV.cells] at hc
  | tu x x' hx h => simp [AV.cells] at hc
  | ag x x' hx h => simp only [AV.cells, Option.some.injEq] at hc; subst hc; exact ⟨hx, fun k _ => h k⟩
  | b x => simp only [AV.cells, Option.some.injEq] at hc; subst hc; exact one _ _ (.b x)
  | i k n => simp only [AV.cells, Option.some.injEq] at hc; subst hc; exact one _ _ (.i k n)
  | s l => simp only [AV.cells, Option.some.injEq] at hc; subst hc; exact one _ _ (.s l)
  | pn => simp only [AV.cells, Option.some.injEq] at hc; subst hc; exact one _ _ .pn
  | p i off v a B h hv ha => simp only [AV.cells, Option.some.injEq] at hc; subst hc; exact one _ _ (.p i off v a B h hv ha)
  | sn => simp only [AV.cells, Option.some.injEq] at hc; subst hc; exact one _ _ .sn
  | se a c => simp only [AV.cells, Option.some.injEq] at hc; subst hc; exact one _ _ (.se a c)
  | sl i off v len cap ex a c B h hv hl hcc he ha => simp only [AV.cells, Option.some.injEq] at hc; subst hc; exact one _ _ (.sl i off v len cap ex a c B h hv hl hcc he ha)
  | mn => simp only [AV.cells, Option.some.injEq] at hc; subst hc; exact one _ _ .mn
  | m i r B h hr => simp only [AV.cells, Option.some.injEq] at hc; subst hc; exact one _ _ (.m i r B h hr)
  | nf => simp only [AV.cells, Option.some.injEq] at hc; subst hc; exact one _ _ .nf
  | f fn x y x' y' hx hy h h' => simp only [AV.cells, Option.some.injEq] at hc; subst hc; exact one _ _ (.f fn x y x' y' hx hy h h')
  | y i r B h hr => simp only [AV.cells, Option.some.injEq] at hc; subst hc; exact one _ _ (.y i r B h hr)
  | ni => simp only [AV.cells, Option.some.injEq] at hc; subst hc; exact one _ _ .ni
  | it t x v h => simp only [AV.cells, Option.some.injEq] at hc; subst hc; exact one _ _ (.it t x v h)

theorem good_box (h : Sim base w0 K S w) {t : TypeId} {x : AV} {v : Value} {cs : List AV} (hx : VR K S x v) (hc : x.cells = some cs) :
    Good base w0 K S w (.p S.length 0 0) (S ++ [.cells cs 0 none true]) ((do let v ← Instr.box t v; pure (Next.value v) : Sem Next).run P w) := by
  obtain ⟨hl, hk⟩ := hx.cells hc
  obtain ⟨K', h1, h2, h3, h4⟩ := good_row h cs v.cells t hl hk
  refine ⟨K', _, .pointer (some ⟨w.heap.size, 0, none⟩), .inl ?_, .p _ _ _ _ _ (new_at S _) (Nat.le_refl _) (fun _ => by rw [h3]), h1, h2⟩
  simp [Instr.box, newVar, newRow]

/-! ### Loads -/
/-- The cells of a place. -/
def rowAt (S : Mem) (i off v n : Nat) : Option (List AV) :=
  match S[i]? with
  | some (.cells cs ver _ _) => if ver = v ∧ off + n ≤ cs.length then some ((cs.drop off).take n) else none
  | _ => none

theorem rowAt_ok (h : Sim base w0 K S w) {i off v n : Nat} {xs : List AV} (hr : rowAt S i off v n = some xs) :
    xs.length = n ∧ ∃ g : Nat → Value, (∀ j, j < n → w.cell? ((⟨K.μ i, off, none⟩ : Addr).add j) = some (g j)) ∧ ∀ j, j < n → VR K S (xs.getD j .u) (g j) := by
  unfold rowAt at hr
  split at hr
  · rename_i cs ver o r hB
    split at hr
    · rename_i hc
      obtain ⟨hv, hl⟩ := hc
      injection hr with hr
      subst hr
      refine ⟨by simp; omega, fun j => (w.cell? ⟨K.μ i, off + j, none⟩).getD undef, fun j hj => ?_, fun j hj => ?_⟩
      · obtain ⟨y, hy, _⟩ := h.load hB (k := off + j) (by omega)
        simp only [add_eq, hy, Option.getD_some]
      · obtain ⟨y, hy, hV⟩ := h.load hB (k := off + j) (by omega)
        have : ((cs.drop off).take n).getD j .u = cs.getD (off + j) .u := by
          simp [List.getD_eq_getElem?_getD, List.getElem?_take, hj]
        simp only [hy, Option.getD_some, this]; exact hV
    · cases hr
  · cases hr

theorem VR.addr {i off v : Nat} {x : Value} (h : VR K S (.p i off v) x) {B : Blk} (hB : S[i]? = some B) (hv : B.ver = v) : x = .pointer (some ⟨K.μ i, off, none⟩) := by
  cases h with
  | p i off v a B' hB' hle ha =>
    rw [hB] at hB'; obtain rfl := Option.some.inj hB'
    rw [ha hv]

theorem rowAt_ver {i off v n : Nat} {xs : List AV} (hr : rowAt S i off v n = some xs) : ∃ B, S[i]? = some B ∧ B.ver = v := by
  unfold rowAt at hr
  split at hr
  · rename_i cs ver o r hB
    split at hr
    · rename_i hc; exact ⟨_, hB, hc.1⟩
    · cases hr
  · cases hr

def ldCells (S : Mem) (n : Option Nat) : AV → Option AV
  | .p i off v => match n with
    | some n => (rowAt S i off v n).map .ag
    | none => match rowAt S i off v 1 with
      | some [x] => some x
      | _ => none
  | _ => none

theorem range_getD (n : Nat) (g : Nat → Value) (k : Nat) (hk : k < n) : (((List.range n).map g).toArray).getD k undef = g k := by
  simp [Array.getD, hk]

theorem VR.agg {xs : List AV} {n : Nat} {g : Nat → Value} (hl : xs.length = n) (hg : ∀ j, j < n → VR K S (xs.getD j .u) (g j)) : VR K S (.ag xs) (.agg ((List.range n).map g).toArray) := by
  refine .ag _ _ (by simp [hl]) fun k => ?_
  by_cases hk : k < n
  · rw [range_getD n g k hk]; exact hg k hk
  · have : xs.getD k .u = .u := by simp [List.getD_eq_getElem?_getD, List.getElem?_eq_none (show xs.length ≤ k by omega)]
    rw [this]; exact .u _

theorem good_load (h : Sim base w0 K S w) {t : TypeId} {n : Option Nat} {x y : AV} {v : Value} (hs : shapeOf P t = some n) (hx : VR K S x v) (hl : ldCells S n x = some y) :
    Good base w0 K S w y S ((do let v ← Instr.loadAt t v; pure (Next.value v) : Sem Next).run P w) := by
  unfold shapeOf at hs
  split at hs
  · rename_i d inf hd hinf
    injection hs with hs
    unfold ldCells at hl
    split at hl
    · rename_i i off ver
      split at hl
      · rename_i n'
        obtain ⟨xs, hxs, rfl⟩ := Option.map_eq_some_iff.1 hl
        obtain ⟨B, hB, hv⟩ := rowAt_ver hxs
        obtain rfl := hx.addr hB hv
        obtain ⟨hlen, g, hg, hV⟩ := rowAt_ok h hxs
        have hagg : aggB d = true := by
          cases e : aggB d with
          | true => rfl
          | false => rw [e] at hs; cases hs
        simp only [hagg, if_true, Option.some.injEq] at hs
        subst hs
        refine Good.same h ?_ (VR.agg hlen hV)
        simp [Instr.loadAt, Instr.sureAddr, loadVar, run_isAgg' hd, hagg, run_sizeOf' hinf, run_loadCells w _ _ g hg]
      · have hagg : aggB d = false := by
          cases e : aggB d with
          | false => rfl
          | true => rw [e] at hs; cases hs
        split at hl
        · rename_i z hz
          injection hl with hl
          subst hl
          obtain ⟨B, hB, hv⟩ := rowAt_ver hz
          obtain rfl := hx.addr hB hv
          obtain ⟨hlen, g, hg, hV⟩ := rowAt_ok h hz
          have hg0 := hg 0 (by omega)
          have hV0 := hV 0 (by omega)
          have hadd : (⟨K.μ i, off, none⟩ : Addr).add 0 = ⟨K.μ i, off, none⟩ := rfl
          rw [hadd] at hg0
          refine Good.same (v := g 0) h ?_ (by simpa using hV0)
          simp [Instr.loadAt, Instr.sureAddr, loadVar, run_isAgg' hd, hagg, hg0]
        · cases hl
    · cases hl
  · cases hs

/-! ### Stores -/
def stCells (S : Mem) (n : Nat) (x y : AV) : Option Mem :=
  match x, y.cells with
  | .p i off v, some ys => match S[i]? with
    | some (.cells cs ver o true) => if ver = v ∧ ys.length = n ∧ off + n ≤ cs.length ∧ ys.all AV.one = true then some (S.set i (.cells (splice cs off ys) v o true)) else none
    | _ => none
  | _, _ => none

theorem good_store (h : Sim base w0 K S w) {t : TypeId} {inf : TypeInfo} (hinf : P.info? t = some inf) {x y : AV} {a v : Value} {S' : Mem} (hx : VR K S x a) (hy : VR K S y v) (hs : stCells S inf.size x y = some S') :
    Good base w0 K S w .u S' ((do Instr.storeAt t a v; pure Next.skip : Sem Next).run P w) := by
  unfold stCells at hs
  split at hs
  · rename_i i off ver ys hys
    split at hs
    · rename_i cs ver' o hB
      split at hs
      · rename_i hc
        obtain ⟨rfl, hn, hle, hone⟩ := hc
        injection hs with hs
        subst hs
        obtain rfl := hx.addr hB rfl
        obtain ⟨hcl, hcv⟩ := hy.cells hys
        obtain ⟨w', hrun, hS', hst⟩ := Sim.storeCells (P := P) ys v.cells.toList S w i ver' cs o off 0 h hB (by omega) (by simpa using hcl)
          (fun k hk => by
            have := hcv k hk
            have hk' : k < v.cells.size := by omega
            have e : v.cells.toList.getD k undef = v.cells.getD k undef := by simp [Array.getD, hk']
            rw [e]; exact this) hone
        simp only [Nat.add_zero] at hS' hst
        rw [setList_eq _ _ _ (by omega)] at hS' hst
        refine ⟨K, w', undef, .inr ⟨?_, rfl⟩, .u _, hS', hst⟩
        simp [Instr.storeAt, Instr.sureAddr, storeVar, run_sizeOf' hinf, ← hcl, hn, hrun]
      · cases hs
    · cases hs
  · cases hs

/-! ### Plain operations -/
def unV (op : UnOp) : AV → Option AV
  | .i k n => match op with
    | .neg => some (.i k (k.wrap (0 - n)))
    | .xor => some (.i k (k.wrap ((BitVec.ofInt k.bits (if k.signed then -1 else k.max)) ^^^ (BitVec.ofInt k.bits n)).toNat))
    | _ => none
  | .b x => match op with
    | .not => some (.b (!x))
    | _ => none
  | _ => none

theorem good_un (h : Sim base w0 K S w) {op : UnOp} {x y : AV} {v : Value} (hx : VR K S x v) (hy : unV op x = some y) :
    Good base w0 K S w y S ((do let v ← Op.unary op v; pure (Next.value v) : Sem Next).run P w) := by
  unfold unV at hy
  split at hy
  · cases hx
    split at hy
    · injection hy with hy; subst hy
      exact Good.same h (by simp [Op.unary, Op.intArith]) (.i _ _)
    · injection hy with hy; subst hy
      exact Good.same h (by simp [Op.unary, Op.intBits]) (.i _ _)
    · cases hy
  · cases hx
    split at hy
    · injection hy with hy; subst hy
      exact Good.same h (by simp [Op.unary]) (.b _)
    · cases hy
  · cases hy

def nilV : AV → Option AV
  | .p i off v => some (.p i off v)
  | .f (.func k) a b => some (.f (.func k) a b)
  | .y i => some (.y i)
  | _ => none

theorem good_nil (h : Sim base w0 K S w) {x y : AV} {o : Oper} {ρ : Operand → Value} {z : Operand} (ho : o.op = .nilCheck z) (hx : VR K S x (ρ z)) (hy : nilV x = some y) :
    Good base w0 K S w y S ((execOp ρ o).run P w) := by
  unfold nilV at hy
  split at hy
  · injection hy with hy; subst hy
    refine Good.same (v := ρ z) h ?_ hx
    obtain ⟨a, e⟩ : ∃ a, ρ z = .pointer (some a) := by
      generalize ρ z = v at hx
      cases hx; exact ⟨_, rfl⟩
    simp [execOp, ho, e]
  · rename_i k a b
    injection hy with hy; subst hy
    refine Good.same (v := ρ z) h ?_ hx
    obtain ⟨a, b, e⟩ : ∃ a b, ρ z = .func (.func k) a b := by
      generalize ρ z = v at hx
      cases hx; exact ⟨_, _, rfl⟩
    simp [execOp, ho, e]
  · injection hy with hy; subst hy
    refine Good.same (v := ρ z) h ?_ hx
    obtain ⟨a, e⟩ : ∃ a, ρ z = .func (.yield a) #[] #[] := by
      generalize ρ z = v at hx
      cases hx; exact ⟨_, rfl⟩
    simp [execOp, ho, e]
  · cases hy

def extV (k : Nat) : AV → Option AV
  | .tu xs => xs[k]?
  | _ => none
theorem good_ext (h : Sim base w0 K S w) {k : Nat} {x y : AV} {v : Value} (hx : VR K S x v) (hy : extV k x = some y) :
    Good base w0 K S w y S ((do let v ← Instr.extract v k; pure (Next.value v) : Sem Next).run P w) := by
  unfold extV at hy
  split at hy
  · rename_i x
    cases hx with
    | tu _ x' hl hv =>
      have hk := (List.getElem?_eq_some_iff.1 hy)
      obtain ⟨hk, he⟩ := hk
      have := hv k
      have e1 : x.getD k .u = y := by simp [List.getD_eq_getElem?_getD, hy]
      have hk' : k < x'.size := by omega
      rw [e1] at this
      refine Good.same (v := x'.getD k undef) h ?_ this
      simp [Instr.extract, Array.getD, hk', Array.getElem?_eq_getElem hk']
  · cases hy

def toIntV (k : IntKind) : AV → Option AV
  | .i _ n => some (.i k (k.wrap n))
  | _ => none
theorem good_toInt (h : Sim base w0 K S w) {src dst : TypeId} {d : TypeDesc} {k : IntKind} (hs : P.underlying src = some d) (hd : P.underlying dst = some (.int k)) {x y : AV} {v : Value} (hx : VR K S x v) (hy : toIntV k x = some y) :
    Good base w0 K S w y S ((do let v ← convert src dst v; pure (Next.value v) : Sem Next).run P w) := by
  unfold toIntV at hy
  split at hy
  · cases hx
    injection hy with hy; subst hy
    exact Good.same h (by simp [convert, run_underlying' hs, run_underlying' hd, Conv.intToInt]) (.i _ _)
  · cases hy

def faddrV (off : Nat) : AV → Option AV
  | .p i o v => some (.p i (o + off) v)
  | _ => none

/-- A field of a struct that takes room. -/
def fieldOf (P : Program) (t : TypeId) (k : Nat) : Option (Field × TypeInfo) :=
  match P.underlying t with
  | some (.struct fs) => match fs[k]? with
    | some f => match P.info? f.type with
      | some i => if i.size = 0 then none else some (f, i)
      | none => none
    | none => none
  | _ => none

theorem fieldOf_ok {t : TypeId} {k : Nat} {f : Field} {i : TypeInfo} (h : fieldOf P t k = some (f, i)) : ∃ fs, P.underlying t = some (.struct fs) ∧ fs[k]? = some f ∧ P.info? f.type = some i ∧ i.size ≠ 0 := by
  unfold fieldOf at h
  split at h
  · rename_i fs hfs
    split at h
    · rename_i f' hf
      split at h
      · rename_i i' hi
        split at h
        · cases h
        · rename_i hne
          injection h with h
          injection h with h1 h2
          subst h1; subst h2
          exact ⟨fs, hfs, hf, hi, hne⟩
      · cases h
    · cases h
  · cases h

theorem VR.addr_off {i off v n : Nat} {x : Value} (h : VR K S (.p i off v) x) : ∃ a, x = .pointer (some a) ∧ VR K S (.p i (off + n) v) (.pointer (some (a.add n))) := by
  cases h with
  | p i off v a B hB hle ha =>
    exact ⟨a, rfl, .p _ _ _ _ B hB hle fun e => by rw [ha e, add_eq]⟩

theorem good_faddr (h : Sim base w0 K S w) {t : TypeId} {k : Nat} {f : Field} {i : TypeInfo} (hf : fieldOf P t k = some (f, i)) {x y : AV} {v : Value} (hx : VR K S x v) (hy : faddrV f.offset x = some y) :
    Good base w0 K S w y S ((do let v ← Instr.fieldAt t v k; pure (Next.value v) : Sem Next).run P w) := by
  obtain ⟨fs, h1, h2, h3, h4⟩ := fieldOf_ok hf
  unfold faddrV at hy
  split at hy
  · injection hy with hy; subst hy
    obtain ⟨a, rfl, hv⟩ := hx.addr_off (n := f.offset)
    refine Good.same h ?_ hv
    simp [Instr.fieldAt, run_underlying' h1, h2, Instr.sureAddr, fieldPlace, run_sizeOf' h3, h4]
  · cases hy

/-- A part of a struct or an array. -/
def partV (off : Nat) (n : Option Nat) (cs : List AV) : Option AV :=
  match n with
  | some n => if off + n ≤ cs.length then some (.ag ((cs.drop off).take n)) else none
  | none => cs[off]?

theorem run_part {t : TypeId} {n : Option Nat} (hs : shapeOf P t = some n) {cs : List AV} {cs' : Array Value} (hl : cs.length = cs'.size) (hv : ∀ k, VR K S (cs.getD k .u) (cs'.getD k undef)) {off : Nat} {y : AV}
    (hy : partV off n cs = some y) : ∃ v, (part t cs' off).run P w = .ok v w ∧ VR K S y v := by
  unfold shapeOf at hs
  split at hs
  · rename_i d inf hd hinf
    injection hs with hs
    unfold partV at hy
    split at hy
    · rename_i n'
      have hagg : aggB d = true := by
        cases e : aggB d with
        | true => rfl
        | false => rw [e] at hs; cases hs
      simp only [hagg, if_true, Option.some.injEq] at hs
      subst hs
      split at hy
      · rename_i hle
        injection hy with hy; subst hy
        refine ⟨.agg (cs'.extract off (off + inf.size)), by simp [part, run_isAgg' hd, hagg, run_sizeOf' hinf], .ag _ _ (by simp; omega) fun k => ?_⟩
        by_cases hk : k < inf.size
        · have e1 : ((cs.drop off).take inf.size).getD k .u = cs.getD (off + k) .u := by simp [List.getD_eq_getElem?_getD, List.getElem?_take, hk]
          have e2 : (cs'.extract off (off + inf.size)).getD k undef = cs'.getD (off + k) undef := by
            simp only [Array.getD_eq_getD_getElem?, Array.getElem?_extract]
            rw [if_pos (by omega)]
          rw [e1, e2]; exact hv (off + k)
        · have : ((cs.drop off).take inf.size).getD k .u = .u := by
            simp [List.getD_eq_getElem?_getD, List.getElem?_take, hk]
          rw [this]; exact .u _
      · cases hy
    · have hagg : aggB d = false := by
        cases e : aggB d with
        | false => rfl
        | true => rw [e] at hs; cases hs
      obtain ⟨hk, he⟩ := List.getElem?_eq_some_iff.1 hy
      have e1 : cs.getD off .u = y := by simp [List.getD_eq_getElem?_getD, hy]
      have hk' : off < cs'.size := by omega
      have := hv off
      rw [e1] at this
      refine ⟨cs'.getD off undef, ?_, this⟩
      simp [part, run_isAgg' hd, hagg, Array.getElem?_eq_getElem hk', Array.getD, hk']
  · cases hs

def fldV (off : Nat) (n : Option Nat) : AV → Option AV
  | .ag cs => partV off n cs
  | _ => none
theorem good_fld (h : Sim base w0 K S w) {t : TypeId} {k : Nat} {f : Field} {i : TypeInfo} (hf : fieldOf P t k = some (f, i)) {n : Option Nat} (hn : shapeOf P f.type = some n) {x y : AV} {v : Value} (hx : VR K S x v) (hy : fldV f.offset n x = some y) :
    Good base w0 K S w y S ((do let v ← Instr.field t v k; pure (Next.value v) : Sem Next).run P w) := by
  obtain ⟨fs, h1, h2, h3, h4⟩ := fieldOf_ok hf
  unfold fldV at hy
  split at hy
  · cases hx with
    | ag x x' hl hv =>
      obtain ⟨z, hz, hV⟩ := run_part (w := w) hn hl hv hy
      refine Good.same h ?_ hV
      simp [Instr.field, run_underlying' h1, h2, asAgg, hz]
  · cases hy
end
end Go.Proofs.YtljaigbjiheohaaDoor
