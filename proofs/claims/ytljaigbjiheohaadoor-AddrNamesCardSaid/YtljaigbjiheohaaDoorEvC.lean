/- Proved here: equality of structs and arrays of scalars is worked out rightly. No condition. -/
import Derived.Test.YtljaigbjiheohaaDoorEvB
import Derived.ChangeKeysEq
namespace Go.Proofs.YtljaigbjiheohaaDoor
set_option linter.unusedSimpArgs false
set_option linter.unusedVariables false
open Go.RowKit

section
variable {P : Program} {base : Bs} {w0 : World} {K : Ctx} {S : Mem} {w : World}

theorem eqCells_append : ∀ (k1 k2 : List TK) (x1 x2 y1 y2 : List AV) (r : Bool), x1.length = k1.length → y1.length = k1.length → eqCells (k1 ++ k2) (x1 ++ x2) (y1 ++ y2) = some r →
    ∃ a b, eqCells k1 x1 y1 = some a ∧ eqCells k2 x2 y2 = some b ∧ r = (a && b)
  | [], k2, x1, x2, y1, y2, r, hx, hy, h => by
    have e1 : x1 = [] := List.length_eq_zero_iff.1 hx
    have e2 : y1 = [] := List.length_eq_zero_iff.1 hy
    subst e1; subst e2
    exact ⟨true, r, rfl, h, by simp⟩
  | k :: k1, k2, x :: x1, x2, y :: y1, y2, r, hx, hy, h => by
    simp only [List.length_cons, Nat.add_right_cancel_iff] at hx hy
    simp only [List.cons_append, eqCells] at h
    split at h
    · rename_i a b ha hb
      obtain ⟨c, d, hc, hd, rfl⟩ := eqCells_append k1 k2 x1 x2 y1 y2 b hx hy hb
      injection h with h; subst h
      exact ⟨a && c, d, by simp [eqCells, ha, hc], hd, by cases a <;> simp⟩
    · cases h
  | _ :: _, _, [], _, _, _, _, hx, _, _ => by simp at hx
  | _ :: _, _, _ :: _, _, [], _, _, _, hy, _ => by simp at hy

/-- The cells of a value of the type. -/
def Fits (K : Ctx) (S : Mem) (agg : Bool) (xs : List AV) (v : Value) : Prop :=
  if agg then ∃ c, v = .agg c ∧ RowR K S xs c else ∃ x, xs = [x] ∧ VR K S x v

theorem run_eqCell {t : TypeId} {d : TypeDesc} (hd : P.underlying t = some d) {k : TK} (hk : (d = .bool ∧ k = .bool) ∨ ((∃ i, d = .int i) ∧ k = .int) ∨ (d = .string ∧ k = .str)) {x y : AV} {vx vy : Value} {r : Bool} (hx : VR K S x vx) (hy : VR K S y vy)
    (h : eqCell k x y = some r) (m : Nat) : (Op.equalIn (m + 1) t vx vy).run P w = .ok r w := by
  unfold eqCell at h
  split at h
  · cases hx; cases hy
    rcases hk with ⟨_, e⟩ | ⟨⟨i, rfl⟩, _⟩ | ⟨_, e⟩
    · cases e
    · split at h
      · rename_i e; subst e; injection h with h; subst h
        simp only [Op.equalIn, Sem.run_bind, run_underlying' hd, Result.andThen_ok, if_true]; rfl
      · cases h
    · cases e
  · cases hx; cases hy
    rcases hk with ⟨rfl, _⟩ | ⟨_, e⟩ | ⟨_, e⟩
    · injection h with h; subst h
      simp only [Op.equalIn, Sem.run_bind, run_underlying' hd, Result.andThen_ok]; rfl
    · cases e
    · cases e
  · cases hx; cases hy
    rcases hk with ⟨_, e⟩ | ⟨_, e⟩ | ⟨rfl, _⟩
    · cases e
    · cases e
    · rename_i m' n' _
      injection h with h; subst h
      simp only [Op.equalIn, Sem.run_bind, run_underlying' hd, Result.andThen_ok]
      have : ((ByteArray.mk m'.toArray) == (ByteArray.mk n'.toArray)) = (m' == n') := by
        rw [beq_toListBytes]; simp
      rw [this]; rfl
  · cases h

/-- What is to be shown of a type. -/
def EqFlat (P : Program) (n : Nat) (t : TypeId) (ks : List TK) : Prop :=
  ∀ (K : Ctx) (S : Mem) (w : World) (m : Nat) (xs ys : List AV) (vx vy : Value) (r : Bool), xs.length = ks.length → ys.length = ks.length → (∀ d, P.underlying t = some d → Fits K S (aggB d) xs vx ∧ Fits K S (aggB d) ys vy) →
    eqCells ks xs ys = some r → (Op.equalIn (n + m) t vx vy).run P w = .ok r w

/-- A part of a row. -/
theorem run_part_flat {t : TypeId} {d : TypeDesc} {inf : TypeInfo} (hd : P.underlying t = some d) (hi : P.info? t = some inf) {ks : List TK} (hs : inf.size = ks.length) (h1 : aggB d = false → ks.length = 1) {cs : List AV} {c : Array Value} (hr : RowR K S cs c) {off : Nat} (ho : off + ks.length ≤ cs.length) :
    ∃ v, (part t c off).run P w = .ok v w ∧ Fits K S (aggB d) ((cs.drop off).take ks.length) v := by
  have hsh : shapeOf P t = some (if aggB d then some inf.size else none) := by simp [shapeOf, hd, hi]
  cases e : aggB d with
  | true =>
    rw [e] at hsh
    obtain ⟨v, hv, hV⟩ := run_part (w := w) hsh hr.1 hr.2 (off := off) (y := .ag ((cs.drop off).take inf.size)) (by simp only [partV, if_true]; rw [if_pos (by omega)])
    rw [hs] at hV
    cases hV with
    | ag x x' hl hx => exact ⟨_, hv, by simp only [Fits, if_true]; exact ⟨x', rfl, hl, hx⟩⟩
  | false =>
    rw [e] at hsh
    have h1 := h1 e
    have hlt : off < cs.length := by omega
    obtain ⟨v, hv, hV⟩ := run_part (w := w) hsh hr.1 hr.2 (off := off) (y := cs[off]) (by simp [partV, hlt])
    refine ⟨v, hv, ?_⟩
    simp only [Fits, Bool.false_eq_true, if_false]
    refine ⟨cs[off], ?_, hV⟩
    rw [h1, List.drop_eq_getElem_cons hlt, List.take_succ_cons, List.take_zero]

theorem flat_one {n : Nat} {t : TypeId} {ks : List TK} {d : TypeDesc} (h : flatOf P n t = some ks) (hd : P.underlying t = some d) (ha : aggB d = false) : ks.length = 1 := by
  cases n with
  | zero => simp [flatOf] at h
  | succ n =>
    unfold flatOf at h
    rw [hd] at h
    cases d <;> simp [aggB] at ha <;> simp at h <;> subst h <;> rfl

theorem run_eqFields_flat {n : Nat} (IH : ∀ t ks, flatOf P n t = some ks → EqFlat P n t ks) {cx cy : Array Value} {xs ys : List AV} (hx : RowR K S xs cx) (hy : RowR K S ys cy) (m : Nat) :
    ∀ (fs : List Field) (off : Nat) (ks : List TK) (r : Bool), flatFs P (flatOf P n) fs off = some ks → off + ks.length ≤ xs.length → off + ks.length ≤ ys.length → eqCells ks ((xs.drop off).take ks.length) ((ys.drop off).take ks.length) = some r →
      (Op.eqFields (n + m) cx cy fs).run P w = .ok r w
  | [], off, ks, r, hf, h1, h2, he => by
    simp only [flatFs, Option.some.injEq] at hf
    subst hf
    simp only [eqCells, Option.some.injEq] at he
    subst he
    simp [Op.eqFields]
  | f :: fs, off, ks, r, hf, h1, h2, he => by
    simp only [flatFs] at hf
    split at hf
    · cases hf
    · rename_i hn
      simp only [not_or, Decidable.not_not] at hn
      obtain ⟨hn, ho⟩ := hn
      split at hf
      · rename_i k1 inf hk1 hinf
        split at hf
        · rename_i hsz
          split at hf
          · rename_i k2 hk2
            injection hf with hf; subst hf
            simp only [List.length_append] at h1 h2 he
            have sp : ∀ l : List AV, (l.drop off).take (k1.length + k2.length) = (l.drop off).take k1.length ++ (l.drop (off + k1.length)).take k2.length := by
              intro l
              rw [List.take_add, List.drop_drop]
            rw [sp, sp] at he
            obtain ⟨a, b, ha, hb, rfl⟩ := eqCells_append _ _ _ _ _ _ _ (by simp; omega) (by simp; omega) he
            have hu : ∃ d, P.underlying f.type = some d := by
              cases e : P.underlying f.type with
              | some d => exact ⟨d, rfl⟩
              | none => cases n <;> simp [flatOf, e] at hk1
            obtain ⟨d, hd⟩ := hu
            obtain ⟨vx, hvx, hfx⟩ := run_part_flat (w := w) hd hinf hsz (fun e => flat_one hk1 hd e) hx (off := off) (by omega)
            obtain ⟨vy, hvy, hfy⟩ := run_part_flat (w := w) hd hinf hsz (fun e => flat_one hk1 hd e) hy (off := off) (by omega)
            have hq := IH f.type k1 hk1 K S w m _ _ vx vy a (by simp; omega) (by simp; omega) (fun d' hd' => by
              rw [hd] at hd'; obtain rfl := Option.some.inj hd'; exact ⟨hfx, hfy⟩) ha
            have hrest := run_eqFields_flat IH hx hy m fs (off + k1.length) k2 b hk2 (by omega) (by omega) hb
            rw [Op.eqFields, if_pos hn, ho]
            simp only [Sem.run_bind, hvx, hvy, hq, Result.andThen_ok]
            cases a
            · simp
            · simpa using hrest
          · cases hf
        · cases hf
      · cases hf

theorem replicate_flatten_cons (len : Nat) (ks : List TK) : (List.replicate (len + 1) ks).flatten = ks ++ (List.replicate len ks).flatten := by
  simp [List.replicate_succ]

theorem run_eqItems_flat {n : Nat} {e : TypeId} {ks : List TK} (IH : EqFlat P n e ks) {d : TypeDesc} {inf : TypeInfo} (hd : P.underlying e = some d) (hi : P.info? e = some inf) (hs : inf.size = ks.length) (h1 : aggB d = false → ks.length = 1)
    {cx cy : Array Value} {xs ys : List AV} (hx : RowR K S xs cx) (hy : RowR K S ys cy) (m : Nat) :
    ∀ (len i : Nat) (r : Bool), i * ks.length + len * ks.length ≤ xs.length → i * ks.length + len * ks.length ≤ ys.length →
      eqCells (List.replicate len ks).flatten ((xs.drop (i * ks.length)).take (len * ks.length)) ((ys.drop (i * ks.length)).take (len * ks.length)) = some r →
      (Op.eqItems (n + m) e inf.size cx cy (List.range' i len)).run P w = .ok r w
  | 0, i, r, _, _, he => by
    simp [eqCells] at he
    subst he
    simp [Op.eqItems]
  | len + 1, i, r, hlx, hly, he => by
    have em : (len + 1) * ks.length = ks.length + len * ks.length := by rw [Nat.add_mul, Nat.one_mul, Nat.add_comm]
    have em2 : (i + 1) * ks.length = i * ks.length + ks.length := by rw [Nat.add_mul, Nat.one_mul]
    rw [em] at hlx hly he
    have sp : ∀ l : List AV, (l.drop (i * ks.length)).take (ks.length + len * ks.length) = (l.drop (i * ks.length)).take ks.length ++ (l.drop ((i + 1) * ks.length)).take (len * ks.length) := by
      intro l
      rw [List.take_add, List.drop_drop, em2]
    rw [replicate_flatten_cons, sp, sp] at he
    obtain ⟨a, b, ha, hb, rfl⟩ := eqCells_append _ _ _ _ _ _ _ (by simp; omega) (by simp; omega) he
    obtain ⟨vx, hvx, hfx⟩ := run_part_flat (w := w) hd hi hs h1 hx (off := i * ks.length) (by omega)
    obtain ⟨vy, hvy, hfy⟩ := run_part_flat (w := w) hd hi hs h1 hy (off := i * ks.length) (by omega)
    have hq := IH K S w m _ _ vx vy a (by simp; omega) (by simp; omega) (fun d' hd' => by
      rw [hd] at hd'; obtain rfl := Option.some.inj hd'; exact ⟨hfx, hfy⟩) ha
    have hrest := run_eqItems_flat IH hd hi hs h1 hx hy m len (i + 1) b (by omega) (by omega) hb
    rw [List.range'_succ, Op.eqItems, hs]
    simp only [Sem.run_bind, hvx, hvy, hq, Result.andThen_ok]
    cases a
    · simp
    · rw [hs] at hrest
      simpa using hrest

theorem run_eq_flat : ∀ (n : Nat) (t : TypeId) (ks : List TK), flatOf P n t = some ks → EqFlat P n t ks
  | 0, t, ks, h => by simp [flatOf] at h
  | n + 1, t, ks, h => by
    intro K S w m xs ys vx vy r hlx hly hf he
    have em : n + 1 + m = (n + m) + 1 := by omega
    unfold flatOf at h
    split at h
    · rename_i k hd
      injection h with h; subst h
      obtain ⟨⟨x, rfl, hx⟩, y, rfl, hy⟩ := hf _ hd
      simp only [eqCells] at he
      split at he
      · rename_i a b ha hb
        injection hb with hb; subst hb
        injection he with he; subst he
        rw [em, run_eqCell hd (.inr (.inl ⟨⟨k, rfl⟩, rfl⟩)) hx hy ha]; simp
      · cases he
    · rename_i hd
      injection h with h; subst h
      obtain ⟨⟨x, rfl, hx⟩, y, rfl, hy⟩ := hf _ hd
      simp only [eqCells] at he
      split at he
      · rename_i a b ha hb
        injection hb with hb; subst hb
        injection he with he; subst he
        rw [em, run_eqCell hd (.inl ⟨rfl, rfl⟩) hx hy ha]; simp
      · cases he
    · rename_i hd
      injection h with h; subst h
      obtain ⟨⟨x, rfl, hx⟩, y, rfl, hy⟩ := hf _ hd
      simp only [eqCells] at he
      split at he
      · rename_i a b ha hb
        injection hb with hb; subst hb
        injection he with he; subst he
        rw [em, run_eqCell hd (.inr (.inr ⟨rfl, rfl⟩)) hx hy ha]; simp
      · cases he
    · rename_i fs hd
      obtain ⟨⟨cx, rfl, hx⟩, cy, rfl, hy⟩ := hf _ hd
      split at h
      · cases h
      · rename_i hst
        have hfs : P.fieldsOf t = fs := by simp [Program.fieldsOf, hd]
        rw [em, run_equalIn_struct w (n + m) t cx cy (by rw [hfs]; exact hd) (by simpa using hst), hfs]
        refine run_eqFields_flat (fun t ks h => run_eq_flat n t ks h) hx hy m fs.toList 0 ks r h (by omega) (by omega) ?_
        simp only [List.drop_zero]
        rw [List.take_of_length_le (by omega), List.take_of_length_le (by omega)]; exact he
    · rename_i len e hd
      obtain ⟨⟨cx, rfl, hx⟩, cy, rfl, hy⟩ := hf _ hd
      split at h
      · rename_i k1 inf hk1 hinf
        split at h
        · rename_i hsz
          injection h with h; subst h
          have hu : ∃ d, P.underlying e = some d := by
            cases e' : P.underlying e with
            | some d => exact ⟨d, rfl⟩
            | none => cases n <;> simp [flatOf, e'] at hk1
          obtain ⟨d, hde⟩ := hu
          have hc : P.cellsOf e = inf.size := by simp [Program.cellsOf, hinf]
          have hl : (List.replicate len k1).flatten.length = len * k1.length := by simp
          rw [hl] at hlx hly
          rw [em, run_equalIn_array w (n + m) cx cy hd hinf, hc, List.range_eq_range']
          refine run_eqItems_flat (run_eq_flat n e k1 hk1) hde hinf hsz (fun e => flat_one hk1 hde e) hx hy m len 0 r (by omega) (by omega) ?_
          simp only [Nat.zero_mul, List.drop_zero]
          rw [List.take_of_length_le (by omega), List.take_of_length_le (by omega)]; exact he
        · cases h
      · cases h
    · cases h

theorem good_eqag (h : Sim base w0 K S w) {op : BinOp} {neg : Bool} (ho : (op = .eql ∧ neg = false) ∨ (op = .neq ∧ neg = true)) {t : TypeId} {ks : List TK} (hk : flatOf P 20 t = some ks) (hg : P.eqGuardType P.depth t = false) {ox oy : Operand} {x y z : AV} {vx vy : Value} (hx : VR K S x vx) (hy : VR K S y vy)
    (hz : eqAgV neg ks x y = some z) (hd : ∃ d, P.underlying t = some d ∧ aggB d = true) : Good base w0 K S w z S ((do let v ← (do eqGuard op t ox oy vx vy; binOp op t vx vy); pure (Next.value v) : Sem Next).run P w) := by
  obtain ⟨d, hd, hag⟩ := hd
  unfold eqAgV at hz
  split at hz
  · rename_i xs ys
    split at hz
    · rename_i hl
      split at hz
      · rename_i r hr
        injection hz with hz; subst hz
        cases hx with
        | ag _ cx hlx hvx =>
          cases hy with
          | ag _ cy hly hvy =>
            have he := run_eq_flat 20 t ks hk K S w 9980 xs ys (.agg cx) (.agg cy) r hl.1 hl.2 (fun d' hd' => by
              rw [hd] at hd'; obtain rfl := Option.some.inj hd'; rw [hag]; exact ⟨⟨cx, rfl, hlx, hvx⟩, cy, rfl, hly, hvy⟩) hr
            rcases ho with ⟨rfl, rfl⟩ | ⟨rfl, rfl⟩
            · refine Good.same h (v := .bool r) ?_ (.b r)
              simp only [Sem.run_bind, run_eqGuard_agg w .eql t ox oy cx cy hg, Result.andThen_ok, run_eql_struct, he, Sem.run_pure]
            · refine Good.same h (v := .bool (!r)) ?_ (.b (!r))
              simp only [Sem.run_bind, run_eqGuard_agg w .neq t ox oy cx cy hg, Result.andThen_ok, run_neq_struct, he, Sem.run_pure]
      · cases hz
    · cases hz
  · cases hz
end
end Go.Proofs.YtljaigbjiheohaaDoor
