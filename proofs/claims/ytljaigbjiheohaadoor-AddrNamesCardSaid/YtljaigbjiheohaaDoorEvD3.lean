/- Proved here: maps: a key is checked, and found, rightly. No condition. -/
import Derived.Test.YtljaigbjiheohaaDoorEvD2
namespace Go.Proofs.YtljaigbjiheohaaDoor
set_option linter.unusedSimpArgs false
set_option linter.unusedVariables false
open Go.RowKit

section
variable {P : Program} {base : Bs} {w0 : World} {K : Ctx} {S : Mem} {w : World}

theorem check_flat (em : Bool) : ∀ (n : Nat) (t : TypeId) (ks : List TK), flatOf P n t = some ks → ∀ (K : Ctx) (S : Mem) (w : World) (m : Nat) (xs : List AV) (v : Value), xs.length = ks.length → (∀ d, P.underlying t = some d → Fits K S (aggB d) xs v) → (Instr.checkKey em (n + m) t v).run P w = .ok () w
  | 0, t, ks, h => by simp [flatOf] at h
  | n + 1, t, ks, h => by
    intro K S w m xs v hl hf
    have em1 : n + 1 + m = (n + m) + 1 := by omega
    have h' := h
    unfold flatOf at h
    split at h
    · rename_i k hd
      rw [em1]
      simp [Instr.checkKey, run_underlying' hd]
    · rename_i hd
      rw [em1]
      simp [Instr.checkKey, run_underlying' hd]
    · rename_i hd
      rw [em1]
      simp [Instr.checkKey, run_underlying' hd]
    · rename_i fs hd
      obtain ⟨c, rfl, hx⟩ := hf _ hd
      split at h
      · cases h
      · rw [em1, Instr.checkKey]
        simp only [Sem.run_bind, run_underlying' hd, Result.andThen_ok]
        rw [← Array.forIn_toList]
        have IH := fun t ks h => check_flat em n t ks h
        have hlen : 0 + ks.length ≤ xs.length := by omega
        clear hl h' hf
        generalize fs.toList = L at h
        generalize 0 = off at h hlen
        induction L generalizing off ks with
        | nil => simp
        | cons f L ih =>
          simp only [flatFs] at h
          split at h
          · cases h
          · rename_i hn
            simp only [not_or, Decidable.not_not] at hn
            obtain ⟨hn, ho⟩ := hn
            split at h
            · rename_i k1 inf hk1 hinf
              split at h
              · rename_i hsz
                split at h
                · rename_i k2 hk2
                  injection h with h; subst h
                  simp only [List.length_append] at hlen
                  have hu : ∃ d, P.underlying f.type = some d := by
                    cases e : P.underlying f.type with
                    | some d => exact ⟨d, rfl⟩
                    | none => cases n <;> simp [flatOf, e] at hk1
                  obtain ⟨d, hd'⟩ := hu
                  obtain ⟨a, p1, hfx⟩ := run_part_flat (w := w) hd' hinf hsz (fun e => flat_one hk1 hd' e) hx (off := off) (by omega)
                  have p2 := IH f.type k1 hk1 K S w m ((xs.drop off).take k1.length) a (by simp; omega) (fun d' hd'' => by
                    rw [hd'] at hd''; obtain rfl := Option.some.inj hd''; exact hfx)
                  subst ho
                  simp only [List.forIn_cons, Sem.run_bind, hn, ne_eq, not_false_eq_true, if_true, Result.andThen_ok, p1, p2, Sem.run_pure]
                  exact ih k2 _ hk2 (by omega)
                · cases h
              · cases h
            · cases h
    · rename_i len e hd
      obtain ⟨c, rfl, hx⟩ := hf _ hd
      split at h
      · rename_i k1 inf hk1 hinf
        split at h
        · rename_i hsz
          injection h with h; subst h
          have hu : ∃ d, P.underlying e = some d := by
            cases e' : P.underlying e with
            | some d => exact ⟨d, rfl⟩
            | none => cases n <;> simp [flatOf, e'] at hk1
          obtain ⟨d, hde⟩ := hu
          have hll : (List.replicate len k1).flatten.length = len * k1.length := by simp
          rw [hll] at hl
          rw [em1, Instr.checkKey]
          simp only [Sem.run_bind, run_underlying' hd, Result.andThen_ok]
          simp only [Std.Legacy.Range.forIn_eq_forIn_range', Std.Legacy.Range.size, Nat.sub_zero, Nat.add_one_sub_one, Nat.div_one]
          have hlen : (0 + len) * k1.length ≤ xs.length := by rw [Nat.zero_add]; omega
          clear hl hll h' hf hd
          generalize 0 = i0 at hlen ⊢
          induction len generalizing i0 with
          | zero => simp
          | succ len ih =>
            have e2 : (i0 + (len + 1)) * k1.length = i0 * k1.length + k1.length + len * k1.length := by
              rw [Nat.add_mul, Nat.add_mul, Nat.one_mul]; omega
            obtain ⟨a, p1, hfx⟩ := run_part_flat (w := w) hde hinf hsz (fun e => flat_one hk1 hde e) hx (off := i0 * inf.size) (by rw [hsz]; omega)
            have p2 := check_flat em n e k1 hk1 K S w m ((xs.drop (i0 * inf.size)).take k1.length) a (by simp; rw [hsz]; omega) (fun d' hd'' => by
              rw [hde] at hd''; obtain rfl := Option.some.inj hd''; exact hfx)
            rw [List.range'_succ]
            simp only [List.forIn_cons, Sem.run_bind, run_sizeOf' hinf, Result.andThen_ok, p1, p2, Sem.run_pure]
            exact ih (i0 + 1) (by rw [show i0 + 1 + len = i0 + (len + 1) by omega]; exact hlen)
        · cases h
      · cases h
    · cases h

theorem eqCell_cases {k : TK} {x y : AV} {r : Bool} (h : eqCell k x y = some r) : (k = .int ∧ ∃ a m n, x = .i a m ∧ y = .i a n ∧ r = (m == n)) ∨ (k = .bool ∧ ∃ m n, x = .b m ∧ y = .b n ∧ r = (m == n)) ∨ (k = .str ∧ ∃ m n, x = .s m ∧ y = .s n ∧ r = (m == n)) := by
  unfold eqCell at h
  split at h
  · split at h
    · rename_i e; subst e
      exact .inl ⟨rfl, _, _, _, rfl, rfl, (Option.some.inj h).symm⟩
    · cases h
  · exact .inr (.inl ⟨rfl, _, _, rfl, rfl, (Option.some.inj h).symm⟩)
  · exact .inr (.inr ⟨rfl, _, _, rfl, rfl, (Option.some.inj h).symm⟩)
  · cases h

/-- What was found. -/
def Found (ag : Bool) (ks : List TK) (xs : List AV) (es : List (AV × AV × Nat)) (E : List MapEntry) (i : Nat) (r : Option Nat) (o : Option (Nat × Value)) : Prop :=
  (r = none ∧ o = none) ∨ ∃ j e a ys, r = some (i + j) ∧ o = some (i + j, e.val) ∧ E[j]? = some e ∧ es[j]? = some a ∧ keyC ag ks a.1 = some ys ∧ eqCells ks xs ys = some true

theorem Found.cons {ag : Bool} {ks : List TK} {xs : List AV} {es : List (AV × AV × Nat)} {E : List MapEntry} {i : Nat} {r : Option Nat} {o : Option (Nat × Value)} {a : AV × AV × Nat} {e : MapEntry} (h : Found ag ks xs es E (i + 1) r o) : Found ag ks xs (a :: es) (e :: E) i r o := by
  rcases h with h | ⟨j, e', a', ys, h1, h2, h3, h4, h5, h6⟩
  · exact .inl h
  · exact .inr ⟨j + 1, e', a', ys, by rw [h1]; congr 1; omega, by rw [h2]; congr 2; omega, by simpa using h3, by simpa using h4, h5, h6⟩

theorem asking_ok {kt : TypeId} {d : TypeDesc} {ks : List TK} (hk : flatOf P 20 kt = some ks) (hd : P.underlying kt = some d) {xs : List AV} {vk : Value} (hl : xs.length = ks.length) (hf : Fits K S (aggB d) xs vk) :
    ∀ (es : List (AV × AV × Nat)) (E : List MapEntry) (i : Nat) (r : Option Nat), es.length = E.length → (∀ j (h : j < es.length) (h' : j < E.length), VR K S (es[j]).1 (E[j]).key) → findK (aggB d) ks xs es i = some r →
    ∃ o, (Instr.findAsking kt vk E i).run P w = .ok o w ∧ Found (aggB d) ks xs es E i r o
  | [], [], i, r, _, _, h => by
    simp only [findK, Option.some.injEq] at h; subst h
    exact ⟨none, by simp [Instr.findAsking], .inl ⟨rfl, rfl⟩⟩
  | a :: es, e :: E, i, r, hle, hV, h => by
    have h0 : VR K S a.1 e.key := hV 0 (by simp) (by simp)
    simp only [findK] at h
    split at h
    · rename_i ys hys
      obtain ⟨hyl, hfy⟩ := keyC_ok h0 hys
      have he : ∀ b, eqCells ks xs ys = some b → (Op.equal kt vk e.key).run P w = .ok b w := fun b hb =>
        run_eq_flat 20 kt ks hk K S w 9980 xs ys vk e.key b hl hyl (fun d' hd' => by rw [hd] at hd'; obtain rfl := Option.some.inj hd'; exact ⟨hf, hfy⟩) hb
      split at h
      · rename_i hb
        injection h with h; subst h
        refine ⟨some (i, e.val), ?_, .inr ⟨0, e, a, ys, rfl, rfl, rfl, rfl, hys, hb⟩⟩
        rw [Instr.findAsking]
        simp only [Sem.run_bind, he true hb, Result.andThen_ok, if_true, Sem.run_pure]
      · rename_i hb
        obtain ⟨o, ho, hF⟩ := asking_ok hk hd hl hf es E (i + 1) r (by simpa using hle) (fun j h1 h2 => hV (j + 1) (by simp; omega) (by simp; omega)) h
        refine ⟨o, ?_, hF.cons⟩
        rw [Instr.findAsking]
        simp only [Sem.run_bind, he false hb, Result.andThen_ok, Bool.false_eq_true, if_false]
        exact ho
      · cases h
    · cases h
  | [], _ :: _, _, _, h, _, _ => by simp at h
  | _ :: _, [], _, _, h, _, _ => by simp at h

theorem now_ok {d : TypeDesc} {ks : List TK} (hks : (d = .bool ∧ ks = [.bool]) ∨ ((∃ i, d = .int i) ∧ ks = [.int]) ∨ (d = .string ∧ ks = [.str])) {xs : List AV} {vk : Value} (hf : Fits K S false xs vk) :
    ∀ (es : List (AV × AV × Nat)) (E : List MapEntry) (i : Nat) (r : Option Nat), es.length = E.length → (∀ j (h : j < es.length) (h' : j < E.length), VR K S (es[j]).1 (E[j]).key) → findK false ks xs es i = some r →
    ∃ o, Instr.findNow d vk E i = some o ∧ Found false ks xs es E i r o
  | [], [], i, r, _, _, h => by
    simp only [findK, Option.some.injEq] at h; subst h
    exact ⟨none, rfl, .inl ⟨rfl, rfl⟩⟩
  | a :: es, en :: E, i, r, hle, hV, h => by
    have h0 : VR K S a.1 en.key := hV 0 (by simp) (by simp)
    simp only [findK] at h
    split at h
    · rename_i ys hys
      obtain ⟨hyl, hfy⟩ := keyC_ok h0 hys
      have hsame : ∀ b, eqCells ks xs ys = some b → Instr.sameNow d vk en.key = some b := by
        intro b hb
        simp only [Fits, Bool.false_eq_true, if_false] at hf hfy
        obtain ⟨x, rfl, hx⟩ := hf
        obtain ⟨y, rfl, hy⟩ := hfy
        have key : ∀ k, ks = [k] → eqCell k x y = some b := by
          intro k e
          subst e
          simp only [eqCells] at hb
          split at hb
          · rename_i a b' ha hb'
            injection hb' with hb'; subst hb'
            rw [ha, ← hb]; simp
          · cases hb
        rcases hks with ⟨rfl, e⟩ | ⟨⟨q, rfl⟩, e⟩ | ⟨rfl, e⟩
        · rcases eqCell_cases (key _ e) with ⟨e1, _⟩ | ⟨_, m, n, rfl, rfl, rfl⟩ | ⟨e1, _⟩
          · cases e1
          · generalize en.key = v at hy
            cases hx; cases hy; rfl
          · cases e1
        · rcases eqCell_cases (key _ e) with ⟨_, a, m, n, rfl, rfl, rfl⟩ | ⟨e1, _⟩ | ⟨e1, _⟩
          · generalize en.key = v at hy
            cases hx; cases hy; simp [Instr.sameNow]
          · cases e1
          · cases e1
        · rcases eqCell_cases (key _ e) with ⟨e1, _⟩ | ⟨e1, _⟩ | ⟨_, m, n, rfl, rfl, rfl⟩
          · cases e1
          · cases e1
          · generalize en.key = v at hy
            cases hx; cases hy
            simp [Instr.sameNow, beq_toListBytes]
      split at h
      · rename_i hb
        injection h with h; subst h
        exact ⟨some (i, en.val), by simp [Instr.findNow, hsame true hb], .inr ⟨0, en, a, ys, rfl, rfl, rfl, rfl, hys, hb⟩⟩
      · rename_i hb
        obtain ⟨o, ho, hF⟩ := now_ok hks hf es E (i + 1) r (by simpa using hle) (fun j h1 h2 => hV (j + 1) (by simp; omega) (by simp; omega)) h
        exact ⟨o, by simp [Instr.findNow, hsame false hb, ho], hF.cons⟩
      · cases h
    · cases h
  | [], _ :: _, _, _, h, _, _ => by simp at h
  | _ :: _, [], _, _, h, _, _ => by simp at h
end
end Go.Proofs.YtljaigbjiheohaaDoor
