/- Proved here: blocks of the abstract memory that nothing leads to may be left out, the others may be numbered anew. No condition. -/
import Derived.Test.YtljaigbjiheohaaDoorEvR
namespace Go.Proofs.YtljaigbjiheohaaDoor
set_option linter.unusedSimpArgs false
set_option linter.unusedVariables false
open Go.RowKit

/-! ### Numbers anew: below n all stays; 'g i': the new number of block i, and its version -/
mutual
def ren (n : Nat) (g : Nat → Option (Nat × Nat)) : AV → AV
  | .p i o v => if i < n then .p i o v else match g i with
    | some (j, v') => if v = v' then .p j o 0 else .u
    | none => .u
  | .sl i o v l c x => if i < n then .sl i o v l c x else match g i with
    | some (j, v') => if v = v' then .sl j o 0 l c x else .u
    | none => .u
  | .m i => if i < n then .m i else match g i with
    | some (j, v') => if v' = 0 then .m j else .u
    | none => .u
  | .y i => if i < n then .y i else .u
  | .f fn a b => .f fn (renL n g a) (renL n g b)
  | .it t v => .it t (ren n g v)
  | .ag cs => .ag (renL n g cs)
  | .tu cs => .tu (renL n g cs)
  | .u => .u
  | .ud => .ud
  | .b x => .b x
  | .i k z => .i k z
  | .s l => .s l
  | .pn => .pn
  | .sn => .sn
  | .se => .se
  | .mn => .mn
  | .nf => .nf
  | .ni => .ni
def renL (n : Nat) (g : Nat → Option (Nat × Nat)) : List AV → List AV
  | [] => []
  | x :: r => ren n g x :: renL n g r
end

theorem renL_eq (n : Nat) (g : Nat → Option (Nat × Nat)) : ∀ l, renL n g l = l.map (ren n g)
  | [] => by simp [renL]
  | x :: r => by rw [renL, renL_eq n g r]; rfl

theorem renL_length (n : Nat) (g : Nat → Option (Nat × Nat)) (l : List AV) : (renL n g l).length = l.length := by rw [renL_eq]; simp
theorem renL_getD (n : Nat) (g : Nat → Option (Nat × Nat)) (l : List AV) (k : Nat) : (renL n g l).getD k .u = ren n g (l.getD k .u) := by
  rw [renL_eq, List.getD_eq_getElem?_getD, List.getD_eq_getElem?_getD, List.getElem?_map]
  cases l[k]? with
  | none => simp [ren]
  | some x => simp

/-- A block with its contents numbered anew, at version v. -/
def renB (n : Nat) (g : Nat → Option (Nat × Nat)) (ver : Nat) : Blk → Blk
  | .cells cs _ o r => .cells (renL n g cs) ver o r
  | .map es cl => .map (es.map fun e => (ren n g e.1, ren n g e.2.1, e.2.2)) cl
  | B => B

/-- Blocks that can be numbered anew. -/
def Blk.plain : Blk → Bool
  | .cells .. => true
  | .map .. => true
  | _ => false

/-- What an entry's memory stands for leads nowhere beyond it. -/
theorem VR.closed {K : Ctx} {S : Mem} {x : AV} {v : Value} (h : VR K S x v) (g : Nat → Option (Nat × Nat)) : ren S.length g x = x := by
  have lt : ∀ {i : Nat} {B : Blk}, S[i]? = some B → i < S.length := fun h => (List.getElem?_eq_some_iff.1 h).1
  have lst : ∀ (x : List AV) (x' : Array Value), (∀ k, ren S.length g (x.getD k .u) = x.getD k .u) → renL S.length g x = x := by
    intro x x' hk
    rw [renL_eq]
    apply List.ext_getElem (by simp)
    intro k h1 h2
    have := hk k
    rw [List.getElem_map]
    simpa [List.getD_eq_getElem?_getD, h2] using this
  induction h with
  | u v => simp [ren]
  | ud => simp [ren]
  | b x => simp [ren]
  | i k n => simp [ren]
  | s l => simp [ren]
  | pn => simp [ren]
  | p i off v a B hB hv ha => rw [ren, if_pos (lt hB)]
  | sn => simp [ren]
  | se => simp [ren]
  | sl i off v len cap ex a c B hB hv hl hc he ha => rw [ren, if_pos (lt hB)]
  | mn => simp [ren]
  | m i r B hB hr => rw [ren, if_pos (lt hB)]
  | nf => simp [ren]
  | f fn x y x' y' hx hy _ _ ih ih' => rw [ren, lst x x' ih, lst y y' ih']
  | y i r B hB hr => rw [ren, if_pos (lt hB)]
  | ni => simp [ren]
  | it t x v _ ih => rw [ren, ih]
  | ag x x' hx _ ih => rw [ren, lst x x' ih]
  | tu x x' hx _ ih => rw [ren, lst x x' ih]

/-- What is asked of the new numbers. -/
structure Ren (S0 : Mem) (g : Nat → Option (Nat × Nat)) (S S2 : Mem) : Prop where
  len : S0.length ≤ S2.length
  num : ∀ i j v, g i = some (j, v) → S0.length ≤ i ∧ S0.length ≤ j ∧ ∃ B, S[i]? = some B ∧ B.ver = v ∧ S2[j]? = some (renB S0.length g 0 B)
  inj : ∀ i i' j v v', g i = some (j, v) → g i' = some (j, v') → i = i'
  old : ∀ i B2, i < S0.length → S2[i]? = some B2 → ∃ B, S[i]? = some B ∧ ((S0[i]? = some B ∧ B2 = B) ∨ (B.plain = true ∧ B2 = renB S0.length g B.ver B))
  new : ∀ j B2, S0.length ≤ j → S2[j]? = some B2 → ∃ i v B, g i = some (j, v) ∧ S[i]? = some B ∧ B.plain = true

theorem renB_rw (n : Nat) (g : Nat → Option (Nat × Nat)) (v : Nat) (B : Blk) : (renB n g v B).rw = B.rw := by cases B <;> rfl
theorem renB_opn (n : Nat) (g : Nat → Option (Nat × Nat)) (v : Nat) (B : Blk) : (renB n g v B).opn = B.opn := by cases B <;> rfl
theorem renB_ver (n : Nat) (g : Nat → Option (Nat × Nat)) (B : Blk) : (renB n g B.ver B).ver = B.ver := by cases B <;> rfl
theorem renB_ver0 (n : Nat) (g : Nat → Option (Nat × Nat)) (B : Blk) : (renB n g 0 B).ver = 0 := by cases B <;> rfl

theorem wk_ren {S0 S S2 : Mem} {g : Nat → Option (Nat × Nat)} {e e2 : Env} (hR : Ren S0 g S S2) (he : ∀ t, e2.get t = ren S0.length g (e.get t) ∨ e2.get t = .u) : Wk S0 e S e2 S2 := by
  intro base w0 K0 wE K w h0 h hst
  -- the new context
  have inv : ∀ j, ∃ i, (j < S0.length → i = j) ∧ (S0.length ≤ j → j < S2.length → ∃ v, g i = some (j, v)) := by
    intro j
    by_cases hj : j < S0.length
    · exact ⟨j, fun _ => rfl, fun h => by omega⟩
    · by_cases hj2 : j < S2.length
      · obtain ⟨i, v, B, hg, _⟩ := hR.new j _ (by omega) (List.getElem?_eq_getElem hj2)
        exact ⟨i, fun h => absurd h hj, fun _ _ => ⟨v, hg⟩⟩
      · exact ⟨0, fun h => absurd h hj, fun _ h => absurd h hj2⟩
  obtain ⟨iv, hiv⟩ := Classical.axiomOfChoice inv
  have hSl : S0.length ≤ S.length := hst.ext.len
  have iold : ∀ j, j < S0.length → iv j = j := fun j hj => (hiv j).1 hj
  have inew : ∀ j, S0.length ≤ j → j < S2.length → ∃ v, g (iv j) = some (j, v) := fun j => (hiv j).2
  have ig : ∀ i j v, g i = some (j, v) → iv j = i := fun i j v hg => by
    obtain ⟨h1, h2, B, h3, h4, h5⟩ := hR.num i j v hg
    obtain ⟨v', hg'⟩ := inew j h2 (List.getElem?_eq_some_iff.1 h5).1
    exact hR.inj _ _ _ _ _ hg' hg
  obtain ⟨K2, hK2⟩ : ∃ K2 : Ctx, K2 = ⟨fun j => K.μ (iv j), fun j => K.σ (iv j)⟩ := ⟨_, rfl⟩
  have hμ : ∀ j, K2.μ j = K.μ (iv j) := fun j => by rw [hK2]
  have hσ : ∀ j, K2.σ j = K.σ (iv j) := fun j => by rw [hK2]
  -- old blocks
  have hold : ∀ i B, i < S0.length → S[i]? = some B → ∃ B2, S2[i]? = some B2 ∧ B2.ver = B.ver ∧ B2.opn = B.opn ∧ B2.rw = B.rw := by
    intro i B hi hB
    have hi2 : i < S2.length := Nat.lt_of_lt_of_le hi hR.len
    obtain ⟨B', hB', h⟩ := hR.old i _ hi (List.getElem?_eq_getElem hi2)
    rw [hB] at hB'; obtain rfl := Option.some.inj hB'
    refine ⟨_, List.getElem?_eq_getElem hi2, ?_⟩
    rcases h with ⟨_, h⟩ | ⟨_, h⟩
    · rw [h]; exact ⟨rfl, rfl, rfl⟩
    · rw [h]; exact ⟨renB_ver _ _ _, renB_opn _ _ _ _, renB_rw _ _ _ _⟩
  -- values
  have hV : ∀ x v, VR K S x v → VR K2 S2 (ren S0.length g x) v := by
    intro x v hx
    have lst : ∀ (x : List AV) (x' : Array Value), x.length = x'.size → (∀ k, VR K2 S2 (ren S0.length g (x.getD k .u)) (x'.getD k undef)) → (renL S0.length g x).length = x'.size ∧ ∀ k, VR K2 S2 ((renL S0.length g x).getD k .u) (x'.getD k undef) :=
      fun x x' h1 h2 => ⟨by rw [renL_length, h1], fun k => by rw [renL_getD]; exact h2 k⟩
    induction hx with
    | u v => rw [ren]; exact .u v
    | ud => rw [ren]; exact .ud
    | b x => rw [ren]; exact .b x
    | i k n => rw [ren]; exact .i k n
    | s l => rw [ren]; exact .s l
    | pn => rw [ren]; exact .pn
    | p i off v a B hB hv ha =>
      rw [ren]
      split
      · rename_i hi
        obtain ⟨B2, hB2, e1, e2, _⟩ := hold i B hi hB
        exact .p i off v a B2 hB2 (by omega) fun e => by rw [hμ, iold i hi]; exact ha (by omega)
      · split
        · rename_i j v' hg
          split
          · rename_i hvv
            obtain ⟨h1, h2, B', h3, h4, h5⟩ := hR.num _ _ _ hg
            rw [hB] at h3; obtain rfl := Option.some.inj h3
            exact .p j off 0 a _ h5 (Nat.zero_le _) fun _ => by rw [hμ, ig _ _ _ hg]; exact ha (by omega)
          · exact .u _
        · exact .u _
    | sn => rw [ren]; exact .sn
    | se a c => rw [ren]; exact .se a c
    | sl i off v len cap ex a c B hB hv hl hc he ha =>
      rw [ren]
      split
      · rename_i hi
        obtain ⟨B2, hB2, e1, e2, _⟩ := hold i B hi hB
        exact .sl i off v len cap ex a c B2 hB2 (by omega) hl hc he fun e => by
          obtain ⟨q1, q2⟩ := ha (by omega)
          rw [hμ, hσ, iold i hi, e2]; exact ⟨q1, q2⟩
      · split
        · rename_i j v' hg
          split
          · rename_i hvv
            obtain ⟨h1, h2, B', h3, h4, h5⟩ := hR.num _ _ _ hg
            rw [hB] at h3; obtain rfl := Option.some.inj h3
            exact .sl j off 0 len cap ex a c _ h5 (Nat.zero_le _) hl hc he fun _ => by
              obtain ⟨q1, q2⟩ := ha (by omega)
              rw [hμ, hσ, ig _ _ _ hg, renB_opn]; exact ⟨q1, q2⟩
          · exact .u _
        · exact .u _
    | mn => rw [ren]; exact .mn
    | m i r B hB hr =>
      rw [ren]
      split
      · rename_i hi
        obtain ⟨B2, hB2, e1, e2, _⟩ := hold i B hi hB
        exact .m i r B2 hB2 fun e => by rw [hμ, iold i hi]; exact hr (by omega)
      · split
        · rename_i j v' hg
          split
          · rename_i hvv
            obtain ⟨h1, h2, B', h3, h4, h5⟩ := hR.num _ _ _ hg
            rw [hB] at h3; obtain rfl := Option.some.inj h3
            exact .m j r _ h5 fun _ => by rw [hμ, ig _ _ _ hg]; exact hr (by omega)
          · exact .u _
        · exact .u _
    | nf => rw [ren]; exact .nf
    | f fn x y x' y' hx hy _ _ ih ih' =>
      rw [ren]
      obtain ⟨a1, a2⟩ := lst x x' hx ih
      obtain ⟨b1, b2⟩ := lst y y' hy ih'
      exact .f fn _ _ x' y' a1 b1 a2 b2
    | y i r B hB hr =>
      rw [ren]
      split
      · rename_i hi
        obtain ⟨B2, hB2, e1, e2, _⟩ := hold i B hi hB
        exact .y i r B2 hB2 fun e => by rw [hμ, iold i hi]; exact hr (by omega)
      · exact .u _
    | ni => rw [ren]; exact .ni
    | it t x v _ ih => rw [ren]; exact .it t _ v ih
    | ag x x' hx _ ih =>
      rw [ren]
      obtain ⟨a1, a2⟩ := lst x x' hx ih
      exact .ag _ x' a1 a2
    | tu x x' hx _ ih =>
      rw [ren]
      obtain ⟨a1, a2⟩ := lst x x' hx ih
      exact .tu _ x' a1 a2
  -- blocks
  have blk : ∀ i j B ver, B.plain = true → BRel base K S w i B → K2.μ j = K.μ i → K2.σ j = K.σ i → BRel base K2 S2 w j (renB S0.length g ver B) := by
    intro i j B ver hp hB em es
    cases B with
    | cells cs v o r =>
      obtain ⟨c, et, fz, h1, h2, h3, h4, h5, h6⟩ := hB
      exact ⟨c, et, fz, by rw [em]; exact h1, by rw [es]; exact h2, by rw [renL_length]; exact h3, fun e => by rw [renL_length]; exact h4 e, fun k hk => by
        rw [renL_length] at hk
        rw [renL_getD]; exact hV _ _ (h5 k hk), by rw [em]; exact h6⟩
    | map E cl =>
      obtain ⟨E', h1, h2, h3, h4⟩ := hB
      refine ⟨E', by rw [em]; exact h1, by simpa using h2, by rw [em]; exact h3, fun k hk hk' => ?_⟩
      simp only [List.length_map] at hk
      obtain ⟨q1, q2, q3⟩ := h4 k hk hk'
      simp only [List.getElem_map]
      exact ⟨hV _ _ q1, hV _ _ q2, q3⟩
    | dfr l => cases hp
    | loop f p env st pe => cases hp
  have clo : ∀ i B, S0[i]? = some B → BRel base K S w i B → K2.μ i = K.μ i → K2.σ i = K.σ i → BRel base K2 S2 w i B := by
    intro i B hB0 hB em es
    have hV' : ∀ x v v0, VR K0 S0 x v0 → VR K S x v → VR K2 S2 x v := fun x v v0 h1 h2 => by
      have := hV x v h2
      rwa [h1.closed g] at this
    have hB' := h0.blk i B hB0
    cases B with
    | cells cs v o r =>
      obtain ⟨c, et, fz, h1, h2, h3, h4, h5, h6⟩ := hB
      obtain ⟨c', _, _, _, _, _, _, h5', _⟩ := hB'
      exact ⟨c, et, fz, by rw [em]; exact h1, by rw [es]; exact h2, h3, h4, fun k hk => hV' _ _ _ (h5' k hk) (h5 k hk), by rw [em]; exact h6⟩
    | map E cl =>
      obtain ⟨E', h1, h2, h3, h4⟩ := hB
      obtain ⟨E0, _, z2, _, z4⟩ := hB'
      exact ⟨E', by rw [em]; exact h1, h2, by rw [em]; exact h3, fun k hk hk' => ⟨hV' _ _ _ (z4 k hk (by omega)).1 (h4 k hk hk').1, hV' _ _ _ (z4 k hk (by omega)).2.1 (h4 k hk hk').2.1, (h4 k hk hk').2.2⟩⟩
    | dfr l => exact ⟨by rw [em]; exact hB.1, by rw [em]; exact hB.2⟩
    | loop f p env st pe =>
      obtain ⟨r, h1, h2, h3, h4, h5, h6⟩ := hB
      obtain ⟨r0, _, _, _, _, _, z6⟩ := hB'
      exact ⟨r, by rw [em]; exact h1, h2, h3, h4, by rw [em]; exact h5, fun t => hV' _ _ _ (z6 t) (h6 t)⟩
  refine ⟨K2, ⟨fun j B2 hB2 => ?_, fun a b ha hb e => ?_, h.below, h.hb, h.door⟩, fun t v hv => ?_, ⟨⟨hR.len, fun i B hB => ?_⟩, hst.os, hst.tape, hst.output, hst.size, hst.keep, fun j B2 hB2 => ?_⟩⟩
  · by_cases hj : j < S0.length
    · obtain ⟨B, hB, hc⟩ := hR.old j B2 hj hB2
      have em : K2.μ j = K.μ j := by rw [hμ, iold j hj]
      have es : K2.σ j = K.σ j := by rw [hσ, iold j hj]
      rcases hc with ⟨hc, rfl⟩ | ⟨hp, rfl⟩
      · exact clo j _ hc (h.blk j _ hB) em es
      · exact blk j j B _ hp (h.blk j B hB) em es
    · obtain ⟨i, v, B, hg, hB, hp⟩ := hR.new j B2 (by omega) hB2
      obtain ⟨_, _, B', h3, h4, h5⟩ := hR.num _ _ _ hg
      rw [hB] at h3; obtain rfl := Option.some.inj h3
      rw [hB2] at h5; obtain rfl := Option.some.inj h5
      have hi := ig _ _ _ hg
      exact blk i j B 0 hp (h.blk i B hB) (by rw [hμ, hi]) (by rw [hσ, hi])
  · have key : ∀ j, j < S2.length → iv j < S.length ∧ (S0.length ≤ j → S0.length ≤ iv j) := fun j hj => by
      by_cases hj' : j < S0.length
      · rw [iold j hj']; exact ⟨by omega, fun h => h⟩
      · obtain ⟨v, hg⟩ := inew j (by omega) hj
        obtain ⟨h1, _, B, h3, _⟩ := hR.num _ _ _ hg
        exact ⟨(List.getElem?_eq_some_iff.1 h3).1, fun _ => h1⟩
    rw [hμ, hμ] at e
    have hi := h.inj _ _ (key a ha).1 (key b hb).1 e
    by_cases ha' : a < S0.length <;> by_cases hb' : b < S0.length
    · rwa [iold a ha', iold b hb'] at hi
    · have := (key b hb).2 (by omega)
      rw [iold a ha'] at hi; omega
    · have := (key a ha).2 (by omega)
      rw [iold b hb'] at hi; omega
    · obtain ⟨v, hg⟩ := inew a (by omega) ha
      obtain ⟨v', hg'⟩ := inew b (by omega) hb
      rw [hi, hg'] at hg
      simp only [Option.some.injEq, Prod.mk.injEq] at hg
      exact hg.1.symm
  · rcases he t with h | h
    · rw [h]; exact hV _ _ hv
    · rw [h]; exact .u _
  · have hi : i < S0.length := (List.getElem?_eq_some_iff.1 hB).1
    obtain ⟨B', hB', h1, h2⟩ := hst.ext.blk i B hB
    obtain ⟨B2, hB2, e1, e2, _⟩ := hold i B' hi hB'
    exact ⟨B2, hB2, by omega, fun e => by
      obtain ⟨q1, q2, q3⟩ := h2 (by omega)
      exact ⟨by rw [hμ, iold i hi]; exact q1, by rw [hσ, iold i hi]; exact q2, by rw [e2]; exact q3⟩⟩
  · by_cases hj : j < S0.length
    · have hjs : j < S.length := by omega
      obtain ⟨B2', hB2', _, _, e3⟩ := hold j _ hj (List.getElem?_eq_getElem hjs)
      rw [hB2] at hB2'; obtain rfl := Option.some.inj hB2'
      rcases hst.own j _ (List.getElem?_eq_getElem hjs) with ⟨B0, hB0, h1, h2⟩ | h1
      · exact .inl ⟨B0, hB0, by rw [e3]; exact h1, by rw [hμ, iold j hj]; exact h2⟩
      · exact .inr (by rw [hμ, iold j hj]; exact h1)
    · obtain ⟨i, v, B, hg, hB, hp⟩ := hR.new j B2 (by omega) hB2
      have hi := ig _ _ _ hg
      obtain ⟨hn, _⟩ := hR.num _ _ _ hg
      rcases hst.own i B hB with ⟨B0, hB0, _⟩ | h1
      · have := (List.getElem?_eq_some_iff.1 hB0).1; omega
      · exact .inr (by rw [hμ, hi]; exact h1)

/-! ### All new blocks are left out -/
theorem ren_drop {S0 L : Mem} : Ren S0 (fun _ => none) (S0 ++ L) S0 :=
  ⟨Nat.le_refl _, fun i j v h => (by cases h), fun i i' j v v' h => (by cases h), fun i B2 hi hB => ⟨B2, grow_get hB, .inl ⟨hB, rfl⟩⟩, fun j B2 hj hB => by
    have := (List.getElem?_eq_some_iff.1 hB).1; omega⟩

/-- A value that leads to nothing new. -/
def AV.flat (n : Nat) (x : AV) : Prop := ren n (fun _ => none) x = x

theorem wkv_drop {S0 L : Mem} {x : AV} (hx : x.flat S0.length) : WkV S0 x S0 x (S0 ++ L) :=
  wk_ren ren_drop fun t => by
    by_cases ht : t = 0
    · subst ht; left; show x = ren _ _ (Env.get [(0, x)] 0); rw [get_put_same]; exact hx.symm
    · right; rw [get_put_ne _ _ (Ne.symm ht)]; rfl

theorem wkv_same {S0 S : Mem} {x : AV} : WkV S0 x S x S := Wk.refl S0 _ S

/-! ### Some of the new blocks are kept -/
def gKeep (n : Nat) (L : Mem) (keep : List Nat) : Nat → Option (Nat × Nat) := fun i => if i < n then none else match keep.findIdx? (· == i - n) with
  | some p => match L[i - n]? with
    | some B => some (n + p, B.ver)
    | none => none
  | none => none

def keepB (n : Nat) (L : Mem) (keep : List Nat) : Mem := keep.map fun k => renB n (gKeep n L keep) 0 (L.getD k (.dfr false))

theorem gKeep_some {n : Nat} {L : Mem} {keep : List Nat} {i j v : Nat} (h : gKeep n L keep i = some (j, v)) : ∃ k p B, i = n + k ∧ j = n + p ∧ keep[p]? = some k ∧ L[k]? = some B ∧ B.ver = v := by
  unfold gKeep at h
  split at h
  · cases h
  · rename_i hi
    split at h
    · rename_i p hp
      split at h
      · rename_i B hB
        simp only [Option.some.injEq, Prod.mk.injEq] at h
        obtain ⟨rfl, rfl⟩ := h
        obtain ⟨hlt, h1⟩ := List.findIdx?_eq_some_iff_getElem.1 hp
        refine ⟨i - n, p, B, by omega, rfl, ?_, hB, rfl⟩
        have := h1.1
        simp only [beq_iff_eq] at this
        rw [List.getElem?_eq_getElem hlt, this]
      · cases h
    · cases h

theorem ren_keep {S0 S1 S1' L : Mem} {keep : List Nat} (hl : S1.length = S0.length) (hl' : S1'.length = S0.length) (hk : ∀ k ∈ keep, ∃ B, L[k]? = some B ∧ B.plain = true) (hd : keep.Nodup)
    (hc : ∀ (i : Nat) (B : Blk), S1[i]? = some B → (S0[i]? = some B ∧ S1'[i]? = some B) ∨ (B.plain = true ∧ S1'[i]? = some (renB S0.length (gKeep S0.length L keep) B.ver B))) :
    Ren S0 (gKeep S0.length L keep) (S1 ++ L) (S1' ++ keepB S0.length L keep) := by
  have atL : ∀ k, (S1 ++ L)[S0.length + k]? = L[k]? := fun k => by rw [List.getElem?_append_right (by omega)]; congr 1; omega
  have atK : ∀ p, (S1' ++ keepB S0.length L keep)[S0.length + p]? = (keepB S0.length L keep)[p]? := fun k => by rw [List.getElem?_append_right (by omega)]; congr 1; omega
  refine ⟨by simp [hl'], fun i j v h => ?_, fun i i' j v v' h h' => ?_, fun i B2 hi hB => ?_, fun j B2 hj hB => ?_⟩
  · obtain ⟨k, p, B, rfl, rfl, h1, h2, h3⟩ := gKeep_some h
    refine ⟨by omega, by omega, B, by rw [atL]; exact h2, h3, ?_⟩
    rw [atK, keepB, List.getElem?_map, h1]
    simp [List.getD_eq_getElem?_getD, h2]
  · obtain ⟨k, p, B, rfl, rfl, h1, h2, h3⟩ := gKeep_some h
    obtain ⟨k', p', B', rfl, hp, h1', h2', h3'⟩ := gKeep_some h'
    have : p = p' := by omega
    subst this
    rw [h1] at h1'; injection h1' with h1'; omega
  · rw [List.getElem?_append_left (by omega)] at hB
    have hi1 : i < S1.length := by omega
    refine ⟨S1[i], by rw [List.getElem?_append_left hi1]; exact List.getElem?_eq_getElem hi1, ?_⟩
    rcases hc i _ (List.getElem?_eq_getElem hi1) with ⟨h1, h2⟩ | ⟨h1, h2⟩
    · rw [hB] at h2; exact .inl ⟨h1, Option.some.inj h2⟩
    · rw [hB] at h2; exact .inr ⟨h1, Option.some.inj h2⟩
  · obtain ⟨p, rfl⟩ : ∃ p, j = S0.length + p := ⟨j - S0.length, by omega⟩
    rw [atK, keepB, List.getElem?_map] at hB
    obtain ⟨k, hkp, _⟩ := Option.map_eq_some_iff.1 hB
    obtain ⟨B, hB', hp⟩ := hk k (List.mem_of_getElem? hkp)
    refine ⟨S0.length + k, B.ver, B, ?_, by rw [atL]; exact hB', hp⟩
    unfold gKeep
    rw [if_neg (by omega)]
    have e1 : S0.length + k - S0.length = k := by omega
    rw [e1]
    have hf : keep.findIdx? (· == k) = some p := by
      obtain ⟨hlt, hkk⟩ := List.getElem?_eq_some_iff.1 hkp
      rw [List.findIdx?_eq_some_iff_getElem]
      refine ⟨hlt, by simp [hkk], fun q hq => ?_⟩
      simp only [Bool.not_eq_true, beq_eq_false_iff_ne, ne_eq]
      intro e
      have := (List.getElem_inj (h₀ := by omega) (h₁ := hlt) hd).1 (e.trans hkk.symm)
      omega
    rw [hf]
    simp only [hB']

/-- The usual case: what was there is as it was. -/
theorem wk_keep {S0 L : Mem} {e e2 : Env} (keep : List Nat) (hk : keep.all (fun k => match L[k]? with | some B => B.plain | none => false) = true) (hd : keep.Nodup) (he : ∀ t, e2.get t = ren S0.length (gKeep S0.length L keep) (e.get t) ∨ e2.get t = .u) :
    Wk S0 e (S0 ++ L) e2 (S0 ++ keepB S0.length L keep) := by
  refine wk_ren (ren_keep rfl rfl (fun k hkk => ?_) hd fun i B hB => .inl ⟨hB, hB⟩) he
  have := List.all_eq_true.1 hk k hkk
  split at this
  · rename_i B hB; exact ⟨B, hB, this⟩
  · cases this

theorem wkv_keep {S0 L : Mem} {y : AV} (keep : List Nat) (hk : keep.all (fun k => match L[k]? with | some B => B.plain | none => false) = true) (hd : keep.Nodup) :
    WkV S0 (ren S0.length (gKeep S0.length L keep) y) (S0 ++ keepB S0.length L keep) y (S0 ++ L) :=
  wk_keep keep hk hd fun t => by
    by_cases ht : t = 0
    · subst ht; left; rw [get_put_same, get_put_same]
    · right; rw [get_put_ne _ _ (Ne.symm ht)]; rfl
end Go.Proofs.YtljaigbjiheohaaDoor
