/- Proved here: a region whose order of evaluation is drawn does, in whatever order, what the evaluator says. No condition. -/
import Derived.Test.YtljaigbjiheohaaDoorEvH
namespace Go.Proofs.YtljaigbjiheohaaDoor
set_option linter.unusedSimpArgs false
set_option linter.unusedVariables false
open Go.RowKit

/-- What is known of the stages. -/
structure DF (O : Orc) (er ef : Env) (e : Env) (S Sf : Mem) (rs : List ROp) (p : Plan) (Sp S2 : Nat → Mem) : Prop where
  zero : Sp 0 = S
  n : ∀ i, i < rs.length → ∀ lo hi, p.cls.getD i (.m rs.length) = .n lo hi → ∀ s, lo ≤ s → s ≤ hi → ∃ x, evOne O er (Sp s) (rs.getD i dflt) = some (x, Sp s) ∧ ∀ d, (rs.getD i dflt).dst = some d → x = ef.get d
  a : ∀ i, i < rs.length → ∀ c, p.cls.getD i (.m rs.length) = .a c → ∃ x, evOne O er (Sp c) (rs.getD i dflt) = some (x, S2 c) ∧ ∀ d, (rs.getD i dflt).dst = some d → x = ef.get d
  na : ∀ s, s ≤ p.ms.length → (∀ i, i < rs.length → p.cls.getD i (.m rs.length) ≠ .a s) → S2 s = Sp s
  m : ∀ s, s < p.ms.length → ∃ x, evOne O er (S2 s) (rs.getD (p.ms.getD s 0) dflt) = some (x, Sp (s + 1)) ∧ ∀ d, (rs.getD (p.ms.getD s 0) dflt).dst = some d → x = ef.get d
  last : S2 p.ms.length = Sf
  env : ∀ t, (∀ i, i < rs.length → (rs.getD i dflt).dst ≠ some t) → ef.get t = e.get t

theorem getD_of_lt {rs : List ROp} {i : Nat} (h : i < rs.length) : rs[i]? = some (rs.getD i dflt) := by
  simp [List.getD_eq_getElem?_getD, h]

theorem stage_at {rs : List ROp} {p : Plan} {s : Nat} (hs : s ≤ p.ms.length) : ∃ g, (stagesOf rs p)[s]? = some g ∧
    (∀ i, i < rs.length → ∀ lo hi, p.cls.getD i (.m rs.length) = .n lo hi → lo = s → (rs.getD i dflt, hi) ∈ g.ns) ∧
    g.a = aAt rs p s ∧
    g.m = mAt rs p s ∧
    (∀ q ∈ g.ns, ∃ i, i < rs.length ∧ q.1 = rs.getD i dflt) := by
  have hlt : s < p.ms.length + 1 := by omega
  refine ⟨⟨nsAt rs p s, aAt rs p s, mAt rs p s⟩, by simp only [stagesOf, List.getElem?_map, List.getElem?_range hlt, Option.map_some], fun i hi lo hi' hc hl => ?_, rfl, rfl, fun q hq => ?_⟩
  · simp only [nsAt, List.mem_filterMap, List.mem_range]
    refine ⟨i, hi, ?_⟩
    rw [hc, getD_of_lt hi]
    simp [hl]
  · simp only [nsAt, List.mem_filterMap, List.mem_range] at hq
    obtain ⟨i, hi, hq⟩ := hq
    refine ⟨i, hi, ?_⟩
    rw [getD_of_lt hi] at hq
    split at hq
    · rename_i lo hi' r _ hr
      split at hq
      · injection hr with hr
        injection hq with hq
        rw [← hq, ← hr]
      · cases hq
    · cases hq

theorem findSome_of {rs : List ROp} {p : Plan} {s i : Nat} (hi : i < rs.length) (hc : p.cls.getD i (.m rs.length) = .a s) (hu : ∀ i', i' < rs.length → p.cls.getD i' (.m rs.length) = .a s → i' = i) :
    (aAt rs p s) = some (rs.getD i dflt) := by
  generalize hF : aAt rs p s = F
  unfold aAt at hF
  cases F with
  | none =>
    rw [List.findSome?_eq_none_iff] at hF
    have := hF i (List.mem_range.2 hi)
    rw [hc, getD_of_lt hi] at this
    simp at this
  | some r =>
    obtain ⟨i', hi', hr⟩ := List.exists_of_findSome?_eq_some hF
    have hi' := List.mem_range.1 hi'
    rw [getD_of_lt hi'] at hr
    split at hr
    · rename_i c r' h1 h2
      split at hr
      · rename_i hcs
        simp only [beq_iff_eq] at hcs
        subst hcs
        obtain rfl := hu i' hi' h1
        rw [h2]; exact hr.symm
      · cases hr
    · cases hr

theorem findSome_none {rs : List ROp} {p : Plan} {s : Nat} (hu : ∀ i', i' < rs.length → p.cls.getD i' (.m rs.length) ≠ .a s) :
    aAt rs p s = none := by
  unfold aAt
  rw [List.findSome?_eq_none_iff]
  intro i hi
  have hi := List.mem_range.1 hi
  split
  · rename_i c r h1 h2
    split
    · rename_i hcs
      simp only [beq_iff_eq] at hcs
      subst hcs
      exact absurd h1 (hu i hi)
    · rfl
  · rfl

theorem findSome_mem {rs : List ROp} {p : Plan} {s : Nat} {r : ROp} (h : (aAt rs p s) = some r) :
    ∃ i, i < rs.length ∧ r = rs.getD i dflt := by
  unfold aAt at h
  obtain ⟨i', hi', hr⟩ := List.exists_of_findSome?_eq_some h
  have hi' := List.mem_range.1 hi'
  refine ⟨i', hi', ?_⟩
  rw [getD_of_lt hi'] at hr
  split at hr
  · rename_i c r' h1 h2
    split at hr
    · injection h2 with h2; injection hr with hr; rw [← hr, ← h2]
    · cases hr
  · cases hr

theorem df_of {O : Orc} {ops : List Oper} {rs : List ROp} {nt : Nat} {p : Plan} {e ef : Env} {S Sf : Mem} {pre : List Noted} (hp : PF ops rs nt p) (er : Env)
    (hv : evStages O (stagesOf rs p) e S = some (ef, Sf, pre)) (hc : chkStages O er ef pre (stagesOf rs p) pre 0 = true) : ∃ Sp S2, DF O er ef e S Sf rs p Sp S2 := by
  obtain ⟨hlen, hst, hz, henv⟩ := stages_ok _ e S pre 0 hv hc
  have hl : (stagesOf rs p).length = p.ms.length + 1 := by simp [stagesOf]
  have key : ∀ s, ∃ q : Mem × Mem, ∀ g, (stagesOf rs p)[s]? = some g → ∃ N S3, pre[s]? = some N ∧ N.S = q.1 ∧ (∀ q ∈ g.ns, chkN O er ef pre q.1 q.2 (q.2 + 1) s = true) ∧ OptF O er ef q.1 q.2 g.a ∧ OptF O er ef q.2 S3 g.m ∧
      (s + 1 < (stagesOf rs p).length → ∃ N', pre[s + 1]? = some N' ∧ N'.S = S3) ∧ (s + 1 = (stagesOf rs p).length → S3 = Sf) := by
    intro s
    cases hg : (stagesOf rs p)[s]? with
    | none => exact ⟨([], []), fun g hg' => by cases hg'⟩
    | some g =>
      obtain ⟨N, S2, S3, h1, h2, h3, h4, h5, h6⟩ := (hst s g hg).out
      exact ⟨(N.S, S2), fun g' hg' => by
        injection hg' with hg'; subst hg'
        exact ⟨N, S3, h1, rfl, by simpa using h2, h3, h4, h5, h6⟩⟩
  obtain ⟨Q, hQ⟩ := Classical.axiomOfChoice key
  have hN : ∀ s N, s ≤ p.ms.length → pre[s]? = some N → N.S = (Q s).1 := by
    intro s N hs hN
    obtain ⟨g, hg, _⟩ := stage_at (rs := rs) hs
    obtain ⟨N', _, h1, h2, _⟩ := hQ s g hg
    rw [hN] at h1; injection h1 with h1; rw [h1]; exact h2
  refine ⟨fun s => (Q s).1, fun s => (Q s).2, ⟨?_, fun i hi lo hi' hcl s h1 h2 => ?_, fun i hi c hcl => ?_, fun s hs hna => ?_, fun s hs => ?_, ?_, fun t ht => ?_⟩⟩
  · obtain ⟨g, hg, _⟩ := stage_at (rs := rs) (p := p) (Nat.zero_le _)
    obtain ⟨N', _, h1, h2, _⟩ := hQ 0 g hg
    rw [← h2]; exact hz _ h1
  · obtain ⟨q1, q2, _, _, q5⟩ := hp.n i hi lo hi' hcl
    obtain ⟨g, hg, hm, _⟩ := stage_at (rs := rs) (p := p) (s := lo) (by omega)
    obtain ⟨N', _, _, _, h3, _⟩ := hQ lo g hg
    obtain ⟨N, x, S', r1, r2, r3⟩ := chkN_ok _ _ (h3 _ (hm i hi lo hi' hcl rfl)) s h1 h2 (by omega)
    rw [hN s N (by omega) r1] at r2
    obtain rfl := still_one q5 r2
    exact ⟨x, r2, r3⟩
  · obtain ⟨q1, q2, q3, q4, q5, q6⟩ := hp.a i hi c hcl
    obtain ⟨g, hg, _, ha, _⟩ := stage_at (rs := rs) (p := p) (s := c) q1
    obtain ⟨N', _, _, _, _, h4, _⟩ := hQ c g hg
    rw [ha, findSome_of hi hcl q6] at h4
    exact h4
  · obtain ⟨g, hg, _, ha, _⟩ := stage_at (rs := rs) (p := p) hs
    obtain ⟨N', _, _, _, _, h4, _⟩ := hQ s g hg
    rw [ha, findSome_none hna] at h4
    exact h4
  · obtain ⟨g, hg, _, _, hm, _⟩ := stage_at (rs := rs) (p := p) (Nat.le_of_lt hs)
    obtain ⟨N', S3, _, _, _, _, h5, h6, _⟩ := hQ s g hg
    obtain ⟨N2, h7, h8⟩ := h6 (by rw [hl]; omega)
    have hmi := hp.ms s hs
    have e1 : p.ms[s]? = some (p.ms.getD s 0) := by simp [List.getD_eq_getElem?_getD, hs]
    rw [hm, mAt, e1] at h5
    simp only [getD_of_lt hmi.1] at h5
    rw [hN (s + 1) N2 (by omega) h7] at h8
    rw [h8]; exact h5
  · obtain ⟨g, hg, _, _, hm, _⟩ := stage_at (rs := rs) (p := p) (Nat.le_refl _)
    obtain ⟨N', S3, _, _, _, _, h5, _, h7⟩ := hQ _ g hg
    have e1 : p.ms[p.ms.length]? = none := by simp
    rw [hm, mAt, e1] at h5
    simp only [OptF] at h5
    rw [← h7 (by rw [hl]), h5]
  · refine henv t fun g hg => ?_
    obtain ⟨s, hs, hgs⟩ := List.mem_iff_getElem.1 hg
    rw [hl] at hs
    obtain ⟨g', hg', _, ha, hm, hns⟩ := stage_at (rs := rs) (p := p) (s := s) (by omega)
    have : g' = g := by
      have h2 : (stagesOf rs p)[s]? = some g := by rw [← hgs]; exact List.getElem?_eq_getElem _
      rw [hg'] at h2; injection h2
    subst this
    refine ⟨fun q hq => ?_, fun x hx => ?_, fun x hx => ?_⟩
    · obtain ⟨i, hi, e⟩ := hns q hq
      rw [e]; exact ht i hi
    · rw [ha] at hx
      obtain ⟨i, hi, e⟩ := findSome_mem hx
      rw [e]; exact ht i hi
    · rw [hm, mAt] at hx
      split at hx
      · rename_i i hmi
        obtain ⟨hi, e⟩ := List.getElem?_eq_some_iff.1 hx
        have : x = rs.getD i dflt := by rw [List.getD_eq_getElem?_getD, hx]; rfl
        rw [this]; exact ht i hi
      · cases hx
end Go.Proofs.YtljaigbjiheohaaDoor
