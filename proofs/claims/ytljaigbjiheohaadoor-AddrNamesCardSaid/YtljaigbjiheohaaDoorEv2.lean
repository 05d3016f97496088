/- Proved here: loads and stores of the evaluator's memory stand for loads and stores of the model's. No condition. -/
import Derived.Test.YtljaigbjiheohaaDoorEv1
namespace Go.Proofs.YtljaigbjiheohaaDoor
set_option linter.unusedSimpArgs false
set_option linter.unusedVariables false
open Go.RowKit

theorem Sim.load {base : Bs} {w0 : World} {K : Ctx} {S : Mem} {w : World} (h : Sim base w0 K S w) {i v : Nat} {cs : List AV} {o : Option Nat} {r : Bool} (hB : S[i]? = some (.cells cs v o r))
    {k : Nat} (hk : k < cs.length) : ∃ x, w.cell? ⟨K.μ i, k, none⟩ = some x ∧ VR K S (cs.getD k .u) x := by
  obtain ⟨c, et, fz, h1, h2, h3, h4, h5, h6⟩ := h.blk i _ hB
  have hk' : k < c.size := by omega
  refine ⟨c.getD k undef, ?_, h5 k hk⟩
  unfold World.cell?
  simp only [h1, Option.isSome_none, Bool.false_eq_true, if_false]
  rw [Array.getElem?_eq_getElem hk', Array.getD, dif_pos hk']
  rfl

theorem Ext.set (K : Ctx) (S : Mem) (i : Nat) (B B' : Blk) (hB : S[i]? = some B) (hv : B'.ver = B.ver) (ho : B'.opn = B.opn) : Ext K S K (S.set i B') := by
  refine ⟨by simp, fun j C hC => ?_⟩
  by_cases e : j = i
  · subst e
    have hj : j < S.length := (List.getElem?_eq_some_iff.1 hB).1
    rw [hB] at hC; obtain rfl := Option.some.inj hC
    exact ⟨B', by simp [hj], by omega, fun _ => ⟨rfl, rfl, ho⟩⟩
  · exact ⟨C, by rw [List.getElem?_set_ne (Ne.symm e)]; exact hC, Nat.le_refl _, fun _ => ⟨rfl, rfl, rfl⟩⟩

theorem heap_setCell_same' (w : World) (a : Addr) (v : Value) (c : Array Value) (et : TypeId) (fz : Nat × Nat) (hs : a.spot = none) (h : w.heap[a.block]? = some (.cells c et fz)) :
    (w.setCell a v).heap[a.block]? = some (.cells (c.setIfInBounds a.off v) et fz) := by
  simp [World.setCell, Array.getElem?_modify, h, hs]

theorem getD_set_self {cs : List AV} {k : Nat} {x : AV} (h : k < cs.length) : (cs.set k x).getD k .u = x := by
  simp [List.getD_eq_getElem?_getD, h]
theorem getD_set_ne {cs : List AV} {k j : Nat} {x : AV} (h : j ≠ k) : (cs.set k x).getD j .u = cs.getD j .u := by
  simp only [List.getD_eq_getElem?_getD, List.getElem?_set_ne (Ne.symm h)]

/-- One cell turns. -/
theorem Sim.set1 {base : Bs} {w0 : World} {K : Ctx} {S : Mem} {w : World} (h : Sim base w0 K S w) {i v : Nat} {cs : List AV} {o : Option Nat} (hB : S[i]? = some (.cells cs v o true))
    {k : Nat} (hk : k < cs.length) {x : AV} {x' : Value} (hx : VR K S x x') :
    w.frozen? ⟨K.μ i, k, none⟩ = false ∧ Sim base w0 K (S.set i (.cells (cs.set k x) v o true)) (w.setCell ⟨K.μ i, k, none⟩ x') ∧ Stp K S w K (S.set i (.cells (cs.set k x) v o true)) (w.setCell ⟨K.μ i, k, none⟩ x') := by
  obtain ⟨c, et, fz, h1, h2, h3, h4, h5, h6⟩ := h.blk i _ hB
  obtain ⟨h7, h8⟩ := h6 rfl
  have hil : i < S.length := (List.getElem?_eq_some_iff.1 hB).1
  have hE : Ext K S K (S.set i (.cells (cs.set k x) v o true)) := Ext.set K S i _ _ hB rfl rfl
  have hnew : (w.setCell ⟨K.μ i, k, none⟩ x').heap[K.μ i]? = some (.cells (c.setIfInBounds k x') et fz) := heap_setCell_same' w ⟨K.μ i, k, none⟩ x' c et fz rfl h1
  have hold : ∀ b, b ≠ K.μ i → (w.setCell ⟨K.μ i, k, none⟩ x').heap[b]? = w.heap[b]? := fun b hb => Below.heap_setCell w ⟨K.μ i, k, none⟩ x' b hb
  have hs : Stp K S w K (S.set i (.cells (cs.set k x) v o true)) (w.setCell ⟨K.μ i, k, none⟩ x') := by
    refine ⟨hE, rfl, rfl, rfl, by simp, fun b hb hn => hold b fun e => hn i _ hB rfl e.symm, fun j B' hB' => ?_⟩
    by_cases e : j = i
    · subst e; exact .inl ⟨_, hB, fun _ => rfl, rfl⟩
    · rw [List.getElem?_set_ne (Ne.symm e)] at hB'
      exact .inl ⟨B', hB', id, rfl⟩
  refine ⟨?_, ⟨fun j B' hB' => ?_, fun a b ha hb e => ?_, h.step_below hs, Nat.le_trans h.hb hs.size, h.door⟩, hs⟩
  · unfold World.frozen?
    simp only [h1]
    have := h8 k (Nat.lt_of_lt_of_le (by omega) (endOf_ge _ _))
    simpa using this
  · by_cases e : j = i
    · subst e
      simp only [List.getElem?_set_self hil, Option.some.injEq] at hB'
      subst hB'
      refine ⟨_, et, fz, hnew, by simpa using h2, by simpa using h3, fun e => by simpa using h4 e, fun m hm => ?_, fun _ => ⟨h7, fun q hq => h8 q (by simpa using hq)⟩⟩
      simp only [List.length_set] at hm
      by_cases e : m = k
      · subst e
        rw [getD_set_self hm]
        have : (c.setIfInBounds m x').getD m undef = x' := by
          simp [Array.getD, show m < c.size by omega]
        rw [this]; exact hx.mono hE
      · rw [getD_set_ne e]
        have : (c.setIfInBounds k x').getD m undef = c.getD m undef := by
          simp only [Array.getD_eq_getD_getElem?, Array.getElem?_setIfInBounds_ne (Ne.symm e)]
        rw [this]; exact (h5 m hm).mono hE
    · rw [List.getElem?_set_ne (Ne.symm e)] at hB'
      have hjl : j < S.length := (List.getElem?_eq_some_iff.1 hB').1
      exact (h.blk j B' hB').mono hE rfl rfl (hold _ fun e' => e (h.inj j i hjl hil e'))
  · simp only [List.length_set] at ha hb
    exact h.inj a b ha hb e

/-- A row of cells turns, one by one. -/
def setList (cs : List AV) (off : Nat) : List AV → List AV
  | [] => cs
  | x :: r => setList (cs.set off x) (off + 1) r

/-- A row of cells turns at once. -/
def splice (cs : List AV) (off : Nat) (xs : List AV) : List AV := cs.take off ++ (xs ++ cs.drop (off + xs.length))

theorem setList_eq : ∀ (xs : List AV) (cs : List AV) (off : Nat), off + xs.length ≤ cs.length → setList cs off xs = splice cs off xs
  | [], cs, off, _ => by simp [setList, splice]
  | x :: r, cs, off, h => by
    simp only [List.length_cons] at h
    rw [setList, setList_eq r (cs.set off x) (off + 1) (by simp; omega)]
    unfold splice
    have h1 : (cs.set off x).take (off + 1) = cs.take off ++ [x] := by
      rw [List.take_succ_eq_append_getElem (by simp; omega), List.take_set_of_le (Nat.le_refl _)]
      simp
    have h2 : (cs.set off x).drop (off + 1 + r.length) = cs.drop (off + (x :: r).length) := by
      rw [List.drop_set_of_lt (by omega)]
      congr 1
      simp; omega
    rw [h1, h2]
    simp

theorem splice_length (cs : List AV) (off : Nat) (xs : List AV) (h : off + xs.length ≤ cs.length) : (splice cs off xs).length = cs.length := by
  simp [splice]; omega

/-- A value of one cell. -/
def AV.one : AV → Bool
  | .u | .ud | .ag _ | .tu _ => false
  | _ => true

theorem VR.one {K : Ctx} {S : Mem} {x : AV} {v : Value} (h : VR K S x v) (h1 : x.one = true) : (∀ c, v ≠ .agg c) ∧ (∀ c, v ≠ .tuple c) := by
  cases h <;> first | (simp [AV.one] at h1; done) | exact ⟨fun c e => (by cases e), fun c e => (by cases e)⟩

theorem run_store_one {P : Program} {w : World} {a : Addr} {v u : Value} (hv : (∀ c, v ≠ .agg c) ∧ (∀ c, v ≠ .tuple c)) (hc : w.cell? a = some u) (hf : w.frozen? a = false) :
    (store a v).run P w = .ok () (w.setCell a v) := by
  unfold store
  cases v <;> first | exact absurd rfl (hv.1 _) | exact absurd rfl (hv.2 _) | simp [Sem.run, hc, hf]

theorem run_bind {α β : Type} {P : Program} (s : Sem α) (f : α → Sem β) (w : World) : (s >>= f).run P w = match s.run P w with | .ok x w' => (f x).run P w' | .halt h w' => .halt h w' := by
  rw [Sem.run_bind]; cases s.run P w <;> rfl

theorem add_add (b o m n : Nat) : ((⟨b, o, none⟩ : Addr).add m).add n = (⟨b, o, none⟩ : Addr).add (m + n) := by
  unfold Addr.add; split <;> split <;> split <;> simp_all <;> omega
theorem add_eq (b o n : Nat) : (⟨b, o, none⟩ : Addr).add n = ⟨b, o + n, none⟩ := by
  unfold Addr.add; split <;> simp_all

theorem Sim.storeCells {base : Bs} {w0 : World} {K : Ctx} {P : Program} : ∀ (xs : List AV) (xs' : List Value) (S : Mem) (w : World) (i v : Nat) (cs : List AV) (o : Option Nat) (off j : Nat), Sim base w0 K S w →
    S[i]? = some (.cells cs v o true) → off + j + xs.length ≤ cs.length → xs.length = xs'.length → (∀ k, k < xs.length → VR K S (xs.getD k .u) (xs'.getD k undef)) → xs.all AV.one = true →
    ∃ w', (Go.storeCells ⟨K.μ i, off, none⟩ xs' j).run P w = .ok () w' ∧ Sim base w0 K (S.set i (.cells (setList cs (off + j) xs) v o true)) w' ∧ Stp K S w K (S.set i (.cells (setList cs (off + j) xs) v o true)) w'
  | [], [], S, w, i, v, cs, o, off, j, h, hB, hl, he, hx, h1 => by
    have hS : S.set i (.cells cs v o true) = S := by
      have hi := (List.getElem?_eq_some_iff.1 hB)
      obtain ⟨hi, e⟩ := hi
      rw [← e]; simp
    refine ⟨w, by simp [Go.storeCells, Sem.run, pure], ?_, ?_⟩
    · rw [setList, hS]; exact h
    · rw [setList, hS]; exact .refl K S w
  | x :: r, x' :: r', S, w, i, v, cs, o, off, j, h, hB, hl, he, hx, h1 => by
    simp only [List.length_cons] at hl he
    simp only [List.all_cons, Bool.and_eq_true] at h1
    have hx0 : VR K S x x' := by simpa using hx 0 (by simp)
    obtain ⟨hf, hs, hst⟩ := h.set1 hB (k := off + j) (by omega) hx0
    obtain ⟨u, hu, _⟩ := h.load hB (k := off + j) (by omega)
    have hil : i < S.length := (List.getElem?_eq_some_iff.1 hB).1
    obtain ⟨w', hrun, hs', hst'⟩ := Sim.storeCells r r' (S.set i (.cells (cs.set (off + j) x) v o true)) (w.setCell ⟨K.μ i, off + j, none⟩ x') i v (cs.set (off + j) x) o off (j + 1) hs
      (by simp [hil]) (by simp; omega) (by omega) (fun k hk => by
        have := hx (k + 1) (by simp; omega)
        simp only [List.getD_cons_succ] at this
        exact this.mono hst.ext) h1.2
    refine ⟨w', ?_, ?_, ?_⟩
    · rw [Go.storeCells, run_bind, add_eq, run_store_one (hx0.one h1.1) hu hf]
      exact hrun
    · rw [setList]; simpa [Nat.add_assoc] using hs'
    · rw [setList]; simpa [Nat.add_assoc] using hst.trans hst'
  | [], _ :: _, _, _, _, _, _, _, _, _, _, _, _, he, _, _ => by simp at he
  | _ :: _, [], _, _, _, _, _, _, _, _, _, _, _, he, _, _ => by simp at he
end Go.Proofs.YtljaigbjiheohaaDoor
