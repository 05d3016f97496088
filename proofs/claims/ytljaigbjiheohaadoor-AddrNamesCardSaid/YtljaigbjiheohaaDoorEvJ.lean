/- Proved here: a region whose order of evaluation is drawn: the states on the way, whatever the order. No condition. -/
import Derived.Test.YtljaigbjiheohaaDoorEvI
namespace Go.Proofs.YtljaigbjiheohaaDoor
set_option linter.unusedSimpArgs false
set_option linter.unusedVariables false
open Go.RowKit

section
variable {P : Program} {base : Bs} {w0 : World} {O : Orc} {ops : Array Oper} {rs : List ROp} {nt : Nat} {p : Plan} {ef e : Env} {Sp S2 : Nat → Mem} {S Sf : Mem} {K0 : Ctx} {wS : World} {dd : List Deferred}

/-- A new row that was laid ahead of its stage. -/
structure Pend (nt : Nat) (ef : Env) (wS : World) (Sc S2c : Mem) (r : ROp) (K : Ctx) (Ss : Mem) (a : Act) (w : World) (b : Nat) : Prop where
  out : ∃ (cs : List AV) (arr : Array Value) (et : TypeId) (t : Nat), S2c = Sc ++ [.cells cs 0 none true] ∧ RowR K Ss cs arr ∧ w.heap[b]? = some (.cells arr et) ∧ r.dst = some t ∧ NewV (ef.get t) (a.tmps.getD t undef) b Sc.length
  lo : wS.heap.size ≤ b
  fresh : ∀ q, q < Ss.length → K.μ q ≠ b

/-- A state on the way: s of the operations that may turn memory are done. -/
structure TS (base : Bs) (w0 : World) (rs : List ROp) (nt : Nat) (p : Plan) (ef e : Env) (Sp S2 : Nat → Mem) (S : Mem) (K0 : Ctx) (wS : World) (dd : List Deferred) (s : Nat) (L : Array Bool) (a : Act) (w : World) (K : Ctx) (β : Nat → Nat) : Prop where
  hs : s ≤ p.ms.length
  sz : L.size = rs.length
  msL : ∀ j, j < p.ms.length → (L.getD (p.ms.getD j 0) false = true ↔ j < s)
  down : ∀ i j, i < rs.length → L.getD i false = true → p.isAnc i j = true → L.getD j false = true
  sim : Sim base w0 K (Sp s) w
  stp : Stp K0 S wS K (Sp s) w
  tsz : a.tmps.size = nt
  dfr : a.defers = dd
  old : ∀ t, (∀ i, i < rs.length → L.getD i false = true → (rs.getD i dflt).dst ≠ some t) → VR K (Sp s) (e.get t) (a.tmps.getD t undef)
  new : ∀ i, i < rs.length → L.getD i false = true → (∀ c, p.cls.getD i (.m rs.length) = .a c → c < s) → ∀ t, (rs.getD i dflt).dst = some t → VR K (Sp s) (ef.get t) (a.tmps.getD t undef)
  pend : ∀ i, i < rs.length → L.getD i false = true → ∀ c, p.cls.getD i (.m rs.length) = .a c → s ≤ c → Pend nt ef wS (Sp c) (S2 c) (rs.getD i dflt) K (Sp s) a w (β i)
  dist : ∀ i i' c c', i < rs.length → i' < rs.length → L.getD i false = true → L.getD i' false = true → p.cls.getD i (.m rs.length) = .a c → p.cls.getD i' (.m rs.length) = .a c' → s ≤ c → s ≤ c' → β i = β i' → i = i'

theorem getD_set (L : Array Bool) (i j : Nat) (hi : i < L.size) : (L.setIfInBounds i true).getD j false = if j = i then true else L.getD j false := by
  simp only [Array.getD_eq_getD_getElem?, Array.getElem?_setIfInBounds]
  by_cases h : i = j
  · subst h; simp [hi]
  · simp [h, Ne.symm h]

theorem tmps_put_ne (a : Act) (d : Option Tmp) (v : Value) (t : Nat) (h : d ≠ some t) : (a.put d v).tmps.getD t undef = a.tmps.getD t undef := by
  cases d with
  | none => rfl
  | some k =>
    have hk : k ≠ t := fun e => h (by rw [e])
    simp only [Act.put, Array.getD_eq_getD_getElem?, Array.getElem?_setIfInBounds_ne hk]

theorem tmps_put_same (a : Act) (t : Nat) (v : Value) (h : t < a.tmps.size) : (a.put (some t) v).tmps.getD t undef = v := by
  simp [Act.put, Array.getD, h]

theorem tmps_put_size (a : Act) (d : Option Tmp) (v : Value) : (a.put d v).tmps.size = a.tmps.size := by
  cases d with
  | none => rfl
  | some k => simp [Act.put]

/-- At a stage's end its new row is taken in. -/
theorem adopt_ok {er : Env} (hP : PF ops.toList rs nt p) (hD : DF O er ef e S Sf rs p Sp S2) {s : Nat} {L : Array Bool} {a : Act} {w : World} {K : Ctx} {β : Nat → Nat} (hT : TS base w0 rs nt p ef e Sp S2 S K0 wS dd s L a w K β) (hb : base ≤ wS.heap.size)
    (hall : ∀ i, i < rs.length → p.cls.getD i (.m rs.length) = .a s → L.getD i false = true) :
    ∃ K', Sim base w0 K' (S2 s) w ∧ Stp K0 S wS K' (S2 s) w ∧ Ext K (Sp s) K' (S2 s) ∧ (∀ i, i < rs.length → p.cls.getD i (.m rs.length) = .a s → ∀ t, (rs.getD i dflt).dst = some t → VR K' (S2 s) (ef.get t) (a.tmps.getD t undef)) ∧
      ∀ i, i < rs.length → L.getD i false = true → ∀ c, p.cls.getD i (.m rs.length) = .a c → s < c → ∀ q, q < (S2 s).length → K'.μ q ≠ β i := by
  by_cases hex : ∃ i, i < rs.length ∧ p.cls.getD i (.m rs.length) = .a s
  · obtain ⟨i, hi, hc⟩ := hex
    obtain ⟨⟨cs, arr, et, t, h1, h2, h3, h4, h5⟩, hlo, hfr⟩ := hT.pend i hi (hall i hi hc) s hc (Nat.le_refl _)
    obtain ⟨g1, g2⟩ := hT.sim.adopt (b := β i) (Nat.le_trans hb hlo) h3 hfr h2
    rw [h1]
    refine ⟨_, g1, ?_, g2, fun i' hi' hc' t' ht' => ?_, fun i' hi' hl' c hc' hsc q hq => ?_⟩
    · have hs := hT.stp
      refine ⟨hs.ext.trans g2, hs.os, hs.tape, hs.output, hs.size, hs.keep, fun q B hB => ?_⟩
      rcases Nat.lt_or_ge q (Sp s).length with hq | hq
      · rw [List.getElem?_append_left hq] at hB
        rw [(K.put_other _ _ (by omega)).1]
        exact hs.own q B hB
      · have : q = (Sp s).length := by
          have := (List.getElem?_eq_some_iff.1 hB).1
          simp at this; omega
        subst this
        exact .inr (by rw [(K.put_same _ _ _).1]; exact hlo)
    · obtain ⟨_, _, _, _, _, hu⟩ := hP.a i hi s hc
      obtain rfl := hu i' hi' hc'
      rw [h4] at ht'; obtain rfl := Option.some.inj ht'
      exact h5.vr
    · rcases Nat.lt_or_ge q (Sp s).length with hq' | hq'
      · rw [(K.put_other _ _ (by omega)).1]
        exact (hT.pend i' hi' hl' c hc' (Nat.le_of_lt hsc)).fresh q hq'
      · have : q = (Sp s).length := by simp at hq; omega
        subst this
        rw [(K.put_same _ _ _).1]
        intro hβ
        have := hT.dist i i' s c hi hi' (hall i hi hc) hl' hc hc' (Nat.le_refl _) (Nat.le_of_lt hsc) hβ
        subst this
        rw [hc] at hc'; injection hc' with hc'; omega
  · have hna : S2 s = Sp s := hD.na s hT.hs fun i hi hc => hex ⟨i, hi, hc⟩
    rw [hna]
    exact ⟨K, hT.sim, hT.stp, .refl _ _, fun i hi hc => absurd ⟨i, hi, hc⟩ hex, fun i hi hl c hc hsc q hq => (hT.pend i hi hl c hc (Nat.le_of_lt hsc)).fresh q hq⟩

theorem mem_late {t : Nat} (hP : PF ops.toList rs nt p) : t ∈ lateSlots rs p ↔ ∃ j, j ∈ p.late ∧ (rs.getD j dflt).dst = some t := by
  unfold lateSlots
  simp only [List.mem_flatMap]
  constructor
  · rintro ⟨j, hj, ht⟩
    have hlt := (hP.late j hj).1
    rw [getD_of_lt hlt] at ht
    exact ⟨j, hj, dst_mem.1 ht⟩
  · rintro ⟨j, hj, ht⟩
    have hlt := (hP.late j hj).1
    exact ⟨j, hj, by rw [getD_of_lt hlt]; exact dst_mem.2 ht⟩

/-- The slots that an operation looks at, when it comes up. -/
theorem used_ok {er : Env} (her : er = keepE e (lateSlots rs p) ++ ef) (hP : PF ops.toList rs nt p) (hD : DF O er ef e S Sf rs p Sp S2) {s : Nat} {L : Array Bool} {a : Act} {w : World} {K : Ctx} {β : Nat → Nat} (hT : TS base w0 rs nt p ef e Sp S2 S K0 wS dd s L a w K β)
    {i : Nat} (hi : i < rs.length) (hnl : L.getD i false = false) (hanc : ∀ j, p.isAnc i j = true → L.getD j false = true) {K' : Ctx} {M : Mem} (hE : Ext K (Sp s) K' M)
    (hA : ∀ jm, p.cls.getD i (.m rs.length) = .m jm → jm = s ∧ ∀ i', i' < rs.length → p.cls.getD i' (.m rs.length) = .a s → ∀ t, (rs.getD i' dflt).dst = some t → VR K' M (ef.get t) (a.tmps.getD t undef)) :
    ∀ t ∈ (rs.getD i dflt).use, VR K' M (er.get t) (a.tmps.getD t undef) := by
  intro t ht
  obtain ⟨_, hu⟩ := hP.use i hi t ht
  rw [her, get_keepE_append]
  by_cases hex : ∃ j, j < rs.length ∧ (rs.getD j dflt).dst = some t
  · obtain ⟨j, hj, hd⟩ := hex
    obtain ⟨_, huniq⟩ := hP.dst j hj t hd
    rcases hu j hj hd with ⟨hl, ha⟩ | ⟨hl, ha, hc⟩
    · have hjn : L.getD j false = false := by
        cases h : L.getD j false with
        | false => rfl
        | true => rw [hT.down j i hj h ha] at hnl; cases hnl
      rw [if_pos ((mem_late hP).2 ⟨j, hl, hd⟩)]
      refine (hT.old t fun i' hi' hl' hd' => ?_).mono hE
      obtain rfl := huniq i' hi' hd'
      rw [hjn] at hl'; cases hl'
    · have hnm : t ∉ lateSlots rs p := fun hm => by
        obtain ⟨j', hj', hd'⟩ := (mem_late hP).1 hm
        obtain rfl := huniq j' (hP.late j' hj').1 hd'
        exact hl hj'
      rw [if_neg hnm]
      have hjl := hanc j ha
      by_cases hsm : ∀ c, p.cls.getD j (.m rs.length) = .a c → c < s
      · exact (hT.new j hj hjl hsm t hd).mono hE
      · obtain ⟨c, hqq⟩ := Classical.not_forall.1 hsm
        obtain ⟨hcj, hcs⟩ := Classical.not_imp.1 hqq
        obtain ⟨jm, hjm, hle⟩ := hc c hcj
        obtain ⟨rfl, hA⟩ := hA jm hjm
        have : c = jm := by omega
        subst this
        exact hA j hj hcj t hd
  · have hno : ∀ j, j < rs.length → (rs.getD j dflt).dst ≠ some t := fun j hj hd => hex ⟨j, hj, hd⟩
    have hef := hD.env t hno
    have : (if t ∈ lateSlots rs p then e.get t else ef.get t) = e.get t := by split; rfl; exact hef
    rw [this]
    exact (hT.old t fun i' hi' _ => hno i' hi').mono hE

/-- An operation that lays no row early is done. -/
theorem advance (hP : PF ops.toList rs nt p) {s s1 : Nat} {L : Array Bool} {a : Act} {w : World} {K : Ctx} {β : Nat → Nat} (hT : TS base w0 rs nt p ef e Sp S2 S K0 wS dd s L a w K β) {i : Nat} (hi : i < rs.length) (hnl : L.getD i false = false)
    (hanc : ∀ j, p.isAnc i j = true → L.getD j false = true) (hcl : ∀ c, p.cls.getD i (.m rs.length) ≠ .a c) (h1 : s ≤ s1) (h2 : s1 ≤ p.ms.length)
    (hms : ∀ j, j < p.ms.length → ((L.setIfInBounds i true).getD (p.ms.getD j 0) false = true ↔ j < s1)) {K' : Ctx} {M : Mem} (hE : Ext K (Sp s) K' M) (hst : Stp K0 S wS K' M w)
    (hA : ∀ i', i' < rs.length → L.getD i' false = true → ∀ c, p.cls.getD i' (.m rs.length) = .a c → s ≤ c → c < s1 → ∀ t, (rs.getD i' dflt).dst = some t → VR K' M (ef.get t) (a.tmps.getD t undef))
    (hF : ∀ i', i' < rs.length → L.getD i' false = true → ∀ c, p.cls.getD i' (.m rs.length) = .a c → s1 ≤ c → ∀ q, q < M.length → K'.μ q ≠ β i')
    {K1 : Ctx} {w1 : World} {v : Value} (hS1 : Sim base w0 K1 (Sp s1) w1) (hst1 : Stp K' M w K1 (Sp s1) w1) (hV : ∀ t, (rs.getD i dflt).dst = some t → VR K1 (Sp s1) (ef.get t) v) :
    TS base w0 rs nt p ef e Sp S2 S K0 wS dd s1 (L.setIfInBounds i true) (a.put (rs.getD i dflt).dst v) w1 K1 β := by
  have hiL : i < L.size := by rw [hT.sz]; exact hi
  have hEx : Ext K (Sp s) K1 (Sp s1) := hE.trans hst1.ext
  have lst : ∀ j, j ≠ i → (L.setIfInBounds i true).getD j false = true → L.getD j false = true := fun j hj h => by
    rw [getD_set L i j hiL, if_neg hj] at h; exact h
  have lst' : ∀ j, L.getD j false = true → (L.setIfInBounds i true).getD j false = true := fun j h => by
    rw [getD_set L i j hiL]; split; rfl; exact h
  have hne : ∀ i', L.getD i' false = true → i' ≠ i := fun i' h e => by rw [e, hnl] at h; cases h
  have dne : ∀ i', i' < rs.length → i' ≠ i → ∀ t, (rs.getD i' dflt).dst = some t → (rs.getD i dflt).dst ≠ some t := fun i' hi' hn t ht hd => hn ((hP.dst i hi t hd).2 i' hi' ht)
  refine ⟨h2, by simpa using hT.sz, hms, fun i' j hi' hl ha => ?_, hS1, hst.trans hst1, by rw [tmps_put_size, hT.tsz], by rw [put_defers, hT.dfr], fun t ht => ?_, fun i' hi' hl hc t ht => ?_, fun i' hi' hl c hc hs => ?_, fun i1 i2 c c' hi1 hi2 hl1 hl2 hc1 hc2 hs1 hs2 hβ => ?_⟩
  · by_cases e1 : i' = i
    · subst e1; exact lst' j (hanc j ha)
    · exact lst' j (hT.down i' j hi' (lst i' e1 hl) ha)
  · have hd : (rs.getD i dflt).dst ≠ some t := ht i hi (by rw [getD_set L i i hiL, if_pos rfl])
    rw [tmps_put_ne _ _ _ _ hd]
    exact (hT.old t fun i' hi' hl => ht i' hi' (lst' i' hl)).mono hEx
  · by_cases e1 : i' = i
    · subst e1
      have htn := (hP.dst i' hi' t ht).1
      rw [ht, tmps_put_same _ _ _ (by rw [hT.tsz]; exact htn)]
      exact hV t ht
    · rw [tmps_put_ne _ _ _ _ (dne i' hi' e1 t ht)]
      have hl' := lst i' e1 hl
      by_cases hsm : ∀ c, p.cls.getD i' (.m rs.length) = .a c → c < s
      · exact (hT.new i' hi' hl' hsm t ht).mono hEx
      · obtain ⟨c, hqq⟩ := Classical.not_forall.1 hsm
        obtain ⟨hcj, hcs⟩ := Classical.not_imp.1 hqq
        exact (hA i' hi' hl' c hcj (by omega) (hc c hcj) t ht).mono hst1.ext
  · have e1 : i' ≠ i := fun e => hcl c (e ▸ hc)
    have hl' := lst i' e1 hl
    obtain ⟨⟨cs, arr, et, t, g1, g2, g3, g4, g5⟩, hlo, hfr⟩ := hT.pend i' hi' hl' c hc (by omega)
    have hfr' := hF i' hi' hl' c hc hs
    have hbw : β i' < w.heap.size := (Array.getElem?_eq_some_iff.1 g3).1
    refine ⟨⟨cs, arr, et, t, g1, ⟨g2.1, fun k => (g2.2 k).mono hEx⟩, ?_, g4, ?_⟩, hlo, fun q hq => ?_⟩
    · rw [hst1.keep _ hbw fun q B hB _ => hfr' q (List.getElem?_eq_some_iff.1 hB).1]; exact g3
    · rw [tmps_put_ne _ _ _ _ (dne i' hi' e1 t g4)]; exact g5
    · rcases hst1.own q _ (List.getElem?_eq_getElem hq) with ⟨B, hB, _, hμ⟩ | hge
      · rw [hμ]; exact hfr' q (List.getElem?_eq_some_iff.1 hB).1
      · omega
  · have e1 : i1 ≠ i := fun e => hcl c (e ▸ hc1)
    have e2 : i2 ≠ i := fun e => hcl c' (e ▸ hc2)
    exact hT.dist i1 i2 c c' hi1 hi2 (lst i1 e1 hl1) (lst i2 e2 hl2) hc1 hc2 (by omega) (by omega) hβ

/-- A block of which the abstract memory knows nothing. -/
theorem Sim.junk {K : Ctx} {S : Mem} {w : World} (h : Sim base w0 K S w) (o : Obj) : Sim base w0 K S (w.alloc o) ∧ Stp K S w K S (w.alloc o) := by
  have hold : ∀ k, k < w.heap.size → (w.alloc o).heap[k]? = w.heap[k]? := fun k hk => Below.heap_alloc w o k hk
  have hs : Stp K S w K S (w.alloc o) := ⟨.refl K S, rfl, rfl, rfl, by simp, fun b hb _ => hold b hb, fun _ B' h => .inl ⟨B', h, id, rfl⟩⟩
  exact ⟨⟨fun i B hB => (h.blk i B hB).mono (.refl K S) rfl rfl (hold _ (h.blk i B hB).lt), h.inj, h.step_below hs, Nat.le_trans h.hb hs.size, h.door⟩, hs⟩

/-- A new row is laid early. -/
theorem laid_ok (hP : PF ops.toList rs nt p) {s : Nat} {L : Array Bool} {a : Act} {w : World} {K : Ctx} {β : Nat → Nat} (hT : TS base w0 rs nt p ef e Sp S2 S K0 wS dd s L a w K β) {i c : Nat} (hi : i < rs.length) (hnl : L.getD i false = false)
    (hanc : ∀ j, p.isAnc i j = true → L.getD j false = true) (hcl : p.cls.getD i (.m rs.length) = .a c) (hsc : s ≤ c) {cs : List AV} {arr : Array Value} {et : TypeId} {v : Value} {t : Nat} (hd : (rs.getD i dflt).dst = some t)
    (h1 : S2 c = Sp c ++ [.cells cs 0 none true]) (h2 : RowR K (Sp s) cs arr) (h3 : NewV (ef.get t) v w.heap.size (Sp c).length) :
    TS base w0 rs nt p ef e Sp S2 S K0 wS dd s (L.setIfInBounds i true) (a.put (rs.getD i dflt).dst v) (w.alloc (.cells arr et)) K (fun j => if j = i then w.heap.size else β j) := by
  have hiL : i < L.size := by rw [hT.sz]; exact hi
  obtain ⟨q1, q2⟩ := hT.sim.junk (.cells arr et)
  have lst : ∀ j, j ≠ i → (L.setIfInBounds i true).getD j false = true → L.getD j false = true := fun j hj h => by
    rw [getD_set L i j hiL, if_neg hj] at h; exact h
  have lst' : ∀ j, L.getD j false = true → (L.setIfInBounds i true).getD j false = true := fun j h => by
    rw [getD_set L i j hiL]; split; rfl; exact h
  have dne : ∀ i', i' < rs.length → i' ≠ i → ∀ t, (rs.getD i' dflt).dst = some t → (rs.getD i dflt).dst ≠ some t := fun i' hi' hn t ht hd => hn ((hP.dst i hi t hd).2 i' hi' ht)
  have htn := (hP.dst i hi t hd).1
  refine ⟨hT.hs, by simpa using hT.sz, fun j hj => ?_, fun i' j hi' hl ha => ?_, q1, hT.stp.trans q2, by rw [tmps_put_size, hT.tsz], by rw [put_defers, hT.dfr], fun t ht => ?_, fun i' hi' hl hc t ht => ?_, fun i' hi' hl c' hc' hs => ?_, fun i1 i2 c1 c2 hi1 hi2 hl1 hl2 hc1 hc2 hs1 hs2 hβ => ?_⟩
  · have hne : p.ms.getD j 0 ≠ i := fun e => by
      have := (hP.ms j hj).2.1
      rw [e, hcl] at this; cases this
    rw [getD_set L i _ hiL, if_neg hne]
    exact hT.msL j hj
  · by_cases e1 : i' = i
    · subst e1; exact lst' j (hanc j ha)
    · exact lst' j (hT.down i' j hi' (lst i' e1 hl) ha)
  · have hd' : (rs.getD i dflt).dst ≠ some t := ht i hi (by rw [getD_set L i i hiL, if_pos rfl])
    rw [tmps_put_ne _ _ _ _ hd']
    exact hT.old t fun i' hi' hl => ht i' hi' (lst' i' hl)
  · have e1 : i' ≠ i := fun e => by
      subst e
      have := hc c hcl
      omega
    rw [tmps_put_ne _ _ _ _ (dne i' hi' e1 t ht)]
    exact hT.new i' hi' (lst i' e1 hl) hc t ht
  · by_cases e1 : i' = i
    · subst e1
      rw [hcl] at hc'; injection hc' with hc'; subst hc'
      rw [if_pos rfl]
      refine ⟨⟨cs, arr, et, t, h1, h2, heap_new w _, hd, ?_⟩, hT.stp.size, fun q hq => ?_⟩
      · rw [hd, tmps_put_same _ _ _ (by rw [hT.tsz]; exact htn)]; exact h3
      · have := (hT.sim.blk q _ (List.getElem?_eq_getElem hq)).lt
        omega
    · rw [if_neg e1]
      obtain ⟨⟨cs', arr', et', t', g1, g2, g3, g4, g5⟩, hlo, hfr⟩ := hT.pend i' hi' (lst i' e1 hl) c' hc' hs
      have hbw : β i' < w.heap.size := (Array.getElem?_eq_some_iff.1 g3).1
      exact ⟨⟨cs', arr', et', t', g1, g2, by rw [Below.heap_alloc w _ _ hbw]; exact g3, g4, by rw [tmps_put_ne _ _ _ _ (dne i' hi' e1 t' g4)]; exact g5⟩, hlo, hfr⟩
  · have key : ∀ i' c', i' ≠ i → i' < rs.length → (L.setIfInBounds i true).getD i' false = true → p.cls.getD i' (.m rs.length) = .a c' → s ≤ c' → β i' < w.heap.size := fun i' c' e1 hi' hl hc' hs => by
      obtain ⟨⟨cs', arr', et', t', g1, g2, g3, g4, g5⟩, _, _⟩ := hT.pend i' hi' (lst i' e1 hl) c' hc' hs
      exact (Array.getElem?_eq_some_iff.1 g3).1
    by_cases e1 : i1 = i <;> by_cases e2 : i2 = i
    · rw [e1, e2]
    · simp only [e1, if_true, e2, if_false] at hβ
      have := key i2 c2 e2 hi2 hl2 hc2 hs2
      omega
    · simp only [e1, if_false, e2, if_true] at hβ
      have := key i1 c1 e1 hi1 hl1 hc1 hs1
      omega
    · simp only [e1, e2, if_false] at hβ
      exact hT.dist i1 i2 c1 c2 hi1 hi2 (lst i1 e1 hl1) (lst i2 e2 hl2) hc1 hc2 hs1 hs2 hβ
end
end Go.Proofs.YtljaigbjiheohaaDoor
