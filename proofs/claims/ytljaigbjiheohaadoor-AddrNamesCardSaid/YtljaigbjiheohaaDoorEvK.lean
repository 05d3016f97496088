/- Proved here: a region whose order of evaluation is drawn does what the evaluator says. No condition. -/
import Derived.Test.YtljaigbjiheohaaDoorEvJ
namespace Go.Proofs.YtljaigbjiheohaaDoor
set_option linter.unusedSimpArgs false
set_option linter.unusedVariables false
open Go.RowKit

section
variable {P : Program} {base : Bs} {w0 : World} {O : Orc} {ops : Array Oper} {rs : List ROp} {nt : Nat} {p : Plan} {ef e : Env} {Sp S2 : Nat → Mem} {S Sf : Mem} {K0 : Ctx} {wS : World} {dd : List Deferred}
  {n : Nat} {rd : Option Nat} {Q : Exit → Act → World → Prop}

theorem ER.kept {K : Ctx} {S : Mem} {er : Env} {l : List Nat} {a : Act} (hsz : a.tmps.size = nt) (hu : ∀ t ∈ l, VR K S (er.get t) (a.tmps.getD t undef)) : ER K S nt (keepE er l) a := by
  refine ⟨hsz, fun t => ?_⟩
  rw [get_keepE]
  split
  · rename_i ht; exact hu t ht
  · exact .u _

theorem wpOp_one (hO : OK P base.Λ O) {K : Ctx} {S : Mem} {w : World} (h : Sim base w0 K S w) {a : Act} {er : Env} {i : Nat} {o : Oper} {r : ROp} (ho : ops[i]? = some o) (hc : compOper P ops o = some r) (hsz : a.tmps.size = nt)
    (hu : ∀ t ∈ r.use, VR K S (er.get t) (a.tmps.getD t undef)) {x : AV} {S' : Mem} (hv : evOne O er S r = some (x, S')) {Kont : Act → World → Prop}
    (hK : ∀ K' w' v, VR K' S' x v → Sim base w0 K' S' w' → Stp K S w K' S' w' → Kont (a.put r.dst v) w') : wpOpIn (FW rd) n P ops Q i Kont a w := by
  have hr := ER.kept (nt := nt) hsz hu
  obtain ⟨hio, hdst⟩ := compOper_io hc
  rw [evOne_congr (e' := keepE er r.use) S (fun t ht => by rw [get_keepE, if_pos ht])] at hv
  unfold wpOpIn
  simp only [ho]
  unfold evOne at hv
  cases hw : wantV (keepE er r.use) r.guard with
  | none => simp [hw] at hv
  | some b =>
    have hwant := want_ok (ops := ops) (o := o) (fun t _ _ => hr.slot t) hr.size hc hw
    cases b with
    | false =>
      rw [hwant, if_neg (by simp)]
      simp only [hw, Option.some.injEq, Prod.mk.injEq] at hv
      obtain ⟨rfl, rfl⟩ := hv
      refine ⟨fun _ _ => trivial, ?_⟩
      have := hK K w undef .ud h (.refl K S w)
      rwa [hdst] at this
    | true =>
      rw [hwant, if_pos rfl]
      simp only [hw] at hv
      rw [hio] at hv
      refine oper_ok hO h hr hv fun K' w' v a1 a2 a3 => ?_
      have := hK K' w' v a1 a2 a3
      rwa [hdst] at this

theorem compIO_op {op : Op} {io : IO'} (h : compIO P op = .op io) (hl : io.laying = true) : compOp P op = some io := by
  unfold compIO at h
  split at h
  · rename_i x hx
    subst h
    unfold compCall at hx
    split at hx
    · split at hx
      · split at hx
        · cases hx
        · cases hx
      · obtain ⟨y, _, hy⟩ := Option.map_eq_some_iff.1 hx
        cases hy
      · cases hx
    · cases hx
  · split at h
    · rename_i x hx
      injection h with h; subst h; exact hx
    · injection h with h; subst h; cases hl

theorem mapM_at {rs : List ROp} (hm : ops.toList.mapM (compOper P ops) = some rs) {i : Nat} (hi : i < rs.length) : ∃ o, ops[i]? = some o ∧ ops.toList.getD i default = o ∧ compOper P ops o = some (rs.getD i dflt) := by
  obtain ⟨h1, h2⟩ := mapM_ok hm
  have hi' : i < ops.toList.length := by omega
  have hi2 : i < ops.size := by simpa using hi'
  refine ⟨ops.toList[i], ?_, by simp [List.getD_eq_getElem?_getD, hi2], ?_⟩
  · simp [hi2]
  · rw [h2 i hi' hi]
    simp [List.getD_eq_getElem?_getD, hi]

theorem ready_mem {L : Array Bool} (hm : ops.toList.mapM (compOper P ops) = some rs) (hsz : L.size = rs.length) {i : Nat} (h : i ∈ Region.ready .any ops L) :
    i < rs.length ∧ L.getD i false = false ∧ ∀ d ∈ directs (ops.toList.getD i default), L.getD d false = true := by
  simp only [Region.ready, List.mem_filter, List.mem_range, Bool.and_eq_true, Bool.not_eq_true'] at h
  obtain ⟨h1, h2, h3⟩ := h
  have hl := (mapM_ok hm).1
  have hi : i < rs.length := by rw [hl]; simpa using h1
  obtain ⟨o, ho, ho2, _⟩ := mapM_at hm hi
  have hiL : i < L.size := by omega
  refine ⟨hi, by simpa [Array.getD, hiL] using h2, fun d hd => ?_⟩
  rw [ho2] at hd
  rw [ho] at h3
  simp only [Option.map_some, Option.getD_some, Array.all_eq_true_iff_forall_mem] at h3
  simp only [directs, List.mem_map, List.mem_filter] at hd
  obtain ⟨ed, ⟨hed, hb⟩, rfl⟩ := hd
  have := h3 ed (by simpa using hed)
  rw [hb] at this
  simpa using this

theorem ready_nil {L : Array Bool} (hP : PF ops.toList rs nt p) (hm : ops.toList.mapM (compOper P ops) = some rs) (hsz : L.size = rs.length) (h : Region.ready .any ops L = []) : ∀ i, i < rs.length → L.getD i false = true := by
  intro i
  induction i using Nat.strongRecOn with
  | _ i ih =>
    intro hi
    cases hL : L.getD i false with
    | true => rfl
    | false =>
      exfalso
      obtain ⟨o, ho, ho2, _⟩ := mapM_at hm hi
      have hl := (mapM_ok hm).1
      have hiL : i < L.size := by omega
      have : i ∈ Region.ready .any ops L := by
        simp only [Region.ready, List.mem_filter, List.mem_range, Bool.and_eq_true, Bool.not_eq_true']
        have hrl : rs.length = ops.size := by simpa using hl
        refine ⟨by omega, by simpa [Array.getD, hiL] using hL, ?_⟩
        rw [ho]
        simp only [Option.map_some, Option.getD_some, Array.all_eq_true_iff_forall_mem]
        intro ed hed
        cases hb : Region.binds .any ed with
        | false => rfl
        | true =>
          have hd : ed.on ∈ directs (ops.toList.getD i default) := by
            rw [ho2]
            simp only [directs, List.mem_map, List.mem_filter]
            exact ⟨ed, ⟨by simpa using hed, hb⟩, rfl⟩
          have hlt := hP.dlt i hi _ hd
          simpa using ih _ hlt (by omega)
      rw [h] at this; cases this

theorem count_set (L : Array Bool) (i : Nat) (hi : i < L.size) (hn : L.getD i false = false) : ∀ l : List Nat, l.Nodup → i ∈ l → l.countP (fun j => (L.setIfInBounds i true).getD j false) = l.countP (fun j => L.getD j false) + 1
  | [], _, h => by cases h
  | j :: l, hd, h => by
    simp only [List.nodup_cons] at hd
    by_cases e : j = i
    · subst e
      have h1 : (L.setIfInBounds j true).getD j false = true := by rw [getD_set L j j hi, if_pos rfl]
      have h2 : l.countP (fun k => (L.setIfInBounds j true).getD k false) = l.countP (fun k => L.getD k false) := by
        refine List.countP_congr fun k hk => ?_
        have : k ≠ j := fun e => hd.1 (e ▸ hk)
        rw [getD_set L j k hi, if_neg this]
      rw [List.countP_cons, List.countP_cons, h2]
      simp [h1, hn]
    · have hil : i ∈ l := by
        rcases List.mem_cons.1 h with h | h
        · exact absurd h.symm e
        · exact h
      have ih := count_set L i hi hn l hd.2 hil
      have h1 : (L.setIfInBounds i true).getD j false = L.getD j false := by rw [getD_set L i j hi, if_neg e]
      rw [List.countP_cons, List.countP_cons, ih]
      simp only [h1]
      omega

theorem any_ok (hO : OK P base.Λ O) {er : Env} (her : er = keepE e (lateSlots rs p) ++ ef) (hm : ops.toList.mapM (compOper P ops) = some rs) (hP : PF ops.toList rs nt p) (hD : DF O er ef e S Sf rs p Sp S2) (hb : base ≤ wS.heap.size)
    (hQ : ∀ K' a' w', ER K' Sf nt ef a' → a'.defers = dd → Sim base w0 K' Sf w' → Stp K0 S wS K' Sf w' → Q .normal a' w') :
    ∀ (fuel s : Nat) (L : Array Bool) (a : Act) (w : World) (K : Ctx) (β : Nat → Nat), TS base w0 rs nt p ef e Sp S2 S K0 wS dd s L a w K β → rs.length ≤ (List.range rs.length).countP (fun j => L.getD j false) + fuel → wpAnyIn (FW rd) n P .any ops Q fuel L a w := by
  have fin : ∀ s L a w K β, TS base w0 rs nt p ef e Sp S2 S K0 wS dd s L a w K β → (∀ i, i < rs.length → L.getD i false = true) → Q .normal a w := by
    intro s L a w K β hT hall
    have hsk : s = p.ms.length := by
      rcases Nat.lt_or_ge s p.ms.length with hlt | hge
      · have := (hT.msL s hlt).1 (hall _ (hP.ms s hlt).1)
        omega
      · have := hT.hs; omega
    subst hsk
    obtain ⟨K', g1, g2, g3, g4, g5⟩ := adopt_ok hP hD hT hb (fun i hi _ => hall i hi)
    rw [hD.last] at g1 g2 g3 g4
    refine hQ K' a w ⟨hT.tsz, fun t => ?_⟩ hT.dfr g1 g2
    by_cases hex : ∃ j, j < rs.length ∧ (rs.getD j dflt).dst = some t
    · obtain ⟨j, hj, hd⟩ := hex
      by_cases hsm : ∀ c, p.cls.getD j (.m rs.length) = .a c → c < p.ms.length
      · exact (hT.new j hj (hall j hj) hsm t hd).mono g3
      · obtain ⟨c, hqq⟩ := Classical.not_forall.1 hsm
        obtain ⟨hcj, hcs⟩ := Classical.not_imp.1 hqq
        have := (hP.a j hj c hcj).1
        have : c = p.ms.length := by omega
        subst this
        exact g4 j hj hcj t hd
    · have hno : ∀ j, j < rs.length → (rs.getD j dflt).dst ≠ some t := fun j hj hd => hex ⟨j, hj, hd⟩
      rw [hD.env t hno]
      exact (hT.old t fun i' hi' _ => hno i' hi').mono g3
  intro fuel
  induction fuel with
  | zero =>
    intro s L a w K β hT hcnt
    have hall : ∀ i, i < rs.length → L.getD i false = true := by
      have : (List.range rs.length).countP (fun j => L.getD j false) = (List.range rs.length).length := by
        have := List.countP_le_length (p := fun j => L.getD j false) (l := List.range rs.length)
        simp only [List.length_range] at this ⊢
        omega
      intro i hi
      exact List.countP_eq_length.1 this i (List.mem_range.2 hi)
    refine ⟨?_, fin s L a w K β hT hall⟩
    cases hr : Region.ready .any ops L with
    | nil => rfl
    | cons i l =>
      have := ready_mem hm hT.sz (i := i) (by rw [hr]; simp)
      rw [hall i this.1] at this
      exact absurd this.2.1 (by simp)
  | succ fuel ih =>
    intro s L a w K β hT hcnt
    refine ⟨fun hr => fin s L a w K β hT (ready_nil hP hm hT.sz hr), fun i hi => ?_⟩
    obtain ⟨hi, hnl, hdir⟩ := ready_mem hm hT.sz hi
    obtain ⟨o, ho, ho2, hco⟩ := mapM_at hm hi
    have hiL : i < L.size := by rw [hT.sz]; exact hi
    have hanc : ∀ j, p.isAnc i j = true → L.getD j false = true := fun j hj => by
      obtain ⟨d, hd, hj⟩ := hP.anc i hi j hj
      have hdl := hdir d hd
      rcases hj with rfl | hj
      · exact hdl
      · exact hT.down d j (by have := hP.dlt i hi d hd; omega) hdl hj
    have hcnt' : rs.length ≤ (List.range rs.length).countP (fun j => (L.setIfInBounds i true).getD j false) + fuel := by
      rw [count_set L i hiL hnl _ List.nodup_range (List.mem_range.2 hi)]
      omega
    cases hcl : p.cls.getD i (.m rs.length) with
    | n lo hi' =>
      obtain ⟨q1, q2, q3, q4, q5⟩ := hP.n i hi lo hi' hcl
      have hlo : lo ≤ s := by
        rcases q3 with rfl | q3
        · omega
        · rcases Nat.eq_zero_or_pos lo with h0 | h0
          · omega
          · have := (hT.msL (lo - 1) (by omega)).1 (hanc _ q3)
            omega
      have hhi : s ≤ hi' := by
        rcases q4 with rfl | q4
        · exact hT.hs
        · rcases Nat.lt_or_ge hi' s with hlt | hge
          · have hk : hi' < p.ms.length := by have := hT.hs; omega
            have := hT.down _ i (hP.ms hi' hk).1 ((hT.msL hi' hk).2 hlt) q4
            rw [hnl] at this; cases this
          · exact hge
      obtain ⟨x, hx, hxd⟩ := hD.n i hi lo hi' hcl s hlo hhi
      have hu := used_ok her hP hD hT hi hnl hanc (.refl _ _) (fun jm hjm => by rw [hcl] at hjm; cases hjm)
      refine wpOp_one (nt := nt) hO hT.sim ho hco hT.tsz hu hx fun K1 w1 v hV hS1 hst => ih s _ _ _ K1 β ?_ hcnt'
      refine advance hP hT hi hnl hanc (fun c hc => by rw [hcl] at hc; cases hc) (Nat.le_refl _) hT.hs (fun j hj => ?_) (.refl _ _) hT.stp (fun i' _ _ c _ h1 h2 => by omega) (fun i' hi' hl c hc hs => (hT.pend i' hi' hl c hc hs).fresh) hS1 hst (fun t ht => ?_)
      · have hne : p.ms.getD j 0 ≠ i := fun e => by
          have := (hP.ms j hj).2.1
          rw [e, hcl] at this; cases this
        rw [getD_set L i _ hiL, if_neg hne]
        exact hT.msL j hj
      · rw [← hxd t ht]; exact hV
    | m j =>
      have hmj := hP.m i hi j hcl
      obtain ⟨hjk, hje⟩ := List.getElem?_eq_some_iff.1 hmj
      have hjd : p.ms.getD j 0 = i := by simp [List.getD_eq_getElem?_getD, hmj]
      have hjs : j = s := by
        have h1 : ¬ j < s := fun hlt => by
          have := (hT.msL j hjk).2 hlt
          rw [hjd, hnl] at this; cases this
        rcases Nat.lt_or_ge s j with hlt | hge
        · have := (hP.ms j hjk).2.2 s hlt
          rw [hjd] at this
          have := (hT.msL s (by omega)).1 (hanc _ this)
          omega
        · omega
      subst hjs
      obtain ⟨K', g1, g2, g3, g4, g5⟩ := adopt_ok hP hD hT hb (fun i' hi' hc' => by
        rcases (hP.a i' hi' j hc').2.1 with h | h
        · omega
        · rw [hjd] at h; exact hanc i' h)
      obtain ⟨x, hx, hxd⟩ := hD.m j hjk
      rw [hjd] at hx hxd
      have hu := used_ok her hP hD hT hi hnl hanc g3 (fun jm hjm => by
        rw [hcl] at hjm; injection hjm with hjm; exact ⟨hjm.symm, g4⟩)
      refine wpOp_one (nt := nt) hO g1 ho hco hT.tsz hu hx fun K1 w1 v hV hS1 hst => ih (j + 1) _ _ _ K1 β ?_ hcnt'
      refine advance hP hT hi hnl hanc (fun c hc => by rw [hcl] at hc; cases hc) (by omega) (by omega) (fun j' hj' => ?_) g3 g2 (fun i' hi' hl' c hc h1 h2 t ht => ?_) (fun i' hi' hl c hc hs => g5 i' hi' hl c hc (by omega)) hS1 hst (fun t ht => ?_)
      · rw [getD_set L i _ hiL]
        by_cases e1 : p.ms.getD j' 0 = i
        · rw [if_pos e1]
          have := (hP.ms j' hj').2.1
          rw [e1, hcl] at this
          injection this with this
          simp only [true_iff]; omega
        · rw [if_neg e1, hT.msL j' hj']
          have : j' ≠ j := fun e => e1 (by rw [e]; exact hjd)
          omega
      · have : c = j := by omega
        subst this
        exact g4 i' hi' hc t ht
      · rw [← hxd t ht]; exact hV
    | a c =>
      obtain ⟨q1, q2, q3, q4, ⟨d, hd⟩, q6⟩ := hP.a i hi c hcl
      have hsc : s ≤ c := by
        rcases q2 with h | h
        · have := hT.hs; omega
        · rcases Nat.lt_or_ge c s with hlt | hge
          · have hk : c < p.ms.length := by have := hT.hs; omega
            have := hT.down _ i (hP.ms c hk).1 ((hT.msL c hk).2 hlt) h
            rw [hnl] at this; cases this
          · exact hge
      obtain ⟨x, hx, hxd⟩ := hD.a i hi c hcl
      have hu := used_ok her hP hD hT hi hnl hanc (.refl _ _) (fun jm hjm => by rw [hcl] at hjm; cases hjm)
      have hr := ER.kept (nt := nt) hT.tsz hu
      obtain ⟨hio, hdst⟩ := compOper_io hco
      rw [evOne_congr (e' := keepE er (rs.getD i dflt).use) (Sp c) (fun t ht => by rw [get_keepE, if_pos ht])] at hx
      generalize hrr : rs.getD i dflt = r at *
      have hopio : ∃ io, r.io = .op io ∧ io.laying = true := by
        cases hio2 : r.io with
        | op io => rw [hio2] at q3; exact ⟨io, rfl, q3⟩
        | call f xs => rw [hio2] at q3; simp [IOp.laying] at q3
        | callv y xs => rw [hio2] at q3; simp [IOp.laying] at q3
      obtain ⟨io, hio2, hlay⟩ := hopio
      have hcomp : compOp P o.op = some io := compIO_op (by rw [← hio, hio2]) hlay
      unfold evOne at hx
      have hw : wantV (keepE er r.use) r.guard = some true := by rw [q4]; rfl
      simp only [hw, hio2, evOp] at hx
      obtain ⟨cs, arr, et, v, e1, e2, e3, e4⟩ := early_ok (w := w) hr hcomp hlay hx
      unfold wpOpIn
      simp only [ho]
      rw [want_ok (ops := ops) (o := o) (fun t _ _ => hr.slot t) hr.size hco hw, if_pos rfl]
      unfold Oper.wpIn
      refine ⟨fun _ _ => trivial, ?_⟩
      rw [semAt_ok (fun c e => by rw [e] at hcomp; simp [compOp] at hcomp), e3, Oper.uponIn_value, ← hdst]
      refine ih s _ _ _ K (fun j => if j = i then w.heap.size else β j) ?_ hcnt'
      have := laid_ok (et := et) (t := d) hP hT hi hnl hanc hcl hsc (by rw [hrr]; exact hd) e1 e2 (by rw [← hxd d hd]; exact e4)
      rw [hrr] at this
      exact this

theorem draw_ok (hO : OK P base.Λ O) (hmix : P.follows .mixedOrders = true) {id : Nat} {K : Ctx} {w : World} {a : Act} (hm : ops.toList.mapM (compOper P ops) = some rs) (hp : planOk ops.toList rs nt p = true) (h : Sim base w0 K S w) (hr : ER K S nt e a)
    (hv : evDraw O (stagesOf rs p) (lateSlots rs p) e S = some (ef, Sf)) (hQ : ∀ K' a' w', ER K' Sf nt ef a' → a'.defers = a.defers → Sim base w0 K' Sf w' → Stp K S w K' Sf w' → Q .normal a' w') : (Code.region id ops true).wpIn (FW rd) n P Q a w := by
  have hP := planOk_facts hp
  unfold evDraw at hv
  split at hv
  · rename_i ef' Sf' pre hst
    split at hv
    · rename_i hc
      simp only [Option.some.injEq, Prod.mk.injEq] at hv
      obtain ⟨rfl, rfl⟩ := hv
      obtain ⟨Sp, S2, hD⟩ := df_of hP _ hst hc
      obtain ⟨hd1, hd2⟩ := h.drew
      refine wpIn_region_any hmix ?_
      have hl : rs.length = ops.size := by simpa using (mapM_ok hm).1
      have hrep : ∀ j, (Array.replicate ops.size false).getD j false = false := fun j => by
        simp only [Array.getD_eq_getD_getElem?, Array.getElem?_replicate]; split <;> rfl
      refine any_ok (K0 := K) (wS := w.drew) (dd := a.defers) (S := S) hO rfl hm hP hD hd1.hb (fun K' a' w' q1 q2 q3 q4 => hQ K' a' w' q1 q2 q3 (hd2.trans q4)) ops.size 0 _ a w.drew K (fun _ => 0) ?_ (by omega)
      refine ⟨Nat.zero_le _, by simp [hl], fun j _ => ?_, fun i j _ hi => ?_, by rw [hD.zero]; exact hd1, by rw [hD.zero]; exact .refl _ _ _, hr.size, rfl, fun t _ => by rw [hD.zero]; exact hr.slot t, fun i _ hi => ?_, fun i _ hi => ?_, fun i i' c c' _ _ hi => ?_⟩
      · rw [hrep]; simp
      · rw [hrep] at hi; cases hi
      · rw [hrep] at hi; cases hi
      · rw [hrep] at hi; cases hi
      · rw [hrep] at hi; cases hi
    · cases hv
  · cases hv
end
end Go.Proofs.YtljaigbjiheohaaDoor
