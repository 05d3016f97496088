/- Proved here: what the law of this claim leans on (an evaluator of the model's code, contracts of functions). No condition. -/
import Derived.Test.YtmdnohpolepcoaaMd
import Derived.Test.YtmdnohpolepcoaaMc
import Derived.Shelf.SlSortCmp.WholeK
import Derived.Test.YtmdnohpolepcoaaProg
namespace Go.Proofs.Ytmdnohpolepcoaa
open Go.RowKit
set_option linter.unusedSimpArgs false
set_option linter.unusedVariables false
set_option maxRecDepth 10000

structure Cf where
  v : Nat
  cap : Nat
  junk : List AV
  l : List Ent
def Cf.x (i : Nat) (c : Cf) : AV := .sl i 0 c.v c.l.length c.cap false
def Cf.blk (c : Cf) : Blk := .cells (c.l.flatMap entE.enc ++ c.junk) c.v (some 14) true
structure Cf.wf (c : Cf) : Prop where
  hj : c.junk.length = (c.cap - c.l.length) * 14
  hc : c.l.length ≤ c.cap
  ho : c.junk.all AV.one = true
def Cf.del (c : Cf) (k : Nat) : Cf := ⟨c.v, c.cap, zero14 ++ c.junk, c.l.eraseIdx k⟩
def Cf.app (c : Cf) (a : Ent) : Cf := if c.l.length + 1 ≤ c.cap then ⟨c.v, c.cap, c.junk.drop 14, c.l ++ [a]⟩ else ⟨c.v + 1, c.l.length + 1, [], c.l ++ [a]⟩
def Cf.pol (c : Cf) (k : Nat) (p : Pol) : Cf := ⟨c.v, c.cap, c.junk, c.l.set k ⟨p, (c.l.getD k noEnt).granted⟩⟩
noncomputable def sortE (l : List Ent) : List Ent := open Classical in if h : ∃ d, Rises d ∧ ∀ x, x ∈ d ↔ x ∈ l then h.choose else l
noncomputable def Cf.sort (c : Cf) : Cf := ⟨c.v, c.cap, c.junk, sortE c.l⟩
theorem Cf.app_l (c : Cf) (a : Ent) : (c.app a).l = c.l ++ [a] := by unfold Cf.app; split <;> rfl
section
variable {i : Nat} {S : Mem} {c : Cf}
theorem Cf.sp (hw : c.wf) (hB : S[i]? = some c.blk) : Sp i S (c.x i) c.l := ⟨_, _, _, rfl, hB, hw.hj, hw.hc, hw.ho⟩
theorem Cf.lst (hw : c.wf) (hB : S[i]? = some c.blk) : lstV entE S (c.x i) = some c.l := (Cf.sp hw hB).lst
theorem Cf.del_wf (hw : c.wf) {k : Nat} (hk : k < c.l.length) : (c.del k).wf := by
  have hle : (c.l.eraseIdx k).length = c.l.length - 1 := by rw [List.length_eraseIdx, if_pos hk]
  have := hw.hc
  refine ⟨?_, ?_, ?_⟩
  · show (zero14 ++ c.junk).length = (c.cap - (c.l.eraseIdx k).length) * 14
    rw [List.length_append, hw.hj, hle]
    show 14 + _ = _
    omega
  · show (c.l.eraseIdx k).length ≤ c.cap
    rw [hle]; omega
  · show (zero14 ++ c.junk).all AV.one = true
    rw [List.all_append, hw.ho]; rfl
theorem Cf.del_eq (hw : c.wf) (hB : S[i]? = some c.blk) {k : Nat} (hk : k < c.l.length) (hl : c.l.length ≤ 1000000) : delS [c.x i, .i .i64 (k : Int), .i .i64 ((k : Int) + 1)] S = some ((c.del k).x i, S.set i (c.del k).blk) := by
  have hj := hw.hj
  have hlc := hw.hc
  have hcl : (c.l.flatMap entE.enc ++ c.junk).length = c.cap * 14 := by rw [List.length_append, flat14, hj]; omega
  have hone : (c.l.flatMap entE.enc ++ c.junk).all AV.one = true := by rw [List.all_append, hw.ho, all_one entE_one c.l]; rfl
  have hle : (c.l.eraseIdx k).length = c.l.length - 1 := by rw [List.length_eraseIdx, if_pos hk]
  have hB : S[i]? = some (.cells (c.l.flatMap entE.enc ++ c.junk) c.v (some 14) true) := hB
  simp only [delS, Cf.x, hB]
  rw [if_pos ⟨trivial, hcl, hlc, by omega, by omega, trivial, hl, hone⟩, Int.toNat_natCast]
  have hx : c.l.length - 1 = (c.del k).l.length := hle.symm
  have hbk : cutCells (c.l.flatMap entE.enc ++ c.junk) k c.l.length = (c.l.eraseIdx k).flatMap entE.enc ++ (zero14 ++ c.junk) := by
    have he : c.l.eraseIdx k = c.l.take k ++ c.l.drop (k + 1) := List.eraseIdx_eq_take_drop_succ ..
    have t1 : (c.l.flatMap entE.enc ++ c.junk).take (k * 14) = (c.l.take k).flatMap entE.enc := by
      rw [List.take_append_of_le_length (by rw [flat14]; omega)]; exact flat_take (E := entE) c.l k
    have t2 : ((c.l.flatMap entE.enc ++ c.junk).drop ((k + 1) * 14)).take ((c.l.length - (k + 1)) * 14) = (c.l.drop (k + 1)).flatMap entE.enc := by
      rw [List.drop_append_of_le_length (by rw [flat14]; omega)]
      rw [show (c.l.flatMap entE.enc).drop ((k + 1) * 14) = (c.l.drop (k + 1)).flatMap entE.enc from flat_drop (E := entE) c.l (k + 1)]
      rw [List.take_append_of_le_length (by rw [flat14, List.length_drop]; omega), List.take_of_length_le (by rw [flat14, List.length_drop]; omega)]
    have t3 : (c.l.flatMap entE.enc ++ c.junk).drop (c.l.length * 14) = c.junk := by rw [← flat14, List.drop_left]
    unfold cutCells
    rw [t1, t2, t3, he, List.flatMap_append, List.append_assoc, List.append_assoc]
    first | done | simp [List.append_assoc]
  rw [hx, hbk]; rfl
theorem Cf.app_wf (hw : c.wf) (a : Ent) : (c.app a).wf := by
  have hj := hw.hj
  have hlc := hw.hc
  unfold Cf.app
  split
  · rename_i h
    refine ⟨?_, ?_, ?_⟩
    · show (c.junk.drop 14).length = (c.cap - (c.l ++ [a]).length) * 14
      rw [List.length_drop, hj, List.length_append]; simp; omega
    · show (c.l ++ [a]).length ≤ c.cap
      rw [List.length_append]; exact h
    · show (c.junk.drop 14).all AV.one = true
      have := hw.ho
      rw [List.all_eq_true] at this ⊢
      exact fun y hy => this y (List.mem_of_mem_drop hy)
  · refine ⟨?_, ?_, rfl⟩
    · show ([] : List AV).length = (c.l.length + 1 - (c.l ++ [a]).length) * 14
      rw [List.length_append]; simp
    · show (c.l ++ [a]).length ≤ c.l.length + 1
      rw [List.length_append]; exact Nat.le_refl _
theorem Cf.app_eq (hw : c.wf) (hB : S[i]? = some c.blk) (a : Ent) (hl : c.l.length ≤ 1000000) : appV S 14 88 (c.x i) (entE.enc a) 1 = some ((c.app a).x i, S.set i (c.app a).blk) := by
  have hj := hw.hj
  have hlc := hw.hc
  have ha14 : (entE.enc a).length = 14 := rfl
  have hlim1 : (c.l.length + 1) * 88 ≤ lim := by show _ ≤ 140737488355328; omega
  have hlim2 : c.l.length + 1 ≤ lim := by show _ ≤ 140737488355328; omega
  have hB : S[i]? = some (.cells (c.l.flatMap entE.enc ++ c.junk) c.v (some 14) true) := hB
  unfold Cf.app
  by_cases hc : c.l.length + 1 ≤ c.cap
  · rw [if_pos hc]
    simp only [appV, Cf.x, hB]
    rw [if_neg (by omega), if_pos hc, if_pos ⟨trivial, by rw [List.length_append, flat14, hj]; omega, entE_one a⟩]
    have hbk : splice (c.l.flatMap entE.enc ++ c.junk) (0 + c.l.length * 14) (entE.enc a) = (c.l ++ [a]).flatMap entE.enc ++ c.junk.drop 14 := by
      unfold splice
      rw [Nat.zero_add, ha14, ← flat14, List.take_left, List.flatMap_append, List.drop_append, List.drop_of_length_le (by omega), List.nil_append, Nat.add_sub_cancel_left]
      simp [List.append_assoc]
    rw [hbk, List.length_append]; rfl
  · have hcl : c.cap = c.l.length := by omega
    have hj0 : c.junk = [] := List.eq_nil_of_length_eq_zero (by rw [hj]; omega)
    rw [if_neg hc]
    rw [hj0, List.append_nil] at hB
    simp only [appV, Cf.x, hB, Bool.false_eq_true, if_false]
    rw [if_neg (by omega), if_neg hc, if_pos ⟨hlim1, hlim2⟩, if_pos ⟨trivial, trivial, trivial, by rw [flat14]; omega, entE_one a⟩]
    have hbk : (c.l.flatMap entE.enc).take (c.l.length * 14) ++ entE.enc a = (c.l ++ [a]).flatMap entE.enc ++ [] := by
      rw [← flat14, List.take_length, List.append_nil, List.flatMap_append]
      simp
    rw [hbk, List.length_append]; rfl
theorem Cf.pol_wf (hw : c.wf) (k : Nat) (p : Pol) : (c.pol k p).wf := by
  refine ⟨?_, ?_, hw.ho⟩
  · show c.junk.length = (c.cap - (c.l.set k _).length) * 14
    rw [List.length_set]; exact hw.hj
  · show (c.l.set k _).length ≤ c.cap
    rw [List.length_set]; exact hw.hc
theorem Cf.pol_eq (hw : c.wf) {k : Nat} (hk : k < c.l.length) (p : Pol) :
    k * 14 + 13 ≤ (c.l.flatMap entE.enc ++ c.junk).length ∧ (c.l.flatMap entE.enc ++ c.junk).take (k * 14) ++ (p.enc ++ (c.l.flatMap entE.enc ++ c.junk).drop (k * 14 + 13)) = (c.pol k p).l.flatMap entE.enc ++ c.junk := by
  have hcs : k * 14 + 13 ≤ (c.l.flatMap entE.enc).length := by rw [flat14]; omega
  refine ⟨by rw [List.length_append]; omega, ?_⟩
  have hg : c.l.getD k noEnt = c.l[k] := by rw [List.getD_eq_getElem?_getD, List.getElem?_eq_getElem hk]; rfl
  have hsp := splice_at (E := entE) c.l hk ⟨p, c.l[k].granted⟩ (f := 0) (ys := p.enc) (by simp [entE, Pol.enc]) (by rfl)
  have hsp : (c.l.flatMap entE.enc).take (k * 14) ++ p.enc ++ (c.l.flatMap entE.enc).drop (k * 14 + 13) = (c.l.set k ⟨p, c.l[k].granted⟩).flatMap entE.enc := by rw [← hsp]; show _ = (c.l.flatMap entE.enc).take (k * 14 + 0) ++ (p.enc ++ (c.l.flatMap entE.enc).drop (k * 14 + 0 + 13)); simp only [Nat.add_zero, List.append_assoc]
  show _ = (c.l.set k ⟨p, (c.l.getD k noEnt).granted⟩).flatMap entE.enc ++ c.junk
  rw [hg, ← hsp, List.take_append_of_le_length (by omega), List.drop_append_of_le_length (by omega)]
  simp [List.append_assoc]
end

/-! ### Sorting: plain -/
theorem ex_rises : ∀ (l : List Ent), Once l → ∃ d, Rises d ∧ (∀ x, x ∈ d ↔ x ∈ l) ∧ d.length = l.length
  | [], _ => ⟨[], List.Pairwise.nil, fun x => Iff.rfl, rfl⟩
  | a :: l, ho => by
    obtain ⟨h1, h2⟩ := List.pairwise_cons.1 ho
    obtain ⟨d, d1, d2, d3⟩ := ex_rises l h2
    refine ⟨d.filter (fun x => decide (x.pol.sub < a.pol.sub)) ++ a :: d.filter (fun x => decide (a.pol.sub < x.pol.sub)), ?_, fun x => ?_, ?_⟩
    · refine List.pairwise_append.2 ⟨d1.filter _, List.pairwise_cons.2 ⟨fun y hy => ?_, d1.filter _⟩, fun y hy z hz => ?_⟩
      · have := (List.mem_filter.1 hy).2; simpa using this
      · have h3 := (List.mem_filter.1 hy).2
        simp only [decide_eq_true_eq] at h3
        rcases List.mem_cons.1 hz with rfl | hz
        · exact h3
        · have h4 := (List.mem_filter.1 hz).2
          simp only [decide_eq_true_eq] at h4
          omega
    · simp only [List.mem_append, List.mem_cons, List.mem_filter, decide_eq_true_eq]
      constructor
      · rintro (⟨h, _⟩ | h | ⟨h, _⟩)
        · exact .inr ((d2 x).1 h)
        · exact .inl h
        · exact .inr ((d2 x).1 h)
      · rintro (h | h)
        · exact .inr (.inl h)
        · have := h1 x h
          by_cases hlt : x.pol.sub < a.pol.sub
          · exact .inl ⟨(d2 x).2 h, hlt⟩
          · exact .inr (.inr ⟨(d2 x).2 h, by omega⟩)
    · rw [List.length_append, List.length_cons, List.length_cons, ← d3]
      have hne : ∀ x ∈ d, x.pol.sub ≠ a.pol.sub := fun x hx => (h1 x ((d2 x).1 hx)).symm
      clear h1 h2 d1 d2 d3 ho
      induction d with
      | nil => rfl
      | cons b d ih =>
        have ih := ih fun x hx => hne x (by simp [hx])
        have hb := hne b (by simp)
        simp only [List.filter_cons]
        by_cases hlt : b.pol.sub < a.pol.sub
        · have h2 : ¬ a.pol.sub < b.pol.sub := by omega
          simp only [hlt, h2, decide_true, decide_false, if_true, Bool.false_eq_true, if_false, List.length_cons]
          omega
        · have h2 : a.pol.sub < b.pol.sub := by omega
          simp only [hlt, h2, decide_true, decide_false, if_true, Bool.false_eq_true, if_false, List.length_cons]
          omega
theorem sortE_ok {l : List Ent} (ho : Once l) : Rises (sortE l) ∧ (∀ x, x ∈ sortE l ↔ x ∈ l) ∧ (sortE l).length = l.length := by
  obtain ⟨d, d1, d2, d3⟩ := ex_rises l ho
  have hex : ∃ d, Rises d ∧ ∀ x, x ∈ d ↔ x ∈ l := ⟨d, d1, d2⟩
  have h : Rises (sortE l) ∧ ∀ x, x ∈ sortE l ↔ x ∈ l := by
    unfold sortE
    rw [dif_pos hex]; exact hex.choose_spec
  refine ⟨h.1, h.2, ?_⟩
  rw [rises_ext h.1 d1 fun x => (h.2 x).trans (d2 x).symm]; exact d3
theorem sortE_eq {l d : List Ent} (ho : Once l) (hd : Rises d) (hm : ∀ x, x ∈ d ↔ x ∈ l) : d = sortE l :=
  rises_ext hd (sortE_ok ho).1 fun x => (hm x).trans ((sortE_ok ho).2.1 x).symm
end Go.Proofs.Ytmdnohpolepcoaa

namespace Go.Proofs.Ytmdnohpolepcoaa
open Go.Shelf
def Try.laysSort_ren : Go.Shelf.Ren := ⟨fun | 6 => 45 | 15 => 50 | 14 => 61 | 28 => 72 | 29 => 73 | 20 => 81 | 21 => 82 | 22 => 83 | 23 => 84 | 24 => 85 | 25 => 86 | 26 => 87 | 27 => 88 | 46 => 96 | 47 => 90 | 48 => 91 | 49 => 97 | 50 => 98 | 57 => 100 | n => n, fun | 22 => 39 | 24 => 52 | 25 => 91 | 3 => 3 | 39 => 95 | 0 => 0 | 53 => 116 | 55 => 30 | 4 => 4 | 46 => 108 | 45 => 107 | 50 => 113 | 5 => 5 | 9 => 9 | 66 => 129 | 70 => 133 | 76 => 137 | 77 => 138 | n => n, fun | n => n⟩
theorem Try.laysSort : Go.Proofs.SlLaysF0.n6 Try.prog Try.laysSort_ren := {
  mixed := by kernel_rfl
  f6 := ⟨Try.f45.name, by decide, Try.func45.trans (congrArg some (by kernel_rfl))⟩
  f14 := ⟨Try.f61.name, by decide, Try.func61.trans (congrArg some (by kernel_rfl))⟩
  f15 := Try.func50.trans (congrArg some (by kernel_rfl))
  f20 := ⟨Try.f81.name, by decide, Try.func81.trans (congrArg some (by kernel_rfl))⟩
  f21 := ⟨Try.f82.name, by decide, Try.func82.trans (congrArg some (by kernel_rfl))⟩
  f22 := ⟨Try.f83.name, by decide, Try.func83.trans (congrArg some (by kernel_rfl))⟩
  f23 := ⟨Try.f84.name, by decide, Try.func84.trans (congrArg some (by kernel_rfl))⟩
  f24 := ⟨Try.f85.name, by decide, Try.func85.trans (congrArg some (by kernel_rfl))⟩
  f25 := ⟨Try.f86.name, by decide, Try.func86.trans (congrArg some (by kernel_rfl))⟩
  f26 := ⟨Try.f87.name, by decide, Try.func87.trans (congrArg some (by kernel_rfl))⟩
  f27 := ⟨Try.f88.name, by decide, Try.func88.trans (congrArg some (by kernel_rfl))⟩
  f28 := Try.func72.trans (congrArg some (by kernel_rfl))
  f29 := Try.func73.trans (congrArg some (by kernel_rfl))
  f46 := ⟨Try.f96.name, by decide, Try.func96.trans (congrArg some (by kernel_rfl))⟩
  f47 := Try.func90.trans (congrArg some (by kernel_rfl))
  f48 := Try.func91.trans (congrArg some (by kernel_rfl))
  f49 := ⟨Try.f97.name, by decide, Try.func97.trans (congrArg some (by kernel_rfl))⟩
  f50 := ⟨Try.f98.name, by decide, Try.func98.trans (congrArg some (by kernel_rfl))⟩
  f57 := ⟨Try.f100.name, by decide, Try.func100.trans (congrArg some (by kernel_rfl))⟩
  t0 := Try.underlying0
  a0 := Try.isAgg0
  z0 := Try.sizeOf0
  v0 := Try.zeroValue0
  t3 := Try.underlying3
  a3 := Try.isAgg3
  z3 := Try.sizeOf3
  v3 := Try.zeroValue3
  t4 := Try.underlying4
  a4 := Try.isAgg4
  z4 := Try.sizeOf4
  v4 := Try.zeroValue4
  t5 := Try.underlying5
  a5 := Try.isAgg5
  z5 := Try.sizeOf5
  v5 := Try.zeroValue5
  t9 := Try.underlying9
  a9 := Try.isAgg9
  z9 := Try.sizeOf9
  v9 := Try.zeroValue9
  t22 := Try.underlying39
  a22 := Try.isAgg39
  z22 := Try.sizeOf39
  v22 := Try.zeroValue39
  t25 := Try.underlying91
  a25 := Try.isAgg91
  z25 := Try.sizeOf91
  v25 := Try.zeroValue91
  t39 := Try.underlying95
  a39 := Try.isAgg95
  z39 := Try.sizeOf95
  v39 := Try.zeroValue95
  t45 := Try.underlying107
  a45 := Try.isAgg107
  z45 := Try.sizeOf107
  v45 := Try.zeroValue107
  t46 := Try.underlying108
  a46 := Try.isAgg108
  z46 := Try.sizeOf108
  v46 := Try.zeroValue108
  t50 := Try.underlying113
  a50 := Try.isAgg113
  z50 := Try.sizeOf113
  v50 := Try.zeroValue113
  t53 := Try.underlying116
  a53 := Try.isAgg116
  z53 := Try.sizeOf116
  v53 := Try.zeroValue116
  t55 := Try.underlying30
  a55 := Try.isAgg30
  z55 := Try.sizeOf30
  v55 := Try.zeroValue30
  t66 := Try.underlying129
  a66 := Try.isAgg129
  z66 := Try.sizeOf129
  v66 := Try.zeroValue129
  t70 := Try.underlying133
  a70 := Try.isAgg133
  z70 := Try.sizeOf133
  v70 := Try.zeroValue133
  t76 := Try.underlying137
  a76 := Try.isAgg137
  z76 := Try.sizeOf137
  v76 := Try.zeroValue137
  t77 := Try.underlying138
  a77 := Try.isAgg138
  z77 := Try.sizeOf138
  v77 := Try.zeroValue138 }
end Go.Proofs.Ytmdnohpolepcoaa

namespace Go.Proofs.Ytmdnohpolepcoaa
open Go.RowKit Go.Sort
set_option linter.unusedSimpArgs false
set_option linter.unusedVariables false
set_option maxRecDepth 10000

noncomputable def sortS : Spec := fun args S => match args with
  | [.sl i 0 v n cap false, .f (.func f) [] []] => open Classical in if h : f = 46 ∧ ∃ c : Cf, c.wf ∧ Once c.l ∧ c.l.length ≤ 1000000 ∧ v = c.v ∧ n = c.l.length ∧ cap = c.cap ∧ S[i]? = some c.blk then
      some (.tu [], S.set i h.2.choose.sort.blk) else none
  | _ => none
theorem cf_same {S : Mem} {i : Nat} {c c' : Cf} (h1 : c.v = c'.v) (h2 : c.l.length = c'.l.length) (h3 : c.cap = c'.cap) (h4 : S[i]? = some c.blk) (h5 : S[i]? = some c'.blk) : c = c' := by
  obtain ⟨v, cap, junk, l⟩ := c
  obtain ⟨v', cap', junk', l'⟩ := c'
  simp only at h1 h2 h3
  subst h1 h3
  rw [h4] at h5
  simp only [Cf.blk, Option.some.injEq, Blk.cells.injEq, and_true] at h5
  have h6 : (l.flatMap entE.enc).length = (l'.flatMap entE.enc).length := by rw [flat14, flat14, h2]
  obtain ⟨h7, h8⟩ := List.append_inj h5 h6
  have h9 : l = l' := by
    have e1 := decL_enc (E := entE) l
    have e2 := decL_enc (E := entE) l'
    rw [h7, h2] at e1
    rw [e1] at e2
    exact Option.some.inj e2
  rw [h9, h8]
theorem sort_eq {S : Mem} {i : Nat} {c : Cf} (hw : c.wf) (ho : Once c.l) (hl : c.l.length ≤ 1000000) (hB : S[i]? = some c.blk) : sortS [c.x i, .f (.func 46) [] []] S = some (.tu [], S.set i c.sort.blk) := by
  have hex : 46 = 46 ∧ ∃ c' : Cf, c'.wf ∧ Once c'.l ∧ c'.l.length ≤ 1000000 ∧ c.v = c'.v ∧ c.l.length = c'.l.length ∧ c.cap = c'.cap ∧ S[i]? = some c'.blk := ⟨rfl, c, hw, ho, hl, rfl, rfl, rfl, hB⟩
  simp only [sortS, Cf.x]
  rw [dif_pos hex]
  obtain ⟨_, _, _, g1, g2, g3, g4⟩ := hex.2.choose_spec
  exact congrArg (fun q : Cf => some (AV.tu [], S.set i q.sort.blk)) (cf_same g1 g2 g3 hB g4).symm
theorem swo_sub : SWO (ltOf fun x y : Ent => cmpI x.pol.sub y.pol.sub) := by
  have e : ∀ x y : Ent, ltOf (fun x y : Ent => cmpI x.pol.sub y.pol.sub) x y = decide (x.pol.sub < y.pol.sub) := fun x y => by
    unfold ltOf
    simp only
    exact decide_eq_decide.2 cmpI_neg
  refine ⟨fun x => ?_, fun x y z h1 h2 => ?_, fun x y z h1 h2 => ?_⟩
  · rw [e]; simp
  · rw [e] at h1 h2 ⊢
    simp only [decide_eq_true_eq] at h1 h2 ⊢
    omega
  · rw [e] at h1 h2 ⊢
    simp only [decide_eq_false_iff_not] at h1 h2 ⊢
    omega
theorem sort_ok : SpecOK Try.prog 45 sortS := by
  intro args S x S' h
  unfold sortS at h
  split at h
  · rename_i i v n cap f
    split at h
    · rename_i hex
      obtain ⟨rfl, hc⟩ := hex
      simp only [Option.some.injEq, Prod.mk.injEq] at h
      obtain ⟨rfl, rfl⟩ := h
      have sp := hc.choose_spec
      revert sp
      generalize hc.choose = c
      intro sp
      obtain ⟨hw, ho, hl, rfl, rfl, rfl, hB⟩ := sp
      clear hc
      refine ⟨by kernel_rfl, fun base w0 K w vs hΛ hA hS => ?_⟩
      obtain ⟨v1, v2, hvs⟩ : ∃ v1 v2, vs.toList = [v1, v2] := by
        match hh : vs.toList, hA.1 with
        | [p, q], _ => exact ⟨p, q, rfl⟩
      rw [hvs] at hA
      have q1 : VR K S (.sl i 0 c.v c.l.length c.cap false) v1 := hA.2 0 (by simp) (by simp)
      have q2 : VR K S (.f (.func 46) [] []) v2 := hA.2 1 (by simp) (by simp)
      have hvs' : vs = #[v1, v2] := by rw [← Array.toArray_toList (xs := vs), hvs]
      subst hvs'
      have hB : S[i]? = some (.cells (c.l.flatMap entE.enc ++ c.junk) c.v (some 14) true) := hB
      cases q1 with
      | sl _ _ _ _ _ _ a cc B h1 h2 h3 h4 h5 h6 =>
        rw [hB] at h1
        injection h1 with h1
        subst h1
        obtain ⟨rfl, _⟩ := h6 rfl
        cases q2 with
        | f _ _ _ x' y' hx hy hhx hhy =>
          have hx0 : x' = #[] := Array.eq_empty_of_size_eq_zero hx.symm
          have hy0 : y' = #[] := Array.eq_empty_of_size_eq_zero hy.symm
          subst hx0 hy0
          have hH := holds_of_sim hS hB
          have hblk : K.μ i < w.heap.size := by
            obtain ⟨ar, et, fz, g1, _⟩ := hS.blk i _ hB
            exact (Array.getElem?_eq_some_iff.1 g1).1
          have hk := AnyQ.slices_SortFunc Try.laysSort 14 Try.isAgg52 Try.sizeOf52 entV entV_len entV_cell (fun x y : Ent => cmpI x.pol.sub y.pol.sub) swo_sub 46 #[] (K.μ i) 0 cc c.l.toArray w
            (fun args w => run_callFunc (by kernel_rfl) args) (fun m os dk hs x y => closure_calls x y _) hH hblk (by simp; omega)
          have hk' : Calls Try.prog 45 #[.slice (some ⟨K.μ i, 0, none⟩) c.l.length cc, .func (.func 46) #[] #[]] w _ := hk
          refine hk'.mono fun e w' hp => ?_
          obtain ⟨rfl, d', n, os, hpm, hso, rfl⟩ := hp
          obtain ⟨p1, p2, p3⟩ := hpm
          have hsz : d'.size = c.l.length := by rw [p1]; simp
          have hd : d'.toList.length = c.l.length := by rw [Array.length_toList, hsz]
          have hperm : d'.toList.Perm c.l := by
            have e1 : d'.extract 0 c.l.toArray.size = d' := by
              rw [show c.l.toArray.size = d'.size by rw [hsz]; simp]; simp
            have e2 : c.l.toArray.extract 0 c.l.toArray.size = c.l.toArray := by simp
            rw [e1, e2] at p3
            simpa using p3
          have hri := rises_of_sorted hperm ho fun i j hij hj => by
            have hj' : j < d'.size := by simpa using hj
            have hh := hso i j (Nat.zero_le _) hij (by rw [show c.l.toArray.size = d'.size by rw [hsz]; simp]; exact hj')
            have e1 : d'[j]! = d'.toList[j] := by rw [getElem!_pos d' j hj']; simp
            have e2 : d'[i]! = d'.toList[i]'(by omega) := by rw [getElem!_pos d' i (by omega)]; simp
            rw [e1, e2] at hh
            unfold ltOf at hh
            simpa using hh
          have hde : d'.toList = sortE c.l := sortE_eq ho hri.1 hri.2
          obtain ⟨r1, r2⟩ := sim_sorted hS hB hsz n os
          have hbk : c.sort.blk = .cells (d'.toList.flatMap entE.enc ++ c.junk) c.v (some 14) true := by rw [hde]; rfl
          rw [hbk]
          exact ⟨K, _, rfl, .tu [] #[] rfl fun k => .u _, r1, r2⟩
    · cases h
  · cases h
end Go.Proofs.Ytmdnohpolepcoaa

namespace Go.Proofs.Ytmdnohpolepcoaa
open Go.RowKit
set_option linter.unusedSimpArgs false
set_option linter.unusedVariables false
set_option maxRecDepth 10000

def dropC : List Int → Cf → Cf × Bool
  | [], c => (c, true)
  | id :: ds, c => match c.l.findIdx? (hasSub id) with
    | some k => dropC ds (c.del k)
    | none => (c, false)
def putC : List Pol → Cf → Cf
  | [], c => c
  | p :: ps, c => match c.l.findIdx? (hasSub p.sub) with
    | some k => putC ps (c.pol k p)
    | none => putC ps (c.app ⟨p, 0⟩)
theorem dropC_all : ∀ (ds : List Int) (c : Cf), dropAll ds c.l = if (dropC ds c).2 = true then some (dropC ds c).1.l else none
  | [], c => rfl
  | id :: ds, c => by
    cases h : c.l.findIdx? (hasSub id) with
    | none => simp only [dropAll, dropC, h]; rfl
    | some k => simp only [dropAll, dropC, h]; exact dropC_all ds (c.del k)
theorem putC_all : ∀ (ps : List Pol) (c : Cf), (putC ps c).l = putAll ps c.l
  | [], c => rfl
  | p :: ps, c => by
    cases h : c.l.findIdx? (hasSub p.sub) with
    | none => simp only [putAll, putC, h]; exact (putC_all ps (c.app ⟨p, 0⟩)).trans (by rw [Cf.app_l])
    | some k => simp only [putAll, putC, h]; exact putC_all ps (c.pol k p)
def commitOk (l : List Ent) (e : Evt) : Prop := Once l ∧ e.drops.Nodup ∧ (e.puts.Pairwise fun p q => p.sub ≠ q.sub) ∧ l.length + e.puts.length ≤ 1000000 ∧ e.drops.length ≤ 1000000

/-- A list that is empty and has no block of its own to grow in. -/
def noX (S : Mem) : AV → Bool
  | .sn => true
  | .sl i 0 0 0 0 true => match S[i]? with
    | some (.cells [] 0 none true) => true
    | _ => false
  | _ => false
theorem noX_cases {S : Mem} {x : AV} (h : noX S x = true) : x = .sn ∨ ∃ i, x = .sl i 0 0 0 0 true ∧ S[i]? = some (.cells [] 0 none true) := by
  unfold noX at h
  split at h
  · exact .inl rfl
  · rename_i i
    split at h
    · rename_i hB; exact .inr ⟨i, rfl, hB⟩
    · cases h
  · cases h
def bs (md : Option Nat) (S : Mem) : Mem := match md with
  | some i => S.take i
  | none => S
/-- The list in its own block ('md': the block's number), or in no block yet, or in a new block. -/
def Kx (S M : Mem) (md : Option Nat) (x : AV) (c : Cf) : Prop := match md with
  | some i => x = c.x i ∧ c.wf ∧ i < S.length ∧ ∃ L, M = S.set i c.blk ++ L
  | none => S <+: M ∧ ((c.l = [] ∧ noX S x = true) ∨ ∃ (p : Nat) (c' : Cf), c'.l = c.l ∧ c'.wf ∧ x = c'.x (S.length + p) ∧ M[S.length + p]? = some c'.blk)
section
variable {S M : Mem} {md : Option Nat} {x : AV} {c : Cf}
theorem set_at {i : Nat} {B : Blk} (h : i < S.length) : (S.set i B)[i]? = some B := by simp [h]
theorem Kx.blk {i : Nat} (h : Kx S M (some i) x c) : M[i]? = some c.blk := by
  obtain ⟨_, _, hi, L, rfl⟩ := h
  exact at_old (set_at hi)
theorem Kx.ext (h : Kx S M md x c) : bs md S <+: M := by
  cases md with
  | none => exact h.1
  | some i =>
    obtain ⟨_, _, hi, L, rfl⟩ := h
    refine ext_more ?_ L
    show S.take i <+: S.set i c.blk
    rw [List.set_eq_take_append_cons_drop, if_pos hi]
    exact List.prefix_append _ _
theorem Kx.grow (h : Kx S M md x c) (U : Mem) : Kx S (M ++ U) md x c := by
  cases md with
  | none =>
    refine ⟨ext_more h.1 U, ?_⟩
    rcases h.2 with h | ⟨p, c', h1, h2, h3, h4⟩
    · exact .inl h
    · exact .inr ⟨p, c', h1, h2, h3, at_old h4⟩
  | some i =>
    obtain ⟨h1, h2, hi, L, rfl⟩ := h
    exact ⟨h1, h2, hi, L ++ U, by rw [List.append_assoc]⟩
theorem Kx.lst (h : Kx S M md x c) : lstV entE M x = some c.l := by
  cases md with
  | none =>
    obtain ⟨hS, ⟨h1, h2⟩ | ⟨p, c', h1, h2, h3, h4⟩⟩ := h
    · rw [h1]
      rcases noX_cases h2 with rfl | ⟨i, rfl, hB⟩
      · rfl
      · have hB' := at_pre hS hB
        refine lst_lstV (.inr (.inr ⟨_, _, _, _, _, _, rfl, rfl, ?_⟩))
        rw [rowAt_B, hB']; rfl
    · rw [h3, ← h1]; exact Cf.lst h2 h4
  | some i =>
    have hB := h.blk
    obtain ⟨rfl, h2, hi, L, rfl⟩ := h
    exact Cf.lst h2 hB
theorem Kx.del {i : Nat} (h : Kx S M (some i) x c) {k : Nat} (hk : k < c.l.length) (hl : c.l.length ≤ 1000000) :
    ∃ x' M', delS [x, .i .i64 (k : Int), .i .i64 ((k : Int) + 1)] M = some (x', M') ∧ Kx S M' (some i) x' (c.del k) ∧ M' = M.set i (c.del k).blk := by
  have hB := h.blk
  obtain ⟨rfl, h2, hi, L, rfl⟩ := h
  have hs : ∀ U : Mem, (S.set i c.blk ++ U).set i (c.del k).blk = S.set i (c.del k).blk ++ U := fun U => by rw [set_old (set_at hi), List.set_set]
  exact ⟨_, _, Cf.del_eq h2 hB hk hl, ⟨rfl, Cf.del_wf h2 hk, hi, L, hs L⟩, rfl⟩
theorem Kx.app (h : Kx S M md x c) (a : Ent) (hl : c.l.length ≤ 1000000) : ∃ x' M', appV M 14 88 x (entE.enc a) 1 = some (x', M') ∧ Kx S M' md x' (c.app a) := by
  cases md with
  | none =>
    obtain ⟨hS, ⟨h1, h2⟩ | ⟨p, c', h1, h2, h3, h4⟩⟩ := h
    · obtain ⟨T, rfl⟩ := hS
      refine ⟨.sl (S ++ T).length 0 0 1 1 false, (S ++ T) ++ [.cells (entE.enc a) 0 (some 14) true], ?_, ext_more (ext_app _) _, .inr ⟨T.length, ⟨0, 1, [], [a]⟩, ?_, ⟨rfl, Nat.le_refl _, rfl⟩, ?_, ?_⟩⟩
      · rcases noX_cases h2 with rfl | ⟨i, rfl, hB⟩
        · simp only [appV]
          rw [if_neg (by omega), if_pos ⟨by decide, by decide⟩]
        · have hc : rowAt (S ++ T) i 0 0 (0 * 14) = some [] := by rw [rowAt_B, at_old hB]; rfl
          simp only [appV, hc]
          rw [if_neg (by omega), if_neg (by omega), if_pos ⟨by decide, by decide⟩]
          rfl
      · rw [Cf.app_l, h1]; rfl
      · rw [List.length_append]; rfl
      · rw [← List.length_append, at_app0]
        show some (Blk.cells (entE.enc a) 0 (some 14) true) = some (.cells ([a].flatMap entE.enc ++ []) 0 (some 14) true)
        simp
    · refine ⟨_, _, by rw [h3]; exact Cf.app_eq h2 h4 a (by rw [h1]; exact hl), ext_set hS (by omega) _, .inr ⟨p, c'.app a, by rw [Cf.app_l, Cf.app_l, h1], Cf.app_wf h2 a, rfl, at_set h4⟩⟩
  | some i =>
    have hB := h.blk
    obtain ⟨rfl, h2, hi, L, rfl⟩ := h
    exact ⟨_, _, Cf.app_eq h2 hB a hl, rfl, Cf.app_wf h2 a, hi, L, by rw [set_old (set_at hi), List.set_set]⟩
theorem Kx.pol (h : Kx S M md x c) {k : Nat} (hk : k < c.l.length) (p : Pol) :
    ∃ i cs v cap, x = .sl i 0 v c.l.length cap false ∧ M[i]? = some (.cells cs v (some 14) true) ∧ k * 14 + 13 ≤ cs.length ∧ Kx S (M.set i (.cells (cs.take (k * 14) ++ (p.enc ++ cs.drop (k * 14 + 13))) v (some 14) true)) md x (c.pol k p) := by
  cases md with
  | none =>
    obtain ⟨hS, ⟨h1, h2⟩ | ⟨q, c', h1, h2, h3, h4⟩⟩ := h
    · rw [h1] at hk; cases hk
    · have hk' : k < c'.l.length := by rw [h1]; exact hk
      obtain ⟨g1, g2⟩ := Cf.pol_eq h2 hk' p
      refine ⟨S.length + q, _, c'.v, c'.cap, by rw [h3, ← h1]; rfl, h4, g1, ext_set hS (by omega) _, .inr ⟨q, c'.pol k p, ?_, Cf.pol_wf h2 k p, ?_, ?_⟩⟩
      · show c'.l.set k _ = c.l.set k _
        rw [h1]
      · rw [h3]
        show AV.sl _ 0 c'.v c'.l.length c'.cap false = AV.sl _ 0 c'.v (c'.l.set k _).length c'.cap false
        rw [List.length_set]
      · rw [at_set h4, g2]; rfl
  | some i =>
    have hB := h.blk
    obtain ⟨rfl, h2, hi, L, rfl⟩ := h
    obtain ⟨g1, g2⟩ := Cf.pol_eq h2 hk p
    refine ⟨i, _, c.v, c.cap, rfl, hB, g1, ?_, Cf.pol_wf h2 k p, hi, L, ?_⟩
    · show AV.sl _ 0 c.v c.l.length c.cap false = AV.sl _ 0 c.v (c.l.set k _).length c.cap false
      rw [List.length_set]
    · rw [set_old (set_at hi), List.set_set, g2]; rfl
end
theorem putC_app {p : Pol} {ps : List Pol} {c : Cf} (h : c.l.findIdx? (hasSub p.sub) = none) : putC (p :: ps) c = putC ps (c.app ⟨p, 0⟩) := by simp only [putC, h]
theorem putC_pol {p : Pol} {ps : List Pol} {c : Cf} {k : Nat} (h : c.l.findIdx? (hasSub p.sub) = some k) : putC (p :: ps) c = putC ps (c.pol k p) := by simp only [putC, h]
theorem dropC_none {id : Int} {ds : List Int} {c : Cf} (h : c.l.findIdx? (hasSub id) = none) : dropC (id :: ds) c = (c, false) := by simp only [dropC, h]
theorem dropC_some {id : Int} {ds : List Int} {c : Cf} {k : Nat} (h : c.l.findIdx? (hasSub id) = some k) : dropC (id :: ds) c = dropC ds (c.del k) := by simp only [dropC, h]
end Go.Proofs.Ytmdnohpolepcoaa

namespace Go.Proofs.Ytmdnohpolepcoaa
open Go.RowKit
set_option linter.unusedSimpArgs false
set_option linter.unusedVariables false
set_option maxRecDepth 10000

theorem oCo_ok : OK Try.prog (lamOf Try.prog) (orcOf [(30, placeS), (44, delS), (45, sortS)]) := orc_ok (by simpa using ⟨place_ok, del_ok, sort_ok⟩)
theorem commit_walk {S : Mem} {x : AV} {ce : List AV} {md : Option Nat} {c0 : Cf} {ev : Evt} {rx : AV} {rS : Mem} (hK : Kx S S md x c0) (hn : md = none → c0.l = []) (hev : evtOf (bs md S) ce = some ev) (hok : commitOk c0.l ev)
    (hF : (dropC ev.drops c0).2 = false → ∀ x' c M, Kx S M md x' c → c.v = c0.v → WkV S rx rS (.tu [.sn, .b false]) M)
    (hT : (dropC ev.drops c0).2 = true → ∀ x' M, Kx S M md x' (putC ev.puts (dropC ev.drops c0).1) → ∃ M', sortS [x', .f (.func 46) [] []] M = some (.tu [], M') ∧ WkV S rx rS (.tu [x', .b true]) M') :
    FnOK Try.prog 25 [x, .ag ce] S rx rS := by
  obtain ⟨xp, xd, rfl, hp, hd⟩ := evtOf_ok hev
  obtain ⟨k0, s0, ps, ds, g0, q0⟩ := ev
  obtain ⟨ho, hdn, hpn, hlim, hlim2⟩ := hok
  simp only at hp hd hF hT ho hdn hpn hlim hlim2
  refine fn_of_wp f25 rfl (W_sound oCo_ok mixed _ _ _ _ _ ?_)
  simp (maxSteps := 1000000) (disch := omega) only [c25, lst_cells hp, lst_cells hd, lst_len hd, List.replicate, go_sem]
  obtain ⟨evb, hevb⟩ : ∃ evb : Blk, evb = .cells [.i .i64 k0, .i .i64 s0, xp, xd, .i .u64 g0, .i .u64 q0] 0 none true := ⟨_, rfl⟩
  refine wp_loop (fun j e M dl => dl = [] ∧ ∃ (t : Nat) (c : Cf) (x' : AV), j = ds.length - t ∧ t ≤ ds.length ∧ Kx S M md x' c ∧ M[S.length]? = some evb ∧ dropC (ds.drop t) c = dropC ds c0 ∧ c.v = c0.v ∧ c.l.length ≤ c0.l.length ∧ (md = none → c.l = []) ∧
    e.get 13 = xd ∧ e.get 3 = .p S.length 0 0 ∧ e.get 14 = .i .i64 ds.length ∧ e.get 15 = .i .i64 t ∧ e.get 0 = x') (j := ds.length)
    ⟨rfl, 0, c0, x, rfl, Nat.zero_le _, hK.grow _, by rw [hevb, at_app0]; rfl, by rw [List.drop_zero], rfl, Nat.le_refl _, hn, rfl, rfl, rfl, rfl, rfl⟩ ?_
  rintro j e M d' ⟨rfl, t, c, x', rfl, ht, hKx, hE, hdc, hv, hcl, hmn, e13, e3, e14, e15, e0⟩
  refine W_sound oCo_ok mixed _ _ _ _ _ ?_
  have hpl := fun (n : Int) => place_eq hKx.lst n (by omega)
  have hbdE := hKx.ext
  have hpM := lst_ext hp hbdE
  have hdM := lst_ext hd hbdE
  by_cases htl : t < ds.length
  · obtain ⟨bi, o, v, cap, ex, rfl⟩ := lst_sl hd htl
    have hc := lstV_cell hdM rfl (fun a => rfl) htl []
    rw [List.append_nil] at hc
    have htI : (t : Int) < ds.length := by omega
    have hw1 : wrapV .i64 ((t : Int) + 1) = ((t + 1 : Nat) : Int) := by rw [wrap_i64 (by omega) (by omega)]; omega
    have hdr : ds.drop t = ds[t] :: ds.drop (t + 1) := List.drop_eq_getElem_cons htl
    rw [hdr] at hdc
    cases hi : c.l.findIdx? (hasSub ds[t]) with
    | none =>
      rw [dropC_none hi] at hdc
      simp (maxSteps := 1000000) (disch := omega) only [c25l0, e13, e3, e14, e15, e0, htI, Int.toNat_natCast, Nat.mul_one, hc, orc_cons, hpl, idx_eq_none hi, go_sem]
      exact hF (by rw [← hdc]) _ _ _ hKx hv
    | some k =>
      obtain ⟨hk, _, _⟩ := List.findIdx?_eq_some_iff_getElem.1 hi
      rw [dropC_some hi] at hdc
      have hk0 : ¬ ((k : Int) < 0) := by omega
      have hwk : wrapV .i64 ((k : Int) + 1) = (k : Int) + 1 := by rw [wrap_i64 (by omega) (by omega)]
      cases md with
      | none => rw [hmn rfl] at hk; cases hk
      | some i =>
        obtain ⟨x2, M2, hde, hK2, hM2⟩ := hKx.del hk (by omega)
        have hiS : i < S.length := hKx.2.2.1
        have hE2 : M2[S.length]? = some evb := by rw [hM2, at_set_ne (by omega)]; exact hE
        simp (maxSteps := 1000000) (disch := omega) only [c25l0, e13, e3, e14, e15, e0, htI, Int.toNat_natCast, Nat.mul_one, hc, orc_cons, hpl, idx_eq_some hi, hk0, hwk, hde, hw1, go_sem]
        refine ⟨ds.length - (t + 1), by omega, t + 1, c.del k, x2, rfl, htl, hK2, hE2, hdc, hv, ?_, rfl, rfl⟩
        have : (c.l.eraseIdx k).length ≤ c.l.length := List.length_eraseIdx_le ..
        exact Nat.le_trans this hcl
  · have htI : ¬ (t : Int) < ds.length := by omega
    obtain rfl : t = ds.length := by omega
    rw [List.drop_length] at hdc
    have hc1 : (dropC ds c0).2 = true ∧ (dropC ds c0).1 = c := by rw [← hdc]; exact ⟨rfl, rfl⟩
    rw [hc1.2] at hT
    have hT := hT hc1.1
    rw [hevb] at hE
    simp (maxSteps := 1000000) (disch := omega) only [c25l0, e13, e3, e14, e15, e0, htI, hE, lst_len hp, go_sem]
    refine wp_loop (fun j e M dl => dl = [] ∧ ∃ (t : Nat) (c1 : Cf) (x1 : AV), j = ps.length - t ∧ t ≤ ps.length ∧ Kx S M md x1 c1 ∧ putC (ps.drop t) c1 = putC ps c ∧ c1.l.length ≤ c.l.length + t ∧ e.get 0 = x1 ∧ e.get 31 = xp ∧ e.get 32 = .i .i64 ps.length ∧ e.get 33 = .i .i64 t) (j := ps.length)
      ⟨rfl, 0, c, x', rfl, Nat.zero_le _, hKx, by rw [List.drop_zero], Nat.le_refl _, rfl, rfl, rfl, rfl⟩ ?_
    clear hE hpl hbdE hpM hdM e13 e3 e14 e0 e15 hKx
    rintro j2 e2 M2 d2 ⟨rfl, t, c1, x1, rfl, ht2, hK1, hpc, hl1, g0', g31, g32, g33⟩
    refine W_sound oCo_ok mixed _ _ _ _ _ ?_
    have hpM := lst_ext hp hK1.ext
    have hpl := fun (L : Mem) (n : Int) => place_eq (hK1.grow L).lst n (by omega)
    by_cases htl : t < ps.length
    · obtain ⟨bi, o, v, cap, ex, rfl⟩ := lst_sl hp htl
      have hr := lstV_row hpM htl []
      rw [List.append_nil] at hr
      have hdr : ps.drop t = ps[t] :: ps.drop (t + 1) := List.drop_eq_getElem_cons htl
      rw [hdr] at hpc
      generalize ps[t] = p at hr hpc
      have hr : rowB (M2[bi]?) (o + t * 13) v 13 = some p.enc := hr
      have htI : (t : Int) < ps.length := by omega
      have hw1 : wrapV .i64 ((t : Int) + 1) = ((t + 1 : Nat) : Int) := by rw [wrap_i64 (by omega) (by omega)]; omega
      cases hi : c1.l.findIdx? (hasSub p.sub) with
      | none =>
        rw [putC_app hi] at hpc
        obtain ⟨x2, M3, ha, hK2⟩ := (hK1.grow [.cells p.enc 0 none true, .cells (entE.enc ⟨p, 0⟩) 0 none true]).app ⟨p, 0⟩ (by omega)
        simp only [entE, Ent.enc, Pol.enc] at ha hr
        simp (maxSteps := 1000000) (disch := omega) only [c25l1, g0', g31, g32, g33, htI, Int.toNat_natCast, hr, orc_cons, hpl, idx_eq_none hi, hw1, ha, go_sem]
        refine ⟨ps.length - (t + 1), by omega, t + 1, c1.app ⟨p, 0⟩, x2, rfl, htl, hK2, hpc, ?_, rfl, rfl⟩
        rw [Cf.app_l, List.length_append]
        show c1.l.length + 1 ≤ _
        omega
      | some k =>
        obtain ⟨hk, _, _⟩ := List.findIdx?_eq_some_iff_getElem.1 hi
        rw [putC_pol hi] at hpc
        have hk0 : (k : Int) ≥ 0 := by omega
        obtain ⟨i, cs, v', cap', rfl, hB, hcs, hK2⟩ := (hK1.grow [.cells p.enc 0 none true]).pol hk p
        simp only [Pol.enc] at hr hK2 hB
        simp (maxSteps := 1000000) (disch := omega) only [c25l1, g0', g31, g32, g33, htI, Int.toNat_natCast, hr, orc_cons, hpl, idx_eq_some hi, hw1, hk0, go_sem]
        rw [hB]
        simp only [stB, splice]
        rw [if_pos ⟨trivial, rfl, hcs, rfl⟩]
        simp only [List.append_assoc, List.length_cons, List.length_nil]
        simp (maxSteps := 1000000) (disch := omega) only [go_sem]
        refine ⟨ps.length - (t + 1), by omega, t + 1, c1.pol k p, _, rfl, htl, hK2, hpc, ?_, rfl, rfl⟩
        have : (c1.pol k p).l.length = c1.l.length := List.length_set ..
        omega
    · have htI : ¬ (t : Int) < ps.length := by omega
      obtain rfl : t = ps.length := by omega
      rw [List.drop_length] at hpc
      have hpc : c1 = putC ps c := hpc
      subst hpc
      obtain ⟨M', hs, hwk⟩ := hT x1 M2 hK1
      simp (maxSteps := 1000000) (disch := omega) only [c25l1, g0', g31, g32, g33, htI, orc_cons, hs, go_sem]
      exact hwk
end Go.Proofs.Ytmdnohpolepcoaa

namespace Go.Proofs.Ytmdnohpolepcoaa
open Go.RowKit
set_option linter.unusedSimpArgs false
set_option linter.unusedVariables false
set_option maxRecDepth 10000

noncomputable def endX (i v : Nat) (d : List Ent) : AV := open Classical in if d = [] then .se else .sl i 0 v d.length d.length false
noncomputable def commitR (i : Nat) (c0 : Cf) (e : Evt) (S : Mem) : AV × Mem :=
  if (dropC e.drops c0).2 = true then
    (.tu [endX i (putC e.puts (dropC e.drops c0).1).v (sortE (putC e.puts (dropC e.drops c0).1).l), .b true], S.set i (.cells ((sortE (putC e.puts (dropC e.drops c0).1).l).flatMap entE.enc) (putC e.puts (dropC e.drops c0).1).v (some 14) true))
  else (.tu [.sn, .b false], S.set i (.cells [] c0.v (some 14) true))
noncomputable def commitR0 (e : Evt) (S : Mem) : AV × Mem := match e.drops with
  | [] => (.tu [retX false S (sortE (putAll e.puts [])), .b true], retM false entE S (sortE (putAll e.puts [])))
  | _ :: _ => (.tu [.sn, .b false], S)
noncomputable def commitS : Spec := fun args S => match args with
  | [x, .ag ce] => open Classical in if noX S x = true then match evtOf S ce with
      | some e => if commitOk [] e ∧ (e.drops ≠ [] ∨ e.puts ≠ []) then some (commitR0 e S) else none
      | none => none
    else match x with
      | .sl i 0 v n cap false => match ownV entE S (.sl i 0 v n cap false), evtOf (S.take i) ce with
        | some l, some e => if commitOk l e ∧ ∃ cs, S[i]? = some (.cells cs v (some 14) true) then some (commitR i ⟨v, n, [], l⟩ e S) else none
        | _, _ => none
      | _ => none
  | _ => none
theorem putC_len : ∀ (ps : List Pol) (c : Cf), (putC ps c).l.length ≤ c.l.length + ps.length
  | [], c => Nat.le_refl _
  | p :: ps, c => by
    cases h : c.l.findIdx? (hasSub p.sub) with
    | none =>
      have := putC_len ps (c.app ⟨p, 0⟩)
      rw [Cf.app_l, List.length_append] at this
      simp only [putC, h, List.length_cons, List.length_nil] at this ⊢; omega
    | some k =>
      have := putC_len ps (c.pol k p)
      have h2 : (c.pol k p).l.length = c.l.length := List.length_set ..
      simp only [putC, h, List.length_cons]; omega
theorem dropC_len : ∀ (ds : List Int) (c : Cf), (dropC ds c).1.l.length ≤ c.l.length
  | [], c => Nat.le_refl _
  | id :: ds, c => by
    cases h : c.l.findIdx? (hasSub id) with
    | none => simp only [dropC, h]; exact Nat.le_refl _
    | some k =>
      have := dropC_len ds (c.del k)
      have h2 : (c.del k).l.length ≤ c.l.length := List.length_eraseIdx_le ..
      simp only [dropC, h]; omega
theorem once_drop {c : Cf} {ds : List Int} (ho : Once c.l) (hn : ds.Nodup) (h : (dropC ds c).2 = true) : Once (dropC ds c).1.l := by
  have h1 := dropAll_ok ds c.l hn ho
  rw [dropC_all, if_pos h] at h1
  exact h1.1
theorem once_put {c : Cf} {ps : List Pol} (ho : Once c.l) (hn : ps.Pairwise fun p q => p.sub ≠ q.sub) : Once (putC ps c).l := by
  rw [putC_all]; exact (putAll_ok ps c.l hn ho).1
theorem putAll_ne : ∀ (ps : List Pol) (l : List Ent), l ≠ [] → putAll ps l ≠ []
  | [], l, h => h
  | p :: ps, l, h => by
    simp only [putAll]
    split
    · exact putAll_ne ps _ (by simpa using h)
    · exact putAll_ne ps _ (by simp)
theorem sortE_ne {l : List Ent} (ho : Once l) (h : l ≠ []) : sortE l ≠ [] := by
  have := (sortE_ok ho).2.2
  intro q
  rw [q] at this
  exact h (List.eq_nil_of_length_eq_zero this.symm)
theorem set_flat {S : Mem} {i : Nat} {d : List Ent} {v : Nat} {j : Nat} {B : Blk} (h : (S.set i (.cells (d.flatMap entE.enc) v (some 14) true))[j]? = some B) : S[j]? = some B ∨ BFlat S.length B := by
  by_cases hij : i = j
  · subst hij
    right
    by_cases hi : i < S.length
    · rw [set_at hi] at h
      injection h with h
      rw [← h]
      exact bflat_list entE_flat d v (some 14) true
    · rw [List.getElem?_eq_none (by rw [List.length_set]; omega)] at h; cases h
  · rw [at_set_ne hij] at h
    exact .inl h
theorem commit_ok : SpecOK Try.prog 25 commitS := by
  intro args S x S' h
  unfold commitS at h
  split at h
  · rename_i x0 ce
    split at h
    · rename_i hno
      split at h
      · rename_i e he
        split at h
        · rename_i hc
          obtain ⟨hok, hne⟩ := hc
          refine commit_walk (md := none) (c0 := ⟨0, 0, [], []⟩) ⟨ext_refl, .inl ⟨rfl, hno⟩⟩ (fun _ => rfl) he hok (fun hd x' c M hK _ => ?_) (fun hd x' M hK => ?_)
          · cases hds : e.drops with
            | nil => rw [hds] at hd; cases hd
            | cons a ds =>
              simp only [commitR0, hds, Option.some.injEq, Prod.mk.injEq] at h
              obtain ⟨rfl, rfl⟩ := h
              exact wkv_dropP hK.1 rfl
          · cases hds : e.drops with
            | cons a ds => rw [hds] at hd; cases hd
            | nil =>
              simp only [commitR0, hds, Option.some.injEq, Prod.mk.injEq] at h
              obtain ⟨rfl, rfl⟩ := h
              rw [hds] at hK hne
              have hps : e.puts ≠ [] := by rcases hne with q | q; exact absurd rfl q; exact q
              have hK : Kx S M none x' (putC e.puts ⟨0, 0, [], []⟩) := hK
              have hl : (putC e.puts ⟨0, 0, [], []⟩).l = putAll e.puts [] := putC_all _ _
              have ho : Once (putC e.puts ⟨0, 0, [], []⟩).l := once_put hok.1 hok.2.2.1
              have hn := putC_len e.puts ⟨0, 0, [], []⟩
              have hlen := hok.2.2.2.1
              simp only [List.length_nil, Nat.zero_add] at hn hlen
              obtain ⟨hSM, ⟨h1, h2⟩ | ⟨p, c', h1, h2, h3, h4⟩⟩ := hK
              · exfalso
                rw [hl] at h1
                cases hp : e.puts with
                | nil => exact hps hp
                | cons a r =>
                  rw [hp] at h1
                  exact putAll_ne r [⟨a, 0⟩] (by simp) h1
              · obtain ⟨T, rfl⟩ := hSM
                rw [← h1] at ho hn
                have hso := sortE_ok ho
                refine ⟨_, by rw [h3]; exact sort_eq h2 ho (by omega) h4, ?_⟩
                have hx : x' = .sl (S.length + p) 0 c'.v (sortE c'.l).length c'.cap false := by rw [h3, hso.2.2]; rfl
                have hTp : p < T.length := by
                  rw [at_app] at h4
                  exact (List.getElem?_eq_some_iff.1 h4).1
                rw [hx, ← hl, ← h1]
                refine wkv_less (cs := (sortE c'.l).flatMap entE.enc) (junk := c'.junk) (sz := 14) (rw' := true) (at_set h4) ?_
                rw [List.set_set, set_app]
                have hA : Acc false entE S (S ++ T.set p (.cells ((sortE c'.l).flatMap entE.enc) c'.v (some 14) true)) (.sl (S.length + p) 0 c'.v (sortE c'.l).length (sortE c'.l).length false) (sortE c'.l) :=
                  ⟨_, rfl, .inr (.inr ⟨sortE_ne ho (by
                    rw [h1, hl]
                    cases hp : e.puts with
                    | nil => exact absurd hp hps
                    | cons a r => exact putAll_ne r [⟨a, 0⟩] (by simp)), p, c'.v, rfl, by simp only [List.getElem?_set_self hTp]; rfl⟩)⟩
                exact Acc.ret2 entE_flat hA Flat_b
        · cases h
      · cases h
    · rename_i hno
      split at h
      · rename_i i v n cap
        split at h
        · rename_i l e hl he
          split at h
          · rename_i hc
            obtain ⟨hok, cs, hB⟩ := hc
            obtain ⟨b, v2, ex, op, hx, hB2⟩ := ownV_ok hl
            injection hx with z1 z2 z3 z4 z5 z6
            subst z1 z3 z4 z5 z6
            rw [hB] at hB2
            injection hB2 with hB2
            injection hB2 with y1 y2 y3 y4
            subst y1 y3
            simp only [Option.some.injEq, Prod.mk.injEq] at h
            have hi : i < S.length := (List.getElem?_eq_some_iff.1 hB).1
            have hB0 : S[i]? = some (Cf.blk ⟨v, l.length, [], l⟩) := by rw [hB]; show _ = some (Blk.cells (l.flatMap entE.enc ++ []) v (some 14) true); rw [List.append_nil]
            have hK : Kx S S (some i) (.sl i 0 v l.length l.length false) ⟨v, l.length, [], l⟩ := ⟨rfl, ⟨by simp, Nat.le_refl _, rfl⟩, hi, [], by rw [List.append_nil, set_self hB0]⟩
            refine commit_walk (md := some i) hK (fun q => by cases q) he hok (fun hd x' c M hK hv => ?_) (fun hd x' M hK => ?_)
            · unfold commitR at h
              rw [if_neg (by rw [hd]; exact Bool.false_ne_true)] at h
              simp only [Option.some.injEq, Prod.mk.injEq] at h
              obtain ⟨rfl, rfl⟩ := h
              have hb := hK.blk
              obtain ⟨_, _, _, L, rfl⟩ := hK
              have hv : c.v = v := hv
              refine wkv_shr (i := i) (cs := []) (junk := c.l.flatMap entE.enc ++ c.junk) (v := c.v) (sz := 14) (rw' := true) hb ?_
              rw [set_old (set_at hi), List.set_set, hv]
              exact wkv_drop' (List.length_set ..) (fun j B hj => set_flat (d := []) hj) (fun g => rfl)
            · unfold commitR at h
              rw [if_pos hd] at h
              simp only [Option.some.injEq, Prod.mk.injEq] at h
              obtain ⟨rfl, rfl⟩ := h
              have ho : Once (putC e.puts (dropC e.drops ⟨v, l.length, [], l⟩).1).l := once_put (once_drop hok.1 hok.2.1 hd) hok.2.2.1
              have hn1 := putC_len e.puts (dropC e.drops ⟨v, l.length, [], l⟩).1
              have hn2 := dropC_len e.drops ⟨v, l.length, [], l⟩
              have hlen := hok.2.2.2.1
              simp only at hn2
              generalize putC e.puts (dropC e.drops ⟨v, l.length, [], l⟩).1 = c2 at ho hn1 hK ⊢
              have hb := hK.blk
              obtain ⟨rfl, hw, _, L, rfl⟩ := hK
              have hso := sortE_ok ho
              refine ⟨_, sort_eq hw ho (by omega) hb, ?_⟩
              rw [set_old (set_at hi), List.set_set]
              have hb2 : (S.set i c2.sort.blk ++ L)[i]? = some c2.sort.blk := at_old (set_at hi)
              have hx : c2.x i = .sl i 0 c2.v (sortE c2.l).length c2.cap false := by rw [hso.2.2]; rfl
              rw [hx]
              by_cases hd0 : sortE c2.l = []
              · have hbe : c2.sort.blk = .cells c2.junk c2.v (some 14) true := by
                  show Blk.cells ((sortE c2.l).flatMap entE.enc ++ c2.junk) c2.v (some 14) true = _
                  rw [hd0]; rfl
                rw [hbe] at hb2 ⊢
                unfold endX
                rw [if_pos hd0, hd0]
                refine wkv_se (sz := 14) (rw' := true) hb2 ?_
                rw [set_old (set_at hi), List.set_set]
                exact wkv_drop' (List.length_set ..) (fun j B hj => set_flat (d := []) hj) (fun g => rfl)
              · unfold endX
                rw [if_neg hd0]
                refine wkv_less (cs := (sortE c2.l).flatMap entE.enc) (junk := c2.junk) (sz := 14) (rw' := true) hb2 ?_
                rw [set_old (set_at hi), List.set_set]
                refine wkv_drop' (List.length_set ..) (fun j B hj => set_flat hj) (Flat_tu fun y hy => ?_)
                simp only [List.mem_cons, List.not_mem_nil, or_false] at hy
                rcases hy with rfl | rfl
                · exact Flat_sl hi
                · exact Flat_b
          · cases h
        · cases h
      · cases h
  · cases h
end Go.Proofs.Ytmdnohpolepcoaa

namespace Go.Proofs.Ytmdnohpolepcoaa
open Go.RowKit
set_option linter.unusedSimpArgs false
set_option linter.unusedVariables false

theorem fin_some {b : Bk} (h : b.ok) : Bk.fin (some b) = some b := by simp only [Bk.fin, if_pos h]
theorem quota_le {p : Int} {l : List Ent} (ho : (Bk.mk p l).ok) {k : Nat} (hk : k < l.length) : l[k].pol.quota ≤ 281474976710656 := by
  have h := (ho.2.2.1.2 k (by unfold polsOf; simpa using hk) (by unfold polsOf; simpa using hk)).1
  have h1 : l[k].pol.right := by simpa [polsOf] using h
  exact h1.2.2.2.1 _ (by simp [Pol.nums])
theorem leased_ok {p : Int} {l l' : List Ent} {s g : Int} (ho : (Bk.mk p l).ok) (h : leased l s g = some l') : (Bk.mk p l').ok := by
  obtain ⟨k, hk, rfl, _, h1, h2⟩ := leased_some h
  have hp : polsOf (l.set k (l[k].grant g)) = polsOf l := by
    unfold polsOf
    rw [List.map_set]
    have : (l[k].grant g).pol = (l.map (·.pol))[k]'(by simpa using hk) := by simp [Ent.grant]
    rw [this, List.set_getElem_self]
  refine ⟨ho.1, ho.2.1, by show Pols (polsOf (l.set k (l[k].grant g))); rw [hp]; exact ho.2.2.1, fun x hx => ?_⟩
  rcases List.mem_or_eq_of_mem_set hx with hx | rfl
  · exact ho.2.2.2 x hx
  · have := quota_le ho hk
    show g ≤ _
    omega
theorem zeroed_ok {p q : Int} {l : List Ent} (ho : (Bk.mk p l).ok) (h1 : 1 ≤ q) (h2 : q ≤ 281474976710656) : (Bk.mk q (l.map (·.grant 0))).ok := by
  refine ⟨h1, h2, ?_, fun x hx => ?_⟩
  · have hp : polsOf (l.map (·.grant 0)) = polsOf l := by unfold polsOf; rw [List.map_map]; rfl
    show Pols (polsOf (l.map (·.grant 0)))
    rw [hp]; exact ho.2.2.1
  · obtain ⟨y, _, rfl⟩ := List.mem_map.1 hx
    show (0 : Int) ≤ _
    omega
/-- The kinds 2 and 3. -/
theorem turned_eq {b : Bk} {e : Evt} (hk : ¬ (b.ok ∧ e.right ∧ e.kind = 1)) : b.turned e = b.rapplied e := by
  unfold Bk.turned Bk.rapplied
  by_cases h : b.ok ∧ e.right
  · rw [if_pos h, if_pos h]
    obtain ⟨p, l⟩ := b
    obtain ⟨k, s, ps, ds, g, q⟩ := e
    have hk1 : ¬ k = 1 := fun z => hk ⟨h.1, h.2, z⟩
    rw [if_neg hk1]
    unfold Bk.turn
    by_cases hk2 : k = 2
    · rw [if_pos hk2]; first | rw [if_pos hk2] | skip
      simp only
      cases hl : leased l s g with
      | none => rfl
      | some l' => exact fin_some (leased_ok h.1 hl)
    · rw [if_neg hk2]; first | rw [if_neg hk2] | skip
      simp only
      by_cases hq : q = p + 1
      · rw [if_pos hq]; first | rw [if_pos hq] | skip
        have hv : valOk q := by
          rcases h.2 with z | z | z
          · exact absurd z.1 hk1
          · exact absurd z.1 hk2
          · exact z.2.1
        exact fin_some (zeroed_ok h.1 hv.1 hv.2)
      · rw [if_neg hq]; first | rfl | (rw [if_neg hq]; rfl)
  · rw [if_neg h, if_neg h]
end Go.Proofs.Ytmdnohpolepcoaa

namespace Go.Proofs.Ytmdnohpolepcoaa
open Go.RowKit
set_option linter.unusedSimpArgs false
set_option linter.unusedVariables false
set_option maxRecDepth 10000

theorem commit_eq {S : Mem} {i v : Nat} {l : List Ent} {ce : List AV} {e : Evt} (hB : S[i]? = some (.cells (l.flatMap entE.enc) v (some 14) true)) (he : evtOf (S.take i) ce = some e) (hok : commitOk l e) :
    commitS [.sl i 0 v l.length l.length false, .ag ce] S = some (commitR i ⟨v, l.length, [], l⟩ e S) := by
  have hno : ¬ noX S (.sl i 0 v l.length l.length false) = true := by
    intro h
    rcases noX_cases h with h | ⟨j, h, _⟩
    · cases h
    · injection h with _ _ _ _ _ h; cases h
  simp only [commitS]
  rw [if_neg hno]
  simp only [ownV_mk hB, he]
  rw [if_pos ⟨hok, _, hB⟩]
theorem commit_eq0 {S : Mem} {x : AV} {ce : List AV} {e : Evt} (hx : noX S x = true) (he : evtOf S ce = some e) (hok : commitOk [] e) (hne : e.drops ≠ [] ∨ e.puts ≠ []) : commitS [x, .ag ce] S = some (commitR0 e S) := by
  simp only [commitS]
  rw [if_pos hx]
  simp only [he]
  rw [if_pos ⟨hok, hne⟩]
theorem commit_okk {p : Int} {l : List Ent} {ps : List Pol} {ds : List Int} (ho : (Bk.mk p l).ok) (hr : Evt.right ⟨1, 0, ps, ds, 0, 0⟩) (hd : ds.length ≤ 1000000) : commitOk l ⟨1, 0, ps, ds, 0, 0⟩ ∧ (ds ≠ [] ∨ ps ≠ []) := by
  have h := right1.1 hr
  have hP := h.2.2.2.2.1
  have hri := h.2.2.2.2.2.1
  refine ⟨⟨ok_once ho, rise_nodup hri, pols_once hP, ?_, hd⟩, ?_⟩
  · have h1 : (polsOf l).length ≤ 8 := ho.2.2.1.1
    have h2 : ps.length ≤ 8 := hP.1
    have h3 : (polsOf l).length = l.length := List.length_map ..
    show l.length + ps.length ≤ 1000000
    omega
  · rcases hr with ⟨_, h0, _⟩ | ⟨h0, _⟩ | ⟨h0, _⟩
    · simp only at h0
      by_cases hd0 : ds = []
      · right
        intro hp0
        rw [hd0, hp0] at h0
        exact absurd h0 (by decide)
      · exact .inl hd0
    · exact absurd h0 (by decide : ¬ (1 : Int) = 2)
    · exact absurd h0 (by decide : ¬ (1 : Int) = 3)
theorem commitR_f {i : Nat} {c : Cf} {e : Evt} {S : Mem} (h : (dropC e.drops c).2 = false) : commitR i c e S = (.tu [.sn, .b false], S.set i (.cells [] c.v (some 14) true)) := by
  unfold commitR; rw [if_neg (by rw [h]; exact Bool.false_ne_true)]
theorem commitR_t {i : Nat} {c : Cf} {e : Evt} {S : Mem} {d : List Ent} (h : (dropC e.drops c).2 = true) (hd : sortE (putC e.puts (dropC e.drops c).1).l = d) : commitR i c e S = (.tu [endX i (putC e.puts (dropC e.drops c).1).v d, .b true], S.set i (.cells (d.flatMap entE.enc) (putC e.puts (dropC e.drops c).1).v (some 14) true)) := by
  unfold commitR; rw [if_pos h, hd]
theorem commitR0_f {e : Evt} {S : Mem} {v cap : Nat} {junk : List AV} (h : (dropC e.drops ⟨v, cap, junk, []⟩).2 = false) : commitR0 e S = (.tu [.sn, .b false], S) := by
  unfold commitR0
  split
  · rename_i hd; rw [hd] at h; cases h
  · rfl
theorem commitR0_t {e : Evt} {S : Mem} {d : List Ent} {v cap : Nat} {junk : List AV} (h : (dropC e.drops ⟨v, cap, junk, []⟩).2 = true) (hd : sortE (putC e.puts (dropC e.drops ⟨v, cap, junk, []⟩).1).l = d) (hne : e.drops ≠ [] ∨ e.puts ≠ []) (hp : e.puts.Pairwise fun p q => p.sub ≠ q.sub) :
    d ≠ [] ∧ commitR0 e S = (.tu [retX false S d, .b true], retM false entE S d) := by
  unfold commitR0
  cases hds : e.drops with
  | nil =>
    rw [hds] at hd hne
    have hd : sortE (putC e.puts ⟨v, cap, junk, []⟩).l = d := hd
    rw [putC_all] at hd
    have hd : sortE (putAll e.puts []) = d := hd
    refine ⟨?_, by rw [hd]⟩
    rw [← hd]
    refine sortE_ne (putAll_ok e.puts [] hp List.Pairwise.nil).1 ?_
    cases hp : e.puts with
    | nil => rw [hp] at hne; simp at hne
    | cons a r => exact putAll_ne r [⟨a, 0⟩] (by simp)
  | cons a ds => rw [hds] at h; cases h
noncomputable def commitB (z : Bool) (S : Mem) (b : Bk) (r : Option Bk) : AV × Mem := match r with
  | some b' => open Classical in if b'.entries = [] then (.tu [.ag [.i .u64 b'.period, .se], .i .i64 0], S) else bookR true S b' 0
  | none => bookR z S b 131
/-- What a commit leaves, said with the document's words. -/
theorem rapplied1 {p : Int} {l : List Ent} {ps : List Pol} {ds : List Int} (ho : (Bk.mk p l).ok) (hr : Evt.right ⟨1, 0, ps, ds, 0, 0⟩) :
    Bk.rapplied ⟨p, l⟩ ⟨1, 0, ps, ds, 0, 0⟩ = if ∃ i : Nat, i < 255 ∧ refBad l ⟨1, 0, ps, ds, 0, 0⟩ ((i : Int) + 1) then none else Bk.fin (some ⟨p, refEnts l ⟨1, 0, ps, ds, 0, 0⟩ 255⟩) := by
  unfold Bk.rapplied
  rw [if_pos ⟨ho, hr⟩, if_pos rfl]
/-- The program's list behind a commit. -/
theorem commit_list {p : Int} {l : List Ent} {ps : List Pol} {ds : List Int} {c : Cf} (hc : c.l = l) (ho : (Bk.mk p l).ok) (hr : Evt.right ⟨1, 0, ps, ds, 0, 0⟩) :
    ((dropC ds c).2 = false ∧ Bk.rapplied ⟨p, l⟩ ⟨1, 0, ps, ds, 0, 0⟩ = none) ∨
    ((dropC ds c).2 = true ∧ ∃ d, sortE (putC ps (dropC ds c).1).l = d ∧ d = refEnts l ⟨1, 0, ps, ds, 0, 0⟩ 255 ∧ Bk.rapplied ⟨p, l⟩ ⟨1, 0, ps, ds, 0, 0⟩ = Bk.fin (some ⟨p, d⟩)) := by
  subst hc
  rw [rapplied1 ho hr]
  have hda := dropC_all ds c
  have h := right1.1 hr
  cases hb : (dropC ds c).2 with
  | false =>
    rw [if_neg (by rw [hb]; exact Bool.false_ne_true)] at hda
    exact .inl ⟨rfl, by rw [if_pos (commit_none ho hr hda)]⟩
  | true =>
    rw [if_pos hb] at hda
    have hon : Once (putC ps (dropC ds c).1).l := once_put (once_drop (ok_once ho) (rise_nodup h.2.2.2.2.2.1) hb) (pols_once h.2.2.2.2.1)
    have hs := sortE_ok hon
    obtain ⟨h1, h2⟩ := commit_some ho hr hda hs.1 (fun x => by rw [← putC_all]; exact hs.2.1 x)
    exact .inr ⟨rfl, _, rfl, h2, by rw [if_neg h1, h2]⟩
end Go.Proofs.Ytmdnohpolepcoaa

namespace Go.Proofs.Ytmdnohpolepcoaa
open Go.RowKit
set_option linter.unusedSimpArgs false
set_option linter.unusedVariables false
set_option maxRecDepth 10000

theorem oA1_ok : OK Try.prog (lamOf Try.prog) (orcOf [(22, cloneES), (23, brightS), (24, erightS), (25, commitS)]) := orc_ok (by simpa using ⟨cloneE_ok, bright_ok, eright_ok, commit_ok⟩)
set_option maxHeartbeats 1000000 in
theorem apply1 {S : Mem} {s xp xd : AV} {p : Int} {l : List Ent} {ps : List Pol} {ds : List Int} (hl : lstV entE S s = some l) (hp : lstV polE S xp = some ps) (hd : lstV (intE .i64) S xd = some ds) (hbf : Bk.fits ⟨p, l⟩) (hef : Evt.fits ⟨1, 0, ps, ds, 0, 0⟩) (ho : Bk.ok ⟨p, l⟩) (hr : Evt.right ⟨1, 0, ps, ds, 0, 0⟩) :
    FnOK Try.prog 13 [.ag [.i .u64 p, s], .ag [.i .i64 1, .i .i64 0, xp, xd, .i .u64 0, .i .u64 0]] S (commitB (nz s) S ⟨p, l⟩ (Bk.rapplied ⟨p, l⟩ ⟨1, 0, ps, ds, 0, 0⟩)).1 (commitB (nz s) S ⟨p, l⟩ (Bk.rapplied ⟨p, l⟩ ⟨1, 0, ps, ds, 0, 0⟩)).2 := by
  have b1 := fun L => bright_eq (bookOf_mk (p := p) (lstV_grow hl L)) hbf
  have e1 := fun L => eright_eq (evtOf_mk (k := 1) (s := 0) (g := 0) (p := 0) (lstV_grow hp L) (lstV_grow hd L)) hef
  have c1 := fun L => cloneE_eq (lstV_grow hl L) hbf.1
  rw [decide_eq_true ho] at b1
  rw [decide_eq_true hr] at e1
  obtain ⟨hok, hne0⟩ := commit_okk ho hr hef.2.1
  have hdf : ∀ d : List Ent, d = refEnts l ⟨1, 0, ps, ds, 0, 0⟩ 255 → Bk.fits ⟨p, d⟩ := fun d hd => by
    subst hd
    exact ⟨Nat.le_trans (refEnts_len _ _ _) (by omega), refEnts_fits hbf.2 hef.2.2⟩
  refine fn_of_wp f13 rfl (W_sound oA1_ok mixed _ _ _ _ _ ?_)
  by_cases hne : l = []
  · subst hne
    have hc0 : ∀ (x : AV) (L : Mem), noX (S ++ L) x = true → commitS [x, .ag [.i .i64 1, .i .i64 0, xp, xd, .i .u64 0, .i .u64 0]] (S ++ L) = some (commitR0 ⟨1, 0, ps, ds, 0, 0⟩ (S ++ L)) := fun x L hx =>
      commit_eq0 hx (evtOf_mk (lstV_grow hp L) (lstV_grow hd L)) hok hne0
    cases hz : nz s with
    | false =>
      have c1 : ∀ L, cloneES [s] (S ++ L) = some (.sn, S ++ L) := fun L => by rw [c1 L, hz]; rfl
      have cm := fun L => hc0 .sn L rfl
      rcases commit_list (c := ⟨0, 0, [], []⟩) rfl ho hr with ⟨hF, hrn⟩ | ⟨hT, d, hs, hde, hrn⟩
      · rw [hrn]
        have cm := fun L => (cm L).trans (congrArg some (commitR0_f hF))
        simp (maxSteps := 1000000) (disch := omega) only [c13, orc_cons, lst_cells hl, c1, b1, e1, cm, go_sem]
        exact wkv_drop rfl
      · rw [hrn]
        have hd0 := (commitR0_t (S := S) hT hs hne0 hok.2.2.1).1
        have cm : ∀ L, _ = some (AV.tu [.sl (S ++ L).length 0 0 d.length d.length false, .b true], (S ++ L) ++ [.cells (d.flatMap entE.enc) 0 (some 14) true]) := fun L => (cm L).trans (by rw [(commitR0_t hT hs hne0 hok.2.2.1).2, retX_ne hd0, retM_ne hd0]; rfl)
        have hdf := hdf d hde
        have b2 : ∀ B0 B1 B2 B3 B4 : Blk, brightS [.ag [.i .u64 p, .sl (S.length + 5) 0 0 d.length d.length false]] (S ++ [B0, B1, B2, B3, B4, .cells (d.flatMap entE.enc) 0 (some 14) true]) = some (.b (decide (Bk.ok ⟨p, d⟩)), S ++ [B0, B1, B2, B3, B4, .cells (d.flatMap entE.enc) 0 (some 14) true]) := fun B0 B1 B2 B3 B4 => bright_eq (bookOf_mk (own_lst (ownV_mk (by rw [at_app]; rfl)))) hdf
        simp (maxSteps := 1000000) (disch := omega) only [c13, orc_cons, lst_cells hl, c1, b1, e1, cm, b2, go_sem]
        refine ⟨fun h1 => ?_, fun h1 => ?_⟩
        · rw [show Bk.fin (some ⟨p, d⟩) = none by simp only [Bk.fin, if_neg h1]]
          exact wkv_drop rfl
        · rw [show Bk.fin (some ⟨p, d⟩) = some ⟨p, d⟩ by simp only [Bk.fin, if_pos (Decidable.not_not.1 h1)]]
          unfold commitB
          simp only
          rw [if_neg hd0]
          exact Acc.retB entE_flat ⟨_, rfl, .inr (.inr ⟨hd0, 5, 0, rfl, rfl⟩)⟩ Flat_i Flat_i
    | true =>
      have c1 : ∀ L, cloneES [s] (S ++ L) = some (.sl (S ++ L).length 0 0 0 0 true, (S ++ L) ++ [.cells [] 0 none true]) := fun L => by rw [c1 L, hz]; rfl
      have cm := fun B0 B1 B2 B3 B4 B6 : Blk => hc0 (.sl (S.length + 5) 0 0 0 0 true) [B0, B1, B2, B3, B4, .cells [] 0 none true, B6] (by simp only [noX]; rw [at_app]; rfl)
      rcases commit_list (c := ⟨0, 0, [], []⟩) rfl ho hr with ⟨hF, hrn⟩ | ⟨hT, d, hs, hde, hrn⟩
      · rw [hrn]
        have cm := fun B0 B1 B2 B3 B4 B6 => (cm B0 B1 B2 B3 B4 B6).trans (congrArg some (commitR0_f hF))
        simp (maxSteps := 1000000) (disch := omega) only [c13, orc_cons, lst_cells hl, c1, b1, e1, cm, go_sem]
        exact Acc.retB entE_flat ⟨_, rfl, .inr (.inl ⟨rfl, rfl, 3, rfl, rfl⟩)⟩ Flat_i Flat_i
      · rw [hrn]
        have hd0 := (commitR0_t (S := S) hT hs hne0 hok.2.2.1).1
        have cm : ∀ B0 B1 B2 B3 B4 B6 : Blk, _ = some (AV.tu [.sl (S.length + 7) 0 0 d.length d.length false, .b true], S ++ [B0, B1, B2, B3, B4, .cells [] 0 none true, B6, .cells (d.flatMap entE.enc) 0 (some 14) true]) := fun B0 B1 B2 B3 B4 B6 => (cm B0 B1 B2 B3 B4 B6).trans (by rw [(commitR0_t hT hs hne0 hok.2.2.1).2, retX_ne hd0, retM_ne hd0, List.length_append, List.append_assoc]; rfl)
        have hdf := hdf d hde
        have b2 : ∀ B0 B1 B2 B3 B4 B5 B6 : Blk, brightS [.ag [.i .u64 p, .sl (S.length + 7) 0 0 d.length d.length false]] (S ++ [B0, B1, B2, B3, B4, B5, B6, .cells (d.flatMap entE.enc) 0 (some 14) true]) = some (.b (decide (Bk.ok ⟨p, d⟩)), S ++ [B0, B1, B2, B3, B4, B5, B6, .cells (d.flatMap entE.enc) 0 (some 14) true]) := fun B0 B1 B2 B3 B4 B5 B6 => bright_eq (bookOf_mk (own_lst (ownV_mk (by rw [at_app]; rfl)))) hdf
        simp (maxSteps := 1000000) (disch := omega) only [c13, orc_cons, lst_cells hl, c1, b1, e1, cm, b2, go_sem]
        refine ⟨fun h1 => ?_, fun h1 => ?_⟩
        · rw [show Bk.fin (some ⟨p, d⟩) = none by simp only [Bk.fin, if_neg h1]]
          exact Acc.retB entE_flat ⟨_, rfl, .inr (.inl ⟨rfl, rfl, 3, rfl, rfl⟩)⟩ Flat_i Flat_i
        · rw [show Bk.fin (some ⟨p, d⟩) = some ⟨p, d⟩ by simp only [Bk.fin, if_pos (Decidable.not_not.1 h1)]]
          unfold commitB
          simp only
          rw [if_neg hd0]
          exact Acc.retB entE_flat ⟨_, rfl, .inr (.inr ⟨hd0, 7, 0, rfl, rfl⟩)⟩ Flat_i Flat_i
  · obtain ⟨i, o, v, cap, ex, rfl⟩ := lst_sl hl (List.length_pos_iff.2 hne)
    have c1 : ∀ L, cloneES [.sl i o v l.length cap ex] (S ++ L) = some (.sl (S ++ L).length 0 0 l.length l.length false, (S ++ L) ++ [.cells (l.flatMap entE.enc) 0 (some 14) true]) := fun L => by
      rw [c1 L, retX_ne hne, retM_ne hne]; rfl
    have cm : ∀ B0 B1 B2 B3 B4 B6 : Blk, commitS [.sl (S.length + 5) 0 0 l.length l.length false, .ag [.i .i64 1, .i .i64 0, xp, xd, .i .u64 0, .i .u64 0]] (S ++ [B0, B1, B2, B3, B4, .cells (l.flatMap entE.enc) 0 (some 14) true, B6]) = some (commitR (S.length + 5) ⟨0, l.length, [], l⟩ ⟨1, 0, ps, ds, 0, 0⟩ (S ++ [B0, B1, B2, B3, B4, .cells (l.flatMap entE.enc) 0 (some 14) true, B6])) := fun B0 B1 B2 B3 B4 B6 => by
      refine commit_eq (by rw [at_app]; rfl) ?_ hok
      have ht : (S ++ [B0, B1, B2, B3, B4, .cells (l.flatMap entE.enc) 0 (some 14) true, B6]).take (S.length + 5) = S ++ [B0, B1, B2, B3, B4] := by
        rw [List.take_append, List.take_of_length_le (by omega), Nat.add_sub_cancel_left]; rfl
      rw [ht]
      exact evtOf_mk (lstV_grow hp _) (lstV_grow hd _)
    have own : ∀ (A : Mem) (err : Int), WkV S (bookR (nz (.sl i o v l.length cap ex)) S ⟨p, l⟩ err).1 (bookR (nz (.sl i o v l.length cap ex)) S ⟨p, l⟩ err).2 (.tu [.ag [.i .u64 p, .sl (S.length + 3) 0 0 l.length l.length false], .i .i64 err])
      (S ++ (.cells [.i .u64 p, .sl i o v l.length cap ex] 0 none true :: .cells [.i .i64 1, .i .i64 0, xp, xd, .i .u64 0, .i .u64 0] 0 none true :: .cells [.i .u64 p, .sl (S.length + 3) 0 0 l.length l.length false] 0 none true :: .cells (l.flatMap entE.enc) 0 (some 14) true :: A)) := fun A err =>
      Acc.retB entE_flat ⟨_, rfl, .inr (.inr ⟨hne, 3, 0, rfl, rfl⟩)⟩ Flat_i Flat_i
    rcases commit_list (c := ⟨0, l.length, [], l⟩) rfl ho hr with ⟨hF, hrn⟩ | ⟨hT, d, hs, hde, hrn⟩
    · rw [hrn]
      have cm := fun B0 B1 B2 B3 B4 B6 => (cm B0 B1 B2 B3 B4 B6).trans (congrArg some (commitR_f hF))
      simp (maxSteps := 1000000) (disch := omega) only [c13, orc_cons, lst_cells hl, c1, b1, e1, cm, go_sem]
      exact own _ _
    · rw [hrn]
      have cm := fun B0 B1 B2 B3 B4 B6 => (cm B0 B1 B2 B3 B4 B6).trans (congrArg some (commitR_t hT hs))
      simp only at cm
      generalize (putC ps (dropC ds ⟨0, l.length, [], l⟩).1).v = v2 at cm
      have hdf := hdf d hde
      by_cases hd0 : d = []
      · subst hd0
        have cm : ∀ B0 B1 B2 B3 B4 B6 : Blk, _ = some (AV.tu [.se, .b true], List.set (S ++ [B0, B1, B2, B3, B4, .cells (l.flatMap entE.enc) 0 (some 14) true, B6]) (S.length + 5) (.cells [] v2 (some 14) true)) := fun B0 B1 B2 B3 B4 B6 => (cm B0 B1 B2 B3 B4 B6).trans (by unfold endX; rw [if_pos rfl]; rfl)
        have b2 : ∀ M : Mem, brightS [.ag [.i .u64 p, .se]] M = some (.b (decide (Bk.ok ⟨p, []⟩)), M) := fun M => bright_eq (bookOf_mk rfl) hdf
        simp (maxSteps := 1000000) (disch := omega) only [c13, orc_cons, lst_cells hl, c1, b1, e1, cm, b2, go_sem]
        refine ⟨fun h1 => ?_, fun h1 => ?_⟩
        · rw [show Bk.fin (some ⟨p, []⟩) = none by simp only [Bk.fin, if_neg h1]]
          exact own _ _
        · rw [show Bk.fin (some ⟨p, []⟩) = some ⟨p, []⟩ by simp only [Bk.fin, if_pos (Decidable.not_not.1 h1)]]
          unfold commitB
          simp only
          rw [if_pos trivial]
          exact wkv_drop rfl
      · have cm : ∀ B0 B1 B2 B3 B4 B6 : Blk, _ = some (AV.tu [.sl (S.length + 5) 0 v2 d.length d.length false, .b true], List.set (S ++ [B0, B1, B2, B3, B4, .cells (l.flatMap entE.enc) 0 (some 14) true, B6]) (S.length + 5) (.cells (d.flatMap entE.enc) v2 (some 14) true)) := fun B0 B1 B2 B3 B4 B6 => (cm B0 B1 B2 B3 B4 B6).trans (by unfold endX; rw [if_neg hd0])
        have b2 : ∀ B0 B1 B2 B3 B4 B6 : Blk, brightS [.ag [.i .u64 p, .sl (S.length + 5) 0 v2 d.length d.length false]] (S ++ [B0, B1, B2, B3, B4, .cells (d.flatMap entE.enc) v2 (some 14) true, B6]) = some (.b (decide (Bk.ok ⟨p, d⟩)), S ++ [B0, B1, B2, B3, B4, .cells (d.flatMap entE.enc) v2 (some 14) true, B6]) := fun B0 B1 B2 B3 B4 B6 => bright_eq (bookOf_mk (own_lst (ownV_mk (by rw [at_app]; rfl)))) hdf
        simp (maxSteps := 1000000) (disch := omega) only [c13, orc_cons, lst_cells hl, c1, b1, e1, cm, b2, go_sem]
        refine ⟨fun h1 => ?_, fun h1 => ?_⟩
        · rw [show Bk.fin (some ⟨p, d⟩) = none by simp only [Bk.fin, if_neg h1]]
          exact own _ _
        · rw [show Bk.fin (some ⟨p, d⟩) = some ⟨p, d⟩ by simp only [Bk.fin, if_pos (Decidable.not_not.1 h1)]]
          unfold commitB
          simp only
          rw [if_neg hd0]
          exact Acc.retB entE_flat ⟨_, rfl, .inr (.inr ⟨hd0, 5, v2, rfl, rfl⟩)⟩ Flat_i Flat_i
end Go.Proofs.Ytmdnohpolepcoaa

namespace Go.Proofs.Ytmdnohpolepcoaa
open Go.RowKit
set_option linter.unusedSimpArgs false
set_option linter.unusedVariables false
set_option maxRecDepth 10000

noncomputable def applyR (z : Bool) (S : Mem) (b : Bk) (e : Evt) : AV × Mem := if e.kind = 1 then commitB z S b (b.rapplied e) else match b.rapplied e with
  | some b' => bookR z S b' 0
  | none => bookR z S b 131
noncomputable def applyS : Spec := fun args S => match args with
  | [.ag cb, .ag ce] => match bookOf S cb, evtOf S ce with
    | some b, some e => if b.fits ∧ e.fits then some (applyR (nzB cb) S b e) else none
    | _, _ => none
  | _ => none
theorem right_eq {e : Evt} (hr : e.right) (hk : e.kind = 1) : e = ⟨1, 0, e.puts, e.drops, 0, 0⟩ := by
  rcases hr with ⟨_, _, _, _, h⟩ | ⟨h, _⟩ | ⟨h, _⟩
  · rw [hk] at h; exact h
  · rw [hk] at h; exact absurd h (by decide)
  · rw [hk] at h; exact absurd h (by decide)
theorem apply_ok : SpecOK Try.prog 13 applyS := by
  intro args S x S' h
  simp only [applyS] at h
  split at h
  · rename_i cb ce
    split at h
    · rename_i b e hb he
      split at h
      · rename_i hf
        obtain ⟨hbf, hef⟩ := hf
        by_cases hc : b.ok ∧ e.right ∧ e.kind = 1
        · obtain ⟨ho, hr, hk⟩ := hc
          obtain ⟨s, rfl, hl⟩ := bookOf_ok hb
          obtain ⟨xp, xd, rfl, hp, hd⟩ := evtOf_ok he
          have hre := right_eq hr hk
          obtain ⟨k, sub, ps, ds, g, q⟩ := e
          simp only at hk
          subst hk
          simp only [Evt.mk.injEq, true_and, and_true] at hre
          obtain ⟨rfl, rfl, rfl⟩ := hre
          obtain ⟨p, l⟩ := b
          simp only [Option.some.injEq] at h
          have hz : nzB [AV.i .u64 (Bk.mk p l).period, s] = nz s := rfl
          rw [hz] at h
          have hx := congrArg Prod.fst h
          have hm := congrArg Prod.snd h
          simp only at hx hm
          have h1 := apply1 hl hp hd hbf hef ho hr
          unfold applyR at hx hm
          rw [if_pos rfl] at hx hm
          rw [hx, hm] at h1
          exact h1
        · refine turn_ok _ _ _ _ ?_
          simp only [turnS, hb, he]
          have hc' : ¬ (b.ok ∧ e.right ∧ e.kind = 1) := hc
          rw [if_pos ⟨hbf, hef, hc'⟩, turned_eq hc']
          rw [← h]
          unfold applyR
          by_cases hk : e.kind = 1
          · have hn : b.rapplied e = none := by
              unfold Bk.rapplied
              rw [if_neg fun z => hc ⟨z.1, z.2, hk⟩]
            rw [hn, if_pos hk]; rfl
          · rw [if_neg hk]
            cases b.rapplied e <;> rfl
      · cases h
    · cases h
  · cases h
/-- The book behind an event. -/
noncomputable def Bk.after (b : Bk) (e : Evt) : Bk := (b.rapplied e).getD b
noncomputable def Bk.err (b : Bk) (e : Evt) : Int := if (b.rapplied e).isSome then 0 else 131
theorem apply_call {S : Mem} {cb ce : List AV} {b : Bk} {e : Evt} (hb : bookOf S cb = some b) (he : evtOf S ce = some e) (hbf : b.fits) (hef : e.fits) :
    ∃ Y M, applyS [.ag cb, .ag ce] S = some (.tu [.ag [.i .u64 (b.after e).period, Y], .i .i64 (b.err e)], M) ∧ lstV entE M Y = some (b.after e).entries ∧ S <+: M := by
  simp only [applyS, hb, he]
  rw [if_pos ⟨hbf, hef⟩]
  unfold applyR commitB Bk.after Bk.err
  cases b.rapplied e with
  | none => split <;> exact ⟨_, _, rfl, retX_lst, retM_ext⟩
  | some b' =>
    split
    · simp only
      split
      · rename_i h0
        exact ⟨_, _, rfl, by simp only [Option.getD_some]; rw [h0]; rfl, ext_refl⟩
      · exact ⟨_, _, rfl, retX_lst, retM_ext⟩
    · exact ⟨_, _, rfl, retX_lst, retM_ext⟩
end Go.Proofs.Ytmdnohpolepcoaa

namespace Go.Proofs.Ytmdnohpolepcoaa
open Go.RowKit
set_option linter.unusedSimpArgs false
set_option linter.unusedVariables false
set_option maxRecDepth 10000

theorem Acc.setL {α : Type} {z : Bool} {E : Enc α} {S2 M : Mem} {x : AV} {l : List α} (h : Acc z E S2 M x l) {i : Nat} (hi : i < S2.length) (B : Blk) : Acc z E (S2.set i B) (M.set i B) x l := by
  obtain ⟨T, rfl, h⟩ := h
  refine ⟨T, List.set_append_left _ _ hi, ?_⟩
  rw [List.length_set]; exact h
theorem intE_flat : ∀ n a, ∀ c ∈ (intE .i64).enc a, AV.Flat n c := by
  intro n a c hc
  simp only [intE, List.mem_singleton] at hc
  subst hc; exact Flat_i
def evtR (S : Mem) (e : Evt) : AV := .ag [.i .i64 e.kind, .i .i64 e.sub, retX false S e.puts, ret2Y polE S e.puts e.drops, .i .u64 e.granted, .i .u64 e.period]
def outR (S : Mem) (o : Evt × Bool × Int) : AV × Mem := (.tu [evtR S o.1, .b o.2.1, .i .i64 o.2.2], ret2M polE (intE .i64) S o.1.puts o.1.drops)
theorem outR_no (S : Mem) (n : Int) : outR S (noEvt, false, n) = (.tu [.ag [.i .i64 0, .i .i64 0, .sn, .sn, .i .u64 0, .i .u64 0], .b false, .i .i64 n], S) := rfl
theorem evt_ret {S M : Mem} {xp xd : AV} {ps : List Pol} {ds : List Int} (hp : Acc false polE S M xp ps) (hd : Acc false (intE .i64) S M xd ds) :
    WkV S (outR S (⟨1, 0, ps, ds, 0, 0⟩, true, 0)).1 (outR S (⟨1, 0, ps, ds, 0, 0⟩, true, 0)).2 (.tu [.ag [.i .i64 1, .i .i64 0, xp, xd, .i .u64 0, .i .u64 0], .b true, .i .i64 0]) M := by
  obtain ⟨keep, T, rfl, h1, h2, h3, h4, h5⟩ := hp.keep2 polE_flat intE_flat (show polE.sz ≠ (intE .i64).sz by decide) hd
  have := wkv_keep (S0 := S) (L := T) (y := .tu [.ag [.i .i64 1, .i .i64 0, xp, xd, .i .u64 0, .i .u64 0], .b true, .i .i64 0]) keep h1 h2
  rw [ren_tu, renL_cons, renL_cons, renL_cons, renL_nil, ren_ag, renL_cons, renL_cons, renL_cons, renL_cons, renL_cons, renL_cons, renL_nil, h3, h4, h5] at this
  exact this
def Chg.fits (c : Chg) : Prop := c.pol.fits ∧ -9223372036854775808 ≤ c.pol.sub ∧ c.pol.sub ≤ 9223372036854775807
instance (c : Chg) : Decidable c.fits := by unfold Chg.fits; infer_instance
noncomputable def tevS : Spec := fun args S => match args with
  | [.p it 0 0, .ag cb] => match S[it]? with
    | some (.cells [x] 0 none true) => match lstV chgE S x, bookOf S cb with
      | some l, some b => if b.fits ∧ l.length ≤ 1000 ∧ ∀ c ∈ l, c.fits then some (outR S (outOf b (seqOf l))) else none
      | _, _ => none
    | _ => none
  | _ => none
theorem oEv_ok : OK Try.prog (lamOf Try.prog) (orcOf [(17, keysS), (16, sortedS), (18, findS), (19, polS), (13, applyS)]) := orc_ok (by simpa using ⟨keys_ok, sorted_ok, bfind_ok, pol_ok, apply_ok⟩)
theorem updC_len (l : List Chg) (c : Chg) : (updC l c).length ≤ l.length + 1 := by
  unfold updC
  split
  · rw [List.length_set]; omega
  · simp
theorem retX_set {M : Mem} {K : List Int} {i : Nat} (hi : i < M.length) (B : Blk) : lstV (intE .i64) ((retM false (intE .i64) M K).set i B) (retX false M K) = some K := by
  cases K with
  | nil => rfl
  | cons a K =>
    have h := retX_lst (z := false) (E := intE .i64) (S := M.set i B) (l := a :: K)
    have e1 : retX false (M.set i B) (a :: K) = retX false M (a :: K) := by simp only [retX, List.length_set]
    have e2 : retM false (intE .i64) (M.set i B) (a :: K) = (retM false (intE .i64) M (a :: K)).set i B := by
      simp only [retM]; rw [List.set_append_left _ _ hi]
    rw [e1, e2] at h
    exact h
theorem foundV_mk (o : Option Ent) : ∃ a : Ent, foundV o = .tu [.ag a.enc, .b o.isSome] := by
  cases o with
  | none => exact ⟨noEnt, rfl⟩
  | some a => exact ⟨a, rfl⟩
theorem wrapSucc {k n : Nat} (h : k < n) (hn : n ≤ 1000) : wrapV .i64 ((k : Int) + 1) = ((k + 1 : Nat) : Int) := by rw [wrap_i64 (by omega) (by omega)]; omega
abbrev evC (k : Int) (xp xd : AV) : Blk := .cells [.i .i64 k, .i .i64 0, xp, xd, .i .u64 0, .i .u64 0] 0 none true
theorem tev_ok : SpecOK Try.prog 8 tevS := by
  intro args S x S' h
  unfold tevS at h
  split at h
  · rename_i it cb
    split at h
    · rename_i y hB
      split at h
      · rename_i l b hl hb
        split at h
        · rename_i hc
          obtain ⟨hbf, hl1, hcf⟩ := hc
          simp only [Option.some.injEq, Prod.ext_iff] at h
          obtain ⟨rfl, rfl⟩ := h
          obtain ⟨s, rfl, hls⟩ := bookOf_ok hb
          have hcL : ∀ L, cellB ((S ++ L)[it]?) 0 0 = some y := fun L => by rw [at_old hB]; rfl
          refine fn_of_wp f8 rfl (W_sound oEv_ok mixed _ _ _ _ _ ?_)
          simp (maxSteps := 1000000) (disch := omega) only [c8, hcL, lst_len hl, go_sem]
          refine wp_loop (fun j e M dl => dl = [] ∧ ∃ (k : Nat) (cs : List Chg), j = l.length - k ∧ k ≤ l.length ∧ S <+: M ∧ M[S.length]? = some (.cells [.i .u64 b.period, s] 0 none true) ∧
            M[S.length + 1]? = some (evC 0 .sn .sn) ∧ M[S.length + 2]? = some (.map (entsC 0 cs) cs.length) ∧ OnceK Chg.sub cs ∧ (∀ d, d ∈ cs ↔ d ∈ lasts (l.take k)) ∧ cs.length ≤ k ∧
            e.get 7 = .m (S.length + 2) ∧ e.get 22 = y ∧ e.get 4 = .p (S.length + 1) 0 0 ∧ e.get 3 = .p S.length 0 0 ∧ e.get 23 = .i .i64 l.length ∧ e.get 24 = .i .i64 k) (j := l.length) ?_ ?_
          · exact ⟨rfl, 0, [], rfl, Nat.zero_le _, ext_app _, by rw [at_app0]; rfl, by rw [at_app]; rfl, by rw [at_app]; rfl, List.Pairwise.nil, fun d => by simp [lasts], Nat.le_refl _, rfl, rfl, rfl, rfl, rfl, rfl⟩
          rintro j e M d' ⟨rfl, k, cs, rfl, hk, hSM, m0, m1, m2, hon, hmem, hcl, h7, h22, h4, h3, h23, h24⟩
          refine W_sound oEv_ok mixed _ _ _ _ _ ?_
          by_cases hkl : k < l.length
          · obtain ⟨bi, o, v, cap, ex, rfl⟩ := lst_sl hl hkl
            have hM := lst_ext hl hSM
            have hr : ∀ L, rowB ((M ++ L)[bi]?) (o + k * 14) v 14 = some (chgE.enc l[k]) := lstV_row hM hkl
            have hr0 := hr []
            rw [List.append_nil] at hr0
            have hkI : (k : Int) < l.length := by omega
            have hw : wrapV .i64 ((k : Int) + 1) = ((k + 1 : Nat) : Int) := by rw [wrap_i64 (by omega) (by omega)]; omega
            have hm := mupd_eq (at_old (L := [.cells l[k].enc 0 none true]) m2) l[k]
            simp only [chgE, Chg.enc, Chg.sub] at hr0 hm
            simp (maxSteps := 1000000) (disch := omega) only [c8l0, h7, h22, h4, h3, h23, h24, hkI, Int.toNat_natCast, hr0, hm, hw, go_sem]
            refine ⟨l.length - (k + 1), by omega, k + 1, updC cs l[k], rfl, hkl, ext_set (hSM.trans (ext_app _)) (by omega) _, ?_, ?_, at_set (at_old m2), updC_once hon _, fun d => ?_, ?_, ?_⟩
            rotate_left 4
            · first | rfl | exact ⟨rfl, rfl⟩
            · rw [at_set_ne (by omega)]; exact at_old m0
            · rw [at_set_ne (by omega)]; exact at_old m1
            · rw [updC_mem hon, List.take_succ_eq_append_getElem hkl, lasts_snoc, List.mem_append, List.mem_filter, List.mem_singleton, hmem]
              simp [sameSub, or_comm]
            · exact Nat.le_trans (updC_len _ _) (by omega)
          · have hkI : ¬ (k : Int) < l.length := by omega
            have hk1 : k = l.length := by omega
            subst hk1
            rw [List.take_length] at hmem
            obtain ⟨K, hK⟩ : ∃ K, K = (seqOf l).map Chg.sub := ⟨_, rfl⟩
            have hiK : isort (cs.map Chg.sub) = K := by rw [hK]; exact isort_seq hon hmem
            have hM1 : ∀ L, (M ++ evC 1 .sn .sn :: L)[M.length]? = some (evC 1 .sn .sn) := fun L => by rw [at_app0]; rfl
            have hk1 : keysS [.m (S.length + 2)] (M ++ [evC 1 .sn .sn]) = some (.f (.func 29) [] [.p (M.length + 1) 0 0], M ++ [evC 1 .sn .sn, .cells [.m (S.length + 2)] 0 none true]) := by
              simp only [keysS, List.append_assoc, List.length_append, List.length_singleton, List.singleton_append]
            obtain ⟨M2, hM2⟩ : ∃ M2, M2 = M ++ [evC 1 .sn .sn, .cells [.m (S.length + 2)] 0 none true] := ⟨_, rfl⟩
            have hs1 : sortedS [.f (.func 29) [] [.p (M.length + 1) 0 0]] M2 = some (retX false M2 K, retM false (intE .i64) M2 K) := by
              have e1 : M2[M.length + 1]? = some (.cells [.m (S.length + 2)] 0 none true) := by rw [hM2, at_app]; rfl
              have e2 : M2[S.length + 2]? = some (.map (entsC 0 cs) cs.length) := by rw [hM2]; exact at_old m2
              simp only [sortedS, e1, e2, keysOf_ents]
              have hrg : ∀ k ∈ cs.map Chg.sub, -9223372036854775808 ≤ k ∧ k ≤ 9223372036854775807 := by
                intro k hk
                obtain ⟨c, hc, rfl⟩ := List.mem_map.1 hk
                exact (hcf c (lasts_sub ((hmem c).1 hc))).2
              rw [if_pos ⟨trivial, once_nodup hon, born_nodup cs, born_lt cs, by rw [entsC_length]; omega, hrg⟩, hiK]
            rw [← hM2] at hk1
            have hXl : lstV (intE .i64) (retM false (intE .i64) M2 K) (retX false M2 K) = some K := retX_lst
            simp (maxSteps := 1000000) (disch := omega) only [c8l0, h7, h22, h4, h3, h23, h24, hkI, orc_cons, hk1, hs1, lst_len hXl, go_sem]
            obtain ⟨U, hU⟩ : ∃ U, U = retM false (intE .i64) M2 K := ⟨_, rfl⟩
            have hM2l : M2.length = M.length + 2 := by rw [hM2]; simp
            have hMl : S.length + 2 < M.length := (List.getElem?_eq_some_iff.1 m2).1
            have hM2U : M2 <+: U := by rw [hU]; exact retM_ext
            have hUl : M2.length ≤ U.length := hM2U.length_le
            have u10 : U[M.length]? = some (evC 1 .sn .sn) := at_pre hM2U (by rw [hM2]; exact hM1 _)
            have u0 : ∀ B, (U.set M.length B)[S.length]? = some (.cells [.i .u64 b.period, s] 0 none true) := fun B => by
              rw [at_set_ne (by omega)]; exact at_pre hM2U (by rw [hM2]; exact at_old m0)
            have u1 : ∀ B, (U.set M.length B)[S.length + 1]? = some (evC 0 .sn .sn) := fun B => by
              rw [at_set_ne (by omega)]; exact at_pre hM2U (by rw [hM2]; exact at_old m1)
            have u2 : ∀ B, (U.set M.length B)[S.length + 2]? = some (.map (entsC 0 cs) cs.length) := fun B => by
              rw [at_set_ne (by omega)]; exact at_pre hM2U (by rw [hM2]; exact at_old m2)
            have uB : ∀ B, (U.set M.length B)[M.length]? = some B := fun B => at_set u10
            have hSU : ∀ B, S <+: U.set M.length B := fun B => ext_set (hSM.trans ((by rw [hM2]; exact ext_app _ : M <+: M2).trans hM2U)) (by omega) _
            have uX : ∀ B, lstV (intE .i64) (U.set M.length B) (retX false M2 K) = some K := fun B => by rw [hU]; exact retX_set (by omega) B
            rw [← hU]
            obtain ⟨q, hq⟩ : ∃ q, q = seqOf l := ⟨_, rfl⟩
            rw [← hq] at hK
            rw [show outOf b (seqOf l) = outOf b q by rw [hq]]
            have hqK : K.length = q.length := by rw [hK, List.length_map]
            have hql : q.length ≤ 1000 := by rw [hq]; exact Nat.le_trans (seqOf_len l) hl1
            have hqm : ∀ c ∈ q, c ∈ cs := fun c hc => by rw [hq] at hc; exact (hmem c).2 (seqOf_mem.1 hc)
            have hqf : ∀ c ∈ q, c.pol.fits := fun c hc => (hcf c (lasts_sub ((hmem c).1 (hqm c hc)))).1
            obtain ⟨X, hX⟩ : ∃ X, X = retX false M2 K := ⟨_, rfl⟩
            rw [← hX] at uX
            rw [← hX]
            clear hs1 hk1 hXl
            refine wp_loop (fun j e M' dl => dl = [] ∧ ∃ (k : Nat) (xp xd : AV), j = q.length - k ∧ k ≤ q.length ∧ Acc false polE (U.set M.length (evC 1 xp xd)) M' xp (putsOf (q.take k)) ∧
              Acc false (intE .i64) (U.set M.length (evC 1 xp xd)) M' xd (dropsOf b.entries (q.take k)) ∧ (∀ c ∈ q.take k, ¬ (c.put = true ∧ ¬ c.pol.right)) ∧
              e.get 4 = .p (S.length + 1) 0 0 ∧ e.get 10 = .p M.length 0 0 ∧ e.get 3 = .p S.length 0 0 ∧ e.get 7 = .m (S.length + 2) ∧ e.get 37 = X ∧ e.get 38 = .i .i64 q.length ∧ e.get 39 = .i .i64 k) (j := q.length) ?_ ?_
            · refine ⟨rfl, 0, .sn, .sn, rfl, Nat.zero_le _, acc_nil ?_, acc_nil ?_, fun c hc => by simp at hc, rfl, rfl, rfl, rfl, rfl, by rw [hqK]; rfl, rfl⟩ <;> rw [set_self u10] <;> exact ext_refl
            rintro j e M' d' ⟨rfl, k, xp, xd, rfl, hkq, hp, hd, hgood, h4, h10, h3, h7, h37, h38, h39⟩
            have e0 := at_pre hp.ext (u0 _)
            have e1 := at_pre hp.ext (u1 _)
            have e2 := at_pre hp.ext (u2 _)
            have eB := at_pre hp.ext (uB _)
            have eX := lst_ext (uX (evC 1 xp xd)) hp.ext
            by_cases hkl : k < q.length
            · have hKk : K[k]'(by omega) = q[k].sub := by simp only [hK, List.getElem_map]
              obtain ⟨bi, o, v, cap, ex, rfl⟩ := lst_sl eX (show k < K.length by omega)
              have hc := lstV_cell eX rfl (fun a => rfl) (show k < K.length by omega) []
              rw [List.append_nil, hKk] at hc
              have hkI : (k : Int) < q.length := by omega
              have hm := fun z => mlookC_eq (z := z) e2 hon (hqm _ (List.getElem_mem hkl))
              refine wp_seq (W_sound oEv_ok mixed _ _ _ _ _ ?_)
              simp (maxSteps := 1000000) (disch := omega) only [h38, h39, hkI, go_sem]
              refine wp_ls oEv_ok mixed ?_
              simp (maxSteps := 1000000) (disch := omega) only [go_sem]
              refine wp_live (wp_seq (wp_block (wp_seq (W_sound oEv_ok mixed _ _ _ _ _ ?_))))
              simp (maxSteps := 1000000) (disch := omega) only [h4, h10, h3, h7, h37, h38, h39, Int.toNat_natCast, Nat.mul_one, hc, go_sem]
              generalize hq0 : q[k] = c at hc hm
              obtain ⟨a, ha⟩ := foundV_mk (b.entries.find? (hasSub c.sub))
              have hpr : ∀ L, polS [.ag c.pol.enc] (M' ++ L) = some (.b (decide c.pol.right), M' ++ L) := fun L => polS_eq (by rw [← hq0]; exact hqf _ (List.getElem_mem hkl)) _
              have r0 : ∀ L, rowB ((M' ++ L)[S.length]?) 0 0 2 = some [.i .u64 b.period, s] := fun L => by rw [at_old e0]; rfl
              have hfi : ∀ L, findS [.ag [.i .u64 b.period, s], .i .i64 c.sub] (M' ++ L) = some (foundV (b.entries.find? (hasSub c.sub)), M' ++ L) := fun L => by
                have hb' : bookOf (M' ++ L) [.i .u64 b.period, s] = some b := by
                  have := bookOf_mk (p := b.period) (lstV_grow (lst_ext hls ((hSU _).trans hp.ext)) L)
                  exact this
                simp only [findS, hb']
                rw [if_pos hbf.1]
              rw [ha] at hfi
              simp only [Chg.enc, Pol.enc, Ent.enc] at hm hpr hfi
              refine wp_ls oEv_ok mixed ?_
              simp (maxSteps := 1000000) (disch := omega) only [hm, go_sem]
              refine wp_ls oEv_ok mixed ?_
              simp (maxSteps := 1000000) (disch := omega) only [r0, orc_cons, hfi, go_sem]
              refine wp_live (wp_block (wp_seq (W_sound oEv_ok mixed _ _ _ _ _ ?_)))
              have hBL : ∀ L : Mem, (M' ++ L)[M.length]? = some (evC 1 xp xd) := fun L => at_old eB
              have c1 : ∀ L, rowB ((M' ++ L)[S.length + 1]?) 0 0 6 = some [.i .i64 0, .i .i64 0, .sn, .sn, .i .u64 0, .i .u64 0] := fun L => by rw [at_old e1]; rfl
              have e1L : ∀ L : Mem, (M' ++ L)[S.length + 1]? = some (evC 0 .sn .sn) := fun L => at_old e1
              have hMU : M.length < (U.set M.length (evC 1 xp xd)).length := by rw [List.length_set]; omega
              have htk : q.take (k + 1) = q.take k ++ [c] := by rw [List.take_succ_eq_append_getElem hkl, hq0]
              have hpl : (putsOf (q.take k)).length ≤ 1000 := Nat.le_trans (putsOf_len _) (Nat.le_trans (List.length_take_le _ _) (by omega))
              have hdl : (dropsOf b.entries (q.take k)).length ≤ 1000 := Nat.le_trans (dropsOf_len _ _) (Nat.le_trans (List.length_take_le _ _) (by omega))
              have hgd : ∀ (x : Chg), (x = c → ¬ (x.put = true ∧ ¬ x.pol.right)) → x ∈ q.take (k + 1) → ¬ (x.put = true ∧ ¬ x.pol.right) := fun x h1 h2 => by
                rw [htk, List.mem_append, List.mem_singleton] at h2
                rcases h2 with h2 | h2
                · exact hgood x h2
                · exact h1 h2
              cases hput : c.put with
              | true =>
                by_cases hr : c.pol.right
                · rw [decide_eq_true hr] at hpr
                  simp (maxSteps := 1000000) (disch := omega) only [hpr, orc_cons, un_not_b, Bool.not_true, Bool.not_false, go_sem]
                  have c2 : ∀ L, cellB ((M' ++ L)[M.length]?) 2 0 = some xp := fun L => by rw [hBL]; rfl
                  obtain ⟨x', M'', hap, hp', hfr⟩ := (hp.grow [.cells [.i .i64 c.pol.sub, .i .u8 c.pol.a, .i .u8 c.pol.b, .i .u8 c.pol.c, .i .u8 c.pol.d, .i .i64 c.pol.bits, .i .u64 c.pol.rate, .i .u64 c.pol.burst, .i .u64 c.pol.srate, .i .u64 c.pol.sburst, .i .u64 c.pol.quota, .i .u64 c.pol.lease, .i .u64 c.pol.quantum, .b true] 0 none true, .cells a.enc 0 none true, .cells c.pol.enc 0 none true]).app2 (bytes := 80) polE_one c.pol (by omega) (by omega)
                  have hd' := ((hd.grow [.cells [.i .i64 c.pol.sub, .i .u8 c.pol.a, .i .u8 c.pol.b, .i .u8 c.pol.c, .i .u8 c.pol.d, .i .i64 c.pol.bits, .i .u64 c.pol.rate, .i .u64 c.pol.burst, .i .u64 c.pol.srate, .i .u64 c.pol.sburst, .i .u64 c.pol.quota, .i .u64 c.pol.lease, .i .u64 c.pol.quantum, .b true] 0 none true, .cells a.enc 0 none true, .cells c.pol.enc 0 none true]).kept hp'.ext hfr (by decide)).setL hMU (evC 1 x' xd)
                  have hp'' := hp'.setL hMU (evC 1 x' xd)
                  rw [List.set_set] at hd' hp''
                  have hB'' := hfr M.length _ (hBL _) (by simp [Blk.opn])
                  simp only [polE, Pol.enc, Ent.enc] at hap
                  obtain ⟨i1, o1, v1, l1, c1, ex1, rfl⟩ := appV_sl hap
                  refine W_sound oEv_ok mixed _ _ _ _ _ ?_
                  simp (maxSteps := 1000000) (disch := omega) only [c2, hap, hB'', AV.cells, go_sem]
                  refine W_sound oEv_ok mixed _ _ _ _ _ ?_
                  simp (maxSteps := 1000000) (disch := omega) only [wrapSucc hkl hql, go_sem]
                  refine ⟨q.length - (k + 1), by omega, k + 1, .sl i1 o1 v1 l1 c1 ex1, xd, rfl, hkl, ?_, ?_, fun x => hgd x fun e q => ?_, rfl⟩
                  · rw [htk, putsOf, List.filterMap_append]
                    have : [c].filterMap putOf = [c.pol] := by simp [putOf, hput]
                    rw [this]; exact hp''
                  · rw [htk, dropsOf, List.filterMap_append]
                    have : [c].filterMap (dropOf b.entries) = [] := by simp [dropOf, hput]
                    rw [this, List.append_nil]; exact hd'
                  · subst e; exact q.2 hr
                · rw [decide_eq_false hr] at hpr
                  have hset : ∀ L : Mem, (M' ++ L).set (S.length + 1) (evC 0 .sn .sn) = M' ++ L := fun L => set_self (e1L L)
                  simp (maxSteps := 1000000) (disch := omega) only [hpr, orc_cons, un_not_b, Bool.not_true, Bool.not_false, go_sem]
                  refine W_sound oEv_ok mixed _ _ _ _ _ ?_
                  simp (maxSteps := 1000000) (disch := omega) only [c8, e1L, hset, go_sem]
                  rw [out_bad ⟨c, by rw [← hq0]; exact List.getElem_mem hkl, hput, hr⟩, outR_no]
                  exact wkv_dropP (((hSU _).trans hp.ext).trans (ext_app _)) rfl
              | false =>
                simp (maxSteps := 1000000) (disch := omega) only [hpr, orc_cons, un_not_b, Bool.not_true, Bool.not_false, go_sem]
                have hpt : putsOf (q.take (k + 1)) = putsOf (q.take k) := by
                  rw [htk, putsOf, List.filterMap_append]
                  have : [c].filterMap putOf = [] := by simp [putOf, hput]
                  rw [this, List.append_nil]; rfl
                have hdt : dropsOf b.entries (q.take (k + 1)) = dropsOf b.entries (q.take k) ++ (if (b.entries.find? (hasSub c.sub)).isSome then [c.sub] else []) := by
                  rw [htk, dropsOf, List.filterMap_append]
                  congr 1
                  cases hf : (b.entries.find? (hasSub c.sub)).isSome <;> simp [dropOf, hput, hf]
                cases hth : (b.entries.find? (hasSub c.sub)).isSome with
                | true =>
                  rw [hth, if_pos rfl] at hdt
                  have c3 : ∀ L, cellB ((M' ++ L)[M.length]?) 3 0 = some xd := fun L => by rw [hBL]; rfl
                  obtain ⟨x', M'', hap, hd', hfr⟩ := (hd.grow [.cells [.i .i64 c.pol.sub, .i .u8 c.pol.a, .i .u8 c.pol.b, .i .u8 c.pol.c, .i .u8 c.pol.d, .i .i64 c.pol.bits, .i .u64 c.pol.rate, .i .u64 c.pol.burst, .i .u64 c.pol.srate, .i .u64 c.pol.sburst, .i .u64 c.pol.quota, .i .u64 c.pol.lease, .i .u64 c.pol.quantum, .b false] 0 none true, .cells a.enc 0 none true, .cells [.i .i64 c.sub] 0 none true]).app2 (bytes := 8) (fun _ => rfl) c.sub (by omega) (by omega)
                  have hp' := ((hp.grow [.cells [.i .i64 c.pol.sub, .i .u8 c.pol.a, .i .u8 c.pol.b, .i .u8 c.pol.c, .i .u8 c.pol.d, .i .i64 c.pol.bits, .i .u64 c.pol.rate, .i .u64 c.pol.burst, .i .u64 c.pol.srate, .i .u64 c.pol.sburst, .i .u64 c.pol.quota, .i .u64 c.pol.lease, .i .u64 c.pol.quantum, .b false] 0 none true, .cells a.enc 0 none true, .cells [.i .i64 c.sub] 0 none true]).kept hd'.ext hfr (by decide)).setL hMU (evC 1 xp x')
                  have hd'' := hd'.setL hMU (evC 1 xp x')
                  rw [List.set_set] at hp' hd''
                  have hB'' := hfr M.length _ (hBL _) (by simp [Blk.opn])
                  simp only [intE, Ent.enc] at hap
                  obtain ⟨i1, o1, v1, l1, c1, ex1, rfl⟩ := appV_sl hap
                  refine W_sound oEv_ok mixed _ _ _ _ _ ?_
                  simp (maxSteps := 1000000) (disch := omega) only [c3, hap, hB'', AV.cells, go_sem]
                  refine W_sound oEv_ok mixed _ _ _ _ _ ?_
                  simp (maxSteps := 1000000) (disch := omega) only [wrapSucc hkl hql, go_sem]
                  refine ⟨q.length - (k + 1), by omega, k + 1, xp, .sl i1 o1 v1 l1 c1 ex1, rfl, hkl, ?_, ?_, fun x => hgd x fun e q => ?_, rfl⟩
                  · rw [hpt]; exact hp'
                  · rw [hdt]; exact hd''
                  · subst e; rw [hput] at q; cases q.1
                | false =>
                  rw [hth, if_neg (by decide), List.append_nil] at hdt
                  refine W_sound oEv_ok mixed _ _ _ _ _ ?_
                  simp (maxSteps := 1000000) (disch := omega) only [go_sem]
                  refine W_sound oEv_ok mixed _ _ _ _ _ ?_
                  simp (maxSteps := 1000000) (disch := omega) only [wrapSucc hkl hql, go_sem]
                  refine ⟨q.length - (k + 1), by omega, k + 1, xp, xd, rfl, hkl, ?_, ?_, fun x => hgd x fun e q => ?_, rfl⟩
                  · rw [hpt]; exact hp.grow _
                  · rw [hdt]; exact hd.grow _
                  · subst e; rw [hput] at q; cases q.1
            · have hkI : ¬ (k : Int) < q.length := by omega
              obtain rfl : k = q.length := by omega
              rw [List.take_length] at hp hd hgood
              have hng : ¬ badIn q := fun ⟨c, hc, h⟩ => hgood c hc h
              have c2 : cellB (M'[M.length]?) 2 0 = some xp := by rw [eB]; rfl
              have c3 : cellB (M'[M.length]?) 3 0 = some xd := by rw [eB]; rfl
              have hpl : (putsOf q).length ≤ 1000 := Nat.le_trans (putsOf_len _) hql
              have hdl : (dropsOf b.entries q).length ≤ 1000 := Nat.le_trans (dropsOf_len _ _) hql
              by_cases hz : (putsOf q).length = 0 ∧ (dropsOf b.entries q).length = 0
              · have hsum : wrapV .i64 (((putsOf q).length : Int) + ((dropsOf b.entries q).length : Int)) = 0 := by rw [hz.1, hz.2]; rfl
                have hset : M'.set (S.length + 1) (evC 0 .sn .sn) = M' := set_self e1
                refine W_sound oEv_ok mixed _ _ _ _ _ ?_
                simp (maxSteps := 1000000) (disch := omega) only [c8, c8l1, h4, h10, h3, h38, h39, hkI, c2, c3, lst_len hp.lst, lst_len hd.lst, hsum, e1, hset, go_sem]
                rw [out_none hng hz.1 hz.2, outR_no]
                exact wkv_dropP ((hSU _).trans hp.ext) rfl
              · have hsum : wrapV .i64 (((putsOf q).length : Int) + ((dropsOf b.entries q).length : Int)) ≠ 0 := by rw [wrap_i64 (by omega) (by omega)]; omega
                have hsum2 : ¬ (((putsOf q).length : Int) + ((dropsOf b.entries q).length : Int)) = 0 := by clear hsum; omega
                have hb' : bookOf M' [.i .u64 b.period, s] = some b := bookOf_mk (p := b.period) (lst_ext hls ((hSU _).trans hp.ext))
                have hef : Evt.fits ⟨1, 0, putsOf q, dropsOf b.entries q, 0, 0⟩ := ⟨by show (putsOf q).length ≤ _; omega, by show (dropsOf b.entries q).length ≤ _; omega, fun p hpm => by
                  obtain ⟨c, hc, _, rfl⟩ := putsOf_mem.1 hpm
                  exact hqf c hc⟩
                obtain ⟨Y, M3, hap, hY, hM3⟩ := apply_call hb' (evtOf_mk (k := 1) (s := 0) (g := 0) (p := 0) hp.lst hd.lst) hbf hef
                have r0 : rowB (M'[S.length]?) 0 0 2 = some [.i .u64 b.period, s] := by rw [e0]; rfl
                have rB : rowB (M'[M.length]?) 0 0 6 = some [.i .i64 1, .i .i64 0, xp, xd, .i .u64 0, .i .u64 0] := by rw [eB]; rfl
                have f1 : ∀ L : Mem, (M3 ++ L)[S.length + 1]? = some (evC 0 .sn .sn) := fun L => at_old (at_pre hM3 e1)
                have fB : ∀ L : Mem, rowB ((M3 ++ L)[M.length]?) 0 0 6 = some [.i .i64 1, .i .i64 0, xp, xd, .i .u64 0, .i .u64 0] := fun L => by rw [at_old (at_pre hM3 eB)]; rfl
                have hset : ∀ L : Mem, (M3 ++ L).set (S.length + 1) (evC 0 .sn .sn) = M3 ++ L := fun L => set_self (f1 L)
                have hrow : ∀ (L : Mem), rowB (((M3 ++ L).set (S.length + 1) (evC 1 xp xd))[S.length + 1]?) 0 0 6 = some [.i .i64 1, .i .i64 0, xp, xd, .i .u64 0, .i .u64 0] := fun L => by rw [at_set (f1 L)]; rfl
                generalize b.after ⟨1, 0, putsOf q, dropsOf b.entries q, 0, 0⟩ = ba at hap hY
                unfold Bk.err at hap
                refine W_sound oEv_ok mixed _ _ _ _ _ ?_
                by_cases hs : (b.rapplied ⟨1, 0, putsOf q, dropsOf b.entries q, 0, 0⟩).isSome = true
                · rw [if_pos hs] at hap
                  simp (maxSteps := 1000000) (disch := omega) only [c8, c8l1, h4, h10, h3, h38, h39, hkI, c2, c3, lst_len hp.lst, lst_len hd.lst, hsum, hsum2, r0, rB, orc_cons, hap, lst_cells hY, lst_one hY, List.replicate, f1, fB, lst_one hp.lst, lst_one hd.lst, Bool.and_self, hrow, go_sem]
                  rw [out_some hng hz hs]
                  have hM4 : M' <+: M3 ++ [.cells [.i .u64 ba.period, Y] 0 none true] := hM3.trans (ext_app _)
                  exact evt_ret (((hp.base (hSU _)).extM hM4).setB (by omega) (f1 _) rfl _) (((hd.base (hSU _)).extM hM4).setB (by omega) (f1 _) rfl _)
                · rw [if_neg hs] at hap
                  simp (maxSteps := 1000000) (disch := omega) only [c8, c8l1, h4, h10, h3, h38, h39, hkI, c2, c3, lst_len hp.lst, lst_len hd.lst, hsum, hsum2, r0, rB, orc_cons, hap, lst_cells hY, lst_one hY, List.replicate, f1, fB, hset, go_sem]
                  rw [out_err hng hz hs, outR_no]
                  exact wkv_dropP ((((hSU _).trans hp.ext).trans hM3).trans (ext_app _)) rfl
        · cases h
      · cases h
    · cases h
  · cases h
end Go.Proofs.Ytmdnohpolepcoaa

namespace Go.Proofs.Ytmdnohpolepcoaa
open Go.RowKit
set_option linter.unusedSimpArgs false
set_option linter.unusedVariables false
set_option maxRecDepth 10000

noncomputable def rbrightW : Spec := fun args S => match args with
  | [.ag cs] => match bookOf S cs with
    | some b => if ∀ x ∈ b.entries, x.pol.fits then some (.b (decide b.ok), S) else none
    | none => none
  | _ => none
theorem rbrightW_ok : SpecOK Try.prog 12 rbrightW := by
  intro args S x S' h
  simp only [rbrightW] at h
  split at h
  · rename_i cs
    split at h
    · rename_i b hb
      split at h
      · rename_i hf
        cases h
        by_cases hlim : b.entries.length ≤ 1000000
        · refine rbright_ok _ _ _ _ ?_
          simp only [brightS, hb]
          rw [if_pos ⟨hlim, hf⟩]
        · obtain ⟨s, rfl, hl⟩ := bookOf_ok hb
          obtain ⟨p, l⟩ := b
          simp only at hl hlim
          have h8 : (8 : Int) < l.length := by omega
          refine fn_of_wp f12 rfl (W_sound none_ok mixed _ _ _ _ _ ?_)
          simp (maxSteps := 1000000) (disch := omega) only [c12, lst_len hl, h8, go_sem]
          have hno : ¬ (Bk.mk p l).ok := fun q => by
            have := q.2.2.1.1; unfold polsOf at this; simp at this; omega
          refine ⟨fun h1 => ⟨fun h2 => ?_, fun h2 => ?_⟩, fun h1 => ?_⟩ <;> exact wkv_f hno
      · cases h
    · cases h
  · cases h
theorem rbrightW_eq {S : Mem} {cs : List AV} {b : Bk} (h : bookOf S cs = some b) (hf : ∀ x ∈ b.entries, x.pol.fits) : rbrightW [.ag cs] S = some (.b (decide b.ok), S) := by
  simp only [rbrightW, h, if_pos hf]

end Go.Proofs.Ytmdnohpolepcoaa

namespace Go.Proofs.Ytmdnohpolepcoaa
open Go.RowKit
set_option linter.unusedSimpArgs false
set_option linter.unusedVariables false
set_option maxRecDepth 10000

theorem ext_of_at {S M : Mem} (h : ∀ (i : Nat) (B : Blk), S[i]? = some B → M[i]? = some B) : S <+: M := by
  rw [List.prefix_iff_getElem?]
  intro i hi
  exact h i _ (List.getElem?_eq_getElem hi)
/-- What an added change leaves as it was. -/
def Frm (M M' : Mem) (it j : Nat) (l : List Chg) : Prop := ∀ (ib : Nat) (B : Blk), M[ib]? = some B → ib ≠ it → (l = [] ∨ ib ≠ j) → M'[ib]? = some B
theorem Frm.ext {S M M' : Mem} {it j : Nat} {l : List Chg} (h : Frm M M' it j l) (t : TAt S.length M it j l) (hS : S <+: M) : S <+: M' := by
  obtain ⟨hb, hj, _⟩ := t
  refine ext_of_at fun i B hB => ?_
  have hi := (List.getElem?_eq_some_iff.1 hB).1
  refine h i B (at_pre hS hB) (by omega) ?_
  by_cases q : l = []
  · exact .inl q
  · have := hj q; exact .inr (by omega)
theorem TL.ne_box {M : Mem} {x y : AV} {j i : Nat} {l : List Chg} (h : TL M x j l) (hl : l ≠ []) (hy : M[i]? = some (.cells [y] 0 none true)) : i ≠ j := by
  rintro rfl
  rcases h with ⟨q, _⟩ | ⟨_, v, _, hB⟩
  · exact hl q
  · rw [hy] at hB
    injection hB with hB
    injection hB with _ _ q _
    cases q
structure Two (b : Nat) (M : Mem) (ix jx : Nat) (l1 : List Chg) (iy jy : Nat) (l2 : List Chg) : Prop where
  h1 : TAt b M ix jx l1
  h2 : TAt b M iy jy l2
  ne : ix ≠ iy
  dj : l1 ≠ [] → l2 ≠ [] → jx ≠ jy
section
variable {b ix jx iy jy : Nat} {M M' : Mem} {l1 l2 : List Chg} {c : Chg}
theorem Two.symm (h : Two b M ix jx l1 iy jy l2) : Two b M iy jy l2 ix jx l1 := ⟨h.h2, h.h1, h.ne.symm, fun a b => (h.dj b a).symm⟩
theorem Two.step (h : Two b M ix jx l1 iy jy l2) {j' : Nat} (t : TAt b M' ix j' (l1 ++ [c])) (e1 : l1 ≠ [] → j' = jx) (e2 : l1 = [] → M.length ≤ j') (fr : Frm M M' ix jx l1) : Two b M' ix j' (l1 ++ [c]) iy jy l2 := by
  obtain ⟨⟨b1, b2, x, hx, hX⟩, ⟨b3, b4, y, hy, hY⟩, ne, dj⟩ := h
  refine ⟨t, ⟨b3, b4, y, fr iy _ hy ne.symm ?_, hY.extM fun B q hB => fr jy B hB (Ne.symm (hY.ne_box q hx)) ?_⟩, ne, fun _ q => ?_⟩
  · by_cases q : l1 = []
    · exact .inl q
    · exact .inr (hX.ne_box q hy)
  · by_cases p : l1 = []
    · exact .inl p
    · exact .inr (dj p q).symm
  · by_cases p : l1 = []
    · have := e2 p
      rcases hY with ⟨q', _⟩ | ⟨_, v, _, hB⟩
      · exact absurd q' q
      · have := (List.getElem?_eq_some_iff.1 hB).1
        omega
    · rw [e1 p]; exact dj p q
theorem Two.ext (h : Two b M ix jx l1 iy jy l2) (hM : M <+: M') : Two b M' ix jx l1 iy jy l2 := ⟨h.h1.ext hM, h.h2.ext hM, h.ne, h.dj⟩
end
/-- A change as a Txn keeps it. -/
def nrm (c : Chg) : Chg := if c.put then c else ⟨false, subPol c.sub⟩
theorem nrm_sub (c : Chg) : (nrm c).sub = c.sub := by unfold nrm; split <;> rfl
/-- Put or Drop, as it stands in a change. -/
def opS (it : Nat) (c : Chg) (M : Mem) : Option (AV × Mem) := if c.put then tputS [.p it 0 0, .ag c.pol.enc] M else tdropS [.p it 0 0, .i .i64 c.sub] M
theorem op_call {b it j : Nat} {M : Mem} {l : List Chg} (h : TAt b M it j l) (hbM : b ≤ M.length) (hl : l.length < 64) (c : Chg) :
    ∃ M' j', opS it c M = some (.i .i64 0, M') ∧ TAt b M' it j' (l ++ [nrm c]) ∧ (l ≠ [] → j' = j) ∧ (l = [] → M.length ≤ j') ∧ M.length ≤ M'.length ∧ Frm M M' it j l := by
  unfold opS nrm
  cases hp : c.put with
  | true =>
    obtain ⟨M', j', h1, h2, h3, h4, h5, h6⟩ := tput_call h hbM hl c.pol
    have hc : (⟨true, c.pol⟩ : Chg) = c := by rw [← hp]
    rw [hc] at h2
    exact ⟨M', j', h1, h2, h3, h4, h5, h6⟩
  | false =>
    obtain ⟨M', j', h1, h2, h3, h4, h5, h6⟩ := tdrop_call h hbM hl c.sub
    exact ⟨M', j', h1, h2, h3, h4, h5, h6⟩
theorem Two.op {S M : Mem} {ix jx iy jy : Nat} {l1 l2 : List Chg} (h : Two S.length M ix jx l1 iy jy l2) (hS : S <+: M) (hl : l1.length < 64) (c : Chg) :
    ∃ M' j', opS ix c M = some (.i .i64 0, M') ∧ Two S.length M' ix j' (l1 ++ [nrm c]) iy jy l2 ∧ S <+: M' := by
  obtain ⟨M', j', h1, h2, h3, h4, h5, h6⟩ := op_call h.h1 hS.length_le hl c
  exact ⟨M', j', h1, h.step h2 h3 h4 h6, h6.ext h.h1 hS⟩
/-! ### Event -/
theorem tev_eq {b it j : Nat} {M : Mem} {l : List Chg} (h : TAt b M it j l) {cb : List AV} {bk : Bk} (hb : bookOf M cb = some bk) (hf : bk.fits) (hl : l.length ≤ 1000) (hc : ∀ c ∈ l, c.fits) : tevS [.p it 0 0, .ag cb] M = some (outR M (outOf bk (seqOf l))) := by
  obtain ⟨hb', hj, x, hx, hL⟩ := h
  simp only [tevS, hx, hL.lst, hb]
  rw [if_pos ⟨hf, hl, hc⟩]
def evtCs (S : Mem) (e : Evt) : List AV := [.i .i64 e.kind, .i .i64 e.sub, retX false S e.puts, ret2Y polE S e.puts e.drops, .i .u64 e.granted, .i .u64 e.period]
theorem evtCs_of {S M : Mem} {e : Evt} (h : ret2M polE (intE .i64) S e.puts e.drops <+: M) : evtOf M (evtCs S e) = some e := by
  obtain ⟨k, s, ps, ds, g, p⟩ := e
  exact evtOf_mk (lst_ext ret2X_lst h) (lst_ext ret2Y_lst h)
theorem one_retX {α : Type} {S : Mem} {l : List α} : (retX false S l).one = true := by cases l <;> rfl
theorem one_ret2Y {S : Mem} {l : List Pol} {m : List Int} : (ret2Y polE S l m).one = true := one_retX
theorem out_fits {b : Bk} {l : List Chg} (hl : l.length ≤ 1000) (hc : ∀ c ∈ l, c.fits) : (outOf b (seqOf l)).1.fits := by
  have h1 : (evtIn b.entries (seqOf l)).fits := by
    have hq := seqOf_len l
    have hp := putsOf_len (seqOf l)
    have hd := dropsOf_len b.entries (seqOf l)
    refine ⟨by show (putsOf (seqOf l)).length ≤ _; omega, by show (dropsOf b.entries (seqOf l)).length ≤ _; omega, fun p hp => ?_⟩
    obtain ⟨c, hc', _, rfl⟩ := putsOf_mem.1 hp
    exact (hc c (lasts_sub (seqOf_mem.1 hc'))).1
  have h0 : noEvt.fits := ⟨by decide, by decide, fun p hp => by cases hp⟩
  unfold outOf
  split
  · exact h0
  · split
    · exact h0
    · split
      · exact h1
      · exact h0
end Go.Proofs.Ytmdnohpolepcoaa

namespace Go.Proofs.Ytmdnohpolepcoaa
open Go.RowKit
set_option linter.unusedSimpArgs false
set_option linter.unusedVariables false

/-! ### Lists in order -/
theorem riseK_sub {α : Type} {key : α → Int} : ∀ {l m : List α}, RiseK key l → RiseK key m → (∀ x ∈ l, x ∈ m) → l.Sublist m
  | [], m, _, _, _ => List.nil_sublist m
  | a :: l, [], _, _, h => absurd (h a (List.mem_cons_self ..)) (by simp)
  | a :: l, b :: m, hl, hm, h => by
    obtain ⟨l1, l2⟩ := List.pairwise_cons.1 hl
    obtain ⟨m1, m2⟩ := List.pairwise_cons.1 hm
    rcases List.mem_cons.1 (h a (List.mem_cons_self ..)) with rfl | ha
    · refine (riseK_sub l2 m2 fun x hx => ?_).cons_cons _
      rcases List.mem_cons.1 (h x (List.mem_cons_of_mem _ hx)) with rfl | h1
      · have := l1 _ hx; omega
      · exact h1
    · refine (riseK_sub hl m2 fun x hx => ?_).cons _
      rcases List.mem_cons.1 (h x hx) with rfl | h1
      · have h2 := m1 a ha
        rcases List.mem_cons.1 hx with rfl | hx
        · omega
        · have := l1 _ hx; omega
      · exact h1
theorem pols_iff {l : List Pol} : Pols l ↔ l.length ≤ 8 ∧ (∀ p ∈ l, p.right) ∧ l.Pairwise (fun a b => a.sub < b.sub ∧ a.net ≠ b.net) := by
  constructor
  · rintro ⟨h1, h2⟩
    refine ⟨h1, fun p hp => ?_, List.pairwise_iff_getElem.2 fun i j hi hj hij => (h2 j hj hj).2 i hij⟩
    obtain ⟨i, hi, rfl⟩ := List.getElem_of_mem hp
    exact (h2 i hi hi).1
  · rintro ⟨h1, h2, h3⟩
    refine ⟨h1, fun i hi _ => ⟨h2 _ (List.getElem_mem hi), fun j hj => ?_⟩⟩
    exact List.pairwise_iff_getElem.1 h3 j i (by omega) hi hj
theorem Pols.sub {l m : List Pol} (h : Pols m) (hs : l.Sublist m) : Pols l := by
  obtain ⟨h1, h2, h3⟩ := pols_iff.1 h
  exact pols_iff.2 ⟨Nat.le_trans hs.length_le h1, fun p hp => h2 p (hs.subset hp), h3.sublist hs⟩
theorem Pols.rises {l : List Pol} (h : Pols l) : RiseK Pol.sub l := (pols_iff.1 h).2.2.imp fun h => h.1
theorem riseTo_of {l : List Int} (h : RiseK id l) (hs : ∀ n ∈ l, subOk n) : riseTo l l.length := fun i hi _ =>
  ⟨hs _ (List.getElem_mem hi), fun h0 => List.pairwise_iff_getElem.1 h (i - 1) i (by omega) hi (by omega)⟩

/-! ### A commit, by what is in it -/
theorem polsOf_mem {l : List Ent} {p : Pol} : p ∈ polsOf l ↔ ∃ x ∈ l, x.pol = p := List.mem_map
theorem right_disj {e : Evt} (hr : e.right) (hk : e.kind = 1) : Pols e.puts ∧ riseTo e.drops e.drops.length ∧ ∀ p ∈ e.puts, p.sub ∉ e.drops := by
  rcases hr with ⟨_, _, hP, hD, _⟩ | ⟨h, _⟩ | ⟨h, _⟩
  · exact ⟨hP, hD.2.1, hD.2.2⟩
  · rw [hk] at h; exact absurd h (by decide)
  · rw [hk] at h; exact absurd h (by decide)
theorem find_put {l : List Pol} (h : Pols l) {p : Pol} (hp : p ∈ l) : l.find? (subIsP p.sub) = some p := once_find (key := Pol.sub) h.rises.once hp
theorem refEnts_mem {b : Bk} (ho : b.ok) {e : Evt} (hr : e.right) (hk : e.kind = 1) (p : Pol) : p ∈ polsOf (refEnts b.entries e 255) ↔ p ∈ e.puts ∨ (p ∈ polsOf b.entries ∧ p.sub ∉ e.drops ∧ ∀ q ∈ e.puts, q.sub ≠ p.sub) := by
  obtain ⟨hP, hD, hPD⟩ := right_disj hr hk
  obtain ⟨bp, es⟩ := b
  have hon := ok_once ho
  have hrg := ok_range ho
  rw [polsOf_mem]
  constructor
  · rintro ⟨x, hx, rfl⟩
    have hx : x ∈ (List.range 255).filterMap (fun i : Nat => refOne es e ((i : Int) + 1)) := hx
    obtain ⟨h1, h2, h3⟩ := (mem_range_look refOne_sub).1 hx
    unfold refOne at h1
    split at h1
    · cases h1
    · rename_i hnd
      split at h1
      · rename_i y q f1 f2
        simp only [Option.some.injEq] at h1
        rw [← h1]
        exact .inl (List.mem_of_find?_eq_some f2)
      · rename_i y f1 f2
        simp only [Option.some.injEq] at h1
        subst h1
        refine .inr ⟨polsOf_mem.2 ⟨y, (ofSub_some f1).1, rfl⟩, hnd, fun q hq e' => ?_⟩
        have := List.find?_eq_none.1 f2 q hq
        exact this (by simp [subIsP, e'])
      · rename_i q f1 f2
        simp only [Option.some.injEq] at h1
        rw [← h1]
        exact .inl (List.mem_of_find?_eq_some f2)
      · cases h1
  · rintro (hp | ⟨hp, hnd, hnp⟩)
    · have hrp := pols_range hP p hp
      have hf := find_put hP hp
      have hnd := hPD p hp
      cases ho1 : ofSub es p.sub with
      | none =>
        refine ⟨⟨p, 0⟩, ?_, rfl⟩
        refine (mem_range_look (f := refOne es e) refOne_sub).2 ⟨?_, hrp.1, by show p.sub ≤ _; omega⟩
        show refOne es e p.sub = _
        unfold refOne
        rw [if_neg hnd, hf]
        simp only [ho1]
      | some y =>
        refine ⟨⟨p, y.granted⟩, ?_, rfl⟩
        refine (mem_range_look (f := refOne es e) refOne_sub).2 ⟨?_, hrp.1, by show p.sub ≤ _; omega⟩
        show refOne es e p.sub = _
        unfold refOne
        rw [if_neg hnd, hf]
        simp only [ho1]
    · obtain ⟨y, hy, rfl⟩ := polsOf_mem.1 hp
      have hy : y ∈ es := hy
      refine ⟨y, (mem_range_look (f := refOne es e) refOne_sub).2 ⟨?_, (hrg y hy).1, by have := (hrg y hy).2; omega⟩, rfl⟩
      have hfn : e.puts.find? (subIsP y.pol.sub) = none := List.find?_eq_none.2 fun q hq hs => hnp q hq (by simpa [subIsP] using hs)
      unfold refOne
      rw [if_neg hnd, hfn]
      simp only [ofSub_mem hon hy]
theorem refEnts_rises (old : List Ent) (e : Evt) : RiseK Pol.sub (polsOf (refEnts old e 255)) := List.pairwise_map.2 (rises_range refOne_sub 255)
theorem rapplied_some {b b' : Bk} {e : Evt} (hk : e.kind = 1) (h : b.rapplied e = some b') : b.ok ∧ e.right ∧ b' = ⟨b.period, refEnts b.entries e 255⟩ ∧ b'.ok := by
  unfold Bk.rapplied at h
  split at h
  · rename_i hc
    split at h
    · cases h
    · simp only [Bk.fin] at h
      split at h
      · rename_i hok
        cases h
        exact ⟨hc.1, hc.2, rfl, hok⟩
      · cases h
  · cases h
theorem rapplied_of {b : Bk} (ho : b.ok) {e : Evt} (hr : e.right) (hk : e.kind = 1) (hd : ∀ id ∈ e.drops, (b.entries.find? (hasSub id)).isSome) {Q : List Pol} (hQ : Pols Q)
    (hm : ∀ p, p ∈ Q ↔ p ∈ e.puts ∨ (p ∈ polsOf b.entries ∧ p.sub ∉ e.drops ∧ ∀ q ∈ e.puts, q.sub ≠ p.sub)) : b.rapplied e = some ⟨b.period, refEnts b.entries e 255⟩ ∧ polsOf (refEnts b.entries e 255) = Q := by
  have he : polsOf (refEnts b.entries e 255) = Q := riseK_ext (refEnts_rises _ _) hQ.rises fun p => by rw [refEnts_mem ho hr hk, hm]
  have hok : Bk.ok ⟨b.period, refEnts b.entries e 255⟩ := by
    refine ⟨ho.1, ho.2.1, by rw [he]; exact hQ, fun x hx => ?_⟩
    have hx : x ∈ (List.range 255).filterMap (fun i : Nat => refOne b.entries e ((i : Int) + 1)) := hx
    obtain ⟨h1, _, _⟩ := (mem_range_look refOne_sub).1 hx
    have hg := ho.2.2.2
    unfold refOne at h1
    split at h1
    · cases h1
    · split at h1
      · rename_i y q f1 f2
        simp only [Option.some.injEq] at h1
        rw [← h1]; exact hg y (ofSub_some f1).1
      · rename_i y f1 f2
        simp only [Option.some.injEq] at h1
        rw [← h1]; exact hg y (ofSub_some f1).1
      · simp only [Option.some.injEq] at h1
        rw [← h1]; show (0 : Int) ≤ _; omega
      · cases h1
  refine ⟨?_, he⟩
  unfold Bk.rapplied
  rw [if_pos ⟨ho, hr⟩, if_pos hk, if_neg]
  · simp only [Bk.fin, if_pos hok]
  · rintro ⟨i, _, hb1, hb2⟩
    have := hd _ hb1
    rw [hb2] at this; cases this

/-! ### One by one -/
structure FoldInv (b : Bk) (L : List Chg) (nb : Bk) : Prop where
  ok : nb.ok
  fits : nb.fits
  per : nb.period = b.period
  good : ∀ c ∈ L, c.put = true → c.pol.right
  mem : ∀ p, p ∈ polsOf nb.entries ↔ (∃ c ∈ lasts L, c.put = true ∧ c.pol = p) ∨ (p ∈ polsOf b.entries ∧ ∀ c ∈ L, c.sub ≠ p.sub)
theorem fold_start {b : Bk} (ho : b.ok) (hf : b.fits) : FoldInv b [] b :=
  ⟨ho, hf, rfl, (fun c hc => by cases hc), fun p => ⟨fun h => .inr ⟨h, fun c hc => by cases hc⟩, fun h => by
    rcases h with ⟨c, hc, _⟩ | ⟨h, _⟩
    · cases hc
    · exact h⟩⟩
theorem seqOf_one (c : Chg) : seqOf [c] = [c] := rfl
/-- One change more: what a book must have. -/
theorem FoldInv.step {b nb nb' : Bk} {L : List Chg} {c : Chg} (h : FoldInv b L nb) (ho : nb'.ok) (hf : nb'.fits) (hp : nb'.period = nb.period) (hg : c.put = true → c.pol.right)
    (hm : ∀ p, p ∈ polsOf nb'.entries ↔ (c.put = true ∧ c.pol = p) ∨ (p.sub ≠ c.sub ∧ p ∈ polsOf nb.entries)) : FoldInv b (L ++ [c]) nb' := by
  refine ⟨ho, hf, hp.trans h.per, fun d hd => ?_, fun p => ?_⟩
  · rw [List.mem_append, List.mem_singleton] at hd
    rcases hd with hd | rfl
    · exact h.good d hd
    · exact hg
  · rw [hm, h.mem, lasts_snoc]
    constructor
    · rintro (⟨h1, h2⟩ | ⟨hne, ⟨d, hd, h1, h2⟩ | ⟨h1, h2⟩⟩)
      · exact .inl ⟨c, by simp, h1, h2⟩
      · refine .inl ⟨d, List.mem_append_left _ (List.mem_filter.2 ⟨hd, ?_⟩), h1, h2⟩
        have : d.sub ≠ c.sub := by rw [← h2] at hne; exact hne
        simp [sameSub, this]
      · refine .inr ⟨h1, fun d hd => ?_⟩
        rw [List.mem_append, List.mem_singleton] at hd
        rcases hd with hd | rfl
        · exact h2 d hd
        · exact hne.symm
    · rintro (⟨d, hd, h1, h2⟩ | ⟨h1, h2⟩)
      · rw [List.mem_append, List.mem_singleton] at hd
        rcases hd with hd | rfl
        · obtain ⟨hd1, hd2⟩ := List.mem_filter.1 hd
          refine .inr ⟨?_, .inl ⟨d, hd1, h1, h2⟩⟩
          rw [← h2]
          show d.sub ≠ c.sub
          simpa [sameSub] using hd2
        · exact .inl ⟨h1, h2⟩
      · refine .inr ⟨(h2 c (by simp)).symm, .inr ⟨h1, fun d hd => h2 d (List.mem_append_left _ hd)⟩⟩
theorem after_fits {b : Bk} {e : Evt} (hk : e.kind = 1) (hf : b.fits) (hp : ∀ p ∈ e.puts, p.fits) {b' : Bk} (h : b.rapplied e = some b') : b'.fits := by
  obtain ⟨_, _, rfl, _⟩ := rapplied_some hk h
  exact ⟨Nat.le_trans (refEnts_len _ _ _) (by omega), refEnts_fits hf.2 hp⟩
theorem fold_step {b nb : Bk} {L : List Chg} {c : Chg} (h : FoldInv b L nb) (hc : c.pol.fits) (h0 : (outOf nb (seqOf [c])).2.2 = 0) :
    (outOf nb (seqOf [c]) = (noEvt, false, 0) ∧ FoldInv b (L ++ [c]) nb) ∨ ∃ e, outOf nb (seqOf [c]) = (e, true, 0) ∧ e.fits ∧ nb.err e = 0 ∧ FoldInv b (L ++ [c]) (nb.after e) := by
  rw [seqOf_one] at h0 ⊢
  by_cases hb : badIn [c]
  · rw [out_bad hb] at h0; cases h0
  have hg : c.put = true → c.pol.right := fun hp => Decidable.byContradiction fun hr => hb ⟨c, by simp, hp, hr⟩
  by_cases hz : (putsOf [c]).length = 0 ∧ (dropsOf nb.entries [c]).length = 0
  · refine .inl ⟨out_none hb hz.1 hz.2, h.step h.ok h.fits rfl hg fun p => ?_⟩
    have hput : c.put = false := by
      cases hp : c.put with
      | false => rfl
      | true =>
        have := hz.1
        simp [putsOf, putOf, hp] at this
    have hno : nb.entries.find? (hasSub c.sub) = none := by
      cases hf : nb.entries.find? (hasSub c.sub) with
      | none => rfl
      | some a =>
        have := hz.2
        simp [dropsOf, dropOf, hput, hf] at this
    constructor
    · intro hp
      refine .inr ⟨fun e => ?_, hp⟩
      obtain ⟨x, hx, rfl⟩ := polsOf_mem.1 hp
      have := List.find?_eq_none.1 hno x hx
      exact this (by simp [hasSub, e])
    · rintro (⟨h1, _⟩ | ⟨_, hp⟩)
      · rw [hput] at h1; cases h1
      · exact hp
  · by_cases hs : (nb.rapplied (evtIn nb.entries [c])).isSome = true
    · refine .inr ⟨evtIn nb.entries [c], out_some hb hz hs, ?_, by unfold Bk.err; rw [if_pos hs], ?_⟩
      · refine ⟨Nat.le_trans (putsOf_len _) (by simp), Nat.le_trans (dropsOf_len _ _) (by simp), fun p hp => ?_⟩
        obtain ⟨d, hd, _, rfl⟩ := putsOf_mem.1 hp
        rw [List.mem_singleton] at hd; subst hd; exact hc
      obtain ⟨nb', hnb⟩ := Option.isSome_iff_exists.1 hs
      have haf : nb.after (evtIn nb.entries [c]) = nb' := by unfold Bk.after; rw [hnb]; rfl
      rw [haf]
      obtain ⟨_, hr, hb', hok⟩ := rapplied_some rfl hnb
      refine h.step hok (after_fits rfl h.fits (fun p hp => ?_) hnb) (by rw [hb']) hg fun p => ?_
      · obtain ⟨d, hd, _, rfl⟩ := putsOf_mem.1 hp
        rw [List.mem_singleton] at hd; subst hd; exact hc
      · rw [hb']
        show p ∈ polsOf (refEnts nb.entries (evtIn nb.entries [c]) 255) ↔ _
        rw [refEnts_mem h.ok hr rfl]
        show p ∈ putsOf [c] ∨ (p ∈ polsOf nb.entries ∧ p.sub ∉ dropsOf nb.entries [c] ∧ ∀ q ∈ putsOf [c], q.sub ≠ p.sub) ↔ _
        rw [putsOf_mem]
        constructor
        · rintro (⟨d, hd, h1, h2⟩ | ⟨h1, h2, h3⟩)
          · rw [List.mem_singleton] at hd; subst hd; exact .inl ⟨h1, h2⟩
          · refine .inr ⟨fun e => ?_, h1⟩
            cases hput : c.put with
            | true => exact h3 c.pol (putsOf_mem.2 ⟨c, by simp, hput, rfl⟩) e.symm
            | false =>
              refine h2 (dropsOf_mem.2 ⟨c, by simp, hput, ?_, e.symm⟩)
              obtain ⟨x, hx, rfl⟩ := polsOf_mem.1 h1
              exact List.find?_isSome.2 ⟨x, hx, by simp [hasSub, e]⟩
        · rintro (⟨h1, h2⟩ | ⟨h1, h2⟩)
          · exact .inl ⟨c, by simp, h1, h2⟩
          · refine .inr ⟨h2, fun hd => ?_, fun q hq => ?_⟩
            · obtain ⟨d, hd1, _, _, e⟩ := dropsOf_mem.1 hd
              rw [List.mem_singleton] at hd1; subst hd1; exact h1 e.symm
            · obtain ⟨d, hd1, _, rfl⟩ := putsOf_mem.1 hq
              rw [List.mem_singleton] at hd1; subst hd1; exact h1.symm
    · rw [out_err hb hz hs] at h0; cases h0

/-! ### All at once -/
theorem fold_end {b nb : Bk} {L : List Chg} (ho : b.ok) (h : FoldInv b L nb) :
    (outOf b (seqOf L) = (noEvt, false, 0) ∧ polsOf b.entries = polsOf nb.entries) ∨
      ∃ e, outOf b (seqOf L) = (e, true, 0) ∧ b.err e = 0 ∧ polsOf (b.after e).entries = polsOf nb.entries ∧ (b.after e).period = nb.period := by
  have hb : ¬ badIn (seqOf L) := fun ⟨c, hc, h1, h2⟩ => h2 (h.good c (lasts_sub (seqOf_mem.1 hc)) h1)
  have hQ : Pols (polsOf nb.entries) := h.ok.2.2.1
  -- what the book must have
  have hm : ∀ p, p ∈ polsOf nb.entries ↔ p ∈ putsOf (seqOf L) ∨ (p ∈ polsOf b.entries ∧ p.sub ∉ dropsOf b.entries (seqOf L) ∧ ∀ q ∈ putsOf (seqOf L), q.sub ≠ p.sub) := fun p => by
    rw [h.mem, putsOf_mem]
    constructor
    · rintro (⟨c, hc, h1, h2⟩ | ⟨h1, h2⟩)
      · exact .inl ⟨c, seqOf_mem.2 hc, h1, h2⟩
      · refine .inr ⟨h1, fun hd => ?_, fun q hq => ?_⟩
        · obtain ⟨d, hd1, _, _, e⟩ := dropsOf_mem.1 hd
          exact h2 d (lasts_sub (seqOf_mem.1 hd1)) e
        · obtain ⟨d, hd1, _, rfl⟩ := putsOf_mem.1 hq
          exact h2 d (lasts_sub (seqOf_mem.1 hd1))
    · rintro (⟨c, hc, h1, h2⟩ | ⟨h1, h2, h3⟩)
      · exact .inl ⟨c, seqOf_mem.1 hc, h1, h2⟩
      · refine .inr ⟨h1, fun c hc e => ?_⟩
        obtain ⟨d, hd, e'⟩ := lasts_cover hc
        have e2 : d.sub = p.sub := e'.trans e
        cases hput : d.put with
        | true => exact h3 d.pol (putsOf_mem.2 ⟨d, seqOf_mem.2 hd, hput, rfl⟩) e2
        | false =>
          refine h2 (dropsOf_mem.2 ⟨d, seqOf_mem.2 hd, hput, ?_, e2⟩)
          obtain ⟨x, hx, rfl⟩ := polsOf_mem.1 h1
          exact List.find?_isSome.2 ⟨x, hx, by simp [hasSub, e2]⟩
  by_cases hz : (putsOf (seqOf L)).length = 0 ∧ (dropsOf b.entries (seqOf L)).length = 0
  · refine .inl ⟨out_none hb hz.1 hz.2, ?_⟩
    have e1 : putsOf (seqOf L) = [] := List.eq_nil_of_length_eq_zero hz.1
    have e2 : dropsOf b.entries (seqOf L) = [] := List.eq_nil_of_length_eq_zero hz.2
    refine riseK_ext (Pols.rises ho.2.2.1) hQ.rises fun p => ?_
    rw [hm, e1, e2]
    simp
  · have hPs : Pols (putsOf (seqOf L)) := hQ.sub (riseK_sub (putsOf_rises (seqOf_rises L)) hQ.rises fun p hp => (hm p).2 (.inl hp))
    have hin : ∀ n ∈ dropsOf b.entries (seqOf L), ∃ x ∈ b.entries, x.pol.sub = n := fun n hn => by
      obtain ⟨c, _, _, hs, rfl⟩ := dropsOf_mem.1 hn
      obtain ⟨x, hx, hq⟩ := List.find?_isSome.1 hs
      exact ⟨x, hx, by simpa [hasSub] using hq⟩
    have hbr : RiseK id ((polsOf b.entries).map Pol.sub) := List.pairwise_map.2 (Pols.rises ho.2.2.1)
    have hds : (dropsOf b.entries (seqOf L)).Sublist ((polsOf b.entries).map Pol.sub) := riseK_sub (dropsOf_rises (seqOf_rises L)) hbr fun n hn => by
      obtain ⟨x, hx, rfl⟩ := hin n hn
      exact List.mem_map.2 ⟨x.pol, polsOf_mem.2 ⟨x, hx, rfl⟩, rfl⟩
    have hdl : (dropsOf b.entries (seqOf L)).length ≤ 8 := by
      have h1 := hds.length_le
      rw [List.length_map] at h1
      exact Nat.le_trans h1 ho.2.2.1.1
    have hdo : ∀ n ∈ dropsOf b.entries (seqOf L), subOk n := fun n hn => by
      obtain ⟨x, hx, rfl⟩ := hin n hn
      have hrr := (pols_iff.1 ho.2.2.1).2.1 x.pol (polsOf_mem.2 ⟨x, hx, rfl⟩)
      exact ⟨hrr.1, hrr.2.1⟩
    have hr : (evtIn b.entries (seqOf L)).right := by
      refine .inl ⟨rfl, ?_, hPs, ⟨hdl, riseTo_of (dropsOf_rises (seqOf_rises L)) hdo, fun p hp hd => ?_⟩, rfl⟩
      · show 0 < (putsOf (seqOf L)).length + (dropsOf b.entries (seqOf L)).length
        omega
      · obtain ⟨c, hc, h1, rfl⟩ := putsOf_mem.1 hp
        obtain ⟨d, hd1, h2, _, e⟩ := dropsOf_mem.1 hd
        have := onceK_uniq (seqOf_rises L).once hc hd1 e.symm
        rw [this, h2] at h1; cases h1
    obtain ⟨h1, h2⟩ := rapplied_of ho hr rfl (fun n hn => by
      obtain ⟨c, _, _, hs, rfl⟩ := dropsOf_mem.1 hn
      exact hs) hQ hm
    have hs : (b.rapplied (evtIn b.entries (seqOf L))).isSome = true := by rw [h1]; rfl
    have haf : b.after (evtIn b.entries (seqOf L)) = ⟨b.period, refEnts b.entries (evtIn b.entries (seqOf L)) 255⟩ := by unfold Bk.after; rw [h1]; rfl
    exact .inr ⟨_, out_some hb hz hs, by unfold Bk.err; rw [if_pos hs], by rw [haf]; exact h2, by rw [haf]; exact h.per.symm⟩
end Go.Proofs.Ytmdnohpolepcoaa

namespace Go.Proofs.Ytmdnohpolepcoaa
open Go.RowKit
set_option linter.unusedVariables false
set_option maxRecDepth 100000

section
variable {H : Type} {enc : TypeId × Value → H} {W : World}

theorem wf_u8 {n : Int} (h : (Lit.int .u8 n).wf = true) : u8 n := by
  simp only [Lit.wf, IntKind.min, IntKind.max, IntKind.signed, IntKind.bits, Bool.and_eq_true] at h
  unfold u8
  simpa using h
theorem wf_u64 {n : Int} (h : (Lit.int .u64 n).wf = true) : u64 n := by
  simp only [Lit.wf, IntKind.min, IntKind.max, IntKind.signed, IntKind.bits, Bool.and_eq_true] at h
  unfold u64
  simpa using h
theorem wf_i64 {n : Int} (h : (Lit.int .i64 n).wf = true) : i64 n := by
  simp only [Lit.wf, IntKind.min, IntKind.max, IntKind.signed, IntKind.bits, Bool.and_eq_true] at h
  unfold i64
  simpa using h

theorem enc_inj {α : Type} {E : Enc α} {a b : α} (h : E.enc a = E.enc b) : a = b := by
  have h1 := E.de a
  rw [h, E.de] at h1
  injection h1 with h1; exact h1.symm

end
end Go.Proofs.Ytmdnohpolepcoaa

namespace Go.Proofs.Ytmdnohpolepcoaa
open Go.RowKit
set_option linter.unusedVariables false
set_option maxRecDepth 100000

section
variable {H : Type} {enc : TypeId × Value → H} {W : World}

abbrev polSh : List CS := [.int .i64, .int .u8, .int .u8, .int .u8, .int .u8, .int .i64, .int .u64, .int .u64, .int .u64, .int .u64, .int .u64, .int .u64, .int .u64]
theorem rowPol {cs : List Value} (h : RowIs enc Try.prog W polSh cs) : ∃ a : Pol, cs.map (absV W) = a.enc ∧ a.good := by
  obtain ⟨h1, h2⟩ := h
  match cs, h1 with
  | [x0, x1, x2, x3, x4, x5, x6, x7, x8, x9, x10, x11, x12], _ =>
    obtain ⟨a0, rfl, w0⟩ := h2 0 (by simp) (by simp)
    obtain ⟨a1, rfl, w1⟩ := h2 1 (by simp) (by simp)
    obtain ⟨a2, rfl, w2⟩ := h2 2 (by simp) (by simp)
    obtain ⟨a3, rfl, w3⟩ := h2 3 (by simp) (by simp)
    obtain ⟨a4, rfl, w4⟩ := h2 4 (by simp) (by simp)
    obtain ⟨a5, rfl, w5⟩ := h2 5 (by simp) (by simp)
    obtain ⟨a6, rfl, w6⟩ := h2 6 (by simp) (by simp)
    obtain ⟨a7, rfl, w7⟩ := h2 7 (by simp) (by simp)
    obtain ⟨a8, rfl, w8⟩ := h2 8 (by simp) (by simp)
    obtain ⟨a9, rfl, w9⟩ := h2 9 (by simp) (by simp)
    obtain ⟨a10, rfl, w10⟩ := h2 10 (by simp) (by simp)
    obtain ⟨a11, rfl, w11⟩ := h2 11 (by simp) (by simp)
    obtain ⟨a12, rfl, w12⟩ := h2 12 (by simp) (by simp)
    exact ⟨⟨a0, a1, a2, a3, a4, a5, a6, a7, a8, a9, a10, a11, a12⟩, rfl, wf_i64 w0, ⟨wf_u8 w1, wf_u8 w2, wf_u8 w3, wf_u8 w4⟩, wf_i64 w5, wf_u64 w6, wf_u64 w7, wf_u64 w8, wf_u64 w9, wf_u64 w10, wf_u64 w11, wf_u64 w12⟩
abbrev entSh : List CS := [.int .i64, .int .u8, .int .u8, .int .u8, .int .u8, .int .i64, .int .u64, .int .u64, .int .u64, .int .u64, .int .u64, .int .u64, .int .u64, .int .u64]
theorem rowEnt {cs : List Value} (h : RowIs enc Try.prog W entSh cs) : ∃ a : Ent, cs.map (absV W) = a.enc ∧ a.good := by
  obtain ⟨h1, h2⟩ := h
  match cs, h1 with
  | [x0, x1, x2, x3, x4, x5, x6, x7, x8, x9, x10, x11, x12, x13], _ =>
    obtain ⟨a0, rfl, w0⟩ := h2 0 (by simp) (by simp)
    obtain ⟨a1, rfl, w1⟩ := h2 1 (by simp) (by simp)
    obtain ⟨a2, rfl, w2⟩ := h2 2 (by simp) (by simp)
    obtain ⟨a3, rfl, w3⟩ := h2 3 (by simp) (by simp)
    obtain ⟨a4, rfl, w4⟩ := h2 4 (by simp) (by simp)
    obtain ⟨a5, rfl, w5⟩ := h2 5 (by simp) (by simp)
    obtain ⟨a6, rfl, w6⟩ := h2 6 (by simp) (by simp)
    obtain ⟨a7, rfl, w7⟩ := h2 7 (by simp) (by simp)
    obtain ⟨a8, rfl, w8⟩ := h2 8 (by simp) (by simp)
    obtain ⟨a9, rfl, w9⟩ := h2 9 (by simp) (by simp)
    obtain ⟨a10, rfl, w10⟩ := h2 10 (by simp) (by simp)
    obtain ⟨a11, rfl, w11⟩ := h2 11 (by simp) (by simp)
    obtain ⟨a12, rfl, w12⟩ := h2 12 (by simp) (by simp)
    obtain ⟨a13, rfl, w13⟩ := h2 13 (by simp) (by simp)
    exact ⟨⟨⟨a0, a1, a2, a3, a4, a5, a6, a7, a8, a9, a10, a11, a12⟩, a13⟩, rfl, ⟨wf_i64 w0, ⟨wf_u8 w1, wf_u8 w2, wf_u8 w3, wf_u8 w4⟩, wf_i64 w5, wf_u64 w6, wf_u64 w7, wf_u64 w8, wf_u64 w9, wf_u64 w10, wf_u64 w11, wf_u64 w12⟩, wf_u64 w13⟩
/-- A slice's cell, as a list. -/
theorem cellEnts {v : Value} (h : CellIs enc Try.prog W (.slice 52) v) : ∃ l : List Ent, lstV entE (absS W) (absV W v) = some l ∧ ∀ x ∈ l, x.good := by
  have s2 : shapes Try.prog 20 52 = some entSh := by kernel_rfl
  have c2 : Try.prog.cellsOf 52 = 14 := by kernel_rfl
  obtain ⟨l, hl, hf, _⟩ := lst_of (e := Ent.enc) (sz := 14) c2 (by omega) h (fun cs fuel x ht => let ⟨a, h1, h2⟩ := rowEnt (shapes_ok 20 fuel 52 cs x _ ht s2); ⟨a, h1, rfl⟩)
    (good := Ent.good) (fun cs fuel x a ht he => let ⟨a', h1, h2⟩ := rowEnt (shapes_ok 20 fuel 52 cs x _ ht s2); enc_inj (E := entE) (h1.symm.trans he) ▸ h2)
  exact ⟨l, lst_lstV (E := entE) hl, hf⟩
theorem argBook {v : Value} {base : Nat} {d : DataW H} {ps : List MemPlace} (o : Value.okWide Try.prog W .any base 41 v) (h : DataW.Trod enc Try.prog W 0 (fun _ => true) true 41 v d ps) :
    ∃ p s l, absA W v = .ag [.i .u64 p, s] ∧ lstV entE (absS W) s = some l ∧ (∀ x ∈ l, x.good) ∧ u64 p := by
  have s0 : shapes Try.prog 20 41 = some [.int .u64, .slice 52] := by kernel_rfl
  obtain ⟨cs, rfl⟩ : ∃ cs, v = .agg cs := by
    unfold Value.okWide at o
    rw [Try.underlying41] at o
    obtain ⟨cs, h, _⟩ := o
    exact ⟨cs, h⟩
  obtain ⟨h1, h2⟩ := arg_row h s0
  have h1 : cs.toList.length = 2 := h1
  have h2 : ∀ (i : Nat) (h : i < 2) (h' : i < cs.toList.length), CellIs enc Try.prog W ([CS.int .u64, CS.slice 52][i]) cs.toList[i] := fun i h h' => h2 i h h'
  generalize hcs : cs.toList = cl at h1 h2
  match cl, h1 with
  | [x, y], _ =>
    obtain ⟨p, rfl, wp⟩ := h2 0 (by omega) (by simp)
    obtain ⟨l, hl, hf⟩ := cellEnts (h2 1 (by omega) (by simp))
    refine ⟨p, absV W y, l, ?_, hl, hf, wf_u64 wp⟩
    show AV.ag (cs.toList.map (absV W)) = _
    rw [hcs]; rfl
end
end Go.Proofs.Ytmdnohpolepcoaa

namespace Go.Proofs.Ytmdnohpolepcoaa
open Go.RowKit
set_option linter.unusedVariables false
set_option maxRecDepth 100000

/-- A change as the document has it: first whether it is put. -/
def rchE : Enc Chg where
  enc c := .b c.put :: c.pol.enc
  dec r := match r with
    | [.b p, .i .i64 sub, .i .u8 a, .i .u8 b, .i .u8 c, .i .u8 d, .i .i64 bits, .i .u64 rate, .i .u64 burst, .i .u64 srate, .i .u64 sburst, .i .u64 quota, .i .u64 lease, .i .u64 quantum] => some ⟨p, ⟨sub, a, b, c, d, bits, rate, burst, srate, sburst, quota, lease, quantum⟩⟩
    | _ => none
  sz := 14
  pos := by decide
  len _ := rfl
  de _ := rfl
  ed r a h := by
    split at h
    · injection h with h; subst h; rfl
    · cases h
section
variable {H : Type} {enc : TypeId × Value → H} {W : World}
theorem argOpen {e : TypeId} {n : Nat} {v : Value} (h : CellIs enc Try.prog W (.slice e) v) : openQ (absS W) n (absV W v) = true := by
  rcases h with rfl | ⟨a, len, cap, rfl, hl, _, _⟩
  · rfl
  · obtain ⟨b, o, sp⟩ := a
    simp only [absV]
    split
    · rfl
    · cases numOf W b with
      | none => rfl
      | some i => cases sp with
        | none => simp [openQ, hl]
        | some q => rfl
abbrev chgSh : List CS := .bool :: polSh
theorem rowChg {cs : List Value} (h : RowIs enc Try.prog W chgSh cs) : ∃ a : Chg, cs.map (absV W) = rchE.enc a ∧ a.pol.good := by
  obtain ⟨h1, h2⟩ := h
  match cs, h1 with
  | x :: r, hl =>
    obtain ⟨p, rfl⟩ := h2 0 (by simp) (by simp)
    obtain ⟨a, h3, h4⟩ := rowPol (enc := enc) (W := W) (cs := r) ⟨by simpa using hl, fun i hi hi' => h2 (i + 1) (Nat.succ_lt_succ hi) (by rw [List.length_cons]; exact Nat.succ_lt_succ hi')⟩
    exact ⟨⟨p, a⟩, by rw [List.map_cons, h3]; rfl, h4⟩
theorem cellChgs {v : Value} (h : CellIs enc Try.prog W (.slice 48) v) : ∃ l : List Chg, lstV rchE (absS W) (absV W v) = some l ∧ (∀ x ∈ l, x.pol.good) ∧ openQ (absS W) 14 (absV W v) = true := by
  have s2 : shapes Try.prog 20 48 = some chgSh := by kernel_rfl
  have c2 : Try.prog.cellsOf 48 = 14 := by kernel_rfl
  obtain ⟨l, hl, hf, _⟩ := lst_of (e := rchE.enc) (sz := 14) c2 (by omega) h (fun cs fuel x ht => let ⟨a, h1, _⟩ := rowChg (shapes_ok 20 fuel 48 cs x _ ht s2); ⟨a, h1, rfl⟩)
    (good := fun c => c.pol.good) (fun cs fuel x a ht he => let ⟨a', h1, h2⟩ := rowChg (shapes_ok 20 fuel 48 cs x _ ht s2); enc_inj (E := rchE) (h1.symm.trans he) ▸ h2)
  exact ⟨l, lst_lstV (E := rchE) hl, hf, argOpen h⟩
theorem argChgs {v : Value} {base : Nat} {d : DataW H} {ps : List MemPlace} (o : Value.okWide Try.prog W .any base 45 v) (h : DataW.Trod enc Try.prog W 0 (fun _ => true) true 45 v d ps) :
    ∃ l, lstV rchE (absS W) (absA W v) = some l ∧ (∀ x ∈ l, x.pol.good) ∧ openQ (absS W) 14 (absA W v) = true := by
  have s0 : shapes Try.prog 20 45 = some [.slice 48] := by kernel_rfl
  have hv : v.cells.toList = [v] ∧ absA W v = absV W v := by
    cases v with
    | agg cs =>
      unfold Value.okWide at o
      rw [Try.underlying45] at o
      unfold Cell.okWide at o
      rw [Try.underlying45] at o
      unfold Cell.ok at o
      rw [Try.underlying45] at o
      simp at o
    | _ => exact ⟨rfl, rfl⟩
  obtain ⟨h1, h2⟩ := arg_row h s0
  rw [hv.1] at h1 h2
  have hc := h2 0 (by simp) (by simp)
  simp only [List.getElem_cons_zero] at hc
  rw [hv.2]
  exact cellChgs hc
end
end Go.Proofs.Ytmdnohpolepcoaa

namespace Go.Proofs.Ytmdnohpolepcoaa
open Go.RowKit
set_option linter.unusedSimpArgs false
set_option linter.unusedVariables false
set_option maxRecDepth 1000000

/-- A list of one entry in order: as it is. -/
def sort1S : Spec := fun args S => match args with
  | [.sl i 0 v n cap false, .f (.func f) [] []] => match S[i]? with
    | some (.cells cs v' (some sz) true) => match entE.dec cs with
      | some a => if f = 46 ∧ v' = v ∧ sz = 14 ∧ n = 1 ∧ cap = 1 then some (.tu [], S) else none
      | none => none
    | _ => none
  | _ => none
theorem sort1_ok : SpecOK Try.prog 45 sort1S := by
  intro args S x S' h
  unfold sort1S at h
  split at h
  · rename_i i v n cap f
    split at h
    · rename_i cs v' sz hB
      split at h
      · rename_i a ha
        split at h
        · rename_i hc
          obtain ⟨rfl, rfl, rfl, rfl, rfl⟩ := hc
          cases h
          have hcs := entE.ed _ _ ha
          have hB' : S[i]? = some (Cf.blk ⟨v', 1, [], [a]⟩) := by rw [hB, hcs]; rfl
          have hs := sort_eq (i := i) (S := S) (c := ⟨v', 1, [], [a]⟩) ⟨rfl, Nat.le_refl _, rfl⟩ (List.pairwise_singleton ..) (show 1 ≤ 1000000 by omega) hB'
          have hse : sortE [a] = [a] := (sortE_eq (List.pairwise_singleton ..) (List.pairwise_singleton ..) fun x => Iff.rfl).symm
          have hbk : Cf.blk (Cf.sort ⟨v', 1, [], [a]⟩) = Cf.blk ⟨v', 1, [], [a]⟩ := by unfold Cf.sort Cf.blk; rw [hse]
          rw [hbk, set_self hB'] at hs
          exact sort_ok _ _ _ _ hs
        · cases h
      · cases h
    · cases h
  · cases h
def specs : List (FuncId × Spec) := [(16, sortedS), (45, sort1S)]
theorem specs_ok : ∀ p ∈ specs, SpecOK Try.prog p.1 p.2 := by
  intro p hp
  simp only [specs, List.mem_cons, List.not_mem_nil, or_false] at hp
  rcases hp with rfl | rfl
  · exact sorted_ok
  · exact sort1_ok
theorem alive_run : isTrue ((evMix specs tab 100000 100).fn 10 [] []) = true := by kernel_rfl
def aliveS : Spec := fun args S => match args with
  | [] => some (.b true, S)
  | _ => none
theorem alive_ok : SpecOK Try.prog 10 aliveS := by
  intro args S x S' h
  unfold aliveS at h
  split at h
  · cases h
    exact fnOK_of_below (by kernel_rfl) (fun w => calls_of_mix mixed specs_ok tab_ok alive_run w) S
  · cases h
end Go.Proofs.Ytmdnohpolepcoaa

namespace Go.Proofs.Ytmdnohpolepcoaa
open Go.RowKit
set_option linter.unusedSimpArgs false
set_option linter.unusedVariables false
set_option maxRecDepth 10000

theorem nrm_fits {c : Chg} (h : c.pol.good) : (nrm c).fits := by
  have h1 : c.pol.sub = (nrm c).pol.sub := (nrm_sub c).symm
  have hs : -9223372036854775808 ≤ c.pol.sub ∧ c.pol.sub ≤ 9223372036854775807 := h.1
  refine ⟨?_, by rw [← h1]; exact hs.1, by rw [← h1]; exact hs.2⟩
  unfold nrm
  split
  · exact h.fits
  · show u84 0 0 0 0
    exact ⟨⟨by omega, by omega⟩, ⟨by omega, by omega⟩, ⟨by omega, by omega⟩, ⟨by omega, by omega⟩⟩
/-- A list whose block is none of those that change. -/
structure EAt (M : Mem) (x : AV) (es : List Ent) (F : Nat → Prop) : Prop where
  lst : lstV entE M x = some es
  ne : ∀ i o v n c ex, x = .sl i o v n c ex → i < M.length ∧ ¬ F i
theorem EAt.keep {M M' : Mem} {x : AV} {es : List Ent} {F G : Nat → Prop} (h : EAt M x es F) (hM : ∀ (i : Nat) (B : Blk), M[i]? = some B → ¬ F i → M'[i]? = some B) (hl : M.length ≤ M'.length) (hG : ∀ i, i < M.length → G i → F i) : EAt M' x es G := by
  refine ⟨?_, fun i o v n c ex hx => ?_⟩
  · rcases lstV_lst h.lst with ⟨rfl, rfl⟩ | ⟨rfl, rfl⟩ | ⟨i, o, v, len, cap, ex, rfl, hlen, hr⟩
    · rfl
    · rfl
    · obtain ⟨h1, h2⟩ := h.ne i o v len cap ex rfl
      refine lst_lstV (.inr (.inr ⟨i, o, v, len, cap, ex, rfl, hlen, ?_⟩))
      rw [rowAt_B] at hr ⊢
      cases hB : M[i]? with
      | none => rw [hB] at hr; simp [rowB] at hr
      | some B => rw [hB] at hr; rw [hM i B hB h2]; exact hr
  · obtain ⟨h1, h2⟩ := h.ne i o v n c ex hx
    exact ⟨by omega, fun g => h2 (hG i h1 g)⟩
theorem EAt.ext {M M' : Mem} {x : AV} {es : List Ent} {F : Nat → Prop} (h : EAt M x es F) (hM : M <+: M') : EAt M' x es F :=
  h.keep (fun i B hB _ => at_pre hM hB) hM.length_le fun _ _ g => g
/-- book.Apply of a commit that can be, as a call: where its entries lie. -/
theorem apply_new {S : Mem} {cb ce : List AV} {b : Bk} {e : Evt} (hb : bookOf S cb = some b) (he : evtOf S ce = some e) (hbf : b.fits) (hef : e.fits) (hk : e.kind = 1) (h0 : b.err e = 0) :
    ∃ Y M, applyS [.ag cb, .ag ce] S = some (.tu [.ag [.i .u64 (b.after e).period, Y], .i .i64 0], M) ∧ lstV entE M Y = some (b.after e).entries ∧ S <+: M ∧ ∀ i o v n c ex, Y = .sl i o v n c ex → i = S.length ∧ i < M.length := by
  simp only [applyS, hb, he]
  rw [if_pos ⟨hbf, hef⟩]
  unfold applyR commitB Bk.after
  unfold Bk.err at h0
  rw [if_pos hk]
  cases hr : b.rapplied e with
  | none => rw [hr] at h0; cases h0
  | some b' =>
    simp only
    split
    · rename_i h1
      exact ⟨_, _, rfl, by simp only [Option.getD_some]; rw [h1]; rfl, ext_refl, fun i o v n c ex q => by cases q⟩
    · rename_i h1
      obtain ⟨a, r, har⟩ := List.exists_cons_of_ne_nil h1
      refine ⟨_, _, rfl, retX_lst, retM_ext, fun i o v n c ex q => ?_⟩
      simp only [Option.getD_some, har, retX] at q
      simp only [bookR, har, retM]
      cases q
      exact ⟨rfl, by simp⟩
/-- The policy of an entry. -/
theorem ent_row {M : Mem} {bi o v cap : Nat} {ex : Bool} {l : List Ent} (h : lstV entE M (.sl bi o v l.length cap ex) = some l) {k : Nat} (hk : k < l.length) (U : Mem) : rowB ((M ++ U)[bi]?) (o + k * 14) v 13 = some (polE.enc (l[k]).pol) := by
  have hr : rowB ((M ++ U)[bi]?) (o + k * 14) v 14 = some (entE.enc l[k]) := lstV_row h hk U
  rw [← rowAt_B] at hr ⊢
  have := row_part (k := 0) (m := 13) hr (by omega)
  exact this
theorem lst_lt {α : Type} {E : Enc α} {M : Mem} {i o v n c : Nat} {ex : Bool} {l : List α} (h : lstV E M (.sl i o v n c ex) = some l) : i < M.length := by
  rcases lstV_lst h with ⟨q, _⟩ | ⟨q, _⟩ | ⟨i', o', v', len, cap, ex', q, _, hr⟩
  · cases q
  · cases q
  · cases q
    rw [rowAt_B] at hr
    cases hB : M[i]? with
    | none => rw [hB] at hr; simp [rowB] at hr
    | some B => exact (List.getElem?_eq_some_iff.1 hB).1
/-- What changes while a Txn at 'it' (its changes at 'jt') and the book at 'iw' change. -/
def Bsy (it iw jt : Nat) (L : List Chg) (i : Nat) : Prop := i = it ∨ i = iw ∨ (L ≠ [] ∧ i = jt)
theorem TAt.lt {b it j : Nat} {M : Mem} {l : List Chg} (h : TAt b M it j l) : it < M.length ∧ (l ≠ [] → j < M.length) := by
  obtain ⟨_, _, x, hx, hL⟩ := h
  refine ⟨(List.getElem?_eq_some_iff.1 hx).1, fun q => ?_⟩
  rcases hL with ⟨q', _⟩ | ⟨_, v, _, hB⟩
  · exact absurd q' q
  · exact (List.getElem?_eq_some_iff.1 hB).1
/-- A change for the Txn, and for another that is new. -/
theorem fold_ops {S M : Mem} {it jt iw : Nat} {L : List Chg} {xn : AV} {es : List Ent} {W U : Blk} (hS : S <+: M) (ht : TAt S.length M it jt L) (hL : L.length < 64) (hW : M[iw]? = some W) (hwi : iw ≠ it) (hwj : L ≠ [] → iw ≠ jt) (hx : EAt M xn es (Bsy it iw jt L)) (c : Chg) :
    ∃ (M3 M4 : Mem) (jt' jo : Nat), opS it c (M ++ [U, .cells [.sn] 0 none true]) = some (.i .i64 0, M3) ∧ opS (M.length + 1) c M3 = some (.i .i64 0, M4) ∧ M3[M.length]? = some U ∧ S <+: M3 ∧ S <+: M4 ∧
      TAt S.length M4 it jt' (L ++ [nrm c]) ∧ TAt S.length M4 (M.length + 1) jo [nrm c] ∧ M4[iw]? = some W ∧ iw ≠ jt' ∧ EAt M4 xn es (Bsy it iw jt' (L ++ [nrm c])) := by
  obtain ⟨M2, hM2⟩ : ∃ M2, M2 = M ++ [U, .cells [.sn] 0 none true] := ⟨_, rfl⟩
  rw [← hM2]
  have hMM2 : M <+: M2 := by rw [hM2]; exact ext_app _
  have hM2l : M2.length = M.length + 2 := by rw [hM2]; simp
  obtain ⟨lt1, lt2⟩ := ht.lt
  have hbM := hS.length_le
  have hwl := (List.getElem?_eq_some_iff.1 hW).1
  have u2 : M2[M.length]? = some U := by rw [hM2, at_app0]; rfl
  have o2 : M2[M.length + 1]? = some (.cells [.sn] 0 none true) := by rw [hM2, at_app]; rfl
  have ht2 := ht.ext hMM2
  have h2 : Two S.length M2 it jt L (M.length + 1) 0 [] := ⟨ht2, ⟨by omega, fun q => absurd rfl q, .sn, o2, .inl ⟨rfl, rfl⟩⟩, by omega, fun _ q => absurd rfl q⟩
  obtain ⟨M3, jt', a1, a2, a3, a4, a5, a6⟩ := op_call ht2 (hS.trans hMM2).length_le hL c
  have h3 := h2.step a2 a3 a4 a6
  have hS3 := a6.ext ht2 (hS.trans hMM2)
  obtain ⟨M4, jo, b1, b2, b3, b4, b5, b6⟩ := op_call h3.h2 hS3.length_le (by simp) c
  have h4 := h3.symm.step b2 b3 b4 b6
  have hS4 := b6.ext h3.h2 hS3
  have hkeep3 : ∀ (i : Nat) (B : Blk), M2[i]? = some B → i ≠ it → (L ≠ [] → i ≠ jt) → M3[i]? = some B := fun i B hB h1 h2 => a6 i B hB h1 (by
    by_cases q : L = []
    · exact .inl q
    · exact .inr (h2 q))
  have hkeep4 : ∀ (i : Nat) (B : Blk), M3[i]? = some B → i ≠ M.length + 1 → M4[i]? = some B := fun i B hB h1 => b6 i B hB h1 (.inl rfl)
  have hw3 : M3[iw]? = some W := hkeep3 iw W (at_pre hMM2 hW) hwi hwj
  refine ⟨M3, M4, jt', jo, a1, b1, hkeep3 M.length U u2 (by omega) fun q => by have := lt2 q; omega, hS3, hS4, h4.h2, h4.h1, hkeep4 iw W hw3 (by omega), ?_, ?_⟩
  · by_cases q : L = []
    · have := a4 q; omega
    · rw [a3 q]; exact hwj q
  · refine hx.keep (fun i B hB hn => ?_) (by omega) fun i hi hg => ?_
    · have hi := (List.getElem?_eq_some_iff.1 hB).1
      refine hkeep4 i B (hkeep3 i B (at_pre hMM2 hB) (fun e => hn (.inl e)) fun q e => hn (.inr (.inr ⟨q, e⟩))) (by omega)
    · rcases hg with h | h | ⟨_, h⟩
      · exact .inl h
      · exact .inr (.inl h)
      · by_cases q : L = []
        · have := a4 q; omega
        · rw [a3 q] at h; exact .inr (.inr ⟨q, h⟩)
theorem out_kind {b : Bk} {q : List Chg} {e : Evt} {n : Int} (h : outOf b q = (e, true, n)) : e.kind = 1 := by
  unfold outOf at h
  split at h
  · cases h
  · split at h
    · cases h
    · split at h
      · cases h; rfl
      · cases h
end Go.Proofs.Ytmdnohpolepcoaa

namespace Go.Proofs.Ytmdnohpolepcoaa
open Go.RowKit
set_option linter.unusedSimpArgs false
set_option linter.unusedVariables false
set_option maxRecDepth 10000

theorem oFo_ok : OK Try.prog (lamOf Try.prog) (orcOf [(10, aliveS), (12, rbrightW), (6, tnewS), (7, tputS), (9, tdropS), (8, tevS), (13, applyS)]) :=
  orc_ok (by simpa using ⟨alive_ok, rbrightW_ok, tnew_ok, tput_ok, tdrop_ok, tev_ok, apply_ok⟩)
set_option maxHeartbeats 2000000 in
theorem folds_ok (S : Mem) (p : Int) (s x : AV) (bs : List Ent) (l : List Chg) (hs : lstV entE S s = some bs) (hgb : ∀ y ∈ bs, y.good) (hl : lstV rchE S x = some l) (hgl : ∀ c ∈ l, c.pol.good) :
    FnOK Try.prog 4 [.ag [.i .u64 p, s], x] S (.b true) S := by
  have hbf : ∀ y ∈ (Bk.mk p bs).entries, y.pol.fits := fun y hy => (hgb y hy).1.fits
  have r1 := fun L => rbrightW_eq (bookOf_mk (p := p) (lstV_grow hs L)) hbf
  have hal : ∀ U, aliveS [] U = some (.b true, U) := fun U => rfl
  refine fn_of_wp f4 rfl (wp_seq (W_sound oFo_ok mixed _ _ _ _ _ ?_))
  simp (maxSteps := 1000000) (disch := omega) only [go_sem]
  refine wp_ls oFo_ok mixed ?_
  simp (maxSteps := 1000000) (disch := omega) only [orc_cons, hal, un_not_b, Bool.not_true, go_sem]
  by_cases g2 : (64 : Int) < (l.length : Int)
  · refine wp_ls oFo_ok mixed ?_
    simp (maxSteps := 1000000) (disch := omega) only [c4, lst_len hl, g2, go_sem]
    exact wkv_drop rfl
  by_cases hok : (Bk.mk p bs).ok
  rotate_left
  · rw [decide_eq_false hok] at r1
    refine wp_ls oFo_ok mixed ?_
    simp (maxSteps := 1000000) (disch := omega) only [c4, lst_len hl, g2, orc_cons, r1, un_not_b, Bool.not_false, go_sem]
    exact wkv_drop rfl
  rw [decide_eq_true hok] at r1
  have hl64 : l.length ≤ 64 := by omega
  have hbk : (Bk.mk p bs).fits := ⟨by have := hok.2.2.1.1; unfold polsOf at this; simp at this; show bs.length ≤ _; omega, hbf⟩
  refine wp_ls oFo_ok mixed ?_
  simp (maxSteps := 1000000) (disch := omega) only [c4, lst_len hl, g2, orc_cons, r1, un_not_b, Bool.not_true, go_sem]
  have n1 : tnewS [] (S ++ [.cells [.i .u64 p, s] 0 none true]) = some (.p (S.length + 1) 0 0, S ++ [.cells [.i .u64 p, s] 0 none true, .cells [.sn] 0 none true]) := by
    simp only [tnewS, List.length_append, List.length_singleton, List.append_assoc, List.singleton_append]
  refine wp_ls oFo_ok mixed ?_
  simp (maxSteps := 1000000) (disch := omega) only [orc_cons, n1, go_sem]
  refine wp_ls oFo_ok mixed ?_
  simp (maxSteps := 1000000) (disch := omega) only [lst_cells hs, lst_one hs, List.replicate, go_sem]
  obtain ⟨S1, hS1⟩ : ∃ S1, S1 = S ++ [Blk.cells [.i .u64 p, s] 0 none true] := ⟨_, rfl⟩
  have hS1l : S1.length = S.length + 1 := by rw [hS1]; simp
  have hSS1 : S <+: S1 := by rw [hS1]; exact ext_app _
  have b0 : S1[S.length]? = some (.cells [.i .u64 p, s] 0 none true) := by rw [hS1, at_app0]; rfl
  obtain ⟨M0, hM0⟩ : ∃ M0, M0 = S ++ [Blk.cells [.i .u64 p, s] 0 none true, .cells [.sn] 0 none true, .cells [.i .u64 p, s] 0 none true] := ⟨_, rfl⟩
  have hM01 : M0 = S1 ++ [.cells [.sn] 0 none true, .cells [.i .u64 p, s] 0 none true] := by rw [hM0, hS1, List.append_assoc]; rfl
  have hS1M0 : S1 <+: M0 := by rw [hM01]; exact ext_app _
  have x0 : M0[S.length + 1]? = some (.cells [.sn] 0 none true) := by rw [hM0, at_app]; rfl
  have w0 : M0[S.length + 2]? = some (.cells [.i .u64 p, s] 0 none true) := by rw [hM0, at_app]; rfl
  have hT0 : TAt S1.length M0 (S.length + 1) 0 [] := ⟨by omega, fun q => absurd rfl q, .sn, x0, .inl ⟨rfl, rfl⟩⟩
  refine wp_ls oFo_ok mixed ?_
  simp (maxSteps := 1000000) (disch := omega) only [lst_len hl, go_sem]
  have hE0 : EAt M0 s bs (Bsy (S.length + 1) (S.length + 2) 0 []) := ⟨lst_ext hs (hSS1.trans hS1M0), fun i o v n c ex q => by
    subst q
    have h1 := lst_lt hs
    have h2 := (hSS1.trans hS1M0).length_le
    refine ⟨by omega, fun h => ?_⟩
    rcases h with h | h | ⟨h, _⟩
    · omega
    · omega
    · exact h rfl⟩
  have hb0 : ∀ U, S1 <+: U → bookOf U [.i .u64 p, s] = some (Bk.mk p bs) := fun U hU => bookOf_mk (lst_ext hs (hSS1.trans hU))
  rw [← hM0]
  refine wp_loop (fun j e M dl => dl = [] ∧ ∃ (k jt : Nat) (nb : Bk) (xn : AV), j = l.length - k ∧ k ≤ l.length ∧ S1 <+: M ∧ TAt S1.length M (S.length + 1) jt ((l.take k).map nrm) ∧ M[S.length + 2]? = some (.cells [.i .u64 nb.period, xn] 0 none true) ∧
    ((l.take k).map nrm ≠ [] → S.length + 2 ≠ jt) ∧ EAt M xn nb.entries (Bsy (S.length + 1) (S.length + 2) jt ((l.take k).map nrm)) ∧ FoldInv ⟨p, bs⟩ ((l.take k).map nrm) nb ∧
    e.get 6 = .p (S.length + 2) 0 0 ∧ e.get 5 = .p (S.length + 1) 0 0 ∧ e.get 34 = x ∧ e.get 2 = .p S.length 0 0 ∧ e.get 35 = .i .i64 l.length ∧ e.get 36 = .i .i64 k) (j := l.length) ⟨rfl, 0, 0, ⟨p, bs⟩, s, rfl, Nat.zero_le _, hS1M0, hT0, w0, fun q => absurd rfl q, hE0, fold_start hok hbk, rfl, rfl, rfl, rfl, rfl, rfl⟩ ?_
  rintro j e M d' ⟨rfl, k, jt, nb, xn, rfl, hk, hSM, hT, hW, hwj, hE, hF, h6, h5, h34, h2, h35, h36⟩
  by_cases hkl : k < l.length
  · obtain ⟨bi, o, v, cap, ex, rfl⟩ := lst_sl hl hkl
    have hkI : (k : Int) < l.length := by omega
    have hlM := lst_ext hl (hSS1.trans hSM)
    have hrow : rowB ((M ++ [])[bi]?) (o + k * 14) v 14 = some (rchE.enc l[k]) := lstV_row hlM hkl []
    rw [List.append_nil] at hrow
    have hcm : l[k] ∈ l := List.getElem_mem hkl
    have htk : (l.take (k + 1)).map nrm = (l.take k).map nrm ++ [nrm l[k]] := by rw [List.take_succ_eq_append_getElem hkl, List.map_append, List.map_singleton]
    generalize hc0 : l[k] = c at hrow hcm htk
    obtain ⟨M3, M4, jt', jo, a1, a2, a3, a4, a5, a6, a7, a8, a9, a10⟩ := fold_ops (U := .cells (rchE.enc c) 0 none true) hSM hT (by rw [List.length_map, List.length_take]; omega) hW (by omega) hwj hE c
    rw [← htk] at a6 a10
    have he : rchE.enc c = [.b c.put, .i .i64 c.pol.sub, .i .u8 c.pol.a, .i .u8 c.pol.b, .i .u8 c.pol.c, .i .u8 c.pol.d, .i .i64 c.pol.bits, .i .u64 c.pol.rate, .i .u64 c.pol.burst, .i .u64 c.pol.srate, .i .u64 c.pol.sburst, .i .u64 c.pol.quota, .i .u64 c.pol.lease, .i .u64 c.pol.quantum] := rfl
    have hcS3 : cellB (M3[M.length]?) 1 0 = some (.i .i64 c.sub) := by rw [a3]; rfl
    have hrC3 : rowB (M3[M.length]?) 1 0 13 = some c.pol.enc := by rw [a3]; rfl
    have n2 : tnewS [] (M ++ [.cells (rchE.enc c) 0 none true]) = some (.p (M.length + 1) 0 0, M ++ [.cells (rchE.enc c) 0 none true, .cells [.sn] 0 none true]) := by
      simp only [tnewS, List.length_append, List.length_singleton, List.append_assoc, List.singleton_append]
    have hnf : (nrm c).fits := nrm_fits (hgl c hcm)
    have hbn : ∀ U, EAt U xn nb.entries (Bsy (S.length + 1) (S.length + 2) jt' ((l.take (k + 1)).map nrm)) → bookOf U [.i .u64 nb.period, xn] = some nb := fun U hU => bookOf_mk hU.lst
    have ev := tev_eq a7 (hbn M4 a10) hF.fits (by simp) (fun d hd => by rw [List.mem_singleton] at hd; subst hd; exact hnf)
    have w4 : rowB (M4[S.length + 2]?) 0 0 2 = some [.i .u64 nb.period, xn] := by rw [a8]; rfl
    rw [he] at a1 a3 n2 hrow
    refine wp_seq (W_sound oFo_ok mixed _ _ _ _ _ ?_)
    simp (maxSteps := 1000000) (disch := omega) only [h35, h36, hkI, go_sem]
    refine wp_ls oFo_ok mixed ?_
    simp (maxSteps := 1000000) (disch := omega) only [go_sem]
    refine wp_live (wp_seq (wp_block (wp_seq (W_sound oFo_ok mixed _ _ _ _ _ ?_))))
    simp (maxSteps := 1000000) (disch := omega) only [h6, h5, h34, h2, h35, h36, Int.toNat_natCast, hkI, hrow, go_sem]
    refine wp_ls oFo_ok mixed ?_
    simp (maxSteps := 1000000) (disch := omega) only [orc_cons, n2, go_sem]
    have hS4 : S <+: M4 := hSS1.trans a5
    by_cases h0 : (outOf nb (seqOf [nrm c])).2.2 = 0
    rotate_left
    · generalize outOf nb (seqOf [nrm c]) = oo at ev h0
      obtain ⟨e1, sm, er⟩ := oo
      have her : ¬ er = 0 := h0
      obtain ⟨M5, hM5⟩ : ∃ M5, M5 = ret2M polE (intE .i64) M4 e1.puts e1.drops := ⟨_, rfl⟩
      have hM45 : M4 <+: M5 := by rw [hM5]; exact ret2M_ext
      simp only [outR, evtR, ← hM5] at ev
      cases hp1 : c.put
      all_goals
        simp only [opS, hp1, Bool.false_eq_true, if_false, if_true, Chg.sub, Pol.enc] at a1 a2 hcS3 hrC3
        refine wp_ls oFo_ok mixed ?_
        simp (maxSteps := 1000000) (disch := omega) only [hp1, orc_cons, a1, hcS3, hrC3, a2, go_sem]
        refine wp_ls oFo_ok mixed ?_
        simp (maxSteps := 1000000) (disch := omega) only [w4, orc_cons, ev, one_retX, one_ret2Y, List.replicate, Bool.and_self, go_sem]
        refine wp_ls oFo_ok mixed ?_
        simp (maxSteps := 1000000) (disch := omega) only [c4, her, go_sem]
        exact wkv_dropP (hS4.trans (hM45.trans (ext_app _))) rfl
    rcases fold_step hF hnf.1 h0 with ⟨q1, q2⟩ | ⟨e1, q1, q2, q3, q4⟩
    · rw [q1, outR_no] at ev
      rw [← htk] at q2
      cases hp1 : c.put
      all_goals
        simp only [opS, hp1, Bool.false_eq_true, if_false, if_true, Chg.sub, Pol.enc] at a1 a2 hcS3 hrC3
        refine wp_ls oFo_ok mixed ?_
        simp (maxSteps := 1000000) (disch := omega) only [hp1, orc_cons, a1, hcS3, hrC3, a2, go_sem]
        refine wp_ls oFo_ok mixed ?_
        simp (maxSteps := 1000000) (disch := omega) only [w4, orc_cons, ev, List.replicate, go_sem]
        refine wp_ls oFo_ok mixed ?_
        simp (maxSteps := 1000000) (disch := omega) only [go_sem]
        refine W_sound oFo_ok mixed _ _ _ _ _ ?_
        simp (maxSteps := 1000000) (disch := omega) only [go_sem]
        refine W_sound oFo_ok mixed _ _ _ _ _ ?_
        simp (maxSteps := 1000000) (disch := omega) only [wrapSucc hkl (show l.length ≤ 1000 by omega), go_sem]
        exact ⟨l.length - (k + 1), by omega, k + 1, jt', nb, xn, rfl, hkl, a5.trans (ext_app _), a6.ext (ext_app _), at_old a8, fun _ => a9, a10.ext (ext_app _), q2, rfl⟩
    · rw [← htk] at q4
      rw [q1] at ev
      have hk1 := out_kind q1
      obtain ⟨M5, hM5⟩ : ∃ M5, M5 = ret2M polE (intE .i64) M4 e1.puts e1.drops := ⟨_, rfl⟩
      have hM45 : M4 <+: M5 := by rw [hM5]; exact ret2M_ext
      obtain ⟨M6, hM6⟩ : ∃ M6, M6 = M5 ++ [.cells (evtCs M4 e1) 0 none true] := ⟨_, rfl⟩
      have hM56 : M5 <+: M6 := by rw [hM6]; exact ext_app _
      have hM46 := hM45.trans hM56
      have he1 : evtOf M6 (evtCs M4 e1) = some e1 := evtCs_of (by rw [← hM5]; exact hM56)
      obtain ⟨Y, M7, hap, hY, hM67, hYi⟩ := apply_new (hbn M6 (a10.ext hM46)) he1 hF.fits q2 hk1 q3
      obtain ⟨M8, hM8⟩ : ∃ M8, M8 = M7 ++ [Blk.cells [.i .u64 (nb.after e1).period, Y] 0 none true] := ⟨_, rfl⟩
      have hM78 : M7 <+: M8 := by rw [hM8]; exact ext_app _
      have hM48 := (hM46.trans hM67).trans hM78
      have w6 : rowB (M6[S.length + 2]?) 0 0 2 = some [.i .u64 nb.period, xn] := by rw [at_pre hM46 a8]; rfl
      have x10 : M6[M5.length]? = some (.cells (evtCs M4 e1) 0 none true) := by rw [hM6, at_app0]; rfl
      have r10 : rowB (M6[M5.length]?) 0 0 6 = some (evtCs M4 e1) := by rw [x10]; rfl
      have w8 := at_pre hM48 a8
      have x13 : M8[M7.length]? = some (.cells [.i .u64 (nb.after e1).period, Y] 0 none true) := by rw [hM8, at_app0]; rfl
      have r13 : rowB (M8[M7.length]?) 0 0 2 = some [.i .u64 (nb.after e1).period, Y] := by rw [x13]; rfl
      simp only [outR, evtR, ← hM5] at ev
      simp only [evtCs] at hM6 r10 hap
      have hEY : EAt M7 Y (nb.after e1).entries (Bsy (S.length + 1) (S.length + 2) jt' ((l.take (k + 1)).map nrm)) := ⟨hY, fun i o v n c ex q => by
        obtain ⟨hi1, hi2⟩ := hYi i o v n c ex q
        refine ⟨hi2, fun hb => ?_⟩
        have l1 := a6.lt
        have l2 := hM46.length_le
        have l3 := (List.getElem?_eq_some_iff.1 a8).1
        rcases hb with h | h | ⟨h, h'⟩
        · omega
        · omega
        · have := l1.2 h; omega⟩
      cases hp1 : c.put
      all_goals
        simp only [opS, hp1, Bool.false_eq_true, if_false, if_true, Chg.sub, Pol.enc] at a1 a2 hcS3 hrC3
        refine wp_ls oFo_ok mixed ?_
        simp (maxSteps := 1000000) (disch := omega) only [hp1, orc_cons, a1, hcS3, hrC3, a2, go_sem]
        refine wp_ls oFo_ok mixed ?_
        simp (maxSteps := 1000000) (disch := omega) only [w4, orc_cons, ev, one_retX, one_ret2Y, List.replicate, Bool.and_self, go_sem]
        rw [← hM6]
        refine wp_ls oFo_ok mixed ?_
        simp (maxSteps := 1000000) (disch := omega) only [go_sem]
        refine wp_ls oFo_ok mixed ?_
        simp (maxSteps := 1000000) (disch := omega) only [go_sem]
        refine W_sound oFo_ok mixed _ _ _ _ _ ?_
        simp (maxSteps := 1000000) (disch := omega) only [w6, r10, orc_cons, hap, lst_cells hY, lst_one hY, List.replicate, ← hM8, r13, w8, go_sem]
        refine W_sound oFo_ok mixed _ _ _ _ _ ?_
        simp (maxSteps := 1000000) (disch := omega) only [wrapSucc hkl (show l.length ≤ 1000 by omega), go_sem]
        refine ⟨l.length - (k + 1), by omega, k + 1, jt', nb.after e1, Y, rfl, hkl, ext_set (a5.trans hM48) (by omega) _, ?_, at_set w8, fun _ => a9, ?_, q4, rfl⟩
        · exact (a6.ext hM48).keep (fun B hB => by rw [at_set_ne (by omega)]; exact hB) (fun B q hB => by rw [at_set_ne a9]; exact hB)
        · exact (hEY.ext hM78).keep (fun i B hB hn => by rw [at_set_ne (fun e => hn (.inr (.inl e.symm)))]; exact hB) (by rw [List.length_set]; exact Nat.le_refl _) (fun _ _ g => g)
  · have hkI : ¬ (k : Int) < l.length := by omega
    obtain rfl : k = l.length := by omega
    rw [List.take_length] at hT hwj hE hF
    have hnf : ∀ c ∈ l.map nrm, c.fits := fun c hc => by
      obtain ⟨d, hd, rfl⟩ := List.mem_map.1 hc
      exact nrm_fits (hgl d hd)
    have ev := tev_eq hT (hb0 M hSM) hbk (by rw [List.length_map]; omega) hnf
    have rb : rowB (M[S.length]?) 0 0 2 = some [.i .u64 p, s] := by rw [at_pre hSM b0]; rfl
    have rbL : ∀ L : Mem, rowB ((M ++ L)[S.length]?) 0 0 2 = some [.i .u64 p, s] := fun L => by rw [at_old (at_pre hSM b0)]; rfl
    have hper : nb.period = p := hF.per
    rcases fold_end hok hF with ⟨q1, q2⟩ | ⟨e1, q1, q2, q3, q4⟩
    · rw [q1, outR_no] at ev
      obtain ⟨Mf, hMf⟩ : ∃ Mf, Mf = M ++ [Blk.cells [.i .i64 0, .i .i64 0, .sn, .sn, .i .u64 0, .i .u64 0] 0 none true, .cells [.i .u64 p, s] 0 none true] := ⟨_, rfl⟩
      have hMMf : M <+: Mf := by rw [hMf]; exact ext_app _
      refine W_sound oFo_ok mixed _ _ _ _ _ ?_
      simp (maxSteps := 1000000) (disch := omega) only [c4l0, h6, h5, h34, h2, h35, h36, hkI, go_sem]
      refine wp_ls oFo_ok mixed ?_
      simp (maxSteps := 1000000) (disch := omega) only [rb, orc_cons, ev, List.replicate, go_sem]
      refine wp_ls oFo_ok mixed ?_
      simp (maxSteps := 1000000) (disch := omega) only [go_sem]
      refine wp_ls oFo_ok mixed ?_
      simp (maxSteps := 1000000) (disch := omega) only [rbL, lst_cells hs, lst_one hs, List.replicate, go_sem]
      rw [← hMf]
      have hA : lstV entE Mf s = some bs := lst_ext hs ((hSS1.trans hSM).trans hMMf)
      have hB := (hE.ext hMMf).lst
      have y18 : Mf[M.length + 1]? = some (.cells [.i .u64 p, s] 0 none true) := by rw [hMf, at_app]; rfl
      have y6 := at_pre hMMf hW
      have hAB : polsOf bs = polsOf nb.entries := q2
      have hSf : S <+: Mf := (hSS1.trans hSM).trans hMMf
      refine wp_ls oFo_ok mixed ?_
      simp (maxSteps := 1000000) (disch := omega) only [go_sem]
      have hAlen : bs.length ≤ 1000 := by have := hok.2.2.1.1; unfold polsOf at this; simp at this; omega
      have hABl : ((bs.length : Nat) : Int) = (nb.entries.length : Int) := by
        have := congrArg List.length hAB
        unfold polsOf at this
        rw [List.length_map, List.length_map] at this
        omega
      have z18l : cellB (Mf[M.length + 1]?) 1 0 = some s := by rw [y18]; rfl
      have z18p : cellB (Mf[M.length + 1]?) 0 0 = some (.i .u64 p) := by rw [y18]; rfl
      have z6l : cellB (Mf[S.length + 2]?) 1 0 = some xn := by rw [y6]; rfl
      have z6p : cellB (Mf[S.length + 2]?) 0 0 = some (.i .u64 nb.period) := by rw [y6]; rfl
      refine wp_ls oFo_ok mixed ?_
      simp (maxSteps := 1000000) (disch := omega) only [c4, z18l, z18p, z6l, z6p, lst_len hA, lst_len hB, hABl, hper, eq_self, go_sem]
      refine wp_ls oFo_ok mixed ?_
      simp (maxSteps := 1000000) (disch := omega) only [z18l, lst_len hA, go_sem]
      refine wp_loop (fun j e M' dl => dl = [] ∧ ∃ k : Nat, j = bs.length - k ∧ k ≤ bs.length ∧ Mf = M' ∧ e.get 18 = .p (M.length + 1) 0 0 ∧ e.get 6 = .p (S.length + 2) 0 0 ∧ e.get 117 = .i .i64 bs.length ∧ e.get 118 = .i .i64 k) (j := bs.length) ⟨rfl, 0, rfl, Nat.zero_le _, rfl, rfl, rfl, rfl, rfl⟩ ?_
      clear h6 h5 h34 h2 h35 h36 hkI
      rintro j e M' d' ⟨rfl, k, rfl, hk, rfl, h18, h6, h117, h118⟩
      by_cases hka : k < bs.length
      · have hkb : k < nb.entries.length := by omega
        have hkI : (k : Int) < bs.length := by omega
        have hkIb : (k : Int) < nb.entries.length := by omega
        obtain ⟨ia, oa, va, capa, exa, ea⟩ := lst_sl hA hka
        obtain ⟨ib, ob, vb, capb, exb, eb⟩ := lst_sl hB hkb
        have ra := ent_row (ea ▸ hA) hka []
        have rb' := ent_row (eb ▸ hB) hkb []
        rw [List.append_nil] at ra rb'
        have hpe : (bs[k]).pol = (nb.entries[k]).pol := by
          have h1 := congrArg (fun q => q[k]?) hAB
          simp only [polsOf, List.getElem?_map, List.getElem?_eq_getElem hka, List.getElem?_eq_getElem hkb, Option.map_some] at h1
          exact Option.some.inj h1
        have hne := ne_pol (a := (bs[k]).pol) (b := (nb.entries[k]).pol)
        rw [hpe] at ra hne
        simp only [not_true_eq_false, decide_false] at hne
        rw [ea] at z18l
        rw [eb] at z6l
        refine W_sound oFo_ok mixed _ _ _ _ _ ?_
        simp (maxSteps := 1000000) (disch := omega) only [c4l2, h18, h6, h117, h118, hkI, hkIb, Int.toNat_natCast, z18l, z6l, ra, rb', hne, wrapSucc hka hAlen, go_sem]
        exact ⟨bs.length - (k + 1), by omega, k + 1, rfl, hka, rfl⟩
      · have hkI : ¬ (k : Int) < bs.length := by omega
        refine W_sound oFo_ok mixed _ _ _ _ _ ?_
        simp (maxSteps := 1000000) (disch := omega) only [c4l2, h18, h6, h117, h118, hkI, go_sem]
        first | exact wkv_dropP hSf rfl | (refine W_sound oFo_ok mixed _ _ _ _ _ ?_; simp (maxSteps := 1000000) (disch := omega) only [go_sem]; exact wkv_dropP hSf rfl)
    · have hk1 := out_kind q1
      have hef : e1.fits := by
        have := out_fits (b := ⟨p, bs⟩) (l := l.map nrm) (by rw [List.length_map]; omega) hnf
        rw [q1] at this; exact this
      rw [q1] at ev
      obtain ⟨M5, hM5⟩ : ∃ M5, M5 = ret2M polE (intE .i64) M e1.puts e1.drops := ⟨_, rfl⟩
      have hM45 : M <+: M5 := by rw [hM5]; exact ret2M_ext
      obtain ⟨M6, hM6⟩ : ∃ M6, M6 = M5 ++ [.cells (evtCs M e1) 0 none true] := ⟨_, rfl⟩
      have hM56 : M5 <+: M6 := by rw [hM6]; exact ext_app _
      obtain ⟨M6b, hM6b⟩ : ∃ M6b, M6b = M6 ++ [Blk.cells [.i .u64 p, s] 0 none true] := ⟨_, rfl⟩
      have hM66 : M6 <+: M6b := by rw [hM6b]; exact ext_app _
      have hMM6b := (hM45.trans hM56).trans hM66
      have he1 : evtOf M6b (evtCs M e1) = some e1 := evtCs_of (by rw [← hM5]; exact hM56.trans hM66)
      obtain ⟨Y, M7, hap, hY, hM67, hYi⟩ := apply_new (hb0 M6b (hSM.trans hMM6b)) he1 hbk hef hk1 q2
      generalize Bk.after ⟨p, bs⟩ e1 = ba at q3 q4 hap hY
      obtain ⟨M8, hM8⟩ : ∃ M8, M8 = M7 ++ [Blk.cells [.i .u64 ba.period, Y] 0 none true] := ⟨_, rfl⟩
      have hM78 : M7 <+: M8 := by rw [hM8]; exact ext_app _
      have x15 : M6b[M5.length]? = some (.cells (evtCs M e1) 0 none true) := at_pre hM66 (by rw [hM6, at_app0]; rfl)
      have r15 : rowB (M6b[M5.length]?) 0 0 6 = some (evtCs M e1) := by rw [x15]; rfl
      have rb6 : rowB (M6[S.length]?) 0 0 2 = some [.i .u64 p, s] := by rw [at_pre ((hSM.trans hM45).trans hM56) b0]; rfl
      have rb6b : rowB (M6b[S.length]?) 0 0 2 = some [.i .u64 p, s] := by rw [at_pre (hSM.trans hMM6b) b0]; rfl
      obtain ⟨i18, hi18⟩ : ∃ i18, i18 = M6.length := ⟨_, rfl⟩
      have x18 : M6b[i18]? = some (.cells [.i .u64 p, s] 0 none true) := by rw [hM6b, hi18, at_app0]; rfl
      have x18' := at_pre (hM67.trans hM78) x18
      have x19 : M8[M7.length]? = some (.cells [.i .u64 ba.period, Y] 0 none true) := by rw [hM8, at_app0]; rfl
      have r19 : rowB (M8[M7.length]?) 0 0 2 = some [.i .u64 ba.period, Y] := by rw [x19]; rfl
      simp only [outR, evtR, ← hM5] at ev
      simp only [evtCs] at hM6 r15 hap
      refine W_sound oFo_ok mixed _ _ _ _ _ ?_
      simp (maxSteps := 1000000) (disch := omega) only [c4l0, h6, h5, h34, h2, h35, h36, hkI, go_sem]
      refine wp_ls oFo_ok mixed ?_
      simp (maxSteps := 1000000) (disch := omega) only [rb, orc_cons, ev, one_retX, one_ret2Y, List.replicate, Bool.and_self, go_sem]
      rw [← hM6]
      refine wp_ls oFo_ok mixed ?_
      simp (maxSteps := 1000000) (disch := omega) only [go_sem]
      refine wp_ls oFo_ok mixed ?_
      simp (maxSteps := 1000000) (disch := omega) only [rb6, lst_cells hs, lst_one hs, List.replicate, go_sem]
      rw [← hM6b, ← hi18]
      refine wp_ls oFo_ok mixed ?_
      simp (maxSteps := 1000000) (disch := omega) only [rb6b, r15, orc_cons, hap, lst_cells hY, lst_one hY, List.replicate, ← hM8, r19, x18', go_sem]
      obtain ⟨Mf, hMf⟩ : ∃ Mf, Mf = M8.set i18 (.cells [.i .u64 ba.period, Y] 0 none true) := ⟨_, rfl⟩
      rw [← hMf]
      have hMl : M.length ≤ i18 := by rw [hi18]; exact (hM45.trans hM56).length_le
      have hM8' := (hMM6b.trans hM67).trans hM78
      have hSf : S <+: Mf := by
        rw [hMf]
        exact ext_set ((hSS1.trans hSM).trans hM8') (by have := (hSS1.trans hSM).length_le; omega) _
      have hB := (hE.keep (M' := Mf) (G := Bsy (S.length + 1) (S.length + 2) jt (l.map nrm)) (fun i B hB _ => by
        have hi := (List.getElem?_eq_some_iff.1 hB).1
        rw [hMf, at_set_ne (by omega)]; exact at_pre hM8' hB) (by rw [hMf, List.length_set]; exact hM8'.length_le) fun _ _ g => g).lst
      have hA := (EAt.keep (M := M7) (M' := Mf) (x := Y) (es := ba.entries) (F := fun i => i = i18) (G := fun i => i = i18) ⟨hY, fun i o v n c ex q => by
        obtain ⟨h1, h2⟩ := hYi i o v n c ex q
        refine ⟨h2, fun h => ?_⟩
        have : M6b.length = M6.length + 1 := by rw [hM6b]; simp
        omega⟩ (fun i B hB hn => by rw [hMf, at_set_ne (Ne.symm hn)]; exact at_pre hM78 hB) (by rw [hMf, List.length_set]; exact hM78.length_le) fun _ _ g => g).lst
      have y18 : Mf[i18]? = some (.cells [.i .u64 ba.period, Y] 0 none true) := by rw [hMf]; exact at_set x18'
      have hWl := (List.getElem?_eq_some_iff.1 hW).1
      have y6 : Mf[S.length + 2]? = some (.cells [.i .u64 nb.period, xn] 0 none true) := by rw [hMf, at_set_ne (by omega)]; exact at_pre hM8' hW
      have hper : nb.period = ba.period := q4.symm
      have hAB : polsOf ba.entries = polsOf nb.entries := q3
      have hAlen : ba.entries.length ≤ 1000 := by
        have h1 := congrArg List.length hAB
        have h2 := hF.ok.2.2.1.1
        unfold polsOf at h1 h2
        rw [List.length_map] at h1 h2
        rw [List.length_map] at h1
        omega
      have hABl : ((ba.entries.length : Nat) : Int) = (nb.entries.length : Int) := by
        have := congrArg List.length hAB
        unfold polsOf at this
        rw [List.length_map, List.length_map] at this
        omega
      have z18l : cellB (Mf[i18]?) 1 0 = some Y := by rw [y18]; rfl
      have z18p : cellB (Mf[i18]?) 0 0 = some (.i .u64 ba.period) := by rw [y18]; rfl
      have z6l : cellB (Mf[S.length + 2]?) 1 0 = some xn := by rw [y6]; rfl
      have z6p : cellB (Mf[S.length + 2]?) 0 0 = some (.i .u64 nb.period) := by rw [y6]; rfl
      refine wp_ls oFo_ok mixed ?_
      simp (maxSteps := 1000000) (disch := omega) only [c4, z18l, z18p, z6l, z6p, lst_len hA, lst_len hB, hABl, hper, eq_self, go_sem]
      refine wp_ls oFo_ok mixed ?_
      simp (maxSteps := 1000000) (disch := omega) only [z18l, lst_len hA, go_sem]
      refine wp_loop (fun j e M' dl => dl = [] ∧ ∃ k : Nat, j = ba.entries.length - k ∧ k ≤ ba.entries.length ∧ Mf = M' ∧ e.get 18 = .p (i18) 0 0 ∧ e.get 6 = .p (S.length + 2) 0 0 ∧ e.get 117 = .i .i64 ba.entries.length ∧ e.get 118 = .i .i64 k) (j := ba.entries.length) ⟨rfl, 0, rfl, Nat.zero_le _, rfl, rfl, rfl, rfl, rfl⟩ ?_
      clear h6 h5 h34 h2 h35 h36 hkI
      rintro j e M' d' ⟨rfl, k, rfl, hk, rfl, h18, h6, h117, h118⟩
      by_cases hka : k < ba.entries.length
      · have hkb : k < nb.entries.length := by omega
        have hkI : (k : Int) < ba.entries.length := by omega
        have hkIb : (k : Int) < nb.entries.length := by omega
        obtain ⟨ia, oa, va, capa, exa, ea⟩ := lst_sl hA hka
        obtain ⟨ib, ob, vb, capb, exb, eb⟩ := lst_sl hB hkb
        have ra := ent_row (ea ▸ hA) hka []
        have rb' := ent_row (eb ▸ hB) hkb []
        rw [List.append_nil] at ra rb'
        have hpe : (ba.entries[k]).pol = (nb.entries[k]).pol := by
          have h1 := congrArg (fun q => q[k]?) hAB
          simp only [polsOf, List.getElem?_map, List.getElem?_eq_getElem hka, List.getElem?_eq_getElem hkb, Option.map_some] at h1
          exact Option.some.inj h1
        have hne := ne_pol (a := (ba.entries[k]).pol) (b := (nb.entries[k]).pol)
        rw [hpe] at ra hne
        simp only [not_true_eq_false, decide_false] at hne
        rw [ea] at z18l
        rw [eb] at z6l
        refine W_sound oFo_ok mixed _ _ _ _ _ ?_
        simp (maxSteps := 1000000) (disch := omega) only [c4l2, h18, h6, h117, h118, hkI, hkIb, Int.toNat_natCast, z18l, z6l, ra, rb', hne, wrapSucc hka hAlen, go_sem]
        exact ⟨ba.entries.length - (k + 1), by omega, k + 1, rfl, hka, rfl⟩
      · have hkI : ¬ (k : Int) < ba.entries.length := by omega
        refine W_sound oFo_ok mixed _ _ _ _ _ ?_
        simp (maxSteps := 1000000) (disch := omega) only [c4l2, h18, h6, h117, h118, hkI, go_sem]
        first | exact wkv_dropP hSf rfl | (refine W_sound oFo_ok mixed _ _ _ _ _ ?_; simp (maxSteps := 1000000) (disch := omega) only [go_sem]; exact wkv_dropP hSf rfl)
end Go.Proofs.Ytmdnohpolepcoaa

namespace Go.Proofs.Ytmdnohpolepcoaa
open Go.RowKit
set_option linter.unusedVariables false
set_option maxRecDepth 100000
section
variable {H : Type} {enc : TypeId × Value → H}
theorem walkTxnFolds (W : World) (v0 v1 : Value) {base : Nat} (o0 : Value.okWide Try.prog W .any base 41 v0) (o1 : Value.okWide Try.prog W .any base 45 v1) {d0 d1 : DataW H} {p0 p1 : List MemPlace}
    (h0 : DataW.Trod enc Try.prog W 0 (fun _ => true) true 41 v0 d0 p0) (h1 : DataW.Trod enc Try.prog W 0 (fun _ => true) true 45 v1 d1 p1) :
    Calls Try.prog 4 #[v0, v1] W fun e w' => e = .returned (.bool true) ∧ Below W.heap.size W w' := by
  obtain ⟨p, s, l, e0, hl, hf, hp⟩ := argBook o0 h0
  obtain ⟨c, hc, hg, ho⟩ := argChgs o1 h1
  refine calls_of_fnOK (S' := absS W) ?_
  show FnOK Try.prog _ [absA W v0, absA W v1] _ _ _
  rw [e0]
  exact folds_ok _ p s _ l c hl hf hc hg
end
end Go.Proofs.Ytmdnohpolepcoaa

