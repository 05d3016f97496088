/- Proved here: what the law of this claim leans on (an evaluator of the model's code, contracts of functions). No condition. -/
import Derived.Test.YtkfobkfhbkicaaaMe
import Derived.Test.YtkfobkfhbkicaaaMd
namespace Go.Proofs.Ytkfobkfhbkicaaa
open Go.RowKit
set_option linter.unusedSimpArgs false
set_option linter.unusedVariables false
set_option maxRecDepth 10000

def Dsk.wrs (first : Int) : List Sec → Nat → Dsk → Int × Dsk
  | [], _, D => D.sync
  | s :: l, k, D => if (D.write (first + k) s).1 = 0 then Dsk.wrs first l (k + 1) (D.write (first + k) s).2 else D.write (first + k) s
noncomputable def Dsk.swrite (D : Dsk) (c : Chk) : Int × Dsk := if c.ok D.st.length then Dsk.wrs (slotF c.gen) c.secs 0 D else (141, D)
theorem wrL_eq {i ist : Nat} {first : Int} : ∀ (l : List Sec) (k : Nat) {M : Mem} {px : AV} {D : Dsk}, DAt M i ist px D → D.ok → D.pe.length + l.length ≤ 790000 →
    ∃ M' px', wrL i first l k M = some (.i .i64 (Dsk.wrs first l k D).1, M') ∧ DAt M' i ist px' (Dsk.wrs first l k D).2 ∧ DOp M M' i ist px px' ∧ (Dsk.wrs first l k D).2.ok
  | [], k, M, px, D, h, hok, hf => by
    obtain ⟨S', px', h1, h2, h3, h4⟩ := sync_eq h hok
    exact ⟨S', px', h1, h2, h3, h4⟩
  | s :: l, k, M, px, D, h, hok, hf => by
    rw [List.length_cons] at hf
    obtain ⟨M1, px1, h1, h2, h3, h4⟩ := write_eq (h.grow [.cells s.enc 0 none true]) hok (by omega) (first + k) s
    have hpe := write_pe D (first + k) s
    simp only [wrL, Dsk.wrs, h1]
    by_cases he : (D.write (first + k) s).1 = 0
    · rw [if_pos he, if_pos he]
      obtain ⟨M2, px2, g1, g2, g3, g4⟩ := wrL_eq l (k + 1) h2 h4 (by omega)
      exact ⟨M2, px2, g1, g2, ((DOp.grow _).trans h3).trans g3, g4⟩
    · rw [if_neg he, if_neg he]
      exact ⟨M1, px1, rfl, h2, (DOp.grow _).trans h3, h4⟩
section
variable {S : Mem} {i ist : Nat} {px : AV} {D : Dsk}
theorem swrite_eq (h : DAt S i ist px D) (hok : D.ok) (hfew : D.pe.length ≤ 700000) {cs : List AV} {c : Chk} (hc : chkOf S cs = some c) (hg : c.good) :
    ∃ S' px', swriteS [.p i 0 0, .ag cs] S = some (.i .i64 (D.swrite c).1, S') ∧ DAt S' i ist px' (D.swrite c).2 ∧ DOp S S' i ist px px' ∧ (D.swrite c).2.ok := by
  have hd : ∃ D, DIn S i D := ⟨D, ist, px, h, hok, hfew⟩
  simp only [swriteS, len_eq h, hc]
  rw [if_pos ⟨hg, hd⟩]
  unfold Dsk.swrite
  by_cases ho : c.ok D.st.length
  · rw [if_pos ho, if_pos ho]
    have hm := Chk.many_eq hg ho
    obtain ⟨M', px', h1, h2, h3, h4⟩ := wrL_eq (first := slotF c.gen) c.secs 0 (h.grow _) hok (by rw [Chk.secs_len]; omega) (i := i) (ist := ist) (px := px) (M := swM S cs c) (D := D)
    exact ⟨M', px', h1, h2, (DOp.grow _).trans h3, h4⟩
  · rw [if_neg ho, if_neg ho]
    exact ⟨S, px, rfl, h, DOp.refl, hok⟩
end

/-! ### The checkpoint of a record -/
theorem Acc.ret6 {α : Type} {z : Bool} {E : Enc α} {S M : Mem} {a b c d p x y : AV} {l : List α} (hF : ∀ n a, ∀ c ∈ E.enc a, AV.Flat n c) (h : Acc z E S M x l) (ha : AV.Flat S.length a) (hb : AV.Flat S.length b) (hc : AV.Flat S.length c) (hd : AV.Flat S.length d) (hp : AV.Flat S.length p) (hy : AV.Flat S.length y) :
    WkV S (.tu [.ag [a, b, c, d, p, retX z S l], y]) (retM z E S l) (.tu [.ag [a, b, c, d, p, x], y]) M := by
  obtain ⟨keep, T, rfl, h1, h2, h3, h4⟩ := h.keep hF
  have := wkv_keep (S0 := S) (L := T) (y := .tu [.ag [a, b, c, d, p, x], y]) keep h1 h2
  rw [ren_tu, renL_cons, renL_cons, renL_nil, ren_ag, renL_cons, renL_cons, renL_cons, renL_cons, renL_cons, renL_cons, renL_nil, h3, h4, ha, hb, hc, hd, hp, hy] at this
  exact this
def noChk : Chk := ⟨0, 0, 0, 0, ⟨0, []⟩⟩
def outX (S : Mem) (o : Chk × Bool) : AV × Mem := (.tu [.ag [.i .u64 o.1.gen, .i .u32 o.1.epoch, .i .u64 o.1.seq, .i .i64 o.1.seg, .i .u64 o.1.book.period, retX false S o.1.book.entries], .b o.2], retM false entE S o.1.book.entries)
def satN (n : Int) : Int := if n ≤ 9223372036854775807 then n else 0
def satQ (n : Int) : Bool := decide (n ≤ 9223372036854775807)
theorem sat_eq {n : Int} (h : u64 n) (S : Mem) : satS [.i .u64 n] S = some (.tu [.i .i64 (satN n), .b (satQ n)], S) := by
  unfold satN satQ
  simp only [satS, if_pos h]
  by_cases hc : n ≤ 9223372036854775807
  · rw [if_pos hc, if_pos hc, decide_eq_true hc]
  · rw [if_neg hc, if_neg hc, decide_eq_false hc]
noncomputable def checkF (n gen ep : Int) (pay : List Int) : Chk × Bool := match getL pay with
  | none => (noChk, false)
  | some (sq, k) => match getL (pay.drop k) with
    | none => (noChk, false)
    | some (sg, m) => match Bk.read (pay.drop (k + m)) with
      | none => (⟨gen, ep, sq, satN sg, ⟨0, []⟩⟩, false)
      | some b => (⟨gen, ep, sq, satN sg, b⟩, satQ sg && decide (Chk.ok n ⟨gen, ep, sq, satN sg, b⟩))
noncomputable def checkS : Spec := fun args S => match args with
  | [.p i 0 0, .ag [.i .u64 gen, .i .u32 ep, x]] => match lenS [.p i 0 0] S, lstV byteE S x with
    | some (.i .i64 n, _), some pay => if openQ S 1 x = true ∧ pay.all (fun c => decide (u8 c)) = true ∧ pay.length ≤ 900000 ∧ x.one = true then some (outX S (checkF n gen ep pay)) else none
    | _, _ => none
  | _ => none
theorem getL_ok {b : List Int} {n : Int} {k : Nat} (h : getL b = some (n, k)) (hu : ∀ c ∈ b, u8 c) : u64 n ∧ k ≤ b.length := by
  obtain ⟨h1, _, _, _, h2⟩ := getL_some hu h
  exact ⟨h1, h2⟩
theorem slice_growG {S L : Mem} {sz : Nat} {x x' : AV} {lo hi mx : Option AV} (h : sliceV S sz x lo hi mx = some x') : sliceV (S ++ L) sz x lo hi mx = some x' := by
  cases x with
  | sl i o v len cap ex => exact slice_grow h
  | _ => exact h
theorem one_of_accG {α : Type} {z : Bool} {E : Enc α} {S M : Mem} {x : AV} {l : List α} (h : Acc z E S M x l) : x.one = true := by
  obtain ⟨T, rfl, ⟨_, _, rfl⟩ | ⟨_, _, p, rfl, _⟩ | ⟨_, p, v, rfl, _⟩⟩ := h <;> rfl
theorem cells_one {x : AV} (h : x.one = true) : AV.cells x = some [x] := by cases x <;> first | rfl | cases h
theorem oCk_ok : OK Try.prog (lamOf Try.prog) (orcOf [(68, getS), (69, satS), (70, readS), (15, srightS)]) := orc_ok (by simpa using ⟨get_ok, sat_ok, read_ok, sright_ok⟩)
set_option maxHeartbeats 2000000 in
theorem check_ok : SpecOK Try.prog 41 checkS := by
  intro args S x S' h
  simp only [checkS] at h
  split at h
  · rename_i i gen ep y
    split at h
    · rename_i n M0 pay hn hl
      split at h
      · rename_i hc
        obtain ⟨hoq, hu, hlim, hone⟩ := hc
        have hu : ∀ c ∈ pay, u8 c := fun c hc => of_decide_eq_true (List.all_eq_true.1 hu c hc)
        injection h with h
        have hcp : AV.cells y = some [y] := by cases y <;> first | rfl | cases hone
        have hg1 := fun L => getS_eq (S := S ++ L) (lstV_grow hl L) (openQ_grow hoq L) hu (by omega)
        refine fn_of_wp f41 rfl (W_sound oCk_ok mixed _ _ _ _ _ ?_)
        unfold checkF at h
        cases hp1 : getL pay with
        | none =>
          rw [hp1] at h hg1
          simp only at h
          obtain ⟨rfl, rfl⟩ := Prod.mk.inj h
          simp (maxSteps := 1000000) (disch := omega) only [c41, hcp, hone, orc_cons, hg1, got, go_sem, Option.map_none, Option.map_some, ↓reduceIte, Nat.reduceBEq, Nat.reduceAdd, Nat.reduceSub, Nat.reduceEqDiff, Nat.reduceLeDiff, Nat.reduceMul, Nat.reduceLT, Int.reduceLT, Int.reduceLE, Int.reduceAdd, Int.reduceSub, Int.reduceMul, Int.reduceNeg, Int.reduceEq, Int.reduceNe, Int.reduceToNat, decide_true, decide_false, iaddr_i, iaddr_sl_i, not_true_eq_false, not_false_eq_true, reduceCtorEq, ne_eq, forall_const, false_imp_iff, true_imp_iff, implies_true, Int.cast_ofNat_Int, Int.natCast_zero, Int.natCast_one, Int.add_zero, Int.zero_add]
          exact wkv_drop rfl
        | some r1 =>
          obtain ⟨sq, k⟩ := r1
          rw [hp1] at h hg1
          simp only at h
          obtain ⟨hsq, hk⟩ := getL_ok hp1 hu
          obtain ⟨x2, hs2, hl2, hq2⟩ := drop_lst hl hoq (q := .i64) (a := k) hk
          have hs2 := fun L => slice_growG (L := L) hs2
          have hs2 : ∀ L, sliceV (S ++ L) 1 y (some (.i .i64 (k : Int))) none none = some x2 := hs2
          have hu2 : ∀ c ∈ pay.drop k, u8 c := fun c hc => hu c (List.mem_of_mem_drop hc)
          have hg2 := fun L => getS_eq (S := S ++ L) (lstV_grow hl2 L) (openQ_grow hq2 L) hu2 (by rw [List.length_drop]; omega)
          cases hp2 : getL (pay.drop k) with
          | none =>
            rw [hp2] at h hg2
            simp only at h
            obtain ⟨rfl, rfl⟩ := Prod.mk.inj h
            simp (maxSteps := 1000000) (disch := omega) only [c41, hcp, hone, orc_cons, hg1, got, hs2, hg2, go_sem, Option.map_none, Option.map_some, ↓reduceIte, Nat.reduceBEq, Nat.reduceAdd, Nat.reduceSub, Nat.reduceEqDiff, Nat.reduceLeDiff, Nat.reduceMul, Nat.reduceLT, Int.reduceLT, Int.reduceLE, Int.reduceAdd, Int.reduceSub, Int.reduceMul, Int.reduceNeg, Int.reduceEq, Int.reduceNe, Int.reduceToNat, decide_true, decide_false, iaddr_i, iaddr_sl_i, not_true_eq_false, not_false_eq_true, reduceCtorEq, ne_eq, forall_const, false_imp_iff, true_imp_iff, implies_true, Int.cast_ofNat_Int, Int.natCast_zero, Int.natCast_one, Int.add_zero, Int.zero_add]
            exact wkv_drop rfl
          | some r2 =>
            obtain ⟨sg, m⟩ := r2
            rw [hp2] at h hg2
            simp only at h
            obtain ⟨hsg, hm⟩ := getL_ok hp2 hu2
            rw [List.length_drop] at hm
            obtain ⟨x3, hs3, hl3, hq3⟩ := drop_lst hl hoq (q := .i64) (a := k + m) (by omega)
            have hs3 := fun L => slice_growG (L := L) hs3
            have hs3 : ∀ L, sliceV (S ++ L) 1 y (some (.i .i64 ((k + m : Nat) : Int))) none none = some x3 := hs3
            have hu3 : ∀ c ∈ pay.drop (k + m), u8 c := fun c hc => hu c (List.mem_of_mem_drop hc)
            have hw : wrapV .i64 ((k : Int) + m) = ((k + m : Nat) : Int) := by rw [wrap_i64 (by omega) (by omega)]; omega
            have hr3 := fun L => readS_eq (S := S ++ L) (lstV_grow hl3 L) (openQ_grow hq3 L) hu3 (by rw [List.length_drop]; omega)
            have hsat := sat_eq hsg
            cases hp3 : Bk.read (pay.drop (k + m)) with
            | none =>
              rw [hp3] at h hr3
              simp only at h hr3
              obtain ⟨rfl, rfl⟩ := Prod.mk.inj h
              cases hsq2 : satQ sg with
              | true =>
                rw [hsq2] at hsat
                simp (maxSteps := 1000000) (disch := omega) only [c41, hcp, hone, orc_cons, hg1, got, hs2, hg2, hs3, hw, hsat, hr3, go_sem, Option.map_none, Option.map_some, ↓reduceIte, Nat.reduceBEq, Nat.reduceAdd, Nat.reduceSub, Nat.reduceEqDiff, Nat.reduceLeDiff, Nat.reduceMul, Nat.reduceLT, Int.reduceLT, Int.reduceLE, Int.reduceAdd, Int.reduceSub, Int.reduceMul, Int.reduceNeg, Int.reduceEq, Int.reduceNe, Int.reduceToNat, decide_true, decide_false, iaddr_i, iaddr_sl_i, not_true_eq_false, not_false_eq_true, reduceCtorEq, ne_eq, forall_const, false_imp_iff, true_imp_iff, implies_true, Int.cast_ofNat_Int, Int.natCast_zero, Int.natCast_one, Int.add_zero, Int.zero_add]
                exact wkv_drop rfl
              | false =>
                rw [hsq2] at hsat
                simp (maxSteps := 1000000) (disch := omega) only [c41, hcp, hone, orc_cons, hg1, got, hs2, hg2, hs3, hw, hsat, hr3, go_sem, Option.map_none, Option.map_some, ↓reduceIte, Nat.reduceBEq, Nat.reduceAdd, Nat.reduceSub, Nat.reduceEqDiff, Nat.reduceLeDiff, Nat.reduceMul, Nat.reduceLT, Int.reduceLT, Int.reduceLE, Int.reduceAdd, Int.reduceSub, Int.reduceMul, Int.reduceNeg, Int.reduceEq, Int.reduceNe, Int.reduceToNat, decide_true, decide_false, iaddr_i, iaddr_sl_i, not_true_eq_false, not_false_eq_true, reduceCtorEq, ne_eq, forall_const, false_imp_iff, true_imp_iff, implies_true, Int.cast_ofNat_Int, Int.natCast_zero, Int.natCast_one, Int.add_zero, Int.zero_add]
                exact wkv_drop rfl
            | some b =>
              rw [hp3] at h hr3
              simp only at h hr3
              obtain ⟨hbo, hbg, _⟩ := bytes_read hu3 hp3
              obtain ⟨rfl, rfl⟩ := Prod.mk.inj h
              obtain ⟨p, es⟩ := b
              have hr4 := hr3 [.cells [.i .u64 gen, .i .u32 ep, y] 0 none true, .cells [.i .u64 0, .i .u32 0, .i .u64 0, .i .i64 0, .i .u64 0, .sn] 0 none true]
              obtain ⟨Sx, hSx⟩ : ∃ Sx, Sx = S ++ [Blk.cells [.i .u64 gen, .i .u32 ep, y] 0 none true, .cells [.i .u64 0, .i .u32 0, .i .u64 0, .i .i64 0, .i .u64 0, .sn] 0 none true] := ⟨_, rfl⟩
              rw [← hSx] at hr4
              simp only [bookR] at hr4
              have hA := retX_acc (z := false) (E := entE) (S := Sx) (l := es)
              generalize retX false Sx es = X at hr4 hA
              generalize retM false entE Sx es = M2 at hr4 hA
              have hone2 := one_of_accG hA
              have hcp2 := cells_one hone2
              have hM2 := hA.ext
              have hb0 : M2[S.length]? = some (.cells [.i .u64 gen, .i .u32 ep, y] 0 none true) := at_pre hM2 (by rw [hSx, at_app0]; rfl)
              have hb1 : M2[S.length + 1]? = some (.cells [.i .u64 0, .i .u32 0, .i .u64 0, .i .i64 0, .i .u64 0, .sn] 0 none true) := at_pre hM2 (by rw [hSx, at_app]; rfl)
              obtain ⟨o1, o2, o3, o4, o5⟩ := old_at hb0
              obtain ⟨q1, q2, q3, q4, q5⟩ := old_at hb1
              have hSM : S <+: M2 := (by rw [hSx] at hM2; exact (ext_app _).trans hM2)
              have hlen2 : lenS [.p i 0 0] M2 = some (.i .i64 n, M2) := by
                obtain ⟨T, hT⟩ := hSM
                rw [← hT]; exact len_grow hn T
              have hR := fun L => sright_call (g := gen) (ep := ep) (sq := sq) (sg := satN sg) (p := p) hlen2 hA.lst hbg.fits L
              have hAS : Acc false entE S M2 X es := hA.base (by rw [hSx]; exact ext_app _)
              have hcl := fun B' U => (hAS.setB (Nat.le_add_right S.length 1) hb1 rfl B').grow U
              rw [hSx] at hr4
              generalize decide (Chk.ok n ⟨gen, ep, sq, satN sg, ⟨p, es⟩⟩) = okb at hR
              cases hsq2 : satQ sg with
              | true =>
                rw [hsq2] at hsat
                simp (maxSteps := 1000000) (disch := omega) only [c41, hcp, hone, orc_cons, hg1, got, hs2, hg2, hs3, hw, hsat, hr4, hone2, hcp2, o1, q1, hb0, hb1, q2, q3, q4, hR, go_sem, Option.map_none, Option.map_some, ↓reduceIte, Nat.reduceBEq, Nat.reduceAdd, Nat.reduceSub, Nat.reduceEqDiff, Nat.reduceLeDiff, Nat.reduceMul, Nat.reduceLT, Int.reduceLT, Int.reduceLE, Int.reduceAdd, Int.reduceSub, Int.reduceMul, Int.reduceNeg, Int.reduceEq, Int.reduceNe, Int.reduceToNat, decide_true, decide_false, iaddr_i, iaddr_sl_i, not_true_eq_false, not_false_eq_true, reduceCtorEq, ne_eq, forall_const, false_imp_iff, true_imp_iff, implies_true, Int.cast_ofNat_Int, Int.natCast_zero, Int.natCast_one, Int.add_zero, Int.zero_add]
                exact (hcl _ _).ret6 entE_flat Flat_i Flat_i Flat_i Flat_i Flat_i Flat_b
              | false =>
                rw [hsq2] at hsat
                simp (maxSteps := 1000000) (disch := omega) only [c41, hcp, hone, orc_cons, hg1, got, hs2, hg2, hs3, hw, hsat, hr4, hone2, hcp2, o1, q1, hb0, hb1, q2, q3, q4, hR, go_sem, Option.map_none, Option.map_some, ↓reduceIte, Nat.reduceBEq, Nat.reduceAdd, Nat.reduceSub, Nat.reduceEqDiff, Nat.reduceLeDiff, Nat.reduceMul, Nat.reduceLT, Int.reduceLT, Int.reduceLE, Int.reduceAdd, Int.reduceSub, Int.reduceMul, Int.reduceNeg, Int.reduceEq, Int.reduceNe, Int.reduceToNat, decide_true, decide_false, iaddr_i, iaddr_sl_i, not_true_eq_false, not_false_eq_true, reduceCtorEq, ne_eq, forall_const, false_imp_iff, true_imp_iff, implies_true, Int.cast_ofNat_Int, Int.natCast_zero, Int.natCast_one, Int.add_zero, Int.zero_add]
                exact (hcl _ _).ret6 entE_flat Flat_i Flat_i Flat_i Flat_i Flat_i Flat_b
      · cases h
    · cases h
  · cases h
end Go.Proofs.Ytkfobkfhbkicaaa

namespace Go.Proofs.Ytkfobkfhbkicaaa
open Go.RowKit
set_option linter.unusedSimpArgs false
set_option linter.unusedVariables false
set_option maxRecDepth 10000

/-- Sixteen sectors of a disk, if they are there. -/
def Dsk.got (D : Dsk) (first : Int) : Nat → Option (List Sec)
  | 0 => some []
  | k + 1 => match D.got first k with
    | some l => if (readAt D.st D.pe (first + k)).2 = 0 then some (l ++ [(readAt D.st D.pe (first + k)).1]) else none
    | none => none
noncomputable def Dsk.one (D : Dsk) (first : Int) : Chk × Bool := match D.got first 16 with
  | none => (noChk, false)
  | some L => match openF L with
    | none => (noChk, false)
    | some r => if slotF r.seq = first then checkF D.st.length r.seq r.epoch r.pay else (noChk, false)
/-- A disk of bytes. -/
def Dsk.by_ (D : Dsk) : Prop := (∀ s ∈ D.st, ∀ c ∈ s.b, u8 c) ∧ ∀ w ∈ D.pe, ∀ c ∈ w.sec.b, u8 c
def DBy (S : Mem) (i : Nat) (D : Dsk) : Prop := DIn S i D ∧ D.by_
open Classical in
noncomputable def sreadS : Spec := fun args S => match args with
  | [.p i 0 0, .i .i64 first] => if h : (∃ D, DBy S i D) ∧ 0 ≤ first ∧ first ≤ 1000 then some (outX S (h.1.choose.one first)) else none
  | _ => none
theorem head_inj {S : Mem} {i ist ist' : Nat} {px px' : AV} {D D' : Dsk} (h : DAt S i ist px D) (h' : DAt S i ist' px' D') : D = D' := by
  obtain ⟨a1, a2, a3⟩ := h
  obtain ⟨b1, b2, b3⟩ := h'
  rw [a1] at b1
  injection b1 with b1; injection b1 with b1
  simp only [Dsk.head, List.cons.injEq, AV.sl.injEq, AV.i.injEq, AV.b.injEq, and_true, true_and] at b1
  obtain ⟨⟨e1, e2, _⟩, e3, e4, e5⟩ := b1
  subst e1; subst e3
  have c1 := DAt.st_lst ⟨a1, a2, a3⟩
  have c2 := DAt.pe_lst ⟨a1, a2, a3⟩
  have d1 : lstV secE S (.sl ist 0 0 D'.st.length D'.st.length true) = some D'.st := by
    refine lst_lstV (.inr (.inr ⟨_, _, _, _, _, _, rfl, rfl, ?_⟩))
    rw [rowAt_B, b2, rowB_some, if_pos (by rw [enc_length]; omega), List.drop_zero, ← enc_length, List.take_length]
  have d2 : lstV wrE S px = some D'.pe := by
    rcases b3 with ⟨h1, rfl⟩ | ⟨_, ip, v, rfl, h5⟩
    · rw [h1]; rfl
    · refine lst_lstV (.inr (.inr ⟨_, _, _, _, _, _, rfl, rfl, ?_⟩))
      rw [rowAt_B, h5, rowB_some, if_pos (by rw [enc_length]; omega), List.drop_zero, ← enc_length, List.take_length]
  obtain ⟨st, pe, left, down⟩ := D
  obtain ⟨st', pe', left', down'⟩ := D'
  simp only at e2 e4 e5 c1 c2 d1 d2
  rw [← e2, c1] at d1
  rw [c2] at d2
  have f1 := Option.some.inj d1
  have f2 := Option.some.inj d2
  subst f1; subst f2; subst e4; subst e5
  rfl
theorem din_eq {S : Mem} {i ist : Nat} {px : AV} {D : Dsk} (h : DAt S i ist px D) (hd : ∃ D, DBy S i D) : hd.choose = D := by
  obtain ⟨⟨a, b, hc, _⟩, _⟩ := hd.choose_spec
  exact head_inj hc h
theorem sread_eq {S : Mem} {i ist : Nat} {px : AV} {D : Dsk} (h : DAt S i ist px D) (hok : D.ok) (hfew : D.pe.length ≤ 700000) (hby : D.by_) {first : Int} (hf : 0 ≤ first ∧ first ≤ 1000) : sreadS [.p i 0 0, .i .i64 first] S = some (outX S (D.one first)) := by
  have hd : ∃ D, DBy S i D := ⟨D, ⟨ist, px, h, hok, hfew⟩, hby⟩
  simp only [sreadS]
  rw [dif_pos ⟨hd, hf⟩, din_eq h]
theorem got_len {D : Dsk} {first : Int} : ∀ {k : Nat} {L : List Sec}, D.got first k = some L → L.length = k
  | 0, L, h => by cases h; rfl
  | k + 1, L, h => by
    simp only [Dsk.got] at h
    split at h
    · rename_i l hl
      split at h
      · cases h
        rw [List.length_append, got_len hl]; rfl
      · cases h
    · cases h
theorem got_none {D : Dsk} {first : Int} {k : Nat} (h : (readAt D.st D.pe (first + k)).2 ≠ 0) : ∀ m, k < m → D.got first m = none
  | 0, q => absurd q (Nat.not_lt_zero _)
  | m + 1, q => by
    simp only [Dsk.got]
    by_cases e : k = m
    · subst e
      split
      · rw [if_neg h]
      · rfl
    · rw [got_none h m (by omega)]
theorem one_none {D : Dsk} {first : Int} (h : D.got first 16 = none) : D.one first = (noChk, false) := by
  unfold Dsk.one
  rw [h]
theorem one_some {D : Dsk} {first : Int} {L : List Sec} (h : D.got first 16 = some L) : D.one first = match openF L with
    | none => (noChk, false)
    | some r => if slotF r.seq = first then checkF D.st.length r.seq r.epoch r.pay else (noChk, false) := by
  unfold Dsk.one
  rw [h]
theorem readAt_u8 {D : Dsk} (h : D.by_) (k : Int) : ∀ c ∈ (readAt D.st D.pe k).1.b, u8 c := by
  have hz : ∀ c ∈ zSec.b, u8 c := fun c hc => by
    have : c = 0 := (List.mem_replicate.1 hc).2
    rw [this]; unfold u8; omega
  unfold readAt
  split
  · rename_i hk
    have hlast : ∀ (pe : List Wr) (s : Sec), (∀ c ∈ s.b, u8 c) → (∀ w ∈ pe, ∀ c ∈ w.sec.b, u8 c) → ∀ c ∈ (lastW k pe s).b, u8 c := by
      intro pe
      induction pe with
      | nil => intro s hs _; exact hs
      | cons w pe ih =>
        intro s hs hw
        refine ih _ ?_ (fun w' hw' => hw w' (by simp [hw']))
        show ∀ c ∈ (if w.at_ = k then w.sec else s).b, u8 c
        split
        · exact hw w (by simp)
        · exact hs
    refine hlast _ _ ?_ h.2
    rw [List.getD_eq_getElem?_getD]
    have hlt : k.toNat < D.st.length := by omega
    rw [List.getElem?_eq_getElem hlt]
    exact h.1 _ (List.getElem_mem hlt)
  · exact hz
theorem got_u8 {D : Dsk} (hb : D.by_) {first : Int} : ∀ {k : Nat} {L : List Sec}, D.got first k = some L → ∀ c ∈ bytesOf L, u8 c
  | 0, L, h => by cases h; intro c hc; cases hc
  | k + 1, L, h => by
    simp only [Dsk.got] at h
    split at h
    · rename_i l hl
      split at h
      · cases h
        intro c hc
        unfold bytesOf at hc
        rw [List.flatMap_append] at hc
        rcases List.mem_append.1 hc with hc | hc
        · exact got_u8 hb hl c hc
        · rw [List.flatMap_cons, List.flatMap_nil, List.append_nil] at hc
          exact readAt_u8 hb _ c hc
      · cases h
    · cases h
theorem orq_u64 (a b : Int) : u64 (orq a b) := by
  unfold orq u64
  simp only [wrapV]; omega
theorem valF_u64 (l : List Int) : u64 (valF l) := by
  unfold valF
  rcases List.eq_nil_or_concat l with rfl | ⟨l, a, rfl⟩
  · unfold u64; simp
  · rw [List.concat_eq_append, List.foldl_append]
    exact orq_u64 _ _
theorem openF_good {L : List Sec} {r : Rec} (hu : ∀ c ∈ bytesOf L, u8 c) (h : openF L = some r) : u64 r.seq ∧ (0 ≤ r.epoch ∧ r.epoch ≤ 4294967295) ∧ (∀ c ∈ r.body, u8 c) ∧ 14 ≤ r.body.length ∧ r.body.length ≤ 714 ∧ 0 < r.seq := by
  cases L with
  | nil => cases h
  | cons s L =>
    simp only [openF] at h
    split at h
    · cases h
    · rename_i hc
      rw [not_or] at hc
      obtain ⟨h0, h1⟩ := hc
      generalize hsz : wrapV .i64 (valF (s.b.take 2)) = size at h h0 h1
      have hs : 0 ≤ size ∧ size ≤ 700 := by
        unfold sizeF at h0
        split at h0
        · exact absurd rfl h0
        · omega
      have hm : size + 18 ≤ sizeF size * 64 := by
        unfold sizeF
        rw [if_neg (by omega)]; omega
      have hL : (bytesOf ((s :: L).take (sizeF size).toNat)).length = (sizeF size).toNat * 64 := by
        rw [secs_len, List.length_take]; omega
      have hsub : ∀ c ∈ bytesOf ((s :: L).take (sizeF size).toNat), u8 c := fun c hc => by
        unfold bytesOf at hc
        obtain ⟨t, ht, hct⟩ := List.mem_flatMap.1 hc
        exact hu c (List.mem_flatMap.2 ⟨t, List.mem_of_mem_take ht, hct⟩)
      unfold openL at h
      split at h
      · cases h
      · rename_i body hb
        obtain ⟨e1, e2⟩ := unseal_len hb
        split at h
        · cases h
        · split at h
          · cases h
          · rename_i hq
            cases h
            have hv := valF_u64 ((body.drop 2).take 8)
            have hbl : body.length = (size + 18).toNat - 4 := by
              rw [e1]
              simp only [List.length_take, hL]; omega
            refine ⟨hv, ?_, fun c hc => ?_, ?_, ?_, ?_⟩
            · simp only [wrapV]; omega
            · have hc : c ∈ body := hc
              rw [e1] at hc
              exact hsub c (List.mem_of_mem_take (List.mem_of_mem_take hc))
            · show 14 ≤ body.length; omega
            · show body.length ≤ 714; omega
            · have := hv.1; show 0 < valF ((body.drop 2).take 8); omega
theorem payX_lst {M U : Mem} {body : List Int} (h14 : 14 ≤ body.length) : lstV byteE (M ++ (.cells (body.map byV) 0 (some 1) true :: U)) (payX M.length body) = some (body.drop 14) ∧ openQ (M ++ (.cells (body.map byV) 0 (some 1) true :: U)) 1 (payX M.length body) = true ∧ (payX M.length body).one = true := by
  have hB : (M ++ (Blk.cells (body.map byV) 0 (some 1) true :: U))[M.length]? = some (.cells (body.map byV) 0 (some 1) true) := by rw [at_app0]; rfl
  unfold payX
  split
  · rename_i h
    rw [List.drop_of_length_le (by omega)]
    exact ⟨rfl, rfl, rfl⟩
  · refine ⟨lst_lstV (.inr (.inr ⟨_, _, _, _, _, _, rfl, by rw [List.length_drop], ?_⟩)), ?_, rfl⟩
    · rw [rowAt_B, hB, rowB_some, if_pos (by rw [List.length_map]; show 14 + (body.length - 14) * 1 ≤ _; omega), enc_by, List.map_drop]
      rw [List.take_of_length_le (by rw [List.length_drop, List.length_map]; show body.length - 14 ≤ (body.length - 14) * 1; omega)]
    · simp only [openQ, hB]; simp [Blk.opn]
theorem secE_one (s : Sec) : (secE.enc s).all AV.one = true := s.one
theorem oSd_ok : OK Try.prog (lamOf Try.prog) (orcOf [(39, dReadS), (40, fOpenS), (21, aSlotS), (41, checkS)]) := orc_ok (by simpa using ⟨dRead_ok, fopen_ok, aslot_ok, check_ok⟩)
set_option maxHeartbeats 2000000 in
theorem sread_ok : SpecOK Try.prog 20 sreadS := by
  intro args S x S' h
  simp only [sreadS] at h
  split at h
  · rename_i i first
    split at h
    · rename_i hc
      obtain ⟨⟨D, ⟨ist, px, hD, hok, hfew⟩, hby⟩, hf⟩ := hc
      rw [din_eq hD] at h
      injection h with h
      refine fn_of_wp f20 rfl (W_sound oSd_ok mixed _ _ _ _ _ ?_)
      simp (maxSteps := 1000000) (disch := omega) only [c20, go_sem, Option.map_none, Option.map_some, ↓reduceIte, Nat.reduceBEq, Nat.reduceAdd, Nat.reduceSub, Nat.reduceEqDiff, Nat.reduceLeDiff, Nat.reduceMul, Nat.reduceLT, Int.reduceLT, Int.reduceLE, Int.reduceAdd, Int.reduceSub, Int.reduceMul, Int.reduceNeg, Int.reduceEq, Int.reduceNe, Int.reduceToNat, decide_true, decide_false, iaddr_i, iaddr_sl_i, not_true_eq_false, not_false_eq_true, reduceCtorEq, ne_eq, forall_const, false_imp_iff, true_imp_iff, implies_true, Int.cast_ofNat_Int, Int.natCast_zero, Int.natCast_one, Int.add_zero, Int.zero_add]
      obtain ⟨z6, hz6⟩ : ∃ z6, z6 = Blk.cells [.i .u64 0, .i .u32 0, .i .u64 0, .i .i64 0, .i .u64 0, .sn] 0 none true := ⟨_, rfl⟩
      rw [← hz6]
      obtain ⟨Sx, hSx⟩ : ∃ Sx, Sx = S ++ [z6] := ⟨_, rfl⟩
      rw [← hSx]
      have hSSx : S <+: Sx := by rw [hSx]; exact ext_app _
      have hz : Sx[S.length]? = some z6 := by rw [hSx, at_app0]; rfl
      have hDx : DAt Sx i ist px D := by rw [hSx]; exact hD.grow _
      refine wp_loop (fun j e M dl => dl = [] ∧ ∃ (k : Nat) (y : AV) (L : List Sec), j = 16 - k ∧ k ≤ 16 ∧ D.got first k = some L ∧ Acc false secE Sx M y L ∧
        e.get 4 = .p S.length 0 0 ∧ e.get 1 = .i .i64 first ∧ e.get 0 = .p i 0 0 ∧ e.get 13 = .i .i64 k ∧ e.get 6 = y) (j := 16)
        ⟨rfl, 0, .sn, [], rfl, Nat.zero_le _, rfl, acc_nil ext_refl, rfl, rfl, rfl, rfl, rfl⟩ ?_
      rintro j e M d' ⟨rfl, k, y, L, rfl, hk, hL, hA, e4, e1, e0, e13, e6⟩
      refine W_sound oSd_ok mixed _ _ _ _ _ ?_
      have hLl := got_len hL
      have hDM : DAt M i ist px D := by
        obtain ⟨T, hT⟩ := hA.ext
        rw [← hT]; exact hDx.grow T
      have hzM : M[S.length]? = some z6 := at_pre hA.ext hz
      rw [hz6] at hzM
      obtain ⟨o1, o2, o3, o4, o5⟩ := old_at hzM
      have hSM := hSSx.trans hA.ext
      by_cases hkm : k < 16
      · have hkI : (k : Int) < 16 := by omega
        have hk6 : k < 1000000 := by omega
        have hw1 : wrapV .i64 (first + (k : Int)) = first + k := wrap_i64 (by omega) (by omega)
        have hrd := dread_eq hDM hok (first + k)
        by_cases he : (readAt D.st D.pe (first + k)).2 = 0
        · have hL' : D.got first (k + 1) = some (L ++ [(readAt D.st D.pe (first + k)).1]) := by simp only [Dsk.got, hL, if_pos he]
          generalize readAt D.st D.pe (first + k) = r at *
          obtain ⟨t, er⟩ := r
          simp only at he
          subst he
          simp only [secT] at hrd
          simp only at hL'
          have hl64 := t.enc_len
          have hone := t.one
          have htk := t.take64
          obtain ⟨y', M', ha, hA'⟩ := (hA.grow [.cells t.enc 0 none true, .cells t.enc 0 none true]).app (bytes := 64) secE_one t (by omega) (by omega)
          have ha : appV (M ++ [.cells t.enc 0 none true, .cells t.enc 0 none true]) 64 64 y t.enc 1 = some (y', M') := ha
          have hsrc : srcV (M ++ [.cells t.enc 0 none true, .cells t.enc 0 none true]) 64 (.sl (M.length + 1) 0 0 1 1 true) = some (t.enc, 1) := by
            rw [src_sl, at_app]
            show srcN 1 (rowB (some (Blk.cells t.enc 0 none true)) 0 0 (1 * 64)) = _
            rw [rowB_some, if_pos (by omega), List.drop_zero, Nat.one_mul, htk]; rfl
          simp (maxSteps := 1000000) (disch := omega) only [c20l0, e4, e1, e0, e13, e6, hkI, hw1, orc_cons, hrd, List.replicate, hl64, hone, htk, hsrc, ha, wrapS hk6, go_sem, Option.map_none, Option.map_some, ↓reduceIte, Nat.reduceBEq, Nat.reduceAdd, Nat.reduceSub, Nat.reduceEqDiff, Nat.reduceLeDiff, Nat.reduceMul, Nat.reduceLT, Int.reduceLT, Int.reduceLE, Int.reduceAdd, Int.reduceSub, Int.reduceMul, Int.reduceNeg, Int.reduceEq, Int.reduceNe, Int.reduceToNat, decide_true, decide_false, iaddr_i, iaddr_sl_i, not_true_eq_false, not_false_eq_true, reduceCtorEq, ne_eq, forall_const, false_imp_iff, true_imp_iff, implies_true, Int.cast_ofNat_Int, Int.natCast_zero, Int.natCast_one, Int.add_zero, Int.zero_add]
          refine ⟨16 - (k + 1), ?_, k + 1, y', L ++ [t], ?_, ?_, ?_, ?_, ?_, ?_⟩
          · omega
          · rfl
          · omega
          · exact hL'
          · exact hA'
          · rfl
          · rfl
        · have hno := got_none he 16 hkm
          rw [one_none hno] at h
          obtain ⟨rfl, rfl⟩ := Prod.mk.inj h
          generalize readAt D.st D.pe (first + k) = r at *
          obtain ⟨t, er⟩ := r
          simp only at he
          simp only [secT] at hrd
          have hl64 := t.enc_len
          have hone := t.one
          have htk := t.take64
          simp (maxSteps := 1000000) (disch := omega) only [c20l0, e4, e1, e0, e13, e6, hkI, hw1, orc_cons, hrd, List.replicate, hl64, hone, htk, he, o1, o2, o3, o4, go_sem, Option.map_none, Option.map_some, ↓reduceIte, Nat.reduceBEq, Nat.reduceAdd, Nat.reduceSub, Nat.reduceEqDiff, Nat.reduceLeDiff, Nat.reduceMul, Nat.reduceLT, Int.reduceLT, Int.reduceLE, Int.reduceAdd, Int.reduceSub, Int.reduceMul, Int.reduceNeg, Int.reduceEq, Int.reduceNe, Int.reduceToNat, decide_true, decide_false, iaddr_i, iaddr_sl_i, not_true_eq_false, not_false_eq_true, reduceCtorEq, ne_eq, forall_const, false_imp_iff, true_imp_iff, implies_true, Int.cast_ofNat_Int, Int.natCast_zero, Int.natCast_one, Int.add_zero, Int.zero_add]
          exact wkv_dropP (ext_more (ext_set hSM (Nat.le_refl _) _) _) rfl
      · obtain rfl : k = 16 := by omega
        have hkI : ¬ ((16 : Nat) : Int) < 16 := by omega
        have hone := one_some hL
        have hLne : L ≠ [] := by intro q; rw [q] at hLl; cases hLl
        have hoq : openQ M 64 y = true := openS_Q (hA.opens hLne)
        have hop : fOpenS [y] M = some (recX M (openF L)) := by
          simp only [fOpenS, hA.lst]
          rw [if_pos ⟨by omega, hoq⟩]
        have hu := got_u8 hby hL
        clear hL
        cases hr : openF L with
        | none =>
          rw [hr] at hone hop
          simp only at hone
          rw [hone] at h
          obtain ⟨rfl, rfl⟩ := Prod.mk.inj h
          have hop : fOpenS [y] M = some (.tu [.ag [.i .u64 0, .i .u32 0, .sn], .i .i64 0, .b false], M) := hop
          simp (maxSteps := 1000000) (disch := omega) only [c20l0, e4, e1, e0, e13, e6, hkI, orc_cons, hop, o1, o2, o3, o4, go_sem, Option.map_none, Option.map_some, ↓reduceIte, Nat.reduceBEq, Nat.reduceAdd, Nat.reduceSub, Nat.reduceEqDiff, Nat.reduceLeDiff, Nat.reduceMul, Nat.reduceLT, Int.reduceLT, Int.reduceLE, Int.reduceAdd, Int.reduceSub, Int.reduceMul, Int.reduceNeg, Int.reduceEq, Int.reduceNe, Int.reduceToNat, decide_true, decide_false, iaddr_i, iaddr_sl_i, not_true_eq_false, not_false_eq_true, reduceCtorEq, ne_eq, forall_const, false_imp_iff, true_imp_iff, implies_true, Int.cast_ofNat_Int, Int.natCast_zero, Int.natCast_one, Int.add_zero, Int.zero_add]
          exact wkv_dropP (ext_more (ext_set hSM (Nat.le_refl _) _) _) rfl
        | some r =>
          rw [hr] at hone hop
          simp only at hone
          obtain ⟨g1, g2, g3, g4, g5, g6⟩ := openF_good hu hr
          have hop : fOpenS [y] M = some (.tu [.ag [.i .u64 r.seq, .i .u32 r.epoch, payX M.length r.body], .i .i64 r.many, .b true], M ++ [.cells (r.body.map byV) 0 (some 1) true]) := hop
          have hpl := fun U => payX_lst (M := M) (U := U) g4
          have hsl := fun U => (show aSlotS [.i .u64 r.seq] U = some (.i .i64 (slotF r.seq), U) by simp only [aSlotS]; rw [if_pos g1.1])
          have hck : ∀ U, checkS [.p i 0 0, .ag [.i .u64 r.seq, .i .u32 r.epoch, payX M.length r.body]] (M ++ (.cells (r.body.map byV) 0 (some 1) true :: U)) = some (outX (M ++ (.cells (r.body.map byV) 0 (some 1) true :: U)) (checkF D.st.length r.seq r.epoch r.pay)) := fun U => by
            have hln := len_eq (hDM.grow (.cells (r.body.map byV) 0 (some 1) true :: U))
            obtain ⟨p1, p2, p3⟩ := hpl U
            simp only [checkS, hln, p1]
            rw [if_pos ⟨p2, List.all_eq_true.2 fun c hc => decide_eq_true (g3 c (List.mem_of_mem_drop hc)), by rw [List.length_drop]; omega, p3⟩]; rfl
          have hpone := (hpl []).2.2
          have hpcp := cells_one hpone
          generalize payX M.length r.body = px2 at hop hck hpone hpcp
          generalize Blk.cells (r.body.map byV) 0 (some 1) true = bb at hop hck
          have hop : fOpenS [y] M = some (.tu [.ag [.i .u64 r.seq, .i .u32 r.epoch, px2], .i .i64 r.many, .b true], M ++ [bb]) := hop
          by_cases hs : slotF r.seq = first
          · rw [if_pos hs] at hone
            rw [hone] at h
            obtain ⟨rfl, rfl⟩ := Prod.mk.inj h
            have hck1 := hck [.cells [.i .u64 r.seq, .i .u32 r.epoch, px2] 0 none true]
            obtain ⟨My, hMy⟩ : ∃ My, My = M ++ (bb :: [Blk.cells [.i .u64 r.seq, .i .u32 r.epoch, px2] 0 none true]) := ⟨_, rfl⟩
            rw [← hMy] at hck1
            generalize checkF D.st.length r.seq r.epoch r.pay = out at hck1
            obtain ⟨⟨og, oe, oq, os, op, oes⟩, ob⟩ := out
            simp only [outX] at hck1
            have hAo := retX_acc (z := false) (E := entE) (S := My) (l := oes)
            generalize retX false My oes = X at hck1 hAo
            generalize retM false entE My oes = M2 at hck1 hAo
            have hSMy : S <+: My := by rw [hMy]; exact ext_more hSM _
            have hb1 : M2[S.length]? = some (.cells [.i .u64 0, .i .u32 0, .i .u64 0, .i .i64 0, .i .u64 0, .sn] 0 none true) := at_pre hAo.ext (by rw [hMy]; exact at_old hzM)
            obtain ⟨q1, q2, q3, q4, q5⟩ := old_at hb1
            have hAS := (hAo.base hSMy).setB (Nat.le_refl S.length) hb1 rfl
            have hone2 := one_of_accG hAo
            have hcp2 := cells_one hone2
            rw [hMy] at hck1
            have hck1 : checkS [.p i 0 0, .ag [.i .u64 r.seq, .i .u32 r.epoch, px2]] (M ++ [bb, .cells [.i .u64 r.seq, .i .u32 r.epoch, px2] 0 none true]) = some (.tu [.ag [.i .u64 og, .i .u32 oe, .i .u64 oq, .i .i64 os, .i .u64 op, X], .b ob], M2) := hck1
            simp (maxSteps := 1000000) (disch := omega) only [c20l0, e4, e1, e0, e13, e6, hkI, orc_cons, hop, o1, o2, o3, o4, hsl, hs, hpone, hpcp, hck1, hone2, hcp2, hb1, q1, q2, q3, q4, go_sem, Option.map_none, Option.map_some, ↓reduceIte, Nat.reduceBEq, Nat.reduceAdd, Nat.reduceSub, Nat.reduceEqDiff, Nat.reduceLeDiff, Nat.reduceMul, Nat.reduceLT, Int.reduceLT, Int.reduceLE, Int.reduceAdd, Int.reduceSub, Int.reduceMul, Int.reduceNeg, Int.reduceEq, Int.reduceNe, Int.reduceToNat, decide_true, decide_false, iaddr_i, iaddr_sl_i, not_true_eq_false, not_false_eq_true, reduceCtorEq, ne_eq, forall_const, false_imp_iff, true_imp_iff, implies_true, Int.cast_ofNat_Int, Int.natCast_zero, Int.natCast_one, Int.add_zero, Int.zero_add]
            exact (hAS _).ret6 entE_flat Flat_i Flat_i Flat_i Flat_i Flat_i Flat_b
          · rw [if_neg hs] at hone
            rw [hone] at h
            obtain ⟨rfl, rfl⟩ := Prod.mk.inj h
            simp (maxSteps := 1000000) (disch := omega) only [c20l0, e4, e1, e0, e13, e6, hkI, orc_cons, hop, o1, o2, o3, o4, hsl, hs, hpone, hpcp, go_sem, Option.map_none, Option.map_some, ↓reduceIte, Nat.reduceBEq, Nat.reduceAdd, Nat.reduceSub, Nat.reduceEqDiff, Nat.reduceLeDiff, Nat.reduceMul, Nat.reduceLT, Int.reduceLT, Int.reduceLE, Int.reduceAdd, Int.reduceSub, Int.reduceMul, Int.reduceNeg, Int.reduceEq, Int.reduceNe, Int.reduceToNat, decide_true, decide_false, iaddr_i, iaddr_sl_i, not_true_eq_false, not_false_eq_true, reduceCtorEq, ne_eq, forall_const, false_imp_iff, true_imp_iff, implies_true, Int.cast_ofNat_Int, Int.natCast_zero, Int.natCast_one, Int.add_zero, Int.zero_add]
            exact wkv_dropP (ext_more (ext_set hSM (Nat.le_refl _) _) _) rfl
    · cases h
  · cases h
end Go.Proofs.Ytkfobkfhbkicaaa

namespace Go.Proofs.Ytkfobkfhbkicaaa
open Go.RowKit
set_option linter.unusedSimpArgs false
set_option linter.unusedVariables false
set_option maxRecDepth 10000

def stepC (o c : Chk × Bool) : Chk × Bool := if c.2 = true ∧ o.1.gen < c.1.gen then (c.1, true) else o
noncomputable def Dsk.lastK (D : Dsk) : Nat → Chk × Bool
  | 0 => (noChk, false)
  | k + 1 => stepC (D.lastK k) (D.one ((k : Int) * 16))
noncomputable def Dsk.last (D : Dsk) : Chk × Bool := stepC (stepC (noChk, false) (D.one 0)) (D.one 16)
theorem last_eq (D : Dsk) : D.lastK 2 = D.last := rfl
def Chk.cells (c : Chk) (x : AV) : List AV := [.i .u64 c.gen, .i .u32 c.epoch, .i .u64 c.seq, .i .i64 c.seg, .i .u64 c.book.period, x]
open Classical in
noncomputable def swreadS : Spec := fun args S => match args with
  | [.p i 0 0] => if h : ∃ D, DBy S i D then some (outX S h.choose.last) else none
  | _ => none
theorem swread_eq {S : Mem} {i ist : Nat} {px : AV} {D : Dsk} (h : DAt S i ist px D) (hok : D.ok) (hfew : D.pe.length ≤ 700000) (hby : D.by_) : swreadS [.p i 0 0] S = some (outX S D.last) := by
  have hd : ∃ D, DBy S i D := ⟨D, ⟨ist, px, h, hok, hfew⟩, hby⟩
  simp only [swreadS]
  rw [dif_pos hd, din_eq h]
theorem oSq_ok : OK Try.prog (lamOf Try.prog) (orcOf [(21, aSlotS), (20, sreadS)]) := orc_ok (by simpa using ⟨aslot_ok, sread_ok⟩)
theorem dat_ext {S M : Mem} {i ist : Nat} {px : AV} {D : Dsk} (h : DAt S i ist px D) (hM : S <+: M) : DAt M i ist px D := by
  obtain ⟨T, rfl⟩ := hM; exact h.grow T
set_option maxHeartbeats 1000000 in
theorem swread_ok : SpecOK Try.prog 7 swreadS := by
  intro args S x S' h
  simp only [swreadS] at h
  split at h
  · rename_i i
    split at h
    · rename_i hc
      obtain ⟨D, ⟨ist, px, hD, hok, hfew⟩, hby⟩ := hc
      rw [din_eq hD, ← last_eq] at h
      injection h with h
      refine fn_of_wp f7 rfl (W_sound oSq_ok mixed _ _ _ _ _ ?_)
      simp (maxSteps := 1000000) (disch := omega) only [c7, go_sem, Option.map_none, Option.map_some, ↓reduceIte, Nat.reduceBEq, Nat.reduceAdd, Nat.reduceSub, Nat.reduceEqDiff, Nat.reduceLeDiff, Nat.reduceMul, Nat.reduceLT, Int.reduceLT, Int.reduceLE, Int.reduceAdd, Int.reduceSub, Int.reduceMul, Int.reduceNeg, Int.reduceEq, Int.reduceNe, Int.reduceToNat, decide_true, decide_false, iaddr_i, iaddr_sl_i, not_true_eq_false, not_false_eq_true, reduceCtorEq, ne_eq, forall_const, false_imp_iff, true_imp_iff, implies_true, Int.cast_ofNat_Int, Int.natCast_zero, Int.natCast_one, Int.add_zero, Int.zero_add]
      refine wp_loop (fun j e M dl => dl = [] ∧ ∃ (k : Nat) (X : AV), j = 2 - k ∧ k ≤ 2 ∧ S <+: M ∧ Acc false entE S M X (D.lastK k).1.book.entries ∧
        M[S.length]? = some (.cells [.i .u64 0, .i .u32 0, .i .u64 0, .i .i64 0, .i .u64 0, .sn] 0 none true) ∧
        M[S.length + 1]? = some (.cells ((D.lastK k).1.cells X) 0 none true) ∧
        e.get 4 = .p (S.length + 1) 0 0 ∧ e.get 0 = .p i 0 0 ∧ e.get 2 = .p S.length 0 0 ∧ e.get 9 = .i .u64 k ∧ e.get 5 = .b (D.lastK k).2) (j := 2)
        ⟨rfl, 0, .sn, rfl, Nat.zero_le _, ext_app _, acc_nil (ext_app _), (by rw [at_app0]; rfl), (by rw [at_app]; rfl), rfl, rfl, rfl, rfl, rfl⟩ ?_
      rintro j e M d' ⟨rfl, k, X, rfl, hk, hSM, hA, hb0, hb1, e4, e0, e2, e9, e5⟩
      refine W_sound oSq_ok mixed _ _ _ _ _ ?_
      have hone := one_of_accG hA
      have hcp := cells_one hone
      by_cases hkm : k < 2
      · have hkI : (k : Int) < 2 := by omega
        have hw : wrapV .u64 ((k : Int) + 1) = ((k + 1 : Nat) : Int) := by rw [wrap_u64 (by omega) (by omega)]; omega
        have hsl : ∀ U, aSlotS [.i .u64 (k : Int)] U = some (.i .i64 ((k : Int) * 16), U) := fun U => by
          simp only [aSlotS]; rw [if_pos (by omega)]
          congr 3; unfold slotF; omega
        have hrd := sread_eq (dat_ext hD hSM) hok hfew hby (first := (k : Int) * 16) (by omega)
        have hnext : D.lastK (k + 1) = stepC (D.lastK k) (D.one ((k : Int) * 16)) := rfl
        generalize D.one ((k : Int) * 16) = c at hrd hnext
        obtain ⟨⟨g, ep, sq, sg, p, es⟩, ob⟩ := c
        simp only [outX] at hrd
        have hAn := retX_acc (z := false) (E := entE) (S := M) (l := es)
        generalize retX false M es = Xn at hrd hAn
        generalize retM false entE M es = M2 at hrd hAn
        have hone2 := one_of_accG hAn
        have hcp2 := cells_one hone2
        have hMM := hAn.ext
        have c0 := at_pre hMM hb0
        have c1 := at_pre hMM hb1
        obtain ⟨q1, q2, q3, q4, q5⟩ := old_at c1
        obtain ⟨o1, o2, o3, o4, o5⟩ := old_at c0
        generalize D.lastK k = o at *
        obtain ⟨⟨og, oe, oq, os, op, oes⟩, ob2⟩ := o
        simp only [Chk.cells] at c1 hb1 q1 e5 hA
        cases ob with
        | false =>
          have hst : D.lastK (k + 1) = (⟨og, oe, oq, os, op, oes⟩, ob2) := by rw [hnext]; unfold stepC; rw [if_neg (by simp)]
          simp (maxSteps := 1000000) (disch := omega) only [c7l0, e4, e0, e2, e9, e5, hkI, orc_cons, hsl, hrd, hone2, hcp2, q1, hw, go_sem, Option.map_none, Option.map_some, ↓reduceIte, Nat.reduceBEq, Nat.reduceAdd, Nat.reduceSub, Nat.reduceEqDiff, Nat.reduceLeDiff, Nat.reduceMul, Nat.reduceLT, Int.reduceLT, Int.reduceLE, Int.reduceAdd, Int.reduceSub, Int.reduceMul, Int.reduceNeg, Int.reduceEq, Int.reduceNe, Int.reduceToNat, decide_true, decide_false, iaddr_i, iaddr_sl_i, not_true_eq_false, not_false_eq_true, reduceCtorEq, ne_eq, forall_const, false_imp_iff, true_imp_iff, implies_true, Int.cast_ofNat_Int, Int.natCast_zero, Int.natCast_one, Int.add_zero, Int.zero_add]
          refine ⟨2 - (k + 1), ?_, k + 1, X, ?_, ?_, ?_, ?_, ?_, ?_, ?_, ?_⟩
          · omega
          · rfl
          · omega
          · exact ext_more (hSM.trans hMM) _
          · rw [hst]; exact (hA.extM hMM).grow _
          · exact at_old c0
          · rw [hst]; rfl
          · rfl
          · rw [hst]
        | true =>
          by_cases hgt : og < g
          · have hst : D.lastK (k + 1) = (⟨g, ep, sq, sg, p, es⟩, true) := by rw [hnext]; unfold stepC; rw [if_pos ⟨rfl, hgt⟩]
            simp (maxSteps := 1000000) (disch := omega) only [c7l0, e4, e0, e2, e9, e5, hkI, orc_cons, hsl, hrd, hone2, hcp2, q1, q2, q3, q4, hgt, hw, go_sem, Option.map_none, Option.map_some, ↓reduceIte, Nat.reduceBEq, Nat.reduceAdd, Nat.reduceSub, Nat.reduceEqDiff, Nat.reduceLeDiff, Nat.reduceMul, Nat.reduceLT, Int.reduceLT, Int.reduceLE, Int.reduceAdd, Int.reduceSub, Int.reduceMul, Int.reduceNeg, Int.reduceEq, Int.reduceNe, Int.reduceToNat, decide_true, decide_false, iaddr_i, iaddr_sl_i, not_true_eq_false, not_false_eq_true, reduceCtorEq, ne_eq, forall_const, false_imp_iff, true_imp_iff, implies_true, Int.cast_ofNat_Int, Int.natCast_zero, Int.natCast_one, Int.add_zero, Int.zero_add]
            refine ⟨2 - (k + 1), ?_, k + 1, Xn, ?_, ?_, ?_, ?_, ?_, ?_, ?_, ?_⟩
            · omega
            · rfl
            · omega
            · exact ext_more (ext_set (hSM.trans hMM) (by omega) _) _
            · rw [hst]; exact ((hAn.base hSM).setB (by omega) c1 rfl _).grow _
            · rw [at_old (by rw [at_set_ne (by omega)]; exact c0)]
            · rw [hst]; rfl
            · rfl
            · rw [hst]
          · have hst : D.lastK (k + 1) = (⟨og, oe, oq, os, op, oes⟩, ob2) := by rw [hnext]; unfold stepC; rw [if_neg (fun q => hgt q.2)]
            simp (maxSteps := 1000000) (disch := omega) only [c7l0, e4, e0, e2, e9, e5, hkI, orc_cons, hsl, hrd, hone2, hcp2, q1, q2, q3, q4, hgt, hw, go_sem, Option.map_none, Option.map_some, ↓reduceIte, Nat.reduceBEq, Nat.reduceAdd, Nat.reduceSub, Nat.reduceEqDiff, Nat.reduceLeDiff, Nat.reduceMul, Nat.reduceLT, Int.reduceLT, Int.reduceLE, Int.reduceAdd, Int.reduceSub, Int.reduceMul, Int.reduceNeg, Int.reduceEq, Int.reduceNe, Int.reduceToNat, decide_true, decide_false, iaddr_i, iaddr_sl_i, not_true_eq_false, not_false_eq_true, reduceCtorEq, ne_eq, forall_const, false_imp_iff, true_imp_iff, implies_true, Int.cast_ofNat_Int, Int.natCast_zero, Int.natCast_one, Int.add_zero, Int.zero_add]
            refine ⟨2 - (k + 1), ?_, k + 1, X, ?_, ?_, ?_, ?_, ?_, ?_, ?_, ?_⟩
            · omega
            · rfl
            · omega
            · exact ext_more (hSM.trans hMM) _
            · rw [hst]; exact (hA.extM hMM).grow _
            · exact at_old c0
            · rw [hst]; rfl
            · rfl
            · rw [hst]
      · have hkI : ¬ (k : Int) < 2 := by omega
        obtain rfl : k = 2 := by omega
        obtain ⟨q1, q2, q3, q4, q5⟩ := old_at hb1
        obtain ⟨o1, o2, o3, o4, o5⟩ := old_at hb0
        generalize D.lastK 2 = o at *
        obtain ⟨⟨og, oe, oq, os, op, oes⟩, ob2⟩ := o
        simp only [Chk.cells] at hb1 q1 e5 hA
        obtain ⟨rfl, rfl⟩ := Prod.mk.inj h
        simp (maxSteps := 1000000) (disch := omega) only [c7l0, e4, e0, e2, e9, e5, hkI, hb0, hb1, q1, o1, o2, o3, o4, hone, hcp, go_sem, Option.map_none, Option.map_some, ↓reduceIte, Nat.reduceBEq, Nat.reduceAdd, Nat.reduceSub, Nat.reduceEqDiff, Nat.reduceLeDiff, Nat.reduceMul, Nat.reduceLT, Int.reduceLT, Int.reduceLE, Int.reduceAdd, Int.reduceSub, Int.reduceMul, Int.reduceNeg, Int.reduceEq, Int.reduceNe, Int.reduceToNat, decide_true, decide_false, iaddr_i, iaddr_sl_i, not_true_eq_false, not_false_eq_true, reduceCtorEq, ne_eq, forall_const, false_imp_iff, true_imp_iff, implies_true, Int.cast_ofNat_Int, Int.natCast_zero, Int.natCast_one, Int.add_zero, Int.zero_add]
        exact (hA.setB (Nat.le_refl _) hb0 rfl _).ret6 entE_flat Flat_i Flat_i Flat_i Flat_i Flat_i Flat_b
    · cases h
  · cases h
end Go.Proofs.Ytkfobkfhbkicaaa

namespace Go.Proofs.Ytkfobkfhbkicaaa
set_option linter.unusedSimpArgs false
set_option linter.unusedVariables false
set_option maxRecDepth 10000

theorem p8 : (256 : Int) ^ 8 = 18446744073709551616 := by decide
theorem p4 : (256 : Int) ^ 4 = 4294967296 := by decide
theorem orq_add {a c : Int} (ha : 0 ≤ a) (hc : 0 ≤ c ∧ c < 256) (h : a * 256 + c ≤ 18446744073709551615) : orq (a * 256) c = a * 256 + c := by
  obtain ⟨x, rfl⟩ := Int.eq_ofNat_of_zero_le ha
  obtain ⟨y, rfl⟩ := Int.eq_ofNat_of_zero_le hc.1
  have hy : y < 2 ^ 8 := by omega
  have e1 : (BitVec.ofInt 64 ((x : Int) * 256)).toNat = x * 256 := by
    rw [show (x : Int) * 256 = ((x * 256 : Nat) : Int) by omega]
    simp [BitVec.toNat_ofInt]; omega
  have e2 : (BitVec.ofInt 64 (y : Int)).toNat = y := by simp [BitVec.toNat_ofInt]; omega
  have e3 : Nat.lor (x * 256) y = x * 256 + y := by
    have := Nat.shiftLeft_add_eq_or_of_lt hy x
    rw [Nat.shiftLeft_eq] at this
    exact this.symm
  unfold orq
  rw [e1, e2, e3]
  simp only [wrapV]; omega
theorem numF_snoc : ∀ (k : Nat) (n : Int), numF n (k + 1) = numF (n / 256) k ++ [n % 256]
  | 0, n => by
    show [(n / (256 : Int) ^ 0) % 256] = [n % 256]
    rw [Int.pow_zero, Int.ediv_one]
  | k + 1, n => by
    have ih := numF_snoc k n
    have h1 : numF n (k + 2) = (n / ((256 : Int) ^ (k + 1))) % 256 :: numF n (k + 1) := rfl
    have h2 : numF (n / 256) (k + 1) = ((n / 256) / ((256 : Int) ^ k)) % 256 :: numF (n / 256) k := rfl
    rw [h1, ih, h2, List.cons_append]
    congr 2
    have hp : (0 : Int) < (256 : Int) ^ k := Int.pow_pos (by decide)
    rw [Int.ediv_ediv, if_neg (fun q => absurd q.1 (by omega)), Int.sub_zero, Int.pow_succ, Int.mul_comm]
theorem valF_snoc (l : List Int) (c : Int) : valF (l ++ [c]) = orq (wrapV .u64 (valF l * 256)) (wrapV .u64 c) := by
  unfold valF
  rw [List.foldl_append]; rfl
theorem valF_numF : ∀ (k : Nat) (n : Int), 0 ≤ n → n < (256 : Int) ^ k → k ≤ 8 → valF (numF n k) = n
  | 0, n, h0, h1, _ => by
    have : n = 0 := by rw [Int.pow_zero] at h1; omega
    subst this; rfl
  | k + 1, n, h0, h1, hk => by
    have hq : n / 256 < (256 : Int) ^ k := by
      rw [Int.pow_succ] at h1
      exact Int.ediv_lt_of_lt_mul (by decide) h1
    have ih := valF_numF k (n / 256) (by omega) hq (by omega)
    have hb : n ≤ 18446744073709551615 := by
      have h3 : (256 : Int) ^ (k + 1) ≤ (256 : Int) ^ 8 := by exact_mod_cast Nat.pow_le_pow_right (by decide : 0 < 256) hk
      have h4 : (256 : Int) ^ 8 = 18446744073709551616 := by decide
      omega
    rw [numF_snoc, valF_snoc, ih]
    have w1 : wrapV .u64 (n / 256 * 256) = n / 256 * 256 := wrap_u64 (by omega) (by omega)
    have w2 : wrapV .u64 (n % 256) = n % 256 := wrap_u64 (by omega) (by omega)
    rw [w1, w2, orq_add (by omega) (by omega) (by omega)]
    omega
theorem unseal_seal (l : List Int) : unsealF (sealF l) = some l := by
  unfold unsealF sealF
  have h1 : (l ++ tailF (morF 0 l)).length - 4 = l.length := by rw [List.length_append, tail_len]; omega
  rw [h1, List.take_left, List.drop_left, if_pos ⟨by rw [List.length_append, tail_len]; omega, rfl⟩]
/-- What a record's sum is of. -/
def headB (seq epoch : Int) (p : List Int) : List Int := numF (p.length : Int) 2 ++ numF seq 8 ++ numF (wrapV .u64 epoch) 4 ++ p
theorem frame_eq (seq epoch : Int) (p : List Int) : frameB seq epoch p = sealF (headB seq epoch p) := rfl
theorem head_len (seq epoch : Int) (p : List Int) : (headB seq epoch p).length = p.length + 14 := by
  unfold headB
  simp only [List.length_append, num_len]; omega
theorem head_parts (seq epoch : Int) (p : List Int) : (headB seq epoch p).take 2 = numF (p.length : Int) 2 ∧ ((headB seq epoch p).drop 2).take 8 = numF seq 8 ∧ ((headB seq epoch p).drop 10).take 4 = numF (wrapV .u64 epoch) 4 ∧ (headB seq epoch p).drop 14 = p := by
  have h1 := num_len (p.length : Int) 2
  have h2 := num_len seq 8
  have h3 := num_len (wrapV .u64 epoch) 4
  unfold headB
  generalize numF (p.length : Int) 2 = a at h1
  generalize numF seq 8 = b at h2
  generalize numF (wrapV .u64 epoch) 4 = c at h3
  refine ⟨?_, ?_, ?_, ?_⟩
  · rw [List.append_assoc, List.append_assoc, ← h1, List.take_left]
  · rw [List.append_assoc, List.append_assoc, ← h1, List.drop_left, ← h2, List.take_left]
  · have : 10 = (a ++ b).length := by rw [List.length_append]; omega
    rw [List.append_assoc, this, List.drop_left, ← h3, List.take_left]
  · have : 14 = (a ++ b ++ c).length := by rw [List.length_append, List.length_append]; omega
    rw [this, List.drop_left]
/-- A record that is made is what sectors open to, whatever stands behind. -/
theorem open_make {seq epoch : Int} {p : List Int} {m : Nat} {L : List Sec} (hs : 0 < seq ∧ seq ≤ 18446744073709551615) (he : 0 ≤ epoch ∧ epoch ≤ 4294967295) (hp : p.length ≤ 700) (hm : sizeF (p.length : Int) = (m : Int)) (hL : L.take m = secsF m (frameB seq epoch p)) :
    openF L = some ⟨seq, epoch, headB seq epoch p, m⟩ := by
  have hm64 : p.length + 18 ≤ m * 64 ∧ 0 < m := by
    unfold sizeF at hm
    rw [if_neg (by omega)] at hm
    omega
  have hfl := frameB_len seq epoch p
  have hlen : m ≤ L.length := by
    have := congrArg List.length hL
    rw [List.length_take, secsF_len] at this
    omega
  have hby : bytesOf (L.take m) = padF (frameB seq epoch p) (m * 64) := by
    rw [hL, secsF_bytes _ _ (by rw [hfl]; omega)]
  obtain ⟨hp1, hp2, hp3, hp4⟩ := head_parts seq epoch p
  have hhl := head_len seq epoch p
  cases L with
  | nil => simp at hlen; omega
  | cons s L =>
    have hs2 : s.b.take 2 = numF (p.length : Int) 2 := by
      obtain ⟨k, rfl⟩ : ∃ k, m = k + 1 := ⟨m - 1, by omega⟩
      have h1 : bytesOf ((s :: L).take (k + 1)) = s.b ++ bytesOf (L.take k) := by simp [bytesOf]
      have h2 : s.b.take 2 = (bytesOf ((s :: L).take (k + 1))).take 2 := by rw [h1, List.take_append_of_le_length (by rw [s.len]; omega)]
      rw [h2, hby]
      unfold padF
      rw [List.take_append_of_le_length (by rw [hfl]; omega), frame_eq]
      unfold sealF
      rw [List.take_append_of_le_length (by omega), hp1]
    have hv2 : valF (s.b.take 2) = (p.length : Int) := by
      rw [hs2, valF_numF 2 _ (by omega) (by show (p.length : Int) < 65536; omega) (by omega)]
    have hw : wrapV .i64 (p.length : Int) = (p.length : Int) := wrap_i64 (by omega) (by omega)
    simp only [openF, hv2, hw, hm]
    rw [if_neg (by rw [not_or]; exact ⟨by omega, by omega⟩)]
    have h18 : ((p.length : Int) + 18).toNat = (frameB seq epoch p).length := by rw [hfl]; omega
    unfold openL
    rw [Int.toNat_natCast, h18, hby]
    unfold padF
    rw [List.take_left, List.drop_left, frame_eq, unseal_seal]
    have hz : (List.replicate (m * 64 - (sealF (headB seq epoch p)).length) (0 : Int)).any notZ = false := by
      rw [List.any_eq_false]
      intro x hx
      rw [(List.mem_replicate.1 hx).2]; simp [notZ]
    simp only [hz]
    have v1 : valF (((headB seq epoch p).drop 2).take 8) = seq := by
      rw [hp2, valF_numF 8 _ (by omega) (by rw [p8]; omega) (by omega)]
    have we : wrapV .u64 epoch = epoch := wrap_u64 (by omega) (by omega)
    have v2 : valF (((headB seq epoch p).drop 10).take 4) = epoch := by
      rw [hp3, we, valF_numF 4 _ (by omega) (by rw [p4]; omega) (by omega)]
    have w32 : wrapV .u32 epoch = epoch := by simp only [wrapV]; omega
    rw [v1, v2, w32, if_neg (by simp), if_neg (by omega)]
theorem check_pay {n : Int} {c : Chk} (hg : c.good) (ho : c.ok n) : checkF n c.gen c.epoch c.pay = (c, true) := by
  obtain ⟨g1, g2, g3, g4, g5⟩ := hg
  have hsg := seg_pos ho.1
  have ho5 := ho.2.2.2.2
  have hsu : u64 c.seg := ⟨by omega, by omega⟩
  have hpay : c.pay = leb c.seq ++ (leb c.seg ++ lebs c.book.ns) := by
    unfold Chk.pay lebs
    simp
  have e1 : getL c.pay = some (c.seq, (leb c.seq).length) := by rw [hpay]; exact getL_leb g3 _
  have d1 : c.pay.drop (leb c.seq).length = leb c.seg ++ lebs c.book.ns := by rw [hpay, List.drop_left]
  have e2 : getL (leb c.seg ++ lebs c.book.ns) = some (c.seg, (leb c.seg).length) := getL_leb hsu _
  have d2 : c.pay.drop ((leb c.seq).length + (leb c.seg).length) = lebs c.book.ns := by
    rw [← List.drop_drop, d1, List.drop_left]
  unfold checkF
  rw [e1]
  simp only [d1, e2, d2, read_bytes g5 ho5]
  have s1 : satN c.seg = c.seg := if_pos (by omega)
  have s2 : satQ c.seg = true := decide_eq_true (by omega)
  rw [s1, s2]
  have hc : (⟨c.gen, c.epoch, c.seq, c.seg, c.book⟩ : Chk) = c := rfl
  rw [hc, decide_eq_true ho]; rfl
theorem one_put {D : Dsk} {c : Chk} {L : List Sec} {first : Int} (hg : c.good) (ho : c.ok D.st.length) (hf : slotF c.gen = first) (hgot : D.got first 16 = some L) (hL : L.take c.many = c.secs) : D.one first = (c, true) := by
  have hm := Chk.many_eq hg ho
  have hpl := Chk.pay_len hg ho
  have h1 := open_make (seq := c.gen) (epoch := c.epoch) (p := c.pay) (m := c.many) (L := L) ⟨by have := ho.2.1.1; omega, hg.1.2⟩ hg.2.1 (by omega) hm.1 hL
  rw [one_some hgot, h1]
  simp only
  rw [if_pos hf]
  have hp : (Rec.mk c.gen c.epoch (headB c.gen c.epoch c.pay) c.many).pay = c.pay := (head_parts _ _ _).2.2.2
  rw [hp]
  exact check_pay hg ho
end Go.Proofs.Ytkfobkfhbkicaaa

namespace Go.Proofs.Ytkfobkfhbkicaaa
set_option linter.unusedSimpArgs false
set_option linter.unusedVariables false
set_option maxRecDepth 10000

/-- Nothing pending, nothing counted, nothing broken. -/
structure Dsk.calm (D : Dsk) : Prop where
  pe : D.pe = []
  left : D.left = -1
  down : D.down = false
def setsF : List Sec → Nat → List Sec → List Sec
  | st, _, [] => st
  | st, a, s :: l => setsF (st.set a s) (a + 1) l
theorem sets_len : ∀ (l : List Sec) (st : List Sec) (a : Nat), (setsF st a l).length = st.length
  | [], st, a => rfl
  | s :: l, st, a => by rw [setsF, sets_len l, List.length_set]
theorem sets_at : ∀ (l : List Sec) (st : List Sec) (a j : Nat), a + l.length ≤ st.length → (setsF st a l)[j]? = if a ≤ j ∧ j < a + l.length then l[j - a]? else st[j]?
  | [], st, a, j, _ => by
    rw [setsF, List.length_nil, if_neg (by omega)]
  | s :: l, st, a, j, h => by
    rw [List.length_cons] at h
    rw [setsF, sets_at l _ _ _ (by rw [List.length_set]; omega), List.length_cons]
    by_cases h1 : a + 1 ≤ j ∧ j < a + 1 + l.length
    · rw [if_pos h1, if_pos (by omega)]
      obtain ⟨k, hk⟩ : ∃ k, j - a = k + 1 := ⟨j - a - 1, by omega⟩
      rw [hk, List.getElem?_cons_succ]
      congr 1; omega
    · rw [if_neg h1]
      by_cases h2 : j = a
      · subst h2
        rw [if_pos (by omega), Nat.sub_self, List.getElem?_set_self (by omega)]; rfl
      · rw [if_neg (by omega), List.getElem?_set_ne (by omega)]
theorem act_calm {D : Dsk} (h1 : D.left = -1) (h2 : D.down = false) : D.act = (0, D) := by
  unfold Dsk.act actF
  rw [h1, h2]
  obtain ⟨st, pe, left, down⟩ := D
  simp only at h1 h2
  subst h1; subst h2; rfl
theorem wrs_calm {first : Nat} : ∀ (l : List Sec) (k : Nat) (D : Dsk), D.left = -1 → D.down = false → first + k + l.length ≤ D.st.length →
    Dsk.wrs first l k D = (0, { D with st := settleL (fun _ => true) 0 (D.pe ++ l.zipIdx.map fun p => ⟨((first + k + p.2 : Nat) : Int), p.1⟩) D.st, pe := [] })
  | [], k, D, h1, h2, h3 => by
    simp only [Dsk.wrs, List.zipIdx_nil, List.map_nil, List.append_nil]
    unfold Dsk.sync
    rw [act_calm h1 h2]
    rw [if_pos rfl]; rfl
  | s :: l, k, D, h1, h2, h3 => by
    rw [List.length_cons] at h3
    have hw : D.write (first + k) s = (0, { D with pe := D.pe ++ [⟨first + k, s⟩] }) := by
      unfold Dsk.write
      rw [if_pos ⟨by omega, by omega⟩, act_calm h1 h2, if_pos rfl]
    simp only [Dsk.wrs, hw, if_true]
    rw [wrs_calm l (k + 1) { D with pe := D.pe ++ [⟨first + k, s⟩] } h1 h2 (by show first + (k + 1) + l.length ≤ D.st.length; omega)]
    simp only [List.append_assoc, List.singleton_append, List.zipIdx_cons, List.map_cons, Nat.add_zero]
    have he : l.zipIdx.map (fun p => (⟨((first + (k + 1) + p.2 : Nat) : Int), p.1⟩ : Wr)) = (l.zipIdx (0 + 1)).map fun p => ⟨((first + k + p.2 : Nat) : Int), p.1⟩ := by
      rw [List.zipIdx_succ, List.map_map]
      refine List.map_congr_left fun p _ => ?_
      simp only [Function.comp, Wr.mk.injEq, and_true]
      omega
    rw [he]
    have h0 : ((first + k : Nat) : Int) = (first : Int) + k := by omega
    rw [h0]
theorem settle_sets : ∀ (l : List Sec) (a k : Nat) (st : List Sec) (f : Nat → Int), (∀ j, f j = ((a + j : Nat) : Int)) → settleL (fun _ => true) k (l.zipIdx.map fun p => ⟨f p.2, p.1⟩) st = setsF st a l
  | [], a, k, st, f, hf => rfl
  | s :: l, a, k, st, f, hf => by
    rw [List.zipIdx_cons, List.map_cons, settleL, if_pos rfl, setsF]
    have h0 : (f 0).toNat = a := by rw [hf 0]; omega
    simp only [h0]
    have ih := settle_sets l (a + 1) (k + 1) (st.set a s) (fun j => f (j + 1)) (fun j => by rw [hf]; omega)
    rw [← ih]
    congr 1
    rw [List.zipIdx_succ, List.map_map]; rfl
theorem swrite_calm {D : Dsk} {c : Chk} (hc : D.calm) (hg : c.good) (ho : c.ok D.st.length) : D.swrite c = (0, { D with st := setsF D.st (slotF c.gen).toNat c.secs }) := by
  have hm := Chk.many_eq hg ho
  have hn : 64 ≤ (D.st.length : Int) := by have := of_decide_eq_false ho.1; omega
  obtain ⟨a, ha⟩ : ∃ a : Nat, slotF c.gen = (a : Int) := ⟨(slotF c.gen).toNat, by unfold slotF; omega⟩
  have ha16 : a ≤ 16 := by unfold slotF at ha; omega
  unfold Dsk.swrite
  rw [if_pos ho, ha, wrs_calm _ _ _ hc.left hc.down (by rw [Chk.secs_len]; omega), hc.pe, List.nil_append, Int.toNat_natCast]
  rw [settle_sets c.secs a 0 D.st (fun j => ((a + 0 + j : Nat) : Int)) (fun j => by rw [Nat.add_zero])]
theorem got_calm {D : Dsk} {a : Nat} (hp : D.pe = []) : ∀ (k : Nat), a + k ≤ D.st.length → D.got a k = some ((D.st.drop a).take k)
  | 0, _ => by rw [List.take_zero]; rfl
  | k + 1, h => by
    simp only [Dsk.got]
    rw [got_calm hp k (by omega)]
    have hr : readAt D.st D.pe ((a : Int) + k) = (D.st[a + k]'(by omega), 0) := by
      unfold readAt
      rw [if_pos ⟨by omega, by omega⟩, hp]
      have : ((a : Int) + k).toNat = a + k := by omega
      rw [this, List.getD_eq_getElem?_getD, List.getElem?_eq_getElem (by omega)]; rfl
    rw [hr]
    simp only [if_true]
    have hkd : k < (D.st.drop a).length := by rw [List.length_drop]; omega
    rw [List.take_succ_eq_append_getElem hkd, List.getElem_drop]
theorem got_short {D : Dsk} {a : Nat} (h : D.st.length < a + 16) : D.got a 16 = none := by
  by_cases ha : D.st.length ≤ a
  · refine got_none (k := 0) ?_ 16 (by omega)
    unfold readAt
    rw [if_neg (by omega)]; simp
  · refine got_none (k := D.st.length - a) ?_ 16 (by omega)
    unfold readAt
    rw [if_neg (by omega)]; simp
/-- What a slot says depends on its sectors alone. -/
theorem one_same {D D' : Dsk} {a : Nat} (hp : D.pe = []) (hp' : D'.pe = []) (hl : D'.st.length = D.st.length) (h : ∀ j, a ≤ j → j < a + 16 → D'.st[j]? = D.st[j]?) : D'.one a = D.one a := by
  by_cases hn : D.st.length < a + 16
  · rw [one_none (got_short hn), one_none (got_short (by omega))]
  · have h1 := got_calm hp 16 (a := a) (by omega)
    have h2 := got_calm hp' 16 (a := a) (by omega)
    have he : (D'.st.drop a).take 16 = (D.st.drop a).take 16 := by
      refine List.ext_getElem? fun j => ?_
      rw [List.getElem?_take, List.getElem?_take, List.getElem?_drop, List.getElem?_drop]
      split
      · exact h _ (by omega) (by omega)
      · rfl
    rw [he] at h2
    rw [one_some h1, one_some h2, hl]
theorem secs_take {D : Dsk} {a : Nat} {l : List Sec} {m : Nat} (hm : l.length = m) (h16 : m ≤ 16) (h : a + m ≤ D.st.length) : (((setsF D.st a l).drop a).take 16).take m = l := by
  rw [List.take_take, show min m 16 = m by omega]
  refine List.ext_getElem? fun j => ?_
  rw [List.getElem?_take, List.getElem?_drop, sets_at _ _ _ _ (by omega)]
  by_cases hj : j < m
  · rw [if_pos hj, if_pos (by omega)]
    congr 1; omega
  · rw [if_neg hj, List.getElem?_eq_none (by omega)]
/-- A checkpoint is written: that slot says it, the other one what it said. -/
theorem swrite_slots {D : Dsk} {c : Chk} (hc : D.calm) (hg : c.good) (ho : c.ok D.st.length) :
    (D.swrite c).1 = 0 ∧ (D.swrite c).2.calm ∧ (D.swrite c).2.st.length = D.st.length ∧ (D.swrite c).2.one (slotF c.gen) = (c, true) ∧ (D.swrite c).2.one (16 - slotF c.gen) = D.one (16 - slotF c.gen) := by
  have hm := Chk.many_eq hg ho
  have hn : 64 ≤ (D.st.length : Int) := by have := of_decide_eq_false ho.1; omega
  obtain ⟨a, ha⟩ : ∃ a : Nat, slotF c.gen = (a : Int) := ⟨(slotF c.gen).toNat, by unfold slotF; omega⟩
  have ha16 : a = 0 ∨ a = 16 := by unfold slotF at ha; omega
  have hl := Chk.secs_len (c := c)
  have hln := sets_len c.secs D.st a
  rw [swrite_calm hc hg ho, ha, Int.toNat_natCast]
  obtain ⟨D', hD'⟩ : ∃ D' : Dsk, D' = { D with st := setsF D.st a c.secs } := ⟨_, rfl⟩
  rw [← hD']
  have hst : D'.st = setsF D.st a c.secs := by rw [hD']
  have hpe : D'.pe = [] := by rw [hD']; exact hc.pe
  have hl2 : D'.st.length = D.st.length := by rw [hst]; exact hln
  refine ⟨rfl, ⟨hpe, by rw [hD']; exact hc.left, by rw [hD']; exact hc.down⟩, hl2, ?_, ?_⟩
  · have hgot := got_calm (D := D') hpe 16 (a := a) (by omega)
    have htk := secs_take (D := D) (a := a) (l := c.secs) (m := c.many) hl (by omega) (by omega)
    rw [← hst] at htk
    exact one_put hg (by rw [hl2]; exact ho) ha hgot htk
  · have hb : (16 : Int) - a = ((16 - a : Nat) : Int) := by omega
    show D'.one (16 - (a : Int)) = D.one (16 - (a : Int))
    rw [hb]
    refine one_same hc.pe hpe hl2 fun j h1 h2 => ?_
    rw [hst, sets_at _ _ _ _ (by omega), if_neg (by omega)]
theorem swrite_bad {D : Dsk} {c : Chk} (ho : ¬ c.ok D.st.length) : D.swrite c = (141, D) := by
  unfold Dsk.swrite
  rw [if_neg ho]
theorem last_ab (D : Dsk) : D.last = stepC (stepC (noChk, false) (D.one 0)) (D.one 16) := rfl
/-- Zeros are no record. -/
theorem zeros_none {L : List Sec} (h : ∀ s ∈ L, s = zSec) : openF L = none := by
  cases L with
  | nil => rfl
  | cons s L =>
    have hs : s = zSec := h s (by simp)
    have hv : valF (s.b.take 2) = 0 := by rw [hs]; decide
    have hw : wrapV .i64 (0 : Int) = 0 := by decide
    simp only [openF, hv, hw]
    have hz : sizeF 0 = 1 := by decide
    rw [hz, if_neg (by rw [not_or]; exact ⟨by omega, by rw [List.length_cons]; omega⟩)]
    unfold openL
    have ht : bytesOf ((s :: L).take (1 : Int).toNat) = List.replicate 64 0 := by
      rw [hs]; simp [bytesOf, zSec]
    rw [ht]
    split
    · rfl
    · rename_i body hb
      obtain ⟨e1, _⟩ := unseal_len hb
      have : ((body.drop 2).take 8) = List.replicate 8 0 := by rw [e1]; rfl
      rw [this]
      have hv8 : valF (List.replicate 8 0) = 0 := by decide
      rw [hv8]
      split
      · rfl
      · rw [if_pos rfl]
theorem new_calm (n : Int) : (Dsk.new n).calm := ⟨rfl, rfl, rfl⟩
theorem new_one (n : Int) (a : Nat) : (Dsk.new n).one a = (noChk, false) := by
  by_cases hn : (Dsk.new n).st.length < a + 16
  · exact one_none (got_short hn)
  · have h1 := got_calm (D := Dsk.new n) rfl 16 (a := a) (by omega)
    rw [one_some h1, zeros_none fun s hs => ?_]
    have := List.mem_of_mem_drop (List.mem_of_mem_take hs)
    exact (List.mem_replicate.1 this).2
theorem new_last (n : Int) : (Dsk.new n).last = (noChk, false) := by
  have h0 := new_one n 0
  have h1 := new_one n 16
  rw [last_ab]
  have e0 : (Dsk.new n).one 0 = (noChk, false) := h0
  have e1 : (Dsk.new n).one 16 = (noChk, false) := h1
  rw [e0, e1]; rfl
/-- The bytes of a disk stay bytes. -/
theorem secsF_u8 : ∀ (m : Nat) (b : List Int), (∀ c ∈ b, u8 c) → ∀ s ∈ secsF m b, ∀ c ∈ s.b, u8 c
  | 0, _, _, s, hs => by cases hs
  | m + 1, b, h, s, hs => by
    rw [secsF] at hs
    rcases List.mem_cons.1 hs with rfl | hs
    · intro c hc
      have hc : c ∈ padF (b.take 64) 64 := hc
      unfold padF at hc
      rcases List.mem_append.1 hc with hc | hc
      · exact h c (List.mem_of_mem_take hc)
      · rw [(List.mem_replicate.1 hc).2]; unfold u8; omega
    · exact secsF_u8 m _ (fun c hc => h c (List.mem_of_mem_drop hc)) s hs
theorem numF_u8 (n : Int) : ∀ k, ∀ c ∈ numF n k, u8 c
  | 0, c, h => by cases h
  | k + 1, c, h => by
    rw [numF] at h
    rcases List.mem_cons.1 h with rfl | h
    · unfold u8; omega
    · exact numF_u8 n k c h
theorem tailF_u8 (s : Int) : ∀ c ∈ tailF s, u8 c := by
  intro c hc
  unfold tailF at hc
  simp only [List.mem_cons, List.not_mem_nil, or_false] at hc
  rcases hc with rfl | rfl | rfl | rfl <;> (unfold u8; simp only [wrapV]; omega)
theorem lebs_u8 {l : List Int} (h : ∀ n ∈ l, u64 n) : ∀ c ∈ lebs l, u8 c := by
  intro c hc
  unfold lebs at hc
  obtain ⟨n, hn, hc⟩ := List.mem_flatMap.1 hc
  exact leb_u8 (h n hn).1 c hc
theorem Chk.secs_u8 {n : Int} {c : Chk} (hg : c.good) (ho : c.ok n) : ∀ s ∈ c.secs, ∀ x ∈ s.b, u8 x := by
  have hsg := seg_pos ho.1
  refine secsF_u8 _ _ fun x hx => ?_
  have hx : x ∈ sealF (headB c.gen c.epoch c.pay) := hx
  unfold sealF at hx
  rcases List.mem_append.1 hx with hx | hx
  · unfold headB at hx
    rcases List.mem_append.1 hx with hx | hx
    · rcases List.mem_append.1 hx with hx | hx
      · rcases List.mem_append.1 hx with hx | hx
        · exact numF_u8 _ _ _ hx
        · exact numF_u8 _ _ _ hx
      · exact numF_u8 _ _ _ hx
    · unfold Chk.pay at hx
      rcases List.mem_append.1 hx with hx | hx
      · exact lebs_u8 (by simp; exact ⟨hg.2.2.1, by omega, by omega⟩) x hx
      · exact lebs_u8 (bns_u64 hg.2.2.2.2 ho.2.2.2.2) x hx
  · exact tailF_u8 _ _ hx
theorem new_by (n : Int) : (Dsk.new n).by_ := ⟨fun s hs c hc => by
  have := (List.mem_replicate.1 hs).2
  subst this
  rw [(List.mem_replicate.1 hc).2]; unfold u8; omega, fun w hw => by cases hw⟩
theorem sets_mem : ∀ (l st : List Sec) (a : Nat) (s : Sec), s ∈ setsF st a l → s ∈ st ∨ s ∈ l
  | [], st, a, s, h => .inl h
  | t :: l, st, a, s, h => by
    rw [setsF] at h
    rcases sets_mem l _ _ s h with h | h
    · rcases List.mem_or_eq_of_mem_set h with h | h
      · exact .inl h
      · exact .inr (by rw [h]; simp)
    · exact .inr (by simp [h])
theorem swrite_by {D : Dsk} {c : Chk} (hc : D.calm) (hb : D.by_) (hg : c.good) : (D.swrite c).2.by_ := by
  by_cases ho : c.ok D.st.length
  · rw [swrite_calm hc hg ho]
    refine ⟨fun s hs => ?_, hb.2⟩
    rcases sets_mem _ _ _ s hs with hs | hs
    · exact hb.1 s hs
    · exact Chk.secs_u8 hg ho s hs
  · rw [swrite_bad ho]; exact hb
end Go.Proofs.Ytkfobkfhbkicaaa

namespace Go.Proofs.Ytkfobkfhbkicaaa
open Go.RowKit
set_option linter.unusedSimpArgs false
set_option linter.unusedVariables false
set_option maxRecDepth 100000

def aliveS : Spec := fun args S => match args with
  | [] => some (.b true, S)
  | _ => none
end Go.Proofs.Ytkfobkfhbkicaaa

namespace Go.Proofs.Ytkfobkfhbkicaaa
open Go.RowKit
set_option linter.unusedSimpArgs false
set_option linter.unusedVariables false
set_option maxRecDepth 10000

/-- A disk in the memory 'M', apart from what was there ('S') and from some blocks ('F'). -/
def Held (S M : Mem) (i ist : Nat) (D : Dsk) (F : List Nat) : Prop :=
  ∃ px, DAt M i ist px D ∧ D.ok ∧ D.pe.length ≤ 700000 ∧ S <+: M ∧ ∀ j, j < S.length ∨ j ∈ F → j < M.length ∧ ¬ Ownd i ist px j
section
variable {S M : Mem} {i ist : Nat} {D : Dsk} {F : List Nat}
theorem Held.ext (h : Held S M i ist D F) : S <+: M := h.choose_spec.2.2.2.1
theorem ownd_lt {px : AV} (h : DAt M i ist px D) {j : Nat} (ho : Ownd i ist px j) : j < M.length := by
  rcases ho with rfl | rfl | r
  · exact (List.getElem?_eq_some_iff.1 h.1).1
  · exact (List.getElem?_eq_some_iff.1 h.2.1).1
  · rcases h.2.2 with ⟨_, rfl⟩ | ⟨_, ip, v, rfl, h5⟩
    · cases r
    · have := (List.getElem?_eq_some_iff.1 h5).1
      simp [offB] at r; omega
theorem Held.grow (h : Held S M i ist D F) (L : Mem) : Held S (M ++ L) i ist D F := by
  obtain ⟨px, h1, h2, h3, h4, h5⟩ := h
  exact ⟨px, h1.grow L, h2, h3, ext_more h4 L, fun j hj => ⟨by rw [List.length_append]; have := (h5 j hj).1; omega, (h5 j hj).2⟩⟩
theorem Held.push (h : Held S M i ist D F) (B : Blk) (L : Mem) : Held S (M ++ B :: L) i ist D (M.length :: F) := by
  obtain ⟨px, h1, h2, h3, h4, h5⟩ := h
  refine ⟨px, h1.grow _, h2, h3, ext_more h4 _, fun j hj => ?_⟩
  by_cases e : j = M.length
  · subst e
    exact ⟨by simp, fun q => absurd (ownd_lt h1 q) (Nat.lt_irrefl _)⟩
  · have := h5 j (by
      rcases hj with hj | hj
      · exact .inl hj
      · rcases List.mem_cons.1 hj with hj | hj
        · exact absurd hj e
        · exact .inr hj)
    exact ⟨by rw [List.length_append]; omega, this.2⟩
theorem Held.sub {F' : List Nat} (h : Held S M i ist D F) (hF : ∀ j ∈ F', j ∈ F) : Held S M i ist D F' := by
  obtain ⟨px, h1, h2, h3, h4, h5⟩ := h
  exact ⟨px, h1, h2, h3, h4, fun j hj => h5 j (hj.imp id (hF j))⟩
/-- A block of our own turns. -/
theorem Held.set (h : Held S M i ist D F) {j : Nat} {B B' : Blk} (hj : j ∈ F) (hS : S.length ≤ j) (hB : M[j]? = some B) : Held S (M.set j B') i ist D F := by
  obtain ⟨px, h1, h2, h3, h4, h5⟩ := h
  have hno := (h5 j (.inr hj)).2
  have n1 : j ≠ i := fun e => hno (.inl e)
  have n2 : j ≠ ist := fun e => hno (.inr (.inl e))
  refine ⟨px, ⟨by rw [at_set_ne n1]; exact h1.1, by rw [at_set_ne n2]; exact h1.2.1, ?_⟩, h2, h3, ext_set h4 hS _, fun k hk => by rw [List.length_set]; exact h5 k hk⟩
  rcases h1.2.2 with q | ⟨q, ip, v, rfl, h6⟩
  · exact .inl q
  · refine .inr ⟨q, ip, v, rfl, ?_⟩
    rw [at_set_ne (fun e => hno (.inr (.inr (by rw [e]; simp [offB]))))]; exact h6
theorem held_op {px px' : AV} {M' : Mem} {D' : Dsk} (h1 : DAt M i ist px D) (h4 : S <+: M) (h5 : ∀ j, j < S.length ∨ j ∈ F → j < M.length ∧ ¬ Ownd i ist px j) (h1' : DAt M' i ist px' D') (hop : DOp M M' i ist px px') (hok : D'.ok) (hfew : D'.pe.length ≤ 700000) :
    Held S M' i ist D' F ∧ ∀ j B, j ∈ F → M[j]? = some B → M'[j]? = some B := by
  refine ⟨⟨px', h1', hok, hfew, ?_, fun j hj => ⟨Nat.lt_of_lt_of_le (h5 j hj).1 hop.len, fun q => (h5 j hj).2 (hop.own j (h5 j hj).1 q)⟩⟩, fun j B hj hB => hop.keep j B hB (h5 j (.inr hj)).2⟩
  refine List.prefix_iff_getElem?.2 fun k hk => ?_
  exact hop.keep k _ (List.prefix_iff_getElem?.1 h4 k hk) (h5 k (.inl hk)).2
theorem Held.write (h : Held S M i ist D F) {cs : List AV} {c : Chk} (hc : chkOf M cs = some c) (hg : c.good) (hpe : (D.swrite c).2.pe.length ≤ 700000) :
    ∃ M', swriteS [.p i 0 0, .ag cs] M = some (.i .i64 (D.swrite c).1, M') ∧ Held S M' i ist (D.swrite c).2 F ∧ ∀ j B, j ∈ F → M[j]? = some B → M'[j]? = some B := by
  obtain ⟨px, h1, h2, h3, h4, h5⟩ := h
  obtain ⟨M', px', g1, g2, g3, g4⟩ := swrite_eq h1 h2 h3 hc hg
  obtain ⟨k1, k2⟩ := held_op h1 h4 h5 g2 g3 g4 hpe
  exact ⟨M', g1, k1, k2⟩
theorem Held.brk (h : Held S M i ist D F) {n : Int} (hn : n ≤ 9223372036854775807) : ∃ M', breakS [.p i 0 0, .i .i64 n] M = some (.tu [], M') ∧ Held S M' i ist (D.brk n) F ∧ ∀ j B, j ∈ F → M[j]? = some B → M'[j]? = some B := by
  obtain ⟨px, h1, h2, h3, h4, h5⟩ := h
  obtain ⟨M', g1, g2, g3⟩ := break_eq h1 n
  obtain ⟨k1, k2⟩ := held_op h1 h4 h5 g2 g3 ⟨h2.wf, h2.few, by show max n (-1) ≤ _; omega, h2.big⟩ h3
  exact ⟨M', g1, k1, k2⟩
theorem Held.crash (h : Held S M i ist D F) {x : AV} {l : List Bool} (hl : lstV boolE M x = some l) (hoff : offB x ist = true) (h1 : x.one = true) : ∃ M', dCrashS [.p i 0 0, x] M = some (.tu [], M') ∧ Held S M' i ist (D.crash l) F ∧ ∀ j B, j ∈ F → M[j]? = some B → M'[j]? = some B := by
  obtain ⟨px, g1, g2, g3, g4, g5⟩ := h
  obtain ⟨M', k1, k2, k3, k4⟩ := crash_eq g1 g2 hl hoff h1
  obtain ⟨m1, m2⟩ := held_op g1 g4 g5 k2 k3 k4 (by show (0 : Nat) ≤ _; omega)
  exact ⟨M', k1, m1, m2⟩
theorem Held.read (h : Held S M i ist D F) (hb : D.by_) : swreadS [.p i 0 0] M = some (outX M D.last) := by
  obtain ⟨px, h1, h2, h3, h4, h5⟩ := h
  exact swread_eq h1 h2 h3 hb
theorem Held.len (h : Held S M i ist D F) : lenS [.p i 0 0] M = some (.i .i64 D.st.length, M) := by
  obtain ⟨px, h1, h2, h3, h4, h5⟩ := h
  exact len_eq h1
end
theorem new_held (S0 S : Mem) (h : S0 <+: S) (n : Int) (F : List Nat) (hF : ∀ j ∈ F, j < S.length) : Held S0 (S ++ [stBlk (List.replicate (secsN n) zSec), .cells (newHead S (secsN n)) 0 none true]) (S.length + 1) S.length (Dsk.new n) F := by
  obtain ⟨h1, h2⟩ := new_eq (S := S) n
  refine ⟨.sn, h1, h2, by show (0 : Nat) ≤ _; omega, ext_more h _, fun j hj => ?_⟩
  have hlt : j < S.length := by
    rcases hj with hj | hj
    · exact Nat.lt_of_lt_of_le hj h.length_le
    · exact hF j hj
  refine ⟨by rw [List.length_append]; omega, ?_⟩
  rintro (q | q | q)
  · omega
  · omega
  · cases q

/-! ### A checkpoint of an empty book -/
def mtC (g : Int) : Chk := ⟨g, 1, 1, 0, ⟨1, []⟩⟩
def mtL (g : Int) : List AV := [.i .u64 g, .i .u32 1, .i .u64 1, .i .i64 0, .i .u64 1, .sn]
theorem mt_chk (M : Mem) (g : Int) : chkOf M (mtL g) = some (mtC g) := rfl
theorem mt_good {g : Int} (h : u64 g) : (mtC g).good := ⟨h, ⟨(show (0 : Int) ≤ 1 by decide), (show (1 : Int) ≤ 4294967295 by decide)⟩, ⟨(show (0 : Int) ≤ 1 by decide), (show (1 : Int) ≤ 18446744073709551615 by decide)⟩,
  ⟨(show (-9223372036854775808 : Int) ≤ 0 by decide), (show (0 : Int) ≤ 9223372036854775807 by decide)⟩, ⟨(show (0 : Int) ≤ 1 by decide), (show (1 : Int) ≤ 18446744073709551615 by decide)⟩, (show (0 : Nat) ≤ 1000000 by decide), fun x hx => by cases hx⟩
theorem mt_book : Bk.ok ⟨1, []⟩ := ⟨by decide, by decide, ⟨by decide, fun i h => absurd h (Nat.not_lt_zero _)⟩, fun x hx => by cases hx⟩
theorem mt_ok {g : Int} (h : valQ g) : (mtC g).ok 64 := ⟨(show segBad 64 0 = false by decide), h, ⟨(show (1 : Int) ≤ 1 by decide), (show (1 : Int) ≤ 281474976710656 by decide)⟩, (show (1 : Int) ≤ 2147483648 by decide), mt_book⟩
def emptyS : Spec := fun args S => match args with
  | [.i .u64 g] => some (.ag (mtL g), S)
  | _ => none
theorem empty_ok : SpecOK Try.prog 8 emptyS := by
  intro args S x S' h
  simp only [emptyS] at h
  split at h
  · rename_i g
    cases h
    refine fn_of_wp f8 rfl (W_sound none_ok mixed _ _ _ _ _ ?_)
    simp (maxSteps := 1000000) (disch := omega) only [c8, go_sem, Option.map_none, Option.map_some, ↓reduceIte, Nat.reduceBEq, Nat.reduceAdd, Nat.reduceSub, Nat.reduceEqDiff, Nat.reduceLeDiff, Nat.reduceMul, Nat.reduceLT, Int.reduceLT, Int.reduceLE, Int.reduceAdd, Int.reduceSub, Int.reduceMul, Int.reduceNeg, Int.reduceEq, Int.reduceNe, Int.reduceToNat, decide_true, decide_false, iaddr_i, iaddr_sl_i, not_true_eq_false, not_false_eq_true, reduceCtorEq, ne_eq, forall_const, false_imp_iff, true_imp_iff, implies_true, Int.cast_ofNat_Int, Int.natCast_zero, Int.natCast_one, Int.add_zero, Int.zero_add]
    exact wkv_drop rfl
  · cases h
theorem sec64 : secsN 64 = 64 := by decide
theorem swrite_dead {D : Dsk} {c : Chk} (h1 : D.left = 0) (h2 : D.down = false) (hp : D.pe = []) (hg : c.good) (ho : c.ok D.st.length) : D.swrite c = (72, { D with down := true }) := by
  have hm := Chk.many_eq hg ho
  have hn : 64 ≤ (D.st.length : Int) := by have := of_decide_eq_false ho.1; omega
  have ha : 0 ≤ slotF c.gen ∧ slotF c.gen ≤ 16 := by unfold slotF; omega
  unfold Dsk.swrite
  rw [if_pos ho]
  have hl := Chk.secs_len (c := c)
  cases hs : c.secs with
  | nil => rw [hs] at hl; simp at hl; omega
  | cons s l =>
    have hw : D.write (slotF c.gen + ((0 : Nat) : Int)) s = (72, { D with down := true }) := by
      unfold Dsk.write
      rw [if_pos ⟨by omega, by omega⟩]
      have hact : D.act = (72, { D with down := true }) := by
        unfold Dsk.act actF
        rw [h1, h2]
        simp
      rw [hact]; simp
    simp only [Dsk.wrs, hw]
    rw [if_neg (by omega)]
theorem crash_calm {D : Dsk} (hp : D.pe = []) (l : List Bool) : D.crash l = { D with left := -1, down := false } := by
  unfold Dsk.crash Dsk.keep
  rw [hp]
  obtain ⟨st, pe, left, down⟩ := D
  simp only at hp
  subst hp; rfl
/-- The example's disk. -/
theorem alive_disk : ∃ D1 D2 : Dsk, (Dsk.new 64).swrite (mtC 1) = (0, D1) ∧ D1.swrite (mtC 2) = (0, D2) ∧ D1.pe = [] ∧ D2.pe = [] ∧ D2.last = (mtC 2, true) ∧ D2.by_ ∧ (D2.brk 0).swrite (mtC 3) = (72, { D2.brk 0 with down := true }) ∧ ({ D2.brk 0 with down := true } : Dsk).crash [] = D2 := by
  have g : ∀ n : Int, 1 ≤ n → n ≤ 3 → (mtC n).good := fun n h1 h2 => mt_good ⟨by omega, by omega⟩
  have o : ∀ n : Int, 1 ≤ n → n ≤ 3 → (mtC n).ok 64 := fun n h1 h2 => mt_ok ⟨by omega, by omega⟩
  have l0 : (Dsk.new 64).st.length = 64 := by show (List.replicate (secsN 64) zSec).length = 64; rw [List.length_replicate, sec64]
  have o1 : (mtC 1).ok (Dsk.new 64).st.length := by rw [l0]; exact o 1 (by omega) (by omega)
  obtain ⟨a1, a2, a3, a4, a5⟩ := swrite_slots (new_calm 64) (g 1 (by omega) (by omega)) o1
  have b1 := swrite_by (new_calm 64) (new_by 64) (g 1 (by omega) (by omega))
  obtain ⟨D1, hD1⟩ : ∃ D1, D1 = ((Dsk.new 64).swrite (mtC 1)).2 := ⟨_, rfl⟩
  rw [← hD1] at a2 a3 a4 a5 b1
  have o2 : (mtC 2).ok D1.st.length := by rw [a3, l0]; exact o 2 (by omega) (by omega)
  obtain ⟨c1, c2, c3, c4, c5⟩ := swrite_slots a2 (g 2 (by omega) (by omega)) o2
  have b2 := swrite_by a2 b1 (g 2 (by omega) (by omega))
  obtain ⟨D2, hD2⟩ : ∃ D2, D2 = (D1.swrite (mtC 2)).2 := ⟨_, rfl⟩
  rw [← hD2] at c2 c3 c4 c5 b2
  have s1 : slotF (mtC 1).gen = 16 := by decide
  have s2 : slotF (mtC 2).gen = 0 := by decide
  rw [s1] at a4
  rw [s2] at c4 c5
  have c5 : D2.one 16 = D1.one 16 := c5
  rw [a4] at c5
  refine ⟨D1, D2, by rw [hD1, ← a1], by rw [hD2, ← c1], a2.pe, c2.pe, ?_, b2, ?_, ?_⟩
  · rw [last_ab, c4, c5]
    have e1 : stepC (noChk, false) (mtC 2, true) = (mtC 2, true) := by
      unfold stepC; rw [if_pos ⟨rfl, by decide⟩]
    have e2 : stepC (mtC 2, true) (mtC 1, true) = (mtC 2, true) := by
      unfold stepC; rw [if_neg (fun q => absurd q.2 (by decide))]
    rw [e1, e2]
  · refine swrite_dead (by show max (0 : Int) (-1) = 0; omega) c2.down c2.pe (g 3 (by omega) (by omega)) ?_
    show (mtC 3).ok (D2.st.length : Int)
    rw [c3, a3, l0]; exact o 3 (by omega) (by omega)
  · rw [crash_calm (by exact c2.pe)]
    have q1 := c2.left
    have q2 := c2.down
    obtain ⟨st, pe, left, down⟩ := D2
    simp only at q1 q2
    subst q1; subst q2; rfl
theorem oAl_ok : OK Try.prog (lamOf Try.prog) (orcOf [(6, newS), (8, emptyS), (10, swriteS), (7, swreadS), (22, breakS), (23, dCrashS), (17, ssameS)]) := orc_ok (by simpa using ⟨new_ok, empty_ok, swrite_ok, swread_ok, break_ok, dcrash_ok, ssame_ok⟩)
theorem salive_ok : SpecOK Try.prog 9 aliveS := by
  intro args S x S' h
  unfold aliveS at h
  split at h
  · cases h
    obtain ⟨D1, D2, w1, w2, p1, p2, hlast, hby, w3, hcr⟩ := alive_disk
    have hg : ∀ n : Int, 1 ≤ n → n ≤ 3 → (mtC n).good := fun n h1 h2 => mt_good ⟨by omega, by omega⟩
    have h0 := new_held S S ext_refl 64 [] (fun j hj => by cases hj)
    have hnew : newS [.i .i64 64] S = some (.p (S.length + 1) 0 0, S ++ [stBlk (List.replicate (secsN 64) zSec), .cells (newHead S (secsN 64)) 0 none true]) := rfl
    generalize S ++ [stBlk (List.replicate (secsN 64) zSec), .cells (newHead S (secsN 64)) 0 none true] = M0 at hnew h0
    obtain ⟨M1, k1, h1, _⟩ := h0.write (mt_chk M0 1) (hg 1 (by omega) (by omega)) (by rw [w1]; simp [p1])
    rw [w1] at k1 h1
    obtain ⟨M2, k2, h2, _⟩ := h1.write (mt_chk M1 2) (hg 2 (by omega) (by omega)) (by rw [w2]; simp [p2])
    rw [w2] at k2 h2
    have k3 := h2.read hby
    rw [hlast] at k3
    have h3 := h2.push (.cells (mtL 2) 0 none true) []
    have e3 : (M2 ++ [Blk.cells (mtL 2) 0 none true])[M2.length]? = some (.cells (mtL 2) 0 none true) := by rw [at_app0]; rfl
    generalize hM3 : M2 ++ [Blk.cells (mtL 2) 0 none true] = M3 at h3 e3
    obtain ⟨M4, k4, h4, f4⟩ := h3.brk (n := 0) (by omega)
    have e4 := f4 _ _ (by simp) e3
    obtain ⟨M5, k5, h5, f5⟩ := h4.write (mt_chk M4 3) (hg 3 (by omega) (by omega)) (by rw [w3]; show D2.pe.length ≤ _; rw [p2]; simp)
    rw [w3] at k5 h5
    have e5 := f5 _ _ (by simp) e4
    obtain ⟨M6, k6, h6, f6⟩ := h5.crash (x := .sn) (l := []) rfl rfl rfl
    rw [hcr] at h6
    have e6 := f6 _ _ (by simp) e5
    have k7 := h6.read hby
    rw [hlast] at k7
    have hS6 := h6.ext
    have hsm : ∀ U, ssameS [.ag (mtL 2), .ag (mtL 2)] U = some (.b true, U) := fun U => by
      simp only [ssameS, mt_chk]
      rw [if_pos (by decide)]; simp
    have hem : ∀ (g : Int) U, emptyS [.i .u64 g] U = some (.ag (mtL g), U) := fun g U => rfl
    simp only [outX, mtC, retX, retM] at k3 k7
    refine fn_of_wp f9 rfl (W_sound oAl_ok mixed _ _ _ _ _ ?_)
    simp only [mtL] at hM3 e6 k1 k2 k5 hsm hem
    simp (maxSteps := 1000000) (disch := omega) only [c9, orc_cons, hnew, hem, k1, k2, k3, hM3, k4, k5, k6, k7, at_old e6, hsm, go_sem, Option.map_none, Option.map_some, ↓reduceIte, Nat.reduceBEq, Nat.reduceAdd, Nat.reduceSub, Nat.reduceEqDiff, Nat.reduceLeDiff, Nat.reduceMul, Nat.reduceLT, Int.reduceLT, Int.reduceLE, Int.reduceAdd, Int.reduceSub, Int.reduceMul, Int.reduceNeg, Int.reduceEq, Int.reduceNe, Int.reduceToNat, decide_true, decide_false, iaddr_i, iaddr_sl_i, not_true_eq_false, not_false_eq_true, reduceCtorEq, ne_eq, forall_const, false_imp_iff, true_imp_iff, implies_true, Int.cast_ofNat_Int, Int.natCast_zero, Int.natCast_one, Int.add_zero, Int.zero_add]
    exact wkv_dropP (ext_more hS6 _) rfl
  · cases h
end Go.Proofs.Ytkfobkfhbkicaaa

namespace Go.Proofs.Ytkfobkfhbkicaaa
open Go.RowKit
set_option linter.unusedSimpArgs false
set_option linter.unusedVariables false
set_option maxRecDepth 10000

theorem oNm_ok : OK Try.prog (lamOf Try.prog) (orcOf [(6, newS), (8, emptyS), (9, aliveS), (10, swriteS), (7, swreadS)]) := orc_ok (by simpa using ⟨new_ok, empty_ok, salive_ok, swrite_ok, swread_ok⟩)
theorem names_ok (S : Mem) : FnOK Try.prog 3 [] S (.b true) S := by
  have l0 : ((Dsk.new 64).st.length : Int) = 64 := by show ((List.replicate (secsN 64) zSec).length : Int) = 64; rw [List.length_replicate, sec64]; rfl
  have h0 := new_held S S ext_refl 64 [] (fun j hj => by cases hj)
  have hnew : newS [.i .i64 64] S = some (.p (S.length + 1) 0 0, S ++ [stBlk (List.replicate (secsN 64) zSec), .cells (newHead S (secsN 64)) 0 none true]) := rfl
  generalize S ++ [stBlk (List.replicate (secsN 64) zSec), .cells (newHead S (secsN 64)) 0 none true] = M0 at hnew h0
  have k1 := h0.read (new_by 64)
  rw [new_last] at k1
  have h1 := h0.grow [.cells [.i .u64 0, .i .u32 0, .i .u64 0, .i .i64 0, .i .u64 0, .sn] 0 none true]
  obtain ⟨M1, hM1⟩ : ∃ M1, M1 = M0 ++ [Blk.cells [.i .u64 0, .i .u32 0, .i .u64 0, .i .i64 0, .i .u64 0, .sn] 0 none true] := ⟨_, rfl⟩
  rw [← hM1] at h1
  have g0 := new_held S M1 h1.ext 0 [] (fun j hj => by cases hj)
  have h2 := h1.grow [stBlk (List.replicate (secsN 0) zSec), .cells (newHead M1 (secsN 0)) 0 none true]
  have hnew2 : newS [.i .i64 0] M1 = some (.p (M1.length + 1) 0 0, M1 ++ [stBlk (List.replicate (secsN 0) zSec), .cells (newHead M1 (secsN 0)) 0 none true]) := rfl
  generalize M1 ++ [stBlk (List.replicate (secsN 0) zSec), .cells (newHead M1 (secsN 0)) 0 none true] = M2 at hnew2 g0 h2
  have k2 := g0.read (new_by 0)
  rw [new_last] at k2
  have h3 := (h2.grow [.cells [.i .u64 0, .i .u32 0, .i .u64 0, .i .i64 0, .i .u64 0, .sn] 0 none true]).push (.cells [.i .u64 1, .i .u32 2147483649, .i .u64 1, .i .i64 0, .i .u64 1, .sn] 0 none true) []
  rw [List.append_assoc, List.length_append] at h3
  obtain ⟨M3, hM3⟩ : ∃ M3, M3 = M2 ++ [Blk.cells [.i .u64 0, .i .u32 0, .i .u64 0, .i .i64 0, .i .u64 0, .sn] 0 none true, .cells [.i .u64 1, .i .u32 2147483649, .i .u64 1, .i .i64 0, .i .u64 1, .sn] 0 none true] := ⟨_, rfl⟩
  have h3 : Held S M3 (S.length + 1) S.length (Dsk.new 64) [M2.length + 1] := by rw [hM3]; exact h3
  have e3 : M3[M2.length + 1]? = some (.cells [.i .u64 1, .i .u32 2147483649, .i .u64 1, .i .i64 0, .i .u64 1, .sn] 0 none true) := by rw [hM3, at_app]; rfl
  have b0 : (Dsk.new 64).swrite (mtC 0) = (141, Dsk.new 64) := swrite_bad fun q => absurd q.2.1.1 (by decide)
  obtain ⟨M4, k4, h4, f4⟩ := h3.write (mt_chk M3 0) (mt_good ⟨by omega, by omega⟩) (by rw [b0]; show (0 : Nat) ≤ _; omega)
  rw [b0] at k4 h4
  have e4 := f4 _ _ (by simp) e3
  obtain ⟨c2, hc2⟩ : ∃ c2 : Chk, c2 = ⟨1, 2147483649, 1, 0, ⟨1, []⟩⟩ := ⟨_, rfl⟩
  have b2 : (Dsk.new 64).swrite c2 = (141, Dsk.new 64) := swrite_bad fun q => absurd q.2.2.2.1 (by rw [hc2]; decide)
  have hg2 : c2.good := by
    have := mt_good (g := 1) ⟨by omega, by omega⟩
    rw [hc2]
    exact ⟨this.1, ⟨(show (0 : Int) ≤ 2147483649 by decide), (show (2147483649 : Int) ≤ 4294967295 by decide)⟩, this.2.2⟩
  have hk2 : chkOf M4 [.i .u64 1, .i .u32 2147483649, .i .u64 1, .i .i64 0, .i .u64 1, .sn] = some c2 := by rw [hc2]; rfl
  obtain ⟨M5, k5, h5, f5⟩ := h4.write hk2 hg2 (by rw [b2]; show (0 : Nat) ≤ _; omega)
  rw [b2] at k5 h5
  have hem : ∀ (g : Int) U, emptyS [.i .u64 g] U = some (.ag (mtL g), U) := fun g U => rfl
  have hal : ∀ U, aliveS [] U = some (.b true, U) := fun U => rfl
  have hS5 := h5.ext
  have hl1 : M1.length = M0.length + 1 := by rw [hM1, List.length_append]; rfl
  rw [hl1] at hnew2 k2
  rw [hM1] at hnew2
  rw [hM3] at k4
  have hnew2 : newS [.i .i64 0] (M0 ++ [Blk.cells [.i .u64 0, .i .u32 0, .i .u64 0, .i .i64 0, .i .u64 0, .sn] 0 none true]) = some (.p (M0.length + 2) 0 0, M2) := hnew2
  have k2 : swreadS [.p (M0.length + 2) 0 0] M2 = some (outX M2 (noChk, false)) := k2
  simp only [outX, noChk, retX, retM] at k1 k2
  simp only [mtL] at k4 hem
  refine fn_of_wp f3 rfl (W_sound oNm_ok mixed _ _ _ _ _ ?_)
  simp (maxSteps := 1000000) (disch := omega) only [c3, orc_cons, hnew, k1, hnew2, k2, hem, hal, k4, e4, k5, go_sem, Option.map_none, Option.map_some, ↓reduceIte, Nat.reduceBEq, Nat.reduceAdd, Nat.reduceSub, Nat.reduceEqDiff, Nat.reduceLeDiff, Nat.reduceMul, Nat.reduceLT, Int.reduceLT, Int.reduceLE, Int.reduceAdd, Int.reduceSub, Int.reduceMul, Int.reduceNeg, Int.reduceEq, Int.reduceNe, Int.reduceToNat, decide_true, decide_false, iaddr_i, iaddr_sl_i, not_true_eq_false, not_false_eq_true, reduceCtorEq, ne_eq, forall_const, false_imp_iff, true_imp_iff, implies_true, Int.cast_ofNat_Int, Int.natCast_zero, Int.natCast_one, Int.add_zero, Int.zero_add]
  exact wkv_dropP hS5 rfl
end Go.Proofs.Ytkfobkfhbkicaaa

