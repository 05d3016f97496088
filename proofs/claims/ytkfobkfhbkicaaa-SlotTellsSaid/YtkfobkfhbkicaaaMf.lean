/- Proved here: what the law of this claim leans on (an evaluator of the model's code, contracts of functions). No condition. -/
import Derived.Test.YtkfobkfhbkicaaaMe
import Derived.Test.YtkfobkfhbkicaaaMd
namespace Go.Proofs.Ytkfobkfhbkicaaa
open Go.RowKit
set_option linter.unusedSimpArgs false
set_option linter.unusedVariables false
set_option maxRecDepth 10000

/-- A disk in the memory 'M', apart from what was there ('S') and from some blocks ('F'). -/
def Held (S M : Mem) (i ist : Nat) (D : Dsk) (F : List Nat) : Prop :=
  ∃ px, DAt M i ist px D ∧ D.ok ∧ D.pe.length ≤ 700000 ∧ S <+: M ∧ ∀ j, j < S.length ∨ j ∈ F → j < M.length ∧ ¬ Ownd i ist px j
section
variable {S M : Mem} {i ist : Nat} {D : Dsk} {F : List Nat}
theorem Held.ext (h : Held S M i ist D F) : S <+: M := h.choose_spec.2.2.2.1
theorem ownd_lt {px : AV} (h : DAt M i ist px D) {j : Nat} (ho : Ownd i ist px j) : j < M.length := by
  rcases ho with rfl | rfl | r
  · exact (List.getElem?_eq_some_iff.1 h.1).1
  · exact (List.getElem?_eq_some_iff.1 h.2.1).1
  · rcases h.2.2 with ⟨_, rfl⟩ | ⟨_, ip, v, rfl, h5⟩
    · cases r
    · have := (List.getElem?_eq_some_iff.1 h5).1
      simp [offB] at r; omega
theorem Held.grow (h : Held S M i ist D F) (L : Mem) : Held S (M ++ L) i ist D F := by
  obtain ⟨px, h1, h2, h3, h4, h5⟩ := h
  exact ⟨px, h1.grow L, h2, h3, ext_more h4 L, fun j hj => ⟨by rw [List.length_append]; have := (h5 j hj).1; omega, (h5 j hj).2⟩⟩
theorem Held.push (h : Held S M i ist D F) (B : Blk) (L : Mem) : Held S (M ++ B :: L) i ist D (M.length :: F) := by
  obtain ⟨px, h1, h2, h3, h4, h5⟩ := h
  refine ⟨px, h1.grow _, h2, h3, ext_more h4 _, fun j hj => ?_⟩
  by_cases e : j = M.length
  · subst e
    exact ⟨by simp, fun q => absurd (ownd_lt h1 q) (Nat.lt_irrefl _)⟩
  · have := h5 j (by
      rcases hj with hj | hj
      · exact .inl hj
      · rcases List.mem_cons.1 hj with hj | hj
        · exact absurd hj e
        · exact .inr hj)
    exact ⟨by rw [List.length_append]; omega, this.2⟩
theorem Held.sub {F' : List Nat} (h : Held S M i ist D F) (hF : ∀ j ∈ F', j ∈ F) : Held S M i ist D F' := by
  obtain ⟨px, h1, h2, h3, h4, h5⟩ := h
  exact ⟨px, h1, h2, h3, h4, fun j hj => h5 j (hj.imp id (hF j))⟩
/-- A block of our own turns. -/
theorem Held.set (h : Held S M i ist D F) {j : Nat} {B B' : Blk} (hj : j ∈ F) (hS : S.length ≤ j) (hB : M[j]? = some B) : Held S (M.set j B') i ist D F := by
  obtain ⟨px, h1, h2, h3, h4, h5⟩ := h
  have hno := (h5 j (.inr hj)).2
  have n1 : j ≠ i := fun e => hno (.inl e)
  have n2 : j ≠ ist := fun e => hno (.inr (.inl e))
  refine ⟨px, ⟨by rw [at_set_ne n1]; exact h1.1, by rw [at_set_ne n2]; exact h1.2.1, ?_⟩, h2, h3, ext_set h4 hS _, fun k hk => by rw [List.length_set]; exact h5 k hk⟩
  rcases h1.2.2 with q | ⟨q, ip, v, rfl, h6⟩
  · exact .inl q
  · refine .inr ⟨q, ip, v, rfl, ?_⟩
    rw [at_set_ne (fun e => hno (.inr (.inr (by rw [e]; simp [offB]))))]; exact h6
theorem held_op {px px' : AV} {M' : Mem} {D' : Dsk} (h1 : DAt M i ist px D) (h4 : S <+: M) (h5 : ∀ j, j < S.length ∨ j ∈ F → j < M.length ∧ ¬ Ownd i ist px j) (h1' : DAt M' i ist px' D') (hop : DOp M M' i ist px px') (hok : D'.ok) (hfew : D'.pe.length ≤ 700000) :
    Held S M' i ist D' F ∧ ∀ j B, j ∈ F → M[j]? = some B → M'[j]? = some B := by
  refine ⟨⟨px', h1', hok, hfew, ?_, fun j hj => ⟨Nat.lt_of_lt_of_le (h5 j hj).1 hop.len, fun q => (h5 j hj).2 (hop.own j (h5 j hj).1 q)⟩⟩, fun j B hj hB => hop.keep j B hB (h5 j (.inr hj)).2⟩
  refine List.prefix_iff_getElem?.2 fun k hk => ?_
  exact hop.keep k _ (List.prefix_iff_getElem?.1 h4 k hk) (h5 k (.inl hk)).2
theorem Held.write (h : Held S M i ist D F) {cs : List AV} {c : Chk} (hc : chkOf M cs = some c) (hg : c.good) (hpe : (D.swrite c).2.pe.length ≤ 700000) :
    ∃ M', swriteS [.p i 0 0, .ag cs] M = some (.i .i64 (D.swrite c).1, M') ∧ Held S M' i ist (D.swrite c).2 F ∧ ∀ j B, j ∈ F → M[j]? = some B → M'[j]? = some B := by
  obtain ⟨px, h1, h2, h3, h4, h5⟩ := h
  obtain ⟨M', px', g1, g2, g3, g4⟩ := swrite_eq h1 h2 h3 hc hg
  obtain ⟨k1, k2⟩ := held_op h1 h4 h5 g2 g3 g4 hpe
  exact ⟨M', g1, k1, k2⟩
theorem Held.brk (h : Held S M i ist D F) {n : Int} (hn : n ≤ 9223372036854775807) : ∃ M', breakS [.p i 0 0, .i .i64 n] M = some (.tu [], M') ∧ Held S M' i ist (D.brk n) F ∧ ∀ j B, j ∈ F → M[j]? = some B → M'[j]? = some B := by
  obtain ⟨px, h1, h2, h3, h4, h5⟩ := h
  obtain ⟨M', g1, g2, g3⟩ := break_eq h1 n
  obtain ⟨k1, k2⟩ := held_op h1 h4 h5 g2 g3 ⟨h2.wf, h2.few, by show max n (-1) ≤ _; omega, h2.big⟩ h3
  exact ⟨M', g1, k1, k2⟩
theorem Held.crash (h : Held S M i ist D F) {x : AV} {l : List Bool} (hl : lstV boolE M x = some l) (hoff : offB x ist = true) (h1 : x.one = true) : ∃ M', dCrashS [.p i 0 0, x] M = some (.tu [], M') ∧ Held S M' i ist (D.crash l) F ∧ ∀ j B, j ∈ F → M[j]? = some B → M'[j]? = some B := by
  obtain ⟨px, g1, g2, g3, g4, g5⟩ := h
  obtain ⟨M', k1, k2, k3, k4⟩ := crash_eq g1 g2 hl hoff h1
  obtain ⟨m1, m2⟩ := held_op g1 g4 g5 k2 k3 k4 (by show (0 : Nat) ≤ _; omega)
  exact ⟨M', k1, m1, m2⟩
theorem Held.read (h : Held S M i ist D F) (hb : D.by_) : swreadS [.p i 0 0] M = some (outX M D.last) := by
  obtain ⟨px, h1, h2, h3, h4, h5⟩ := h
  exact swread_eq h1 h2 h3 hb
theorem Held.len (h : Held S M i ist D F) : lenS [.p i 0 0] M = some (.i .i64 D.st.length, M) := by
  obtain ⟨px, h1, h2, h3, h4, h5⟩ := h
  exact len_eq h1
end
theorem new_held (S0 S : Mem) (h : S0 <+: S) (n : Int) (F : List Nat) (hF : ∀ j ∈ F, j < S.length) : Held S0 (S ++ [stBlk (List.replicate (secsN n) zSec), .cells (newHead S (secsN n)) 0 none true]) (S.length + 1) S.length (Dsk.new n) F := by
  obtain ⟨h1, h2⟩ := new_eq (S := S) n
  refine ⟨.sn, h1, h2, by show (0 : Nat) ≤ _; omega, ext_more h _, fun j hj => ?_⟩
  have hlt : j < S.length := by
    rcases hj with hj | hj
    · exact Nat.lt_of_lt_of_le hj h.length_le
    · exact hF j hj
  refine ⟨by rw [List.length_append]; omega, ?_⟩
  rintro (q | q | q)
  · omega
  · omega
  · cases q

/-! ### A checkpoint of an empty book -/
def mtC (g : Int) : Chk := ⟨g, 1, 1, 0, ⟨1, []⟩⟩
def mtL (g : Int) : List AV := [.i .u64 g, .i .u32 1, .i .u64 1, .i .i64 0, .i .u64 1, .sn]
theorem mt_chk (M : Mem) (g : Int) : chkOf M (mtL g) = some (mtC g) := rfl
theorem mt_good {g : Int} (h : u64 g) : (mtC g).good := ⟨h, ⟨(show (0 : Int) ≤ 1 by decide), (show (1 : Int) ≤ 4294967295 by decide)⟩, ⟨(show (0 : Int) ≤ 1 by decide), (show (1 : Int) ≤ 18446744073709551615 by decide)⟩,
  ⟨(show (-9223372036854775808 : Int) ≤ 0 by decide), (show (0 : Int) ≤ 9223372036854775807 by decide)⟩, ⟨(show (0 : Int) ≤ 1 by decide), (show (1 : Int) ≤ 18446744073709551615 by decide)⟩, (show (0 : Nat) ≤ 1000000 by decide), fun x hx => by cases hx⟩
theorem mt_book : Bk.ok ⟨1, []⟩ := ⟨by decide, by decide, ⟨by decide, fun i h => absurd h (Nat.not_lt_zero _)⟩, fun x hx => by cases hx⟩
theorem mt_ok {g : Int} (h : valQ g) : (mtC g).ok 64 := ⟨(show segBad 64 0 = false by decide), h, ⟨(show (1 : Int) ≤ 1 by decide), (show (1 : Int) ≤ 281474976710656 by decide)⟩, (show (1 : Int) ≤ 2147483648 by decide), mt_book⟩
def emptyS : Spec := fun args S => match args with
  | [.i .u64 g] => some (.ag (mtL g), S)
  | _ => none
theorem empty_ok : SpecOK Try.prog 8 emptyS := by
  intro args S x S' h
  simp only [emptyS] at h
  split at h
  · rename_i g
    cases h
    refine fn_of_wp f8 rfl (W_sound none_ok mixed _ _ _ _ _ ?_)
    simp (maxSteps := 1000000) (disch := omega) only [c8, go_sem]
    exact wkv_drop rfl
  · cases h
theorem sec64 : secsN 64 = 64 := by decide
theorem swrite_dead {D : Dsk} {c : Chk} (h1 : D.left = 0) (h2 : D.down = false) (hp : D.pe = []) (hg : c.good) (ho : c.ok D.st.length) : D.swrite c = (72, { D with down := true }) := by
  have hm := Chk.many_eq hg ho
  have hn : 64 ≤ (D.st.length : Int) := by have := of_decide_eq_false ho.1; omega
  have ha : 0 ≤ slotF c.gen ∧ slotF c.gen ≤ 16 := by unfold slotF; omega
  unfold Dsk.swrite
  rw [if_pos ho]
  have hl := Chk.secs_len (c := c)
  cases hs : c.secs with
  | nil => rw [hs] at hl; simp at hl; omega
  | cons s l =>
    have hw : D.write (slotF c.gen + ((0 : Nat) : Int)) s = (72, { D with down := true }) := by
      unfold Dsk.write
      rw [if_pos ⟨by omega, by omega⟩]
      have hact : D.act = (72, { D with down := true }) := by
        unfold Dsk.act actF
        rw [h1, h2]
        simp
      rw [hact]; simp
    simp only [Dsk.wrs, hw]
    rw [if_neg (by omega)]
theorem crash_calm {D : Dsk} (hp : D.pe = []) (l : List Bool) : D.crash l = { D with left := -1, down := false } := by
  unfold Dsk.crash Dsk.keep
  rw [hp]
  obtain ⟨st, pe, left, down⟩ := D
  simp only at hp
  subst hp; rfl
/-- The example's disk. -/
theorem alive_disk : ∃ D1 D2 : Dsk, (Dsk.new 64).swrite (mtC 1) = (0, D1) ∧ D1.swrite (mtC 2) = (0, D2) ∧ D1.pe = [] ∧ D2.pe = [] ∧ D2.last = (mtC 2, true) ∧ D2.by_ ∧ (D2.brk 0).swrite (mtC 3) = (72, { D2.brk 0 with down := true }) ∧ ({ D2.brk 0 with down := true } : Dsk).crash [] = D2 := by
  have g : ∀ n : Int, 1 ≤ n → n ≤ 3 → (mtC n).good := fun n h1 h2 => mt_good ⟨by omega, by omega⟩
  have o : ∀ n : Int, 1 ≤ n → n ≤ 3 → (mtC n).ok 64 := fun n h1 h2 => mt_ok ⟨by omega, by omega⟩
  have l0 : (Dsk.new 64).st.length = 64 := by show (List.replicate (secsN 64) zSec).length = 64; rw [List.length_replicate, sec64]
  have o1 : (mtC 1).ok (Dsk.new 64).st.length := by rw [l0]; exact o 1 (by omega) (by omega)
  obtain ⟨a1, a2, a3, a4, a5⟩ := swrite_slots (new_calm 64) (g 1 (by omega) (by omega)) o1
  have b1 := swrite_by (new_calm 64) (new_by 64) (g 1 (by omega) (by omega))
  obtain ⟨D1, hD1⟩ : ∃ D1, D1 = ((Dsk.new 64).swrite (mtC 1)).2 := ⟨_, rfl⟩
  rw [← hD1] at a2 a3 a4 a5 b1
  have o2 : (mtC 2).ok D1.st.length := by rw [a3, l0]; exact o 2 (by omega) (by omega)
  obtain ⟨c1, c2, c3, c4, c5⟩ := swrite_slots a2 (g 2 (by omega) (by omega)) o2
  have b2 := swrite_by a2 b1 (g 2 (by omega) (by omega))
  obtain ⟨D2, hD2⟩ : ∃ D2, D2 = (D1.swrite (mtC 2)).2 := ⟨_, rfl⟩
  rw [← hD2] at c2 c3 c4 c5 b2
  have s1 : slotF (mtC 1).gen = 16 := by decide
  have s2 : slotF (mtC 2).gen = 0 := by decide
  rw [s1] at a4
  rw [s2] at c4 c5
  have c5 : D2.one 16 = D1.one 16 := c5
  rw [a4] at c5
  refine ⟨D1, D2, by rw [hD1, ← a1], by rw [hD2, ← c1], a2.pe, c2.pe, ?_, b2, ?_, ?_⟩
  · rw [last_ab, c4, c5]
    have e1 : stepC (noChk, false) (mtC 2, true) = (mtC 2, true) := by
      unfold stepC; rw [if_pos ⟨rfl, by decide⟩]
    have e2 : stepC (mtC 2, true) (mtC 1, true) = (mtC 2, true) := by
      unfold stepC; rw [if_neg (fun q => absurd q.2 (by decide))]
    rw [e1, e2]
  · refine swrite_dead (by show max (0 : Int) (-1) = 0; omega) c2.down c2.pe (g 3 (by omega) (by omega)) ?_
    show (mtC 3).ok (D2.st.length : Int)
    rw [c3, a3, l0]; exact o 3 (by omega) (by omega)
  · rw [crash_calm (by exact c2.pe)]
    have q1 := c2.left
    have q2 := c2.down
    obtain ⟨st, pe, left, down⟩ := D2
    simp only at q1 q2
    subst q1; subst q2; rfl
theorem oAl_ok : OK Try.prog (lamOf Try.prog) (orcOf [(6, newS), (8, emptyS), (10, swriteS), (7, swreadS), (22, breakS), (23, dCrashS), (17, ssameS)]) := orc_ok (by simpa using ⟨new_ok, empty_ok, swrite_ok, swread_ok, break_ok, dcrash_ok, ssame_ok⟩)
theorem salive_ok : SpecOK Try.prog 9 aliveS := by
  intro args S x S' h
  unfold aliveS at h
  split at h
  · cases h
    obtain ⟨D1, D2, w1, w2, p1, p2, hlast, hby, w3, hcr⟩ := alive_disk
    have hg : ∀ n : Int, 1 ≤ n → n ≤ 3 → (mtC n).good := fun n h1 h2 => mt_good ⟨by omega, by omega⟩
    have h0 := new_held S S ext_refl 64 [] (fun j hj => by cases hj)
    have hnew : newS [.i .i64 64] S = some (.p (S.length + 1) 0 0, S ++ [stBlk (List.replicate (secsN 64) zSec), .cells (newHead S (secsN 64)) 0 none true]) := rfl
    generalize S ++ [stBlk (List.replicate (secsN 64) zSec), .cells (newHead S (secsN 64)) 0 none true] = M0 at hnew h0
    obtain ⟨M1, k1, h1, _⟩ := h0.write (mt_chk M0 1) (hg 1 (by omega) (by omega)) (by rw [w1]; simp [p1])
    rw [w1] at k1 h1
    obtain ⟨M2, k2, h2, _⟩ := h1.write (mt_chk M1 2) (hg 2 (by omega) (by omega)) (by rw [w2]; simp [p2])
    rw [w2] at k2 h2
    have k3 := h2.read hby
    rw [hlast] at k3
    have h3 := h2.push (.cells (mtL 2) 0 none true) []
    have e3 : (M2 ++ [Blk.cells (mtL 2) 0 none true])[M2.length]? = some (.cells (mtL 2) 0 none true) := by rw [at_app0]; rfl
    generalize hM3 : M2 ++ [Blk.cells (mtL 2) 0 none true] = M3 at h3 e3
    obtain ⟨M4, k4, h4, f4⟩ := h3.brk (n := 0) (by omega)
    have e4 := f4 _ _ (by simp) e3
    obtain ⟨M5, k5, h5, f5⟩ := h4.write (mt_chk M4 3) (hg 3 (by omega) (by omega)) (by rw [w3]; show D2.pe.length ≤ _; rw [p2]; simp)
    rw [w3] at k5 h5
    have e5 := f5 _ _ (by simp) e4
    obtain ⟨M6, k6, h6, f6⟩ := h5.crash (x := .sn) (l := []) rfl rfl rfl
    rw [hcr] at h6
    have e6 := f6 _ _ (by simp) e5
    have k7 := h6.read hby
    rw [hlast] at k7
    have hS6 := h6.ext
    have hsm : ∀ U, ssameS [.ag (mtL 2), .ag (mtL 2)] U = some (.b true, U) := fun U => by
      simp only [ssameS, mt_chk]
      rw [if_pos (by decide)]; simp
    have hem : ∀ (g : Int) U, emptyS [.i .u64 g] U = some (.ag (mtL g), U) := fun g U => rfl
    simp only [outX, mtC, retX, retM] at k3 k7
    refine fn_of_wp f9 rfl (W_sound oAl_ok mixed _ _ _ _ _ ?_)
    simp only [mtL] at hM3 e6 k1 k2 k5 hsm hem
    simp (maxSteps := 1000000) (disch := omega) only [c9, orc_cons, hnew, hem, k1, k2, k3, hM3, k4, k5, k6, k7, at_old e6, hsm, go_sem]
    exact wkv_dropP (ext_more hS6 _) rfl
  · cases h
end Go.Proofs.Ytkfobkfhbkicaaa

namespace Go.Proofs.Ytkfobkfhbkicaaa
open Go.RowKit
set_option linter.unusedVariables false
set_option maxRecDepth 100000

section
variable {H : Type} {enc : TypeId × Value → H} {W : World}

theorem wf_u8 {n : Int} (h : (Lit.int .u8 n).wf = true) : u8 n := by
  simp only [Lit.wf, IntKind.min, IntKind.max, IntKind.signed, IntKind.bits, Bool.and_eq_true] at h
  unfold u8
  simpa using h
theorem wf_u64 {n : Int} (h : (Lit.int .u64 n).wf = true) : u64 n := by
  simp only [Lit.wf, IntKind.min, IntKind.max, IntKind.signed, IntKind.bits, Bool.and_eq_true] at h
  unfold u64
  simpa using h
theorem wf_i64 {n : Int} (h : (Lit.int .i64 n).wf = true) : i64 n := by
  simp only [Lit.wf, IntKind.min, IntKind.max, IntKind.signed, IntKind.bits, Bool.and_eq_true] at h
  unfold i64
  simpa using h

theorem enc_inj {α : Type} {E : Enc α} {a b : α} (h : E.enc a = E.enc b) : a = b := by
  have h1 := E.de a
  rw [h, E.de] at h1
  injection h1 with h1; exact h1.symm

end
end Go.Proofs.Ytkfobkfhbkicaaa

namespace Go.Proofs.Ytkfobkfhbkicaaa
open Go.RowKit
set_option linter.unusedVariables false
set_option maxRecDepth 100000

/-- A checkpoint's cells, its entries not looked at. -/
structure Ckr where
  gen : Int
  epoch : Int
  seq : Int
  seg : Int
  period : Int
  x : AV
def Ckr.enc (r : Ckr) : List AV := [.i .u64 r.gen, .i .u32 r.epoch, .i .u64 r.seq, .i .i64 r.seg, .i .u64 r.period, r.x]
section
variable {H : Type} {enc : TypeId × Value → H} {W : World}

abbrev entSh : List CS := [.int .i64, .int .u8, .int .u8, .int .u8, .int .u8, .int .i64, .int .u64, .int .u64, .int .u64, .int .u64, .int .u64, .int .u64, .int .u64, .int .u64]
theorem rowEnt {cs : List Value} (h : RowIs enc Try.prog W entSh cs) : ∃ a : Ent, cs.map (absV W) = a.enc ∧ a.good := by
  obtain ⟨h1, h2⟩ := h
  match cs, h1 with
  | [x0, x1, x2, x3, x4, x5, x6, x7, x8, x9, x10, x11, x12, x13], _ =>
    obtain ⟨a0, rfl, w0⟩ := h2 0 (by simp) (by simp)
    obtain ⟨a1, rfl, w1⟩ := h2 1 (by simp) (by simp)
    obtain ⟨a2, rfl, w2⟩ := h2 2 (by simp) (by simp)
    obtain ⟨a3, rfl, w3⟩ := h2 3 (by simp) (by simp)
    obtain ⟨a4, rfl, w4⟩ := h2 4 (by simp) (by simp)
    obtain ⟨a5, rfl, w5⟩ := h2 5 (by simp) (by simp)
    obtain ⟨a6, rfl, w6⟩ := h2 6 (by simp) (by simp)
    obtain ⟨a7, rfl, w7⟩ := h2 7 (by simp) (by simp)
    obtain ⟨a8, rfl, w8⟩ := h2 8 (by simp) (by simp)
    obtain ⟨a9, rfl, w9⟩ := h2 9 (by simp) (by simp)
    obtain ⟨a10, rfl, w10⟩ := h2 10 (by simp) (by simp)
    obtain ⟨a11, rfl, w11⟩ := h2 11 (by simp) (by simp)
    obtain ⟨a12, rfl, w12⟩ := h2 12 (by simp) (by simp)
    obtain ⟨a13, rfl, w13⟩ := h2 13 (by simp) (by simp)
    exact ⟨⟨⟨a0, a1, a2, a3, a4, a5, a6, a7, a8, a9, a10, a11, a12⟩, a13⟩, rfl, ⟨wf_i64 w0, ⟨wf_u8 w1, wf_u8 w2, wf_u8 w3, wf_u8 w4⟩, wf_i64 w5, wf_u64 w6, wf_u64 w7, wf_u64 w8, wf_u64 w9, wf_u64 w10, wf_u64 w11, wf_u64 w12⟩, wf_u64 w13⟩
/-- A slice's cell, as a list. -/
theorem cellEnts {v : Value} (h : CellIs enc Try.prog W (.slice 102) v) : ∃ l : List Ent, lstV entE (absS W) (absV W v) = some l ∧ ∀ x ∈ l, x.good := by
  have s2 : shapes Try.prog 20 102 = some entSh := by kernel_rfl
  have c2 : Try.prog.cellsOf 102 = 14 := by kernel_rfl
  obtain ⟨l, hl, hf, _⟩ := lst_of (e := Ent.enc) (sz := 14) c2 (by omega) h (fun cs fuel x ht => let ⟨a, h1, h2⟩ := rowEnt (shapes_ok 20 fuel 102 cs x _ ht s2); ⟨a, h1, rfl⟩)
    (good := Ent.good) (fun cs fuel x a ht he => let ⟨a', h1, h2⟩ := rowEnt (shapes_ok 20 fuel 102 cs x _ ht s2); enc_inj (E := entE) (h1.symm.trans he) ▸ h2)
  exact ⟨l, lst_lstV (E := entE) hl, hf⟩
theorem wf_u32 {n : Int} (h : (Lit.int .u32 n).wf = true) : 0 ≤ n ∧ n ≤ 4294967295 := by
  simp only [Lit.wf, IntKind.min, IntKind.max, IntKind.signed, IntKind.bits, Bool.and_eq_true] at h
  simpa using h
abbrev chkSh : List CS := [.int .u64, .int .u32, .int .u64, .int .i64, .int .u64, .slice 102]
theorem rowChk {cs : List Value} (h : RowIs enc Try.prog W chkSh cs) : ∃ (c : Chk) (x : AV), cs.map (absV W) = c.cells x ∧ lstV entE (absS W) x = some c.book.entries ∧ u64 c.gen ∧ (0 ≤ c.epoch ∧ c.epoch ≤ 4294967295) ∧ u64 c.seq ∧ i64 c.seg ∧ u64 c.book.period ∧ ∀ y ∈ c.book.entries, y.good := by
  obtain ⟨h1, h2⟩ := h
  match cs, h1 with
  | [x0, x1, x2, x3, x4, x5], _ =>
    obtain ⟨a0, rfl, w0⟩ := h2 0 (by simp) (by simp)
    obtain ⟨a1, rfl, w1⟩ := h2 1 (by simp) (by simp)
    obtain ⟨a2, rfl, w2⟩ := h2 2 (by simp) (by simp)
    obtain ⟨a3, rfl, w3⟩ := h2 3 (by simp) (by simp)
    obtain ⟨a4, rfl, w4⟩ := h2 4 (by simp) (by simp)
    obtain ⟨l, hl, hf⟩ := cellEnts (h2 5 (by simp) (by simp))
    exact ⟨⟨a0, a1, a2, a3, ⟨a4, l⟩⟩, absV W x5, rfl, hl, wf_u64 w0, wf_u32 w1, wf_u64 w2, wf_i64 w3, wf_u64 w4, hf⟩
theorem argChk {v : Value} {base : Nat} {d : DataW H} {ps : List MemPlace} (o : Value.okWide Try.prog W .any base 30 v) (h : DataW.Trod enc Try.prog W 0 (fun _ => true) true 30 v d ps) :
    ∃ (c : Chk) (x : AV), absA W v = .ag (c.cells x) ∧ lstV entE (absS W) x = some c.book.entries ∧ u64 c.gen ∧ (0 ≤ c.epoch ∧ c.epoch ≤ 4294967295) ∧ u64 c.seq ∧ i64 c.seg ∧ u64 c.book.period ∧ ∀ y ∈ c.book.entries, y.good := by
  have s0 : shapes Try.prog 20 30 = some chkSh := by kernel_rfl
  obtain ⟨cs, rfl⟩ : ∃ cs, v = .agg cs := by
    unfold Value.okWide at o
    rw [Try.underlying30] at o
    obtain ⟨cs, h, _⟩ := o
    exact ⟨cs, h⟩
  obtain ⟨c, x, h1, h2⟩ := rowChk (arg_row h s0)
  have h1' : cs.toList.map (absV W) = c.cells x := h1
  exact ⟨c, x, by show AV.ag (cs.toList.map (absV W)) = _; rw [h1'], h2⟩
/-- A row of a list of checkpoints. -/
def Ckr.good (S : Mem) (r : Ckr) : Prop := ∃ es, lstV entE S r.x = some es ∧ u64 r.gen ∧ (0 ≤ r.epoch ∧ r.epoch ≤ 4294967295) ∧ u64 r.seq ∧ i64 r.seg ∧ u64 r.period ∧ ∀ y ∈ es, y.good
end
end Go.Proofs.Ytkfobkfhbkicaaa

namespace Go.Proofs.Ytkfobkfhbkicaaa
open Go.RowKit
set_option linter.unusedSimpArgs false
set_option linter.unusedVariables false
set_option maxRecDepth 10000

def sgreatS : Spec := fun args S => match args with
  | [.ag cs] => match chkOf S cs with
    | some c => some (.b (decide (30 < c.book.entries.length)), S)
    | none => none
  | _ => none
theorem sgreat_ok : SpecOK Try.prog 11 sgreatS := by
  intro args S x S' h
  simp only [sgreatS] at h
  split at h
  · rename_i cs
    split at h
    · rename_i c hc
      cases h
      obtain ⟨y, rfl, hl⟩ := chkOf_ok hc
      refine fn_of_wp f11 rfl (W_sound none_ok mixed _ _ _ _ _ ?_)
      have hll := lst_len hl
      by_cases hg : 30 < c.book.entries.length
      · have hI : (30 : Int) < c.book.entries.length := by omega
        rw [decide_eq_true hg]
        simp (maxSteps := 1000000) (disch := omega) only [c11, hll, hI, go_sem]
        exact wkv_drop rfl
      · have hI : ¬ (30 : Int) < c.book.entries.length := by omega
        rw [decide_eq_false hg]
        simp (maxSteps := 1000000) (disch := omega) only [c11, hll, hI, go_sem]
        exact wkv_drop rfl
    · cases h
  · cases h
theorem sgreat_eq {S : Mem} {c : Chk} {x : AV} (hl : lstV entE S x = some c.book.entries) : sgreatS [.ag [.i .u64 c.gen, .i .u32 c.epoch, .i .u64 c.seq, .i .i64 c.seg, .i .u64 c.book.period, x]] S = some (.b (decide (30 < c.book.entries.length)), S) := by
  simp only [sgreatS, chkOf_mk hl]
/-- What a record holds: its sequence, epoch, payload, and the error. -/
noncomputable def recV (n : Int) (c : Chk) : Int × Int × List Int × Int := if c.ok n then (c.gen, c.epoch, c.pay, 0) else (0, 0, [], 141)
theorem record_val (M : Mem) {n : Int} {c : Chk} (hg : c.good) {q ep e : Int} {P : List Int} (hv : recV n c = (q, ep, P, e)) : ∃ X M', recordF M n c = (.tu [.ag [.i .u64 q, .i .u32 ep, X], .i .i64 e], M') ∧ lstV byteE M' X = some P ∧ M <+: M' ∧ X.one = true ∧ P.all (fun c => decide (u8 c)) = true := by
  unfold recV at hv
  unfold recordF
  split at hv
  · rename_i ho
    have hsg := seg_pos ho.1
    simp only [Prod.mk.injEq] at hv
    obtain ⟨rfl, rfl, rfl, rfl⟩ := hv
    rw [if_pos ho]
    refine ⟨_, _, rfl, retX_lst, retM_ext, one_of_accG (E := byteE) (retX_acc (S := M)), List.all_eq_true.2 fun x hx => decide_eq_true ?_⟩
    unfold Chk.pay at hx
    rcases List.mem_append.1 hx with hx | hx
    · exact lebs_u8 (by simp; exact ⟨hg.2.2.1, by omega, by omega⟩) x hx
    · exact lebs_u8 (bns_u64 hg.2.2.2.2 ho.2.2.2.2) x hx
  · rename_i ho
    simp only [Prod.mk.injEq] at hv
    obtain ⟨rfl, rfl, rfl, rfl⟩ := hv
    rw [if_neg ho]
    exact ⟨.sn, M, rfl, rfl, ext_refl, rfl, rfl⟩
theorem oTl_ok : OK Try.prog (lamOf Try.prog) (orcOf [(6, newS), (9, aliveS), (11, sgreatS), (12, recordS), (13, rrecordS), (14, lenS), (15, srightS), (16, rsrightS), (17, ssameS), (18, ssameS), (19, rrsameS)]) :=
  orc_ok (by simpa using ⟨new_ok, salive_ok, sgreat_ok, record_ok, rrecord_ok, len_ok, sright_ok, rsright_ok, ssame_ok, rssame_ok, rrsame_ok⟩)
set_option maxHeartbeats 2000000 in
theorem tells_ok (S : Mem) (n : Int) (a b : Chk) (xa xb : AV) (hla : lstV entE S xa = some a.book.entries) (hlb : lstV entE S xb = some b.book.entries)
    (ga : u64 a.gen ∧ (0 ≤ a.epoch ∧ a.epoch ≤ 4294967295) ∧ u64 a.seq ∧ i64 a.seg ∧ u64 a.book.period ∧ ∀ y ∈ a.book.entries, y.good) :
    FnOK Try.prog 4 [.i .i64 n, .ag (a.cells xa), .ag (b.cells xb)] S (.b true) S := by
  have hal : ∀ U, aliveS [] U = some (.b true, U) := fun U => rfl
  have hgA := fun L => sgreat_eq (lstV_grow hla L)
  have hgB := fun L => sgreat_eq (lstV_grow hlb L)
  refine fn_of_wp f4 rfl (W_sound oTl_ok mixed _ _ _ _ _ ?_)
  by_cases h1 : 30 < a.book.entries.length
  · rw [decide_eq_true h1] at hgA
    simp (maxSteps := 1000000) (disch := omega) only [c4, Chk.cells, orc_cons, hal, hgA, go_sem]
    exact wkv_drop rfl
  · rw [decide_eq_false h1] at hgA
    by_cases h2 : 30 < b.book.entries.length
    · rw [decide_eq_true h2] at hgB
      simp (maxSteps := 1000000) (disch := omega) only [c4, Chk.cells, orc_cons, hal, hgA, hgB, go_sem]
      exact wkv_drop rfl
    · rw [decide_eq_false h2] at hgB
      by_cases h3 : 600 < n
      · simp (maxSteps := 1000000) (disch := omega) only [c4, Chk.cells, orc_cons, hal, hgA, hgB, h3, go_sem]
        exact wkv_drop rfl
      · have hgood : a.good := ⟨ga.1, ga.2.1, ga.2.2.1, ga.2.2.2.1, ga.2.2.2.2.1, by omega, ga.2.2.2.2.2⟩
        obtain ⟨Sb, hSb⟩ : ∃ Sb, Sb = S ++ [Blk.cells [.i .u64 a.gen, .i .u32 a.epoch, .i .u64 a.seq, .i .i64 a.seg, .i .u64 a.book.period, xa] 0 none true, .cells [.i .u64 b.gen, .i .u32 b.epoch, .i .u64 b.seq, .i .i64 b.seg, .i .u64 b.book.period, xb] 0 none true] := ⟨_, rfl⟩
        have hSSb : S <+: Sb := by rw [hSb]; exact ext_app _
        have hA0 : Sb[S.length]? = some (.cells [.i .u64 a.gen, .i .u32 a.epoch, .i .u64 a.seq, .i .i64 a.seg, .i .u64 a.book.period, xa] 0 none true) := by rw [hSb, at_app0]; rfl
        have hB0 : Sb[S.length + 1]? = some (.cells [.i .u64 b.gen, .i .u32 b.epoch, .i .u64 b.seq, .i .i64 b.seg, .i .u64 b.book.period, xb] 0 none true) := by rw [hSb, at_app]; rfl
        have hd := new_held S Sb hSSb n [] (fun j hj => by cases hj)
        have hnew : newS [.i .i64 n] Sb = some (.p (Sb.length + 1) 0 0, Sb ++ [stBlk (List.replicate (secsN n) zSec), .cells (newHead Sb (secsN n)) 0 none true]) := rfl
        have hSM0 : Sb <+: Sb ++ [stBlk (List.replicate (secsN n) zSec), .cells (newHead Sb (secsN n)) 0 none true] := ext_app _
        generalize Sb ++ [stBlk (List.replicate (secsN n) zSec), .cells (newHead Sb (secsN n)) 0 none true] = M0 at hnew hd hSM0
        have hlen := hd.len
        generalize ((Dsk.new n).st.length : Int) = m at hlen
        obtain ⟨q, ep, P, e, hv⟩ : ∃ q ep P e, recV m a = (q, ep, P, e) := ⟨_, _, _, _, rfl⟩
        have hlA := fun L => lst_ext hla (hSSb.trans (ext_more hSM0 L))
        have hlB := fun L => lst_ext hlb (hSSb.trans (ext_more hSM0 L))
        -- the program's record
        obtain ⟨X1, M1, r1, l1, x1, o1, hu⟩ := record_val M0 hgood hv
        have k1 : recordS [.p (Sb.length + 1) 0 0, .ag [.i .u64 a.gen, .i .u32 a.epoch, .i .u64 a.seq, .i .i64 a.seg, .i .u64 a.book.period, xa]] M0 = some (.tu [.ag [.i .u64 q, .i .u32 ep, X1], .i .i64 e], M1) := by
          have hl0 := hlA []
          rw [List.append_nil] at hl0
          simp only [recordS, hlen, chkOf_mk hl0]
          rw [if_pos hgood, r1]
        have c1 := cells_one o1
        obtain ⟨B8, hB8⟩ : ∃ B8 : Blk, B8 = .cells [.i .u64 q, .i .u32 ep, X1] 0 none true := ⟨_, rfl⟩
        have x18 : M0 <+: M1 ++ [B8] := ext_more x1 _
        have hlen1 : ∀ U, lenS [.p (Sb.length + 1) 0 0] (M1 ++ U) = some (.i .i64 m, M1 ++ U) := fun U => by
          obtain ⟨T, hT⟩ := x1
          rw [← hT, List.append_assoc]; exact len_grow hlen _
        -- the document's
        obtain ⟨X2, M2, r2, l2, x2, o2, _⟩ := record_val (M1 ++ [B8]) hgood hv
        have k2 : rrecordS [.i .i64 m, .ag [.i .u64 a.gen, .i .u32 a.epoch, .i .u64 a.seq, .i .i64 a.seg, .i .u64 a.book.period, xa]] (M1 ++ [B8]) = some (.tu [.ag [.i .u64 q, .i .u32 ep, X2], .i .i64 e], M2) := by
          have hl0 : lstV entE (M1 ++ [B8]) xa = some a.book.entries := lst_ext hla (hSSb.trans (hSM0.trans x18))
          simp only [rrecordS, chkOf_mk hl0]
          rw [if_pos hgood, r2]
        have c2 := cells_one o2
        have x02 : M0 <+: M2 := x18.trans x2
        have hlen2 : ∀ U, lenS [.p (Sb.length + 1) 0 0] (M2 ++ U) = some (.i .i64 m, M2 ++ U) := fun U => by
          obtain ⟨T, hT⟩ := x02
          rw [← hT, List.append_assoc]; exact len_grow hlen _
        have eA1 := fun U => at_old (L := U) (at_pre x1 (at_pre hSM0 hA0))
        have eA10 := at_pre x1 (at_pre hSM0 hA0)
        have eA0 := at_pre hSM0 hA0
        have eA2 := fun U => at_old (L := U) (at_pre x02 (at_pre hSM0 hA0))
        have eB2 := fun U => at_old (L := U) (at_pre x02 (at_pre hSM0 hB0))
        have e82 : ∀ U, (M2 ++ U)[M1.length]? = some B8 := fun U => at_old (at_pre x2 (by rw [at_app0]; rfl))
        have hlA2 := fun U => lst_ext hla (hSSb.trans (hSM0.trans (ext_more x02 U)))
        have hlB2 := fun U => lst_ext hlb (hSSb.trans (hSM0.trans (ext_more x02 U)))
        have hR1 : ∀ U, srightS [.p (Sb.length + 1) 0 0, .ag [.i .u64 a.gen, .i .u32 a.epoch, .i .u64 a.seq, .i .i64 a.seg, .i .u64 a.book.period, xa]] (M2 ++ U) = some (.b (decide (a.ok m)), M2 ++ U) := fun U => by
          simp only [srightS, hlen2, chkOf_mk (hlA2 U)]
          rw [if_pos hgood.fits]
        have hR2 : ∀ U, rsrightS [.i .i64 m, .ag [.i .u64 a.gen, .i .u32 a.epoch, .i .u64 a.seq, .i .i64 a.seg, .i .u64 a.book.period, xa]] (M2 ++ U) = some (.b (decide (a.ok m)), M2 ++ U) := fun U => by
          simp only [rsrightS, chkOf_mk (hlA2 U)]
          rw [if_pos hgood.fits]
        have hs : ∀ U, ssameS [.ag [.i .u64 a.gen, .i .u32 a.epoch, .i .u64 a.seq, .i .i64 a.seg, .i .u64 a.book.period, xa], .ag [.i .u64 b.gen, .i .u32 b.epoch, .i .u64 b.seq, .i .i64 b.seg, .i .u64 b.book.period, xb]] (M2 ++ U) = some (.b (decide (a = b)), M2 ++ U) := fun U => by
          simp only [ssameS, chkOf_mk (hlA2 U), chkOf_mk (hlB2 U)]
          rw [if_pos (by show a.book.entries.length ≤ _; omega)]
        have hrs : ∀ U, rrsameS [.ag [.i .u64 q, .i .u32 ep, X1], .ag [.i .u64 q, .i .u32 ep, X2]] (M2 ++ U) = some (.b true, M2 ++ U) := fun U => by
          have p1 : lstV byteE (M2 ++ U) X1 = some P := lst_ext l1 ((ext_app _).trans (ext_more x2 U))
          have p2 := lstV_grow l2 U
          simp only [rrsameS, p1, p2]
          rw [if_pos ⟨hu, hu⟩]; simp
        generalize decide (a.ok m) = okb at hR1 hR2
        generalize decide (a = b) = smb at hs
        rw [hB8] at k2 e82
        have hSbl : Sb.length = S.length + 2 := by rw [hSb, List.length_append]; rfl
        rw [hSbl] at k1 hlen1 hlen2 hR1 hnew
        rw [hSb] at hnew
        have hS2 : S <+: M2 := hSSb.trans (hSM0.trans x02)
        cases okb <;> cases smb <;> (
          simp (maxSteps := 1000000) (disch := omega) only [c4, Chk.cells, orc_cons, hal, hgA, hgB, h3, hnew, eA0, k1, o1, c1, eA1, eA10, hlen1, k2, o2, c2, hlen2, eA2, eB2, e82, hR1, hR2, hs, hrs, go_sem]
          exact wkv_dropP (ext_more hS2 _) rfl)
end Go.Proofs.Ytkfobkfhbkicaaa

namespace Go.Proofs.Ytkfobkfhbkicaaa
open Go.RowKit
set_option linter.unusedVariables false
set_option maxRecDepth 100000
section
variable {H : Type} {enc : TypeId × Value → H}
theorem walkSlotTells (W : World) (v0 v1 v2 : Value) {base : Nat} (o0 : Value.okWide Try.prog W .any base 3 v0) (o1 : Value.okWide Try.prog W .any base 30 v1) (o2 : Value.okWide Try.prog W .any base 30 v2) {d0 d1 d2 : DataW H} {p0 p1 p2 : List MemPlace}
    (h0 : DataW.Trod enc Try.prog W 0 (fun _ => true) true 3 v0 d0 p0) (h1 : DataW.Trod enc Try.prog W 0 (fun _ => true) true 30 v1 d1 p1) (h2 : DataW.Trod enc Try.prog W 0 (fun _ => true) true 30 v2 d2 p2) :
    Calls Try.prog 4 #[v0, v1, v2] W fun e w' => e = .returned (.bool true) ∧ Below W.heap.size W w' := by
  obtain ⟨n, rfl, _, _, hn⟩ := Go.ChangeShapes.open_int Try.underlying3 o0 h0
  obtain ⟨a, xa, e1, la, ga⟩ := argChk o1 h1
  obtain ⟨b, xb, e2, lb, gb⟩ := argChk o2 h2
  refine calls_of_fnOK (S' := absS W) ?_
  show FnOK Try.prog _ [AV.i .i64 n, absA W v1, absA W v2] _ _ _
  rw [e1, e2]
  exact tells_ok _ n a b xa xb la lb ga
end
end Go.Proofs.Ytkfobkfhbkicaaa

