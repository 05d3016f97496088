/- Proved here: what the law of this claim leans on (an evaluator of the model's code, contracts of functions). No condition. -/
import Derived.Test.YtkfobkfhbkicaaaGreatMe
import Derived.Test.YtkfobkfhbkicaaaGreatMd
set_option linter.unusedSimpArgs false
set_option linter.unusedVariables false
namespace Go.Proofs.YtkfobkfhbkicaaaGreat
open Go.RowKit
set_option maxRecDepth 10000
def Held (S M : Mem) (i ist : Nat) (D : Dsk) (F : List Nat) : Prop :=
 ∃ px, DAt M i ist px D ∧ D.ok ∧ D.pe.length ≤ 700000 ∧ S <+: M ∧ ∀ j, j < S.length ∨ j ∈ F → j < M.length ∧ ¬ Ownd i ist px j
section
variable {S M : Mem} {i ist : Nat} {D : Dsk} {F : List Nat}
theorem Held.ext (h : Held S M i ist D F) : S <+: M := h.choose_spec.2.2.2.1
theorem ownd_lt {px : AV} (h : DAt M i ist px D) {j : Nat} (ho : Ownd i ist px j) : j < M.length := by
 rcases ho with rfl | rfl | r
 ·exact (List.getElem?_eq_some_iff.1 h.1).1
 ·exact (List.getElem?_eq_some_iff.1 h.2.1).1
 ·rcases h.2.2 with ⟨_, rfl⟩ | ⟨_, ip, v, rfl, h5⟩
  ·cases r
  ·have := (List.getElem?_eq_some_iff.1 h5).1
   simp [offB] at r; omega
theorem Held.grow (h : Held S M i ist D F) (L : Mem) : Held S (M ++ L) i ist D F := by
 obtain ⟨px, h1, h2, h3, h4, h5⟩ := h
 exact ⟨px, h1.grow L, h2, h3, ext_more h4 L, fun j hj => ⟨by rw [List.length_append]; have := (h5 j hj).1; omega, (h5 j hj).2⟩⟩
theorem Held.push (h : Held S M i ist D F) (B : Blk) (L : Mem) : Held S (M ++ B :: L) i ist D (M.length :: F) := by
 obtain ⟨px, h1, h2, h3, h4, h5⟩ := h
 refine ⟨px, h1.grow _, h2, h3, ext_more h4 _, fun j hj => ?_⟩
 by_cases e : j = M.length
 ·subst e
  exact ⟨by simp, fun q => absurd (ownd_lt h1 q) (Nat.lt_irrefl _)⟩
 ·have := h5 j (by
   rcases hj with hj | hj
   ·exact .inl hj
   ·rcases List.mem_cons.1 hj with hj | hj
    ·exact absurd hj e
    ·exact .inr hj)
  exact ⟨by rw [List.length_append]; omega, this.2⟩
theorem Held.sub {F' : List Nat} (h : Held S M i ist D F) (hF : ∀ j ∈ F', j ∈ F) : Held S M i ist D F' := by
 obtain ⟨px, h1, h2, h3, h4, h5⟩ := h
 exact ⟨px, h1, h2, h3, h4, fun j hj => h5 j (hj.imp id (hF j))⟩
theorem Held.set (h : Held S M i ist D F) {j : Nat} {B B' : Blk} (hj : j ∈ F) (hS : S.length ≤ j) (hB : M[j]? = some B) : Held S (M.set j B') i ist D F := by
 obtain ⟨px, h1, h2, h3, h4, h5⟩ := h
 have hno := (h5 j (.inr hj)).2
 have n1 : j ≠ i := fun e => hno (.inl e)
 have n2 : j ≠ ist := fun e => hno (.inr (.inl e))
 refine ⟨px, ⟨by rw [at_set_ne n1]; exact h1.1, by rw [at_set_ne n2]; exact h1.2.1, ?_⟩, h2, h3, ext_set h4 hS _, fun k hk => by rw [List.length_set]; exact h5 k hk⟩
 rcases h1.2.2 with q | ⟨q, ip, v, rfl, h6⟩
 ·exact .inl q
 ·refine .inr ⟨q, ip, v, rfl, ?_⟩
  rw [at_set_ne (fun e => hno (.inr (.inr (by rw [e]; simp [offB]))))]; exact h6
theorem held_op {px px' : AV} {M' : Mem} {D' : Dsk} (h1 : DAt M i ist px D) (h4 : S <+: M) (h5 : ∀ j, j < S.length ∨ j ∈ F → j < M.length ∧ ¬ Ownd i ist px j) (h1' : DAt M' i ist px' D') (hop : DOp M M' i ist px px') (hok : D'.ok) (hfew : D'.pe.length ≤ 700000) :
  Held S M' i ist D' F ∧ ∀ j B, j ∈ F → M[j]? = some B → M'[j]? = some B := by
 refine ⟨⟨px', h1', hok, hfew, ?_, fun j hj => ⟨Nat.lt_of_lt_of_le (h5 j hj).1 hop.len, fun q => (h5 j hj).2 (hop.own j (h5 j hj).1 q)⟩⟩, fun j B hj hB => hop.keep j B hB (h5 j (.inr hj)).2⟩
 refine List.prefix_iff_getElem?.2 fun k hk => ?_
 exact hop.keep k _ (List.prefix_iff_getElem?.1 h4 k hk) (h5 k (.inl hk)).2
theorem Held.write (h : Held S M i ist D F) {cs : List AV} {c : Chk} (hc : chkOf M cs = some c) (hg : c.good) (hpe : (D.swrite c).2.pe.length ≤ 700000) :
  ∃ M', swriteS [.p i 0 0, .ag cs] M = some (.i .i64 (D.swrite c).1, M') ∧ Held S M' i ist (D.swrite c).2 F ∧ ∀ j B, j ∈ F → M[j]? = some B → M'[j]? = some B := by
 obtain ⟨px, h1, h2, h3, h4, h5⟩ := h
 obtain ⟨M', px', g1, g2, g3, g4⟩ := swrite_eq h1 h2 h3 hc hg
 obtain ⟨k1, k2⟩ := held_op h1 h4 h5 g2 g3 g4 hpe
 exact ⟨M', g1, k1, k2⟩
theorem Held.brk (h : Held S M i ist D F) {n : Int} (hn : n ≤ 9223372036854775807) : ∃ M', breakS [.p i 0 0, .i .i64 n] M = some (.tu [], M') ∧ Held S M' i ist (D.brk n) F ∧ ∀ j B, j ∈ F → M[j]? = some B → M'[j]? = some B := by
 obtain ⟨px, h1, h2, h3, h4, h5⟩ := h
 obtain ⟨M', g1, g2, g3⟩ := break_eq h1 n
 obtain ⟨k1, k2⟩ := held_op h1 h4 h5 g2 g3 ⟨h2.wf, h2.few, by show max n (-1) ≤ _; omega, h2.big⟩ h3
 exact ⟨M', g1, k1, k2⟩
theorem Held.crash (h : Held S M i ist D F) {x : AV} {l : List Bool} (hl : lstV boolE M x = some l) (hoff : offB x ist = true) (h1 : x.one = true) : ∃ M', dCrashS [.p i 0 0, x] M = some (.tu [], M') ∧ Held S M' i ist (D.crash l) F ∧ ∀ j B, j ∈ F → M[j]? = some B → M'[j]? = some B := by
 obtain ⟨px, g1, g2, g3, g4, g5⟩ := h
 obtain ⟨M', k1, k2, k3, k4⟩ := crash_eq g1 g2 hl hoff h1
 obtain ⟨m1, m2⟩ := held_op g1 g4 g5 k2 k3 k4 (by show (0 : Nat) ≤ _; omega)
 exact ⟨M', k1, m1, m2⟩
theorem Held.read (h : Held S M i ist D F) (hb : D.by_) : swreadS [.p i 0 0] M = some (outX M D.last) := by
 obtain ⟨px, h1, h2, h3, h4, h5⟩ := h
 exact swread_eq h1 h2 h3 hb
theorem Held.len (h : Held S M i ist D F) : lenS [.p i 0 0] M = some (.i .i64 D.st.length, M) := by
 obtain ⟨px, h1, h2, h3, h4, h5⟩ := h
 exact len_eq h1
end
theorem new_held (S0 S : Mem) (h : S0 <+: S) (n : Int) (F : List Nat) (hF : ∀ j ∈ F, j < S.length) : Held S0 (S ++ [stBlk (List.replicate (secsN n) zSec), .cells (newHead S (secsN n)) 0 none true]) (S.length + 1) S.length (Dsk.new n) F := by
 obtain ⟨h1, h2⟩ := new_eq (S := S) n
 refine ⟨.sn, h1, h2, by show (0 : Nat) ≤ _; omega, ext_more h _, fun j hj => ?_⟩
 have hlt : j < S.length := by
  rcases hj with hj | hj
  ·exact Nat.lt_of_lt_of_le hj h.length_le
  ·exact hF j hj
 refine ⟨by rw [List.length_append]; omega, ?_⟩
 rintro (q | q | q)
 ·omega
 ·omega
 ·cases q
def mtC (g : Int) : Chk := ⟨g, 1, 1, 0, ⟨1, []⟩⟩
def mtL (g : Int) : List AV := [.i .u64 g, .i .u32 1, .i .u64 1, .i .i64 0, .i .u64 1, .sn]
theorem mt_chk (M : Mem) (g : Int) : chkOf M (mtL g) = some (mtC g) := rfl
theorem mt_good {g : Int} (h : u64 g) : (mtC g).good := ⟨h, ⟨(show (0 : Int) ≤ 1 by decide), (show (1 : Int) ≤ 4294967295 by decide)⟩, ⟨(show (0 : Int) ≤ 1 by decide), (show (1 : Int) ≤ 18446744073709551615 by decide)⟩,
 ⟨(show (-9223372036854775808 : Int) ≤ 0 by decide), (show (0 : Int) ≤ 9223372036854775807 by decide)⟩, ⟨(show (0 : Int) ≤ 1 by decide), (show (1 : Int) ≤ 18446744073709551615 by decide)⟩, (show (0 : Nat) ≤ 1000000 by decide), fun x hx => by cases hx⟩
theorem mt_book : Bk.ok ⟨1, []⟩ := ⟨by decide, by decide, ⟨by decide, fun i h => absurd h (Nat.not_lt_zero _)⟩, fun x hx => by cases hx⟩
theorem mt_ok {g : Int} (h : valQ g) : (mtC g).ok 64 := ⟨(show segBad 64 0 = false by decide), h, ⟨(show (1 : Int) ≤ 1 by decide), (show (1 : Int) ≤ 281474976710656 by decide)⟩, (show (1 : Int) ≤ 2147483648 by decide), mt_book⟩
def emptyS : Spec := fun args S => match args with
 | [.i .u64 g] => some (.ag (mtL g), S)
 | _ => none
theorem empty_ok : SpecOK Tryz.prog 26 emptyS := by
 intro args S x S' h
 simp only [emptyS] at h
 split at h
 ·rename_i g
  cases h
  refine fn_of_wp f26 rfl (W_sound none_ok mixed _ _ _ _ _ ?_)
  simp (maxSteps := 1000000) (disch := omega) only [c26, go_sem]
  exact wkv_drop rfl
 ·cases h
theorem sec64 : secsN 64 = 64 := by decide
theorem swrite_dead {D : Dsk} {c : Chk} (h1 : D.left = 0) (h2 : D.down = false) (hp : D.pe = []) (hg : c.good) (ho : c.ok D.st.length) : D.swrite c = (72, { D with down := true }) := by
 have hm := Chk.many_eq hg ho
 have hn : 64 ≤ (D.st.length : Int) := by have := of_decide_eq_false ho.1; omega
 have ha : 0 ≤ slotF c.gen ∧ slotF c.gen ≤ 16 := by unfold slotF; omega
 unfold Dsk.swrite
 rw [if_pos ho]
 have hl := Chk.secs_len (c := c)
 cases hs : c.secs with
 | nil => rw [hs] at hl; simp at hl; omega
 | cons s l =>
  have hw : D.write (slotF c.gen + ((0 : Nat) : Int)) s = (72, { D with down := true }) := by
   unfold Dsk.write
   rw [if_pos ⟨by omega, by omega⟩]
   have hact : D.act = (72, { D with down := true }) := by
    unfold Dsk.act actF
    rw [h1, h2]
    simp
   rw [hact]; simp
  simp only [Dsk.wrs, hw]
  rw [if_neg (by omega)]
theorem crash_calm {D : Dsk} (hp : D.pe = []) (l : List Bool) : D.crash l = { D with left := -1, down := false } := by
 unfold Dsk.crash Dsk.keep
 rw [hp]
 obtain ⟨st, pe, left, down⟩ := D
 simp only at hp
 subst hp; rfl
theorem alive_disk : ∃ D1 D2 : Dsk, (Dsk.new 64).swrite (mtC 1) = (0, D1) ∧ D1.swrite (mtC 2) = (0, D2) ∧ D1.pe = [] ∧ D2.pe = [] ∧ D2.last = (mtC 2, true) ∧ D2.by_ ∧ (D2.brk 0).swrite (mtC 3) = (72, { D2.brk 0 with down := true }) ∧ ({ D2.brk 0 with down := true } : Dsk).crash [] = D2 := by
 have g : ∀ n : Int, 1 ≤ n → n ≤ 3 → (mtC n).good := fun n h1 h2 => mt_good ⟨by omega, by omega⟩
 have o : ∀ n : Int, 1 ≤ n → n ≤ 3 → (mtC n).ok 64 := fun n h1 h2 => mt_ok ⟨by omega, by omega⟩
 have l0 : (Dsk.new 64).st.length = 64 := by show (List.replicate (secsN 64) zSec).length = 64; rw [List.length_replicate, sec64]
 have o1 : (mtC 1).ok (Dsk.new 64).st.length := by rw [l0]; exact o 1 (by omega) (by omega)
 obtain ⟨a1, a2, a3, a4, a5⟩ := swrite_slots (new_calm 64) (g 1 (by omega) (by omega)) o1
 have b1 := swrite_by (new_calm 64) (new_by 64) (g 1 (by omega) (by omega))
 obtain ⟨D1, hD1⟩ : ∃ D1, D1 = ((Dsk.new 64).swrite (mtC 1)).2 := ⟨_, rfl⟩
 rw [← hD1] at a2 a3 a4 a5 b1
 have o2 : (mtC 2).ok D1.st.length := by rw [a3, l0]; exact o 2 (by omega) (by omega)
 obtain ⟨c1, c2, c3, c4, c5⟩ := swrite_slots a2 (g 2 (by omega) (by omega)) o2
 have b2 := swrite_by a2 b1 (g 2 (by omega) (by omega))
 obtain ⟨D2, hD2⟩ : ∃ D2, D2 = (D1.swrite (mtC 2)).2 := ⟨_, rfl⟩
 rw [← hD2] at c2 c3 c4 c5 b2
 have s1 : slotF (mtC 1).gen = 16 := by decide
 have s2 : slotF (mtC 2).gen = 0 := by decide
 rw [s1] at a4
 rw [s2] at c4 c5
 have c5 : D2.one 16 = D1.one 16 := c5
 rw [a4] at c5
 refine ⟨D1, D2, by rw [hD1, ← a1], by rw [hD2, ← c1], a2.pe, c2.pe, ?_, b2, ?_, ?_⟩
 ·rw [last_ab, c4, c5]
  have e1 : stepC (noChk, false) (mtC 2, true) = (mtC 2, true) := by
   unfold stepC; rw [if_pos ⟨rfl, by decide⟩]
  have e2 : stepC (mtC 2, true) (mtC 1, true) = (mtC 2, true) := by
   unfold stepC; rw [if_neg (fun q => absurd q.2 (by decide))]
  rw [e1, e2]
 ·refine swrite_dead (by show max (0 : Int) (-1) = 0; omega) c2.down c2.pe (g 3 (by omega) (by omega)) ?_
  show (mtC 3).ok (D2.st.length : Int)
  rw [c3, a3, l0]; exact o 3 (by omega) (by omega)
 ·rw [crash_calm (by exact c2.pe)]
  have q1 := c2.left
  have q2 := c2.down
  obtain ⟨st, pe, left, down⟩ := D2
  simp only at q1 q2
  subst q1; subst q2; rfl
theorem oAl_ok : OK Tryz.prog (lamOf Tryz.prog) (orcOf [(6, newS), (26, emptyS), (9, swriteS), (17, swreadS), (13, breakS), (15, dCrashS), (21, ssameS)]) := orc_ok (by simpa using ⟨new_ok, empty_ok, swrite_ok, swread_ok, break_ok, dcrash_ok, ssame_ok⟩)
theorem salive_ok : SpecOK Tryz.prog 5 aliveS := by
 intro args S x S' h
 unfold aliveS at h
 split at h
 ·cases h
  obtain ⟨D1, D2, w1, w2, p1, p2, hlast, hby, w3, hcr⟩ := alive_disk
  have hg : ∀ n : Int, 1 ≤ n → n ≤ 3 → (mtC n).good := fun n h1 h2 => mt_good ⟨by omega, by omega⟩
  have h0 := new_held S S ext_refl 64 [] (fun j hj => by cases hj)
  have hnew : newS [.i .i64 64] S = some (.p (S.length + 1) 0 0, S ++ [stBlk (List.replicate (secsN 64) zSec), .cells (newHead S (secsN 64)) 0 none true]) := rfl
  generalize S ++ [stBlk (List.replicate (secsN 64) zSec), .cells (newHead S (secsN 64)) 0 none true] = M0 at hnew h0
  obtain ⟨M1, k1, h1, _⟩ := h0.write (mt_chk M0 1) (hg 1 (by omega) (by omega)) (by rw [w1]; simp [p1])
  rw [w1] at k1 h1
  obtain ⟨M2, k2, h2, _⟩ := h1.write (mt_chk M1 2) (hg 2 (by omega) (by omega)) (by rw [w2]; simp [p2])
  rw [w2] at k2 h2
  have k3 := h2.read hby
  rw [hlast] at k3
  have h3 := h2.push (.cells (mtL 2) 0 none true) []
  have e3 : (M2 ++ [Blk.cells (mtL 2) 0 none true])[M2.length]? = some (.cells (mtL 2) 0 none true) := by rw [at_app0]; rfl
  generalize hM3 : M2 ++ [Blk.cells (mtL 2) 0 none true] = M3 at h3 e3
  obtain ⟨M4, k4, h4, fk4⟩ := h3.brk (n := 0) (by omega)
  have e4 := fk4 _ _ (by simp) e3
  obtain ⟨M5, k5, h5, fk5⟩ := h4.write (mt_chk M4 3) (hg 3 (by omega) (by omega)) (by rw [w3]; show D2.pe.length ≤ _; rw [p2]; simp)
  rw [w3] at k5 h5
  have e5 := fk5 _ _ (by simp) e4
  obtain ⟨M6, k6, h6, fk6⟩ := h5.crash (x := .sn) (l := []) rfl rfl rfl
  rw [hcr] at h6
  have e6 := fk6 _ _ (by simp) e5
  have k7 := h6.read hby
  rw [hlast] at k7
  have hS6 := h6.ext
  have hsm : ∀ U, ssameS [.ag (mtL 2), .ag (mtL 2)] U = some (.b true, U) := fun U => by
   simp only [ssameS, mt_chk]
   rw [if_pos (by decide)]; simp
  have hem : ∀ (g : Int) U, emptyS [.i .u64 g] U = some (.ag (mtL g), U) := fun g U => rfl
  simp only [outX, mtC, retX, retM] at k3 k7
  refine fn_of_wp f5 rfl (W_sound oAl_ok mixed _ _ _ _ _ ?_)
  simp only [mtL] at hM3 e6 k1 k2 k5 hsm hem
  simp (maxSteps := 1000000) (disch := omega) only [c5, orc_cons, hnew, hem, k1, k2, k3, hM3, k4, k5, k6, k7, at_old e6, hsm, go_sem]
  exact wkv_dropP (ext_more hS6 _) rfl
 ·cases h
end Go.Proofs.YtkfobkfhbkicaaaGreat
namespace Go.Proofs.YtkfobkfhbkicaaaGreat
open Go.RowKit
set_option maxRecDepth 100000
section
variable {H : Type} {enc : TypeId × Value → H} {W : World}
theorem wf_u8 {n : Int} (h : (Lit.int .u8 n).wf = true) : u8 n := by
 simp only [Lit.wf, IntKind.min, IntKind.max, IntKind.signed, IntKind.bits, Bool.and_eq_true] at h
 unfold u8
 simpa using h
theorem wf_u64 {n : Int} (h : (Lit.int .u64 n).wf = true) : u64 n := by
 simp only [Lit.wf, IntKind.min, IntKind.max, IntKind.signed, IntKind.bits, Bool.and_eq_true] at h
 unfold u64
 simpa using h
theorem wf_i64 {n : Int} (h : (Lit.int .i64 n).wf = true) : i64 n := by
 simp only [Lit.wf, IntKind.min, IntKind.max, IntKind.signed, IntKind.bits, Bool.and_eq_true] at h
 unfold i64
 simpa using h
theorem enc_inj {α : Type} {E : Enc α} {a b : α} (h : E.enc a = E.enc b) : a = b := by
 have h1 := E.de a
 rw [h, E.de] at h1
 injection h1 with h1; exact h1.symm
end
end Go.Proofs.YtkfobkfhbkicaaaGreat
namespace Go.Proofs.YtkfobkfhbkicaaaGreat
open Go.RowKit
set_option maxRecDepth 100000
structure Ckr where
 gen : Int
 epoch : Int
 seq : Int
 seg : Int
 period : Int
 x : AV
def Ckr.enc (r : Ckr) : List AV := [.i .u64 r.gen, .i .u32 r.epoch, .i .u64 r.seq, .i .i64 r.seg, .i .u64 r.period, r.x]
section
variable {H : Type} {enc : TypeId × Value → H} {W : World}
abbrev entSh : List CS := [.int .i64, .int .u8, .int .u8, .int .u8, .int .u8, .int .i64, .int .u64, .int .u64, .int .u64, .int .u64, .int .u64, .int .u64, .int .u64, .int .u64]
theorem rowEnt {cs : List Value} (h : RowIs enc Tryz.prog W entSh cs) : ∃ a : Ent, cs.map (absV W) = a.enc ∧ a.good := by
 obtain ⟨h1, h2⟩ := h
 match cs, h1 with
 | [x0, x1, x2, x3, x4, x5, x6, x7, x8, x9, x10, x11, x12, x13], _ =>
  obtain ⟨a0, rfl, w0⟩ := h2 0 (by simp) (by simp)
  obtain ⟨a1, rfl, w1⟩ := h2 1 (by simp) (by simp)
  obtain ⟨a2, rfl, w2⟩ := h2 2 (by simp) (by simp)
  obtain ⟨a3, rfl, w3⟩ := h2 3 (by simp) (by simp)
  obtain ⟨a4, rfl, w4⟩ := h2 4 (by simp) (by simp)
  obtain ⟨a5, rfl, w5⟩ := h2 5 (by simp) (by simp)
  obtain ⟨a6, rfl, w6⟩ := h2 6 (by simp) (by simp)
  obtain ⟨a7, rfl, w7⟩ := h2 7 (by simp) (by simp)
  obtain ⟨a8, rfl, w8⟩ := h2 8 (by simp) (by simp)
  obtain ⟨a9, rfl, w9⟩ := h2 9 (by simp) (by simp)
  obtain ⟨a10, rfl, w10⟩ := h2 10 (by simp) (by simp)
  obtain ⟨a11, rfl, w11⟩ := h2 11 (by simp) (by simp)
  obtain ⟨a12, rfl, w12⟩ := h2 12 (by simp) (by simp)
  obtain ⟨a13, rfl, w13⟩ := h2 13 (by simp) (by simp)
  exact ⟨⟨⟨a0, a1, a2, a3, a4, a5, a6, a7, a8, a9, a10, a11, a12⟩, a13⟩, rfl, ⟨wf_i64 w0, ⟨wf_u8 w1, wf_u8 w2, wf_u8 w3, wf_u8 w4⟩, wf_i64 w5, wf_u64 w6, wf_u64 w7, wf_u64 w8, wf_u64 w9, wf_u64 w10, wf_u64 w11, wf_u64 w12⟩, wf_u64 w13⟩
theorem cellEnts {v : Value} (h : CellIs enc Tryz.prog W (.slice 126) v) : ∃ l : List Ent, lstV entE (absS W) (absV W v) = some l ∧ ∀ x ∈ l, x.good := by
 have s2 : shapes Tryz.prog 20 126 = some entSh := by kernel_rfl
 have c2 : Tryz.prog.cellsOf 126 = 14 := by kernel_rfl
 obtain ⟨l, hl, hf, _⟩ := lst_of (e := Ent.enc) (sz := 14) c2 (by omega) h (fun cs fuel x ht => let ⟨a, h1, h2⟩ := rowEnt (shapes_ok 20 fuel 126 cs x _ ht s2); ⟨a, h1, rfl⟩)
  (good := Ent.good) (fun cs fuel x a ht he => let ⟨a', h1, h2⟩ := rowEnt (shapes_ok 20 fuel 126 cs x _ ht s2); enc_inj (E := entE) (h1.symm.trans he) ▸ h2)
 exact ⟨l, lst_lstV (E := entE) hl, hf⟩
theorem wf_u32 {n : Int} (h : (Lit.int .u32 n).wf = true) : 0 ≤ n ∧ n ≤ 4294967295 := by
 simp only [Lit.wf, IntKind.min, IntKind.max, IntKind.signed, IntKind.bits, Bool.and_eq_true] at h
 simpa using h
abbrev chkSh : List CS := [.int .u64, .int .u32, .int .u64, .int .i64, .int .u64, .slice 126]
theorem rowChk {cs : List Value} (h : RowIs enc Tryz.prog W chkSh cs) : ∃ (c : Chk) (x : AV), cs.map (absV W) = c.cells x ∧ lstV entE (absS W) x = some c.book.entries ∧ u64 c.gen ∧ (0 ≤ c.epoch ∧ c.epoch ≤ 4294967295) ∧ u64 c.seq ∧ i64 c.seg ∧ u64 c.book.period ∧ ∀ y ∈ c.book.entries, y.good := by
 obtain ⟨h1, h2⟩ := h
 match cs, h1 with
 | [x0, x1, x2, x3, x4, x5], _ =>
  obtain ⟨a0, rfl, w0⟩ := h2 0 (by simp) (by simp)
  obtain ⟨a1, rfl, w1⟩ := h2 1 (by simp) (by simp)
  obtain ⟨a2, rfl, w2⟩ := h2 2 (by simp) (by simp)
  obtain ⟨a3, rfl, w3⟩ := h2 3 (by simp) (by simp)
  obtain ⟨a4, rfl, w4⟩ := h2 4 (by simp) (by simp)
  obtain ⟨l, hl, hf⟩ := cellEnts (h2 5 (by simp) (by simp))
  exact ⟨⟨a0, a1, a2, a3, ⟨a4, l⟩⟩, absV W x5, rfl, hl, wf_u64 w0, wf_u32 w1, wf_u64 w2, wf_i64 w3, wf_u64 w4, hf⟩
theorem argChk {v : Value} {base : Nat} {d : DataW H} {ps : List MemPlace} (o : Value.okWide Tryz.prog W .any base 37 v) (h : DataW.Trod enc Tryz.prog W 0 (fun _ => true) true 37 v d ps) :
  ∃ (c : Chk) (x : AV), absA W v = .ag (c.cells x) ∧ lstV entE (absS W) x = some c.book.entries ∧ u64 c.gen ∧ (0 ≤ c.epoch ∧ c.epoch ≤ 4294967295) ∧ u64 c.seq ∧ i64 c.seg ∧ u64 c.book.period ∧ ∀ y ∈ c.book.entries, y.good := by
 have s0 : shapes Tryz.prog 20 37 = some chkSh := by kernel_rfl
 obtain ⟨cs, rfl⟩ : ∃ cs, v = .agg cs := by
  unfold Value.okWide at o
  rw [Tryz.underlying37] at o
  obtain ⟨cs, h, _⟩ := o
  exact ⟨cs, h⟩
 obtain ⟨c, x, h1, h2⟩ := rowChk (arg_row h s0)
 have h1' : cs.toList.map (absV W) = c.cells x := h1
 exact ⟨c, x, by show AV.ag (cs.toList.map (absV W)) = _; rw [h1'], h2⟩
def Ckr.good (S : Mem) (r : Ckr) : Prop := ∃ es, lstV entE S r.x = some es ∧ u64 r.gen ∧ (0 ≤ r.epoch ∧ r.epoch ≤ 4294967295) ∧ u64 r.seq ∧ i64 r.seg ∧ u64 r.period ∧ ∀ y ∈ es, y.good
end
end Go.Proofs.YtkfobkfhbkicaaaGreat
namespace Go.Proofs.YtkfobkfhbkicaaaGreat
set_option maxRecDepth 10000
theorem check_inv {n gen ep : Int} {pay : List Int} {c : Chk} (hu : ∀ x ∈ pay, u8 x) (h : checkF n gen ep pay = (c, true)) : c.gen = gen ∧ c.epoch = ep ∧ c.pay = pay ∧ c.ok n ∧ (u64 gen → 0 ≤ ep ∧ ep ≤ 4294967295 → c.good) := by
 unfold checkF at h
 split at h
 ·simp at h
 ·rename_i sq k hk
  split at h
  ·simp at h
  ·rename_i sg m hm
   split at h
   ·simp at h
   ·rename_i b hb
    simp only [Prod.mk.injEq, Bool.and_eq_true, decide_eq_true_eq] at h
    obtain ⟨hc, hsat, hok⟩ := h
    have hsg : sg ≤ 9223372036854775807 := of_decide_eq_true hsat
    have hsn : satN sg = sg := if_pos hsg
    rw [hsn] at hc hok
    obtain ⟨g1, g2, g3, _, g4⟩ := getL_some hu hk
    obtain ⟨k1, k2, k3, _, k4⟩ := getL_some (fun c hc => hu c (List.mem_of_mem_drop hc)) hm
    obtain ⟨_, b2, b3⟩ := bytes_read (fun c hc => hu c (List.mem_of_mem_drop hc)) hb
    subst hc
    refine ⟨rfl, rfl, ?_, hok, fun q1 q2 => ⟨q1, q2, g1, ⟨?_, ?_⟩, b2⟩⟩
    ·have hp : Chk.pay ⟨gen, ep, sq, sg, b⟩ = leb sq ++ (leb sg ++ lebs b.ns) := by unfold Chk.pay lebs; simp
     have e1 : pay.drop k = (pay.drop k).take m ++ (pay.drop k).drop m := (List.take_append_drop m _).symm
     rw [hp, g2, k2, b3, ← List.drop_drop, ← e1, List.take_append_drop]
    ·have := k1.1; show (-9223372036854775808 : Int) ≤ sg; omega
    ·exact hsg
theorem settle_other {p : Nat → Bool} : ∀ (pe : List Wr) (k : Nat) (st : List Sec) (j : Nat), (∀ w ∈ pe, w.at_.toNat ≠ j) → (settleL p k pe st)[j]? = st[j]?
 | [], _, _, _, _ => rfl
 | w :: pe, k, st, j, h => by
  rw [settleL, settle_other pe _ _ j (fun w' hw' => h w' (by simp [hw']))]
  split
  ·rw [List.getElem?_set_ne (h w (by simp))]
  ·rfl
theorem settle_mem {p : Nat → Bool} : ∀ (pe : List Wr) (k : Nat) (st : List Sec) (s : Sec), s ∈ settleL p k pe st → s ∈ st ∨ ∃ w ∈ pe, s = w.sec
 | [], _, _, s, h => .inl h
 | w :: pe, k, st, s, h => by
  rw [settleL] at h
  rcases settle_mem pe _ _ s h with h | ⟨w', hw', h⟩
  ·split at h
   ·rcases List.mem_or_eq_of_mem_set h with h | h
    ·exact .inl h
    ·exact .inr ⟨w, by simp, h⟩
   ·exact .inl h
  ·exact .inr ⟨w', by simp [hw'], h⟩
theorem wrs_gen {first : Nat} : ∀ (l : List Sec) (k : Nat) (D : Dsk), first + k + l.length ≤ D.st.length →
  (Dsk.wrs first l k D).2.pe.length ≤ D.pe.length + l.length ∧
  (((Dsk.wrs first l k D).1 = 0 ∧ (Dsk.wrs first l k D).2.st = settleL (fun _ => true) 0 (D.pe ++ l.zipIdx.map fun p => ⟨((first + k + p.2 : Nat) : Int), p.1⟩) D.st ∧ (Dsk.wrs first l k D).2.pe = []) ∨
   ((Dsk.wrs first l k D).1 ≠ 0 ∧ (Dsk.wrs first l k D).2.st = D.st ∧ ∀ w ∈ (Dsk.wrs first l k D).2.pe, w ∈ D.pe ∨ (((first + k : Nat) : Int) ≤ w.at_ ∧ w.at_ < ((first + k + l.length : Nat) : Int) ∧ w.sec ∈ l)))
 | [], k, D, h => by
  simp only [Dsk.wrs, List.zipIdx_nil, List.map_nil, List.append_nil, List.length_nil]
  unfold Dsk.sync
  by_cases he : D.act.1 = 0
  ·rw [if_pos he]
   exact ⟨Nat.zero_le _, .inl ⟨rfl, rfl, rfl⟩⟩
  ·rw [if_neg he]
   exact ⟨Nat.le_refl _, .inr ⟨he, rfl, fun w hw => .inl hw⟩⟩
 | s :: l, k, D, h => by
  rw [List.length_cons] at h
  have hw : D.write (first + k) s = if D.act.1 = 0 then (0, { D.act.2 with pe := D.pe ++ [⟨first + k, s⟩] }) else D.act := by
   unfold Dsk.write
   rw [if_pos ⟨by omega, by omega⟩]
  simp only [Dsk.wrs, hw]
  by_cases he : D.act.1 = 0
  ·rw [if_pos he]
   simp only [if_true]
   have ih := wrs_gen l (k + 1) { D.act.2 with pe := D.pe ++ [⟨first + k, s⟩] } (by show first + (k + 1) + l.length ≤ D.st.length; omega)
   obtain ⟨i1, i2⟩ := ih
   refine ⟨by simp only [List.length_append, List.length_cons, List.length_nil] at i1 ⊢; omega, ?_⟩
   rcases i2 with ⟨j1, j2, j3⟩ | ⟨j1, j2, j3⟩
   ·refine .inl ⟨j1, ?_, j3⟩
    rw [j2]
    have he2 : l.zipIdx.map (fun p => (⟨((first + (k + 1) + p.2 : Nat) : Int), p.1⟩ : Wr)) = (l.zipIdx (0 + 1)).map fun p => ⟨((first + k + p.2 : Nat) : Int), p.1⟩ := by
     rw [List.zipIdx_succ, List.map_map]
     refine List.map_congr_left fun p _ => ?_
     simp only [Function.comp, Wr.mk.injEq, and_true]
     omega
    have h0 : ((first + k : Nat) : Int) = (first : Int) + k := by omega
    simp only [List.append_assoc, List.singleton_append, List.zipIdx_cons, List.map_cons, Nat.add_zero]
    rw [he2, h0]
    rfl
   ·refine .inr ⟨j1, j2, fun w hw => ?_⟩
    rcases j3 w hw with q | ⟨q1, q2, q3⟩
    ·rcases List.mem_append.1 q with q | q
     ·exact .inl q
     ·rw [List.mem_singleton.1 q]
      exact .inr ⟨by show _ ≤ (first : Int) + k; omega, by show (first : Int) + k < _; rw [List.length_cons]; omega, by simp⟩
    ·exact .inr ⟨by omega, by rw [List.length_cons]; omega, by simp [q3]⟩
  ·rw [if_neg he]
   simp only [he, if_false]
   exact ⟨by show D.pe.length ≤ _; omega, .inr ⟨he, rfl, fun w hw => .inl hw⟩⟩
theorem crash_st (D : Dsk) (l : List Bool) : (D.crash l).st = settleL (fun k => l.getD k false) 0 D.pe D.st ∧ (D.crash l).calm := ⟨rfl, rfl, rfl, rfl⟩
theorem torn {a b : Chk} (ga : a.good) (gb : b.good) (ha : a.gen = 7) (hb : b.gen = 8) (oa : a.ok 100) (ob : b.ok 100) (n : Nat) (cut : List Bool) :
  ∃ D1 D3 e D4, (Dsk.new 100).swrite a = (0, D1) ∧ D1.pe = [] ∧ (D1.brk n).swrite b = (e, D3) ∧ D3.pe.length ≤ 700000 ∧ D3.crash cut = D4 ∧ D4.calm ∧ D4.by_ ∧ D4.st.length = 100 ∧
   (e = 0 → D4.last = (b, true)) ∧ (e ≠ 0 → D4.last = (a, true) ∨ ∃ L R, D4.got 0 16 = some L ∧ openF L = some R ∧ D4.last.2 = true ∧ checkF 100 R.seq R.epoch R.pay = (D4.last.1, true)) := by
 have l0 : (Dsk.new 100).st.length = 100 := by show (List.replicate (secsN 100) zSec).length = 100; rw [List.length_replicate]; decide
 obtain ⟨a1, a2, a3, a4, a5⟩ := swrite_slots (new_calm 100) ga (by rw [l0]; exact oa)
 have b1 := swrite_by (new_calm 100) (new_by 100) ga
 obtain ⟨D1, hD1⟩ : ∃ D1, D1 = ((Dsk.new 100).swrite a).2 := ⟨_, rfl⟩
 rw [← hD1] at a2 a3 a4 a5 b1
 have s7 : slotF a.gen = 16 := by rw [ha]; decide
 have s8 : slotF b.gen = 0 := by rw [hb]; decide
 rw [s7] at a4
 rw [l0] at a3
 have hm := Chk.many_eq gb ob
 have hsl := Chk.secs_len (c := b)
 have hob : b.ok ((D1.brk n).st.length : Int) := by show b.ok (D1.st.length : Int); rw [a3]; exact ob
 have hsw : (D1.brk n).swrite b = Dsk.wrs ((0 : Nat) : Int) b.secs 0 (D1.brk n) := by
  unfold Dsk.swrite
  rw [if_pos hob, s8]; rfl
 have hg := wrs_gen (first := 0) b.secs 0 (D1.brk n) (by show 0 + 0 + b.secs.length ≤ D1.st.length; omega)
 rw [← hsw] at hg
 obtain ⟨r, hr⟩ : ∃ r, r = (D1.brk n).swrite b := ⟨_, rfl⟩
 rw [← hr] at hg
 obtain ⟨e, D3⟩ := r
 have hpe0 : (D1.brk n).pe = [] := a2.pe
 have hst0 : (D1.brk n).st = D1.st := rfl
 rw [hpe0, hst0] at hg
 obtain ⟨g1, g2⟩ := hg
 obtain ⟨c1, c2⟩ := crash_st D3 cut
 have hlen4 : (D3.crash cut).st.length = D3.st.length := by rw [c1, settle_len]
 simp only at g1 g2
 have hset : settleL (fun _ => true) 0 (b.secs.zipIdx.map fun p => (⟨((0 + 0 + p.2 : Nat) : Int), p.1⟩ : Wr)) D1.st = setsF D1.st 0 b.secs := settle_sets b.secs 0 0 D1.st (fun j => ((0 + 0 + j : Nat) : Int)) (fun j => by omega)
 refine ⟨D1, D3, e, _, by rw [hD1, ← a1], a2.pe, hr.symm, by simp only [List.length_nil] at g1; omega, rfl, c2, ?_, ?_, ?_, ?_⟩
 ·-- bytes
  refine ⟨fun s hs => ?_, fun w hw => by rw [c2.pe] at hw; cases hw⟩
  rw [c1] at hs
  rcases g2 with ⟨_, h2, h3⟩ | ⟨_, h2, h3⟩
  ·rw [h3] at hs
   have hs : s ∈ D3.st := hs
   rw [h2, List.nil_append, hset] at hs
   rcases sets_mem _ _ _ s hs with q | q
   ·exact b1.1 s q
   ·exact Chk.secs_u8 gb ob s q
  ·rcases settle_mem _ _ _ s hs with q | ⟨w, hw, q⟩
   ·rw [h2] at q; exact b1.1 s q
   ·rcases h3 w hw with z | ⟨_, _, z⟩
    ·cases z
    ·rw [q]; exact Chk.secs_u8 gb ob _ z
 ·rw [hlen4]
  rcases g2 with ⟨_, h2, _⟩ | ⟨_, h2, _⟩
  ·rw [h2, settle_len, a3]
  ·rw [h2, a3]
 ·intro he
  rcases g2 with ⟨_, h2, h3⟩ | ⟨q, _⟩
  ·have h4 : (D3.crash cut).st = setsF D1.st 0 b.secs := by
    rw [c1, h3]
    show D3.st = _
    rw [h2, List.nil_append, hset]
   have hl4 : (D3.crash cut).st.length = D1.st.length := by rw [h4, sets_len]
   have h0 : (D3.crash cut).one 0 = (b, true) := by
    have hgot := got_calm (D := D3.crash cut) c2.pe 16 (a := 0) (by omega)
    have htk := secs_take (D := D1) (a := 0) (l := b.secs) (m := b.many) hsl (by omega) (by omega)
    rw [← h4] at htk
    exact one_put gb (by rw [hl4, a3]; exact ob) s8 hgot htk
   have h16 : (D3.crash cut).one 16 = (a, true) := by
    have := one_same (D := D1) (D' := D3.crash cut) (a := 16) a2.pe c2.pe hl4 fun j q1 q2 => by
     rw [h4, sets_at _ _ _ _ (by omega), if_neg (by omega)]
    have this : (D3.crash cut).one 16 = D1.one 16 := this
    rw [this, a4]
   rw [last_ab, h0, h16]
   have e1 : stepC (noChk, false) (b, true) = (b, true) := by
    unfold stepC; rw [if_pos ⟨rfl, by show (0 : Int) < b.gen; omega⟩]
   rw [e1]
   unfold stepC
   rw [if_neg (fun q => by have := q.2; simp only at this; omega)]
  ·exact absurd he q
 ·intro he
  rcases g2 with ⟨q, _⟩ | ⟨_, h2, h3⟩
  ·exact absurd q he
  ·have hl4 : (D3.crash cut).st.length = D1.st.length := by rw [hlen4, h2]
   have h16 : (D3.crash cut).one 16 = (a, true) := by
    have := one_same (D := D1) (D' := D3.crash cut) (a := 16) a2.pe c2.pe hl4 fun j q1 q2 => by
     rw [c1, settle_other _ _ _ _ (fun w hw => ?_), h2]
     rcases h3 w hw with z | ⟨z1, z2, _⟩
     ·cases z
     ·omega
    have this : (D3.crash cut).one 16 = D1.one 16 := this
    rw [this, a4]
   have hgot := got_calm (D := D3.crash cut) c2.pe 16 (a := 0) (by omega)
   have hone := one_some hgot
   rw [last_ab, h16]
   generalize hO : (D3.crash cut).one 0 = O
   rw [show ((0 : Nat) : Int) = 0 from rfl, hO] at hone
   by_cases ho : O.2 = true ∧ 0 < O.1.gen
   ·have e1 : stepC (noChk, false) O = (O.1, true) := by
     unfold stepC; rw [if_pos ⟨ho.1, ho.2⟩]
    rw [e1]
    by_cases hlt : O.1.gen < 7
    ·left
     unfold stepC; rw [if_pos ⟨rfl, by simp only; omega⟩]
    ·right
     have e2 : stepC (O.1, true) (a, true) = (O.1, true) := by
      unfold stepC; rw [if_neg (fun q => by have := q.2; simp only at this; omega)]
     rw [e2]
     split at hone
     ·rw [hone] at ho; cases ho.1
     ·rename_i R hR
      split at hone
      ·refine ⟨_, R, hgot, hR, rfl, ?_⟩
       rw [hl4, a3] at hone
       show checkF 100 R.seq R.epoch R.pay = (O.1, true)
       have : O = (O.1, true) := by rw [← ho.1]
       rw [← this, hone]; rfl
      ·rw [hone] at ho; cases ho.1
   ·left
    have e1 : stepC (noChk, false) O = (noChk, false) := by
     unfold stepC; rw [if_neg (fun q => ho ⟨q.1, q.2⟩)]
    rw [e1]
    unfold stepC; rw [if_pos ⟨rfl, by show (0 : Int) < a.gen; omega⟩]
end Go.Proofs.YtkfobkfhbkicaaaGreat
namespace Go.Proofs.YtkfobkfhbkicaaaGreat
open Go.RowKit
set_option maxRecDepth 10000
def sgreatS : Spec := fun args S => match args with
 | [.ag cs] => match chkOf S cs with
  | some c => some (.b (decide (30 < c.book.entries.length)), S)
  | none => none
 | _ => none
theorem sgreat_ok : SpecOK Tryz.prog 8 sgreatS := by
 intro args S x S' h
 simp only [sgreatS] at h
 split at h
 ·rename_i cs
  split at h
  ·rename_i c hc
   cases h
   obtain ⟨y, rfl, hl⟩ := chkOf_ok hc
   refine fn_of_wp f8 rfl (W_sound none_ok mixed _ _ _ _ _ ?_)
   have hll := lst_len hl
   by_cases hg : 30 < c.book.entries.length
   ·have hI : (30 : Int) < c.book.entries.length := by omega
    rw [decide_eq_true hg]
    simp (maxSteps := 1000000) (disch := omega) only [c8, hll, hI, go_sem]
    exact wkv_drop rfl
   ·have hI : ¬ (30 : Int) < c.book.entries.length := by omega
    rw [decide_eq_false hg]
    simp (maxSteps := 1000000) (disch := omega) only [c8, hll, hI, go_sem]
    exact wkv_drop rfl
  ·cases h
 ·cases h
theorem sgreat_eq {S : Mem} {c : Chk} {x : AV} (hl : lstV entE S x = some c.book.entries) : sgreatS [.ag [.i .u64 c.gen, .i .u32 c.epoch, .i .u64 c.seq, .i .i64 c.seg, .i .u64 c.book.period, x]] S = some (.b (decide (30 < c.book.entries.length)), S) := by
 simp only [sgreatS, chkOf_mk hl]
noncomputable def recV (n : Int) (c : Chk) : Int × Int × List Int × Int := if c.ok n then (c.gen, c.epoch, c.pay, 0) else (0, 0, [], 141)
theorem record_val (M : Mem) {n : Int} {c : Chk} (hg : c.good) {q ep e : Int} {P : List Int} (hv : recV n c = (q, ep, P, e)) : ∃ X M', recordF M n c = (.tu [.ag [.i .u64 q, .i .u32 ep, X], .i .i64 e], M') ∧ lstV byteE M' X = some P ∧ M <+: M' ∧ X.one = true ∧ P.all (fun c => decide (u8 c)) = true := by
 unfold recV at hv
 unfold recordF
 split at hv
 ·rename_i ho
  have hsg := seg_pos ho.1
  simp only [Prod.mk.injEq] at hv
  obtain ⟨rfl, rfl, rfl, rfl⟩ := hv
  rw [if_pos ho]
  refine ⟨_, _, rfl, retX_lst, retM_ext, one_of_accG (E := byteE) (retX_acc (S := M)), List.all_eq_true.2 fun x hx => decide_eq_true ?_⟩
  unfold Chk.pay at hx
  rcases List.mem_append.1 hx with hx | hx
  ·exact lebs_u8 (by simp; exact ⟨hg.2.2.1, by omega, by omega⟩) x hx
  ·exact lebs_u8 (bns_u64 hg.2.2.2.2 ho.2.2.2.2) x hx
 ·rename_i ho
  simp only [Prod.mk.injEq] at hv
  obtain ⟨rfl, rfl, rfl, rfl⟩ := hv
  rw [if_neg ho]
  exact ⟨.sn, M, rfl, rfl, ext_refl, rfl, rfl⟩
theorem Held.extM {S M M' : Mem} {i ist : Nat} {D : Dsk} {F : List Nat} (h : Held S M i ist D F) (hM : M <+: M') : Held S M' i ist D F := by
 obtain ⟨T, rfl⟩ := hM; exact h.grow T
theorem Held.sright {S M : Mem} {i ist : Nat} {D : Dsk} {F : List Nat} (h : Held S M i ist D F) {x : AV} {c : Chk} (hl : lstV entE M x = some c.book.entries) (hf : c.book.fits) (U : Mem) :
  srightS [.p i 0 0, .ag [.i .u64 c.gen, .i .u32 c.epoch, .i .u64 c.seq, .i .i64 c.seg, .i .u64 c.book.period, x]] (M ++ U) = some (.b (decide (c.ok D.st.length)), M ++ U) := by
 simp only [srightS, len_grow h.len, chkOf_mk (lstV_grow hl U)]
 rw [if_pos hf]
end Go.Proofs.YtkfobkfhbkicaaaGreat
namespace Go.Proofs.YtkfobkfhbkicaaaGreat
set_option maxRecDepth 10000
def ofB (x : BitVec 32) : Int := (x.toNat : Int)
theorem ofB_lt (x : BitVec 32) : 0 ≤ ofB x ∧ ofB x ≤ 4294967295 := by unfold ofB; have := x.isLt; omega
theorem toB_of (x : BitVec 32) : BitVec.ofInt 32 (ofB x) = x := by
 unfold ofB
 apply BitVec.eq_of_toNat_eq
 rw [BitVec.toNat_ofInt]
 have := x.isLt
 omega
theorem of_toB {n : Int} (h : 0 ≤ n ∧ n ≤ 4294967295) : ofB (BitVec.ofInt 32 n) = n := by
 unfold ofB
 rw [BitVec.toNat_ofInt]; omega
theorem exB {n : Int} (h : 0 ≤ n ∧ n ≤ 4294967295) : ∃ x : BitVec 32, n = ofB x := ⟨_, (of_toB h).symm⟩
theorem xr_of (x y : BitVec 32) : xr (ofB x) (ofB y) = ofB (x ^^^ y) := by
 unfold xr
 rw [toB_of, toB_of]
 have : (x ^^^ y).toNat = Nat.xor x.toNat y.toNat := BitVec.toNat_xor x y
 rw [← this]
 have := ofB_lt (x ^^^ y)
 show wrapV .u32 (ofB (x ^^^ y)) = _
 simp only [wrapV]; omega
def pB : BitVec 32 := 79764919#32
def stB1 (x : BitVec 32) (t : Bool) : BitVec 32 := (x <<< 1) ^^^ (if t = true then pB else 0)
theorem dbl_of (x : BitVec 32) : wrapV .u32 (ofB x * 2) = ofB (x <<< 1) := by
 unfold ofB
 rw [BitVec.toNat_shiftLeft, Nat.shiftLeft_eq]
 have := x.isLt
 simp only [wrapV]; omega
theorem msb_of (x : BitVec 32) : x.msb = decide (2147483648 ≤ ofB x) := by
 rw [BitVec.msb_eq_decide]
 unfold ofB
 have : (2147483648 ≤ x.toNat) = (2 ^ (32 - 1) ≤ x.toNat) := by rfl
 rw [decide_eq_decide]
 show 2 ^ (32 - 1) ≤ x.toNat ↔ (2147483648 : Int) ≤ (x.toNat : Int)
 have : (2 : Nat) ^ (32 - 1) = 2147483648 := by decide
 rw [this]; omega
theorem crcT_of (x : BitVec 32) : crcT (ofB x) = ofB (stB1 x x.msb) := by
 unfold crcT stB1
 have hx := ofB_lt x
 rw [dbl_of, msb_of]
 by_cases h : 2147483648 ≤ ofB x
 ·have h1 : ofB x / 2147483648 = 1 := by omega
  have h2 : wrapV .u32 (79764919 * 1) = ofB pB := by decide
  rw [h1, h2, xr_of, decide_eq_true h, if_pos rfl]
 ·have h1 : ofB x / 2147483648 = 0 := by omega
  have h2 : wrapV .u32 (79764919 * 0) = ofB 0 := by decide
  rw [h1, h2, xr_of, decide_eq_false h, if_neg (by simp)]
def tN : Nat → BitVec 32 → BitVec 32
 | 0, x => x
 | n + 1, x => tN n (stB1 x x.msb)
def rN : Nat → BitVec 32 → BitVec 32 → BitVec 32
 | 0, x, _ => x
 | n + 1, x, y => rN n (stB1 x (x.msb != y.msb)) (y <<< 1)
theorem stB1_xor (x y : BitVec 32) : stB1 (x ^^^ y) (x ^^^ y).msb = stB1 x (x.msb != y.msb) ^^^ (y <<< 1) := by
 unfold stB1
 rw [BitVec.msb_xor, BitVec.shiftLeft_xor_distrib]
 have hb : (x.msb ^^ y.msb) = (x.msb != y.msb) := by cases x.msb <;> cases y.msb <;> rfl
 rw [hb]
 ac_rfl
theorem tN_xor : ∀ (n : Nat) (x y : BitVec 32), tN n (x ^^^ y) = rN n x y ^^^ (y <<< n)
 | 0, x, y => by simp [tN, rN]
 | n + 1, x, y => by
  rw [tN, rN, stB1_xor, tN_xor n]
  congr 1
  rw [← BitVec.shiftLeft_add, Nat.add_comm]
theorem crcN_of (x : BitVec 32) : ∀ n, crcN n (ofB x) = ofB (tN n x) := by
 have h1 : ∀ (n : Nat) (x : BitVec 32), tN (n + 1) x = stB1 (tN n x) (tN n x).msb := by
  intro n
  induction n with
  | zero => intro x; rfl
  | succ n ih => intro x; rw [tN, ih]; rfl
 intro n
 induction n with
 | zero => rfl
 | succ n ih => rw [crcN, ih, crcT_of, h1]
def rBit (r : Int) (t : Bool) : Int := if (decide (2147483648 ≤ r) != t) = true then xr (r * 2 % 4294967296) 79764919 else r * 2 % 4294967296
theorem rBit_of (x : BitVec 32) (t : Bool) : rBit (ofB x) t = ofB (stB1 x (x.msb != t)) := by
 have h1 : ofB x * (2 : Int) % (4294967296 : Int) = ofB (x <<< 1) := by
  rw [← dbl_of]
  have := ofB_lt x
  simp only [wrapV]
 have h2 : (79764919 : Int) = ofB pB := by decide
 unfold rBit stB1
 rw [← msb_of, h1, h2]
 split
 ·rw [xr_of]
 ·simp
theorem rBit_u32 {r : Int} (h : 0 ≤ r ∧ r ≤ 4294967295) (t : Bool) : 0 ≤ rBit r t ∧ rBit r t ≤ 4294967295 := by
 obtain ⟨x, rfl⟩ := exB h
 rw [rBit_of]; exact ofB_lt _
def bitC (c : Int) (k : Nat) : Bool := decide (c / ((2 : Int) ^ (7 - k)) % 2 = 1)
def rByte (c : Int) : Nat → Int → Int
 | 0, r => r
 | k + 1, r => rBit (rByte c k r) (bitC c k)
theorem byte_msb {c : Int} (hc : 0 ≤ c ∧ c ≤ 255) : ∀ k, k < 8 → (((BitVec.ofInt 32 (c * 16777216)) <<< k).msb) = bitC c k := by
 obtain ⟨n, rfl⟩ := Int.eq_ofNat_of_zero_le hc.1
 have hn : n < 256 := by omega
 intro k hk
 have hall : ∀ n : Nat, n < 256 → ∀ k : Nat, k < 8 → ((BitVec.ofInt 32 ((n : Int) * 16777216)) <<< k).msb = bitC (n : Int) k := by decide +kernel
 exact hall n hn k hk
theorem step_bits {s c : Int} (hs : 0 ≤ s ∧ s ≤ 4294967295) (hc : 0 ≤ c ∧ c ≤ 255) : crcStep s c = rByte c 8 s := by
 obtain ⟨x, rfl⟩ := exB hs
 have h1 : wrapV .u32 c = c := by simp only [wrapV]; omega
 have h2 : wrapV .u32 (c * 16777216) = c * 16777216 := by simp only [wrapV]; omega
 have h3 := byte_msb hc
 obtain ⟨y, hy⟩ : ∃ y, y = BitVec.ofInt 32 (c * 16777216) := ⟨_, rfl⟩
 have h4 : c * 16777216 = ofB y := by rw [hy, of_toB (by omega)]
 rw [← hy] at h3
 unfold crcStep
 rw [h1, h2, h4, xr_of, crcN_of, tN_xor]
 have h5 : y <<< 8 = 0#32 := by
  have hall : ∀ n : Nat, n < 256 → (BitVec.ofInt 32 ((n : Int) * 16777216)) <<< 8 = 0#32 := by decide +kernel
  obtain ⟨n, rfl⟩ := Int.eq_ofNat_of_zero_le hc.1
  rw [hy]; exact hall n (by omega)
 rw [h5, BitVec.xor_zero]
 have e : ∀ k, k < 8 → (y <<< k).msb = bitC c k := h3
 simp only [rN, rByte, rBit_of]
 have e0 := e 0 (by omega)
 have e1 := e 1 (by omega)
 have e2 := e 2 (by omega)
 have e3 := e 3 (by omega)
 have e4 := e 4 (by omega)
 have e5 := e 5 (by omega)
 have e6 := e 6 (by omega)
 have e7 := e 7 (by omega)
 rw [BitVec.shiftLeft_zero] at e0
 have s2 : y <<< 1 <<< 1 = y <<< 2 := (BitVec.shiftLeft_add y 1 1).symm
 have s3 : y <<< 2 <<< 1 = y <<< 3 := (BitVec.shiftLeft_add y 2 1).symm
 have s4 : y <<< 3 <<< 1 = y <<< 4 := (BitVec.shiftLeft_add y 3 1).symm
 have s5 : y <<< 4 <<< 1 = y <<< 5 := (BitVec.shiftLeft_add y 4 1).symm
 have s6 : y <<< 5 <<< 1 = y <<< 6 := (BitVec.shiftLeft_add y 5 1).symm
 have s7 : y <<< 6 <<< 1 = y <<< 7 := (BitVec.shiftLeft_add y 6 1).symm
 rw [s2, s3, s4, s5, s6, s7, e0, e1, e2, e3, e4, e5, e6, e7]
theorem step_u32 {s c : Int} (hs : 0 ≤ s ∧ s ≤ 4294967295) (hc : 0 ≤ c ∧ c ≤ 255) : 0 ≤ crcStep s c ∧ crcStep s c ≤ 4294967295 := by
 rw [step_bits hs hc]
 have : ∀ k, 0 ≤ rByte c k s ∧ rByte c k s ≤ 4294967295 := fun k => by
  induction k with
  | zero => exact hs
  | succ k ih => exact rBit_u32 ih _
 exact this 8
theorem nt_of {n : Int} (h : 0 ≤ n ∧ n ≤ 4294967295) : nt n = 4294967295 - n := by
 obtain ⟨x, rfl⟩ := exB h
 have h1 : nt (ofB x) = xr 4294967295 (ofB x) := rfl
 have h2 : (4294967295 : Int) = ofB (BitVec.allOnes 32) := by decide
 rw [h1, h2, xr_of, BitVec.allOnes_xor]
 unfold ofB
 rw [BitVec.toNat_not]
 have := x.isLt
 have h3 : (BitVec.allOnes 32).toNat = 4294967295 := by decide
 rw [h3]; omega
def restF (b : List Int) : Nat → Int
 | 0 => 4294967295
 | n + 1 => rBit (restF b n) (bitC (b.getD (n / 8) 0) (n % 8))
theorem rest_bytes {b : List Int} (hu : ∀ c ∈ b, 0 ≤ c ∧ c ≤ 255) : ∀ k, k ≤ b.length → restF b (8 * k) = (b.take k).foldl crcStep 4294967295 ∧ (0 ≤ restF b (8 * k) ∧ restF b (8 * k) ≤ 4294967295)
 | 0, _ => ⟨rfl, by show (0 : Int) ≤ 4294967295 ∧ (4294967295 : Int) ≤ 4294967295; decide⟩
 | k + 1, hk => by
  obtain ⟨ih, hr⟩ := rest_bytes hu k (by omega)
  have hkl : k < b.length := by omega
  have hc := hu _ (List.getElem_mem hkl)
  have hj : ∀ j, j ≤ 8 → restF b (8 * k + j) = rByte b[k] j (restF b (8 * k)) := fun j => by
   induction j with
   | zero => intro _; rfl
   | succ j ihj =>
    intro hj8
    rw [← Nat.add_assoc, restF, ihj (by omega), rByte]
    have e1 : (8 * k + j) / 8 = k := by omega
    have e2 : (8 * k + j) % 8 = j := by omega
    rw [e1, e2, List.getD_eq_getElem?_getD, List.getElem?_eq_getElem hkl]; rfl
  have h8 := hj 8 (by omega)
  rw [show 8 * (k + 1) = 8 * k + 8 by omega, h8, ← step_bits hr hc, ih, List.take_succ_eq_append_getElem hkl, List.foldl_append]
  rw [ih] at hr
  exact ⟨rfl, step_u32 hr hc⟩
theorem mor_rest {b : List Int} (hu : ∀ c ∈ b, 0 ≤ c ∧ c ≤ 255) : morF 0 b = 4294967295 - restF b (8 * b.length) := by
 obtain ⟨h1, h2⟩ := rest_bytes hu b.length (Nat.le_refl _)
 rw [List.take_length] at h1
 unfold morF
 rw [nt_of (n := 0) (by omega), show (4294967295 : Int) - 0 = 4294967295 by omega, ← h1, nt_of h2]
end Go.Proofs.YtkfobkfhbkicaaaGreat
namespace Go.Proofs.YtkfobkfhbkicaaaGreat
open Go.RowKit
set_option maxRecDepth 10000
theorem shr_u8 {c : Int} {k : Nat} (hk : k ≤ 7) : shiftV .shr .u8 c (k : Int) = some (.i .u8 (c / ((2 : Int) ^ k))) := by
 simp only [shiftV, IntKind.bits]
 rw [if_neg (by omega), Int.fdiv_eq_ediv_of_nonneg _ (Int.natCast_nonneg _), Int.toNat_natCast, show min k 8 = k by omega, Int.natCast_pow]; rfl
def rbitS : Spec := fun args S => match args with
 | [x, .i .i64 n] => match lstV byteE S x with
  | some b => if 0 ≤ n ∧ n < 8 * b.length ∧ b.length ≤ 1000000 ∧ b.all (fun c => decide (u8 c)) = true then some (.b (bitC (b.getD (n.toNat / 8) 0) (n.toNat % 8)), S) else none
  | none => none
 | _ => none
theorem rbit_ok : SpecOK Tryz.prog 104 rbitS := by
 intro args S x S' h
 simp only [rbitS] at h
 split at h
 ·rename_i y n
  split at h
  ·rename_i b hb
   split at h
   ·rename_i hc
    obtain ⟨h0, h1, hblen, hu⟩ := hc
    cases h
    obtain ⟨m, rfl⟩ := Int.eq_ofNat_of_zero_le h0
    rw [Int.toNat_natCast]
    have hk : m / 8 < b.length := by omega
    obtain ⟨bi, o, v, cap, ex, rfl⟩ := lst_sl hb hk
    have hkI : ((m / 8 : Nat) : Int) < b.length := by omega
    have hcl := lstV_cell hb rfl (fun a => rfl) hk []
    rw [List.append_nil] at hcl
    have hc8 : u8 b[m / 8] := of_decide_eq_true (List.all_eq_true.1 hu _ (List.getElem_mem hk))
    have hgd : b.getD (m / 8) 0 = b[m / 8] := by rw [List.getD_eq_getElem?_getD, List.getElem?_eq_getElem hk]; rfl
    rw [hgd]
    generalize b[m / 8] = c at hcl hc8
    have hc8' := hc8
    unfold u8 at hc8'
    have w1 : binV .int true .quo (.i .i64 (m : Int)) (.i .i64 8) = some (.i .i64 ((m / 8 : Nat) : Int)) := by
     rw [bin_quo_pos (by omega) (by omega), wrap_i64 (by omega) (by omega)]; congr 2
    have w2 : binV .int true .rem (.i .i64 (m : Int)) (.i .i64 8) = some (.i .i64 ((m % 8 : Nat) : Int)) := by
     rw [bin_rem_pos (by omega) (by omega)]; congr 2
    have w3 : wrapV .i64 (7 - ((m % 8 : Nat) : Int)) = ((7 - m % 8 : Nat) : Int) := by rw [wrap_i64 (by omega) (by omega)]; omega
    have w4 := shr_u8 (c := c) (k := 7 - m % 8) (by omega)
    have hq : 0 ≤ c / (2 : Int) ^ (7 - m % 8) := Int.ediv_nonneg hc8'.1 (Int.le_of_lt (Int.pow_pos (by decide)))
    have w5 : binV .int true .rem (.i .u8 (c / (2 : Int) ^ (7 - m % 8))) (.i .u8 2) = some (.i .u8 (c / (2 : Int) ^ (7 - m % 8) % 2)) := bin_rem_pos hq (by omega)
    refine fn_of_wp f104 rfl (W_sound none_ok mixed _ _ _ _ _ ?_)
    unfold bitC
    simp (maxSteps := 1000000) (disch := omega) only [c104, w1, hkI, Int.toNat_natCast, Nat.mul_one, hcl, w2, w3, w4, w5, go_sem]
    exact wkv_same
   ·cases h
  ·cases h
 ·cases h
def rxorS : Spec := fun args S => match args with
 | [.i .u64 a, .i .u64 b] => if (0 ≤ a ∧ a ≤ 4294967295) ∧ (0 ≤ b ∧ b ≤ 4294967295) then some (.i .u64 (xr a b), S) else none
 | _ => none
theorem xr_nat {a b : Nat} (ha : a ≤ 4294967295) (hb : b ≤ 4294967295) : xr (a : Int) (b : Int) = ((a ^^^ b : Nat) : Int) ∧ a ^^^ b < 2 ^ 32 := by
 have hlt : a ^^^ b < 2 ^ 32 := Nat.xor_lt_two_pow (by omega) (by omega)
 refine ⟨?_, hlt⟩
 have e : ∀ n : Nat, n ≤ 4294967295 → (BitVec.ofInt 32 (n : Int)).toNat = n := fun n hn => by rw [BitVec.toNat_ofInt]; omega
 unfold xr
 rw [e a ha, e b hb]
 show wrapV .u32 ((a ^^^ b : Nat) : Int) = _
 simp only [wrapV]; omega
theorem xor_step (a b k : Nat) : (a ^^^ b) % 2 ^ (k + 1) = (a ^^^ b) % 2 ^ k + (if a / 2 ^ k % 2 = b / 2 ^ k % 2 then 0 else 2 ^ k) := by
 have h := Nat.testBit_xor a b k
 rw [Nat.testBit_eq_decide_div_mod_eq, Nat.testBit_eq_decide_div_mod_eq, Nat.testBit_eq_decide_div_mod_eq] at h
 rw [Nat.mod_pow_succ]
 have h0 : (a ^^^ b) / 2 ^ k % 2 = 0 ∨ (a ^^^ b) / 2 ^ k % 2 = 1 := by omega
 have h1 : a / 2 ^ k % 2 = 0 ∨ a / 2 ^ k % 2 = 1 := by omega
 have h2 : b / 2 ^ k % 2 = 0 ∨ b / 2 ^ k % 2 = 1 := by omega
 rcases h0 with h0 | h0 <;> rcases h1 with h1 | h1 <;> rcases h2 with h2 | h2 <;> simp [h0, h1, h2] at h ⊢
theorem rxor_ok : SpecOK Tryz.prog 105 rxorS := by
 intro args S x S' h
 simp only [rxorS] at h
 split at h
 ·rename_i a0 b0
  split at h
  ·rename_i hc
   obtain ⟨⟨ha0, ha1⟩, hb0, hb1⟩ := hc
   cases h
   obtain ⟨a, rfl⟩ := Int.eq_ofNat_of_zero_le ha0
   obtain ⟨b, rfl⟩ := Int.eq_ofNat_of_zero_le hb0
   obtain ⟨hx, hlt⟩ := xr_nat (a := a) (b := b) (by omega) (by omega)
   rw [hx]
   refine fn_of_wp f105 rfl (W_sound none_ok mixed _ _ _ _ _ ?_)
   simp (maxSteps := 1000000) (disch := omega) only [c105, go_sem]
   refine wp_loop (fun j e M dl => dl = [] ∧ ∃ k : Nat, j = 32 - k ∧ k ≤ 32 ∧ M = S ∧ e.get 7 = .i .i64 k ∧ e.get 6 = .i .u64 ((2 ^ k : Nat) : Int) ∧ e.get 0 = .i .u64 ((a / 2 ^ k : Nat) : Int) ∧ e.get 1 = .i .u64 ((b / 2 ^ k : Nat) : Int) ∧ e.get 5 = .i .u64 (((a ^^^ b) % 2 ^ k : Nat) : Int)) (j := 32)
    ⟨rfl, 0, rfl, Nat.zero_le _, rfl, rfl, rfl, by rw [Nat.pow_zero, Nat.div_one]; rfl, by rw [Nat.pow_zero, Nat.div_one]; rfl, by rw [Nat.pow_zero, Nat.mod_one]; rfl⟩ ?_
   rintro j e M d' ⟨rfl, k, rfl, hk, rfl, e7, e6, e0, e1, e5⟩
   refine W_sound none_ok mixed _ _ _ _ _ ?_
   by_cases hkm : k < 32
   ·have hkI : (k : Int) < 32 := by omega
    have hk6 : k < 1000000 := by omega
    have hp : 2 ^ k ≤ 2 ^ 31 := Nat.pow_le_pow_right (by decide) (by omega)
    have hp31 : (2 : Nat) ^ 31 = 2147483648 := by decide
    have hst := xor_step a b k
    have hm : (a ^^^ b) % 2 ^ k < 2 ^ k := Nat.mod_lt _ (Nat.pow_pos (by decide))
    have q1 : a / 2 ^ (k + 1) = a / 2 ^ k / 2 := by rw [Nat.pow_succ, Nat.div_div_eq_div_mul]
    have q2 : b / 2 ^ (k + 1) = b / 2 ^ k / 2 := by rw [Nat.pow_succ, Nat.div_div_eq_div_mul]
    have q3 : 2 ^ (k + 1) = 2 ^ k * 2 := Nat.pow_succ 2 k
    have hda : a / 2 ^ k ≤ a := Nat.div_le_self _ _
    have hdb : b / 2 ^ k ≤ b := Nat.div_le_self _ _
    generalize a / 2 ^ k = ak at *
    generalize b / 2 ^ k = bk at *
    generalize 2 ^ k = p at *
    generalize (a ^^^ b) % p = o at *
    have r1 : binV .int true .rem (.i .u64 (ak : Int)) (.i .u64 2) = some (.i .u64 ((ak % 2 : Nat) : Int)) := by rw [bin_rem_pos (by omega) (by omega)]; congr 2
    have r2 : binV .int true .rem (.i .u64 (bk : Int)) (.i .u64 2) = some (.i .u64 ((bk % 2 : Nat) : Int)) := by rw [bin_rem_pos (by omega) (by omega)]; congr 2
    have r3 : binV .int true .quo (.i .u64 (ak : Int)) (.i .u64 2) = some (.i .u64 ((ak / 2 : Nat) : Int)) := by rw [bin_quo_pos (by omega) (by omega), wrap_u64 (by omega) (by omega)]; congr 2
    have r4 : binV .int true .quo (.i .u64 (bk : Int)) (.i .u64 2) = some (.i .u64 ((bk / 2 : Nat) : Int)) := by rw [bin_quo_pos (by omega) (by omega), wrap_u64 (by omega) (by omega)]; congr 2
    have r5 : wrapV .u64 ((p : Int) * 2) = ((p * 2 : Nat) : Int) := by rw [wrap_u64 (by omega) (by omega)]; omega
    have r6 : wrapV .u64 ((o : Int) + p) = ((o + p : Nat) : Int) := by rw [wrap_u64 (by omega) (by omega)]; omega
    by_cases hab : ak % 2 = bk % 2
    ·rw [if_pos hab] at hst
     have habI : ((ak % 2 : Nat) : Int) = ((bk % 2 : Nat) : Int) := by omega
     simp (maxSteps := 1000000) (disch := omega) only [c105l0, e7, e6, e0, e1, e5, hkI, r1, r2, habI, r3, r4, r5, wrapS hk6, go_sem]
     refine ⟨32 - (k + 1), ?_, k + 1, ?_, ?_, ?_, ?_, ?_, ?_, ?_⟩
     ·omega
     ·rfl
     ·omega
     ·rfl
     ·rw [q3]
     ·rw [q1]
     ·rw [q2]
     ·rw [hst]; rfl
    ·rw [if_neg hab] at hst
     have habI : ¬ ((ak % 2 : Nat) : Int) = ((bk % 2 : Nat) : Int) := by omega
     simp (maxSteps := 1000000) (disch := omega) only [c105l0, e7, e6, e0, e1, e5, hkI, r1, r2, habI, r3, r4, r5, r6, wrapS hk6, go_sem]
     refine ⟨32 - (k + 1), ?_, k + 1, ?_, ?_, ?_, ?_, ?_, ?_, ?_⟩
     ·omega
     ·rfl
     ·omega
     ·rfl
     ·rw [q3]
     ·rw [q1]
     ·rw [q2]
     ·rw [hst]
   ·obtain rfl : k = 32 := by omega
    rw [Nat.mod_eq_of_lt hlt] at e5
    have hkI : ¬ ((32 : Nat) : Int) < 32 := by omega
    simp (maxSteps := 1000000) (disch := omega) only [c105l0, e7, e6, e0, e1, e5, hkI, go_sem]
    exact wkv_same
  ·cases h
 ·cases h
def rOfS : Spec := fun args S => match args with
 | [x] => match lstV byteE S x with
  | some b => if b.length ≤ 100000 ∧ b.all (fun c => decide (u8 c)) = true then some (.i .u32 (morF 0 b), S) else none
  | none => none
 | _ => none
theorem rest_u32 (b : List Int) : ∀ n, 0 ≤ restF b n ∧ restF b n ≤ 4294967295
 | 0 => by show (0 : Int) ≤ 4294967295 ∧ (4294967295 : Int) ≤ 4294967295; decide
 | n + 1 => rBit_u32 (rest_u32 b n) _
theorem oROf3_ok : OK Tryz.prog (lamOf Tryz.prog) (orcOf [(104, rbitS), (105, rxorS)]) := orc_ok (by simpa using ⟨rbit_ok, rxor_ok⟩)
theorem rOf_ok : SpecOK Tryz.prog 84 rOfS := by
 intro args S x S' h
 simp only [rOfS] at h
 split at h
 ·rename_i y
  split at h
  ·rename_i b hb
   split at h
   ·rename_i hc
    obtain ⟨hlim, hu⟩ := hc
    cases h
    have hu2 : ∀ c ∈ b, 0 ≤ c ∧ c ≤ 255 := fun c hc => of_decide_eq_true (List.all_eq_true.1 hu c hc)
    rw [mor_rest hu2]
    have hbl := lst_len hb
    have w0 : wrapV .i64 (8 * (b.length : Int)) = ((8 * b.length : Nat) : Int) := by rw [wrap_i64 (by omega) (by omega)]; omega
    refine fn_of_wp f84 rfl (W_sound oROf3_ok mixed _ _ _ _ _ ?_)
    simp (maxSteps := 1000000) (disch := omega) only [c84, go_sem]
    refine wp_loop (fun j e M dl => dl = [] ∧ ∃ k : Nat, j = 8 * b.length - k ∧ k ≤ 8 * b.length ∧ M = S ∧ e.get 0 = y ∧ e.get 4 = .i .i64 k ∧ e.get 3 = .i .u64 (restF b k)) (j := 8 * b.length)
     ⟨rfl, 0, rfl, Nat.zero_le _, rfl, rfl, rfl, rfl⟩ ?_
    rintro j e M d' ⟨rfl, k, rfl, hk, rfl, e0, e4, e3⟩
    refine W_sound oROf3_ok mixed _ _ _ _ _ ?_
    have hr := rest_u32 b k
    by_cases hkm : k < 8 * b.length
    ·have hkI : (k : Int) < ((8 * b.length : Nat) : Int) := by omega
     have hk6 : k < 1000000 := by omega
     have hbit : rbitS [y, .i .i64 (k : Int)] M = some (.b (bitC (b.getD (k / 8) 0) (k % 8)), M) := by
      simp only [rbitS, hb, Int.toNat_natCast]
      rw [if_pos ⟨by omega, by omega, by omega, hu⟩]
     have hs : restF b (k + 1) = rBit (restF b k) (bitC (b.getD (k / 8) 0) (k % 8)) := rfl
     generalize bitC (b.getD (k / 8) 0) (k % 8) = t at hbit hs
     unfold rBit at hs
     generalize restF b k = r at *
     have m1 : wrapV .u64 (r * 2) = r * 2 := wrap_u64 (by omega) (by omega)
     have m2 : binV .int true .rem (.i .u64 (r * 2)) (.i .u64 4294967296) = some (.i .u64 (r * 2 % 4294967296)) := bin_rem_pos (by omega) (by omega)
     have hx : rxorS [.i .u64 (r * 2 % 4294967296), .i .u64 79764919] M = some (.i .u64 (xr (r * 2 % 4294967296) 79764919), M) := by
      simp only [rxorS]
      rw [if_pos ⟨by omega, by omega⟩]
     by_cases hg : 2147483648 ≤ r
     ·rw [decide_eq_true hg] at hs
      cases t with
      | true =>
       simp (maxSteps := 1000000) (disch := omega) only [c84l0, e0, e4, e3, hbl, w0, hkI, hg, orc_cons, hbit, m1, m2, hx, wrapS hk6, go_sem]
       exact ⟨8 * b.length - (k + 1), by omega, k + 1, rfl, hkm, rfl, by rw [hs]; rfl⟩
      | false =>
       simp (maxSteps := 1000000) (disch := omega) only [c84l0, e0, e4, e3, hbl, w0, hkI, hg, orc_cons, hbit, m1, m2, hx, wrapS hk6, go_sem]
       exact ⟨8 * b.length - (k + 1), by omega, k + 1, rfl, hkm, rfl, by rw [hs]; rfl⟩
     ·rw [decide_eq_false hg] at hs
      cases t with
      | true =>
       simp (maxSteps := 1000000) (disch := omega) only [c84l0, e0, e4, e3, hbl, w0, hkI, hg, orc_cons, hbit, m1, m2, hx, wrapS hk6, go_sem]
       exact ⟨8 * b.length - (k + 1), by omega, k + 1, rfl, hkm, rfl, by rw [hs]; rfl⟩
      | false =>
       simp (maxSteps := 1000000) (disch := omega) only [c84l0, e0, e4, e3, hbl, w0, hkI, hg, orc_cons, hbit, m1, m2, hx, wrapS hk6, go_sem]
       exact ⟨8 * b.length - (k + 1), by omega, k + 1, rfl, hkm, rfl, by rw [hs]; rfl⟩
    ·obtain rfl : k = 8 * b.length := by omega
     have hkI : ¬ ((8 * b.length : Nat) : Int) < ((8 * b.length : Nat) : Int) := by omega
     have m3 : wrapV .u64 (4294967295 - restF b (8 * b.length)) = 4294967295 - restF b (8 * b.length) := wrap_u64 (by omega) (by omega)
     have m4 : wrapV .u32 (4294967295 - restF b (8 * b.length)) = 4294967295 - restF b (8 * b.length) := by simp only [wrapV]; omega
     simp (maxSteps := 1000000) (disch := omega) only [c84l0, e0, e4, e3, hbl, w0, hkI, m3, m4, go_sem]
     exact wkv_same
   ·cases h
  ·cases h
 ·cases h
end Go.Proofs.YtkfobkfhbkicaaaGreat
namespace Go.Proofs.YtkfobkfhbkicaaaGreat
open Go.RowKit
set_option maxRecDepth 10000
def rSealS : Spec := fun args S => match args with
 | [x] => match lstV byteE S x with
  | some l => if l.length ≤ 100000 ∧ l.all (fun c => decide (u8 c)) = true then some (retX true S (sealF l), retM true byteE S (sealF l)) else none
  | none => none
 | _ => none
theorem oRSl_ok : OK Tryz.prog (lamOf Tryz.prog) (orcOf [(84, rOfS)]) := orc_ok (by simpa using rOf_ok)
theorem mor_u32 {b : List Int} (hu : ∀ c ∈ b, 0 ≤ c ∧ c ≤ 255) : 0 ≤ morF 0 b ∧ morF 0 b ≤ 4294967295 := by
 rw [mor_rest hu]
 have := rest_u32 b (8 * b.length)
 omega
theorem rSeal_ok : SpecOK Tryz.prog 62 rSealS := by
 intro args S x S' h
 simp only [rSealS] at h
 split at h
 ·rename_i y
  split at h
  ·rename_i l hl
   split at h
   ·rename_i hc
    obtain ⟨hlim, hu⟩ := hc
    cases h
    have hof : ∀ U, rOfS [y] (S ++ U) = some (.i .u32 (morF 0 l), S ++ U) := fun U => by
     simp only [rOfS, lstV_grow hl U]
     rw [if_pos ⟨hlim, hu⟩]
    have hof0 := hof []
    rw [List.append_nil] at hof0
    have hs := mor_u32 (fun c hc => of_decide_eq_true (List.all_eq_true.1 hu c hc))
    unfold sealF tailF
    generalize morF 0 l = s at hof0 hs
    have hA0 : Acc true byteE S (S ++ [.cells [] 0 none true]) (.sl S.length 0 0 0 0 true) [] := acc_lit ext_refl
    obtain ⟨y1, M1, ha1, hA1⟩ := hA0.apps (bytes := 1) byteE_one l (by simp only [List.length_nil]; omega) (by simp only [List.length_nil]; omega)
    rw [List.nil_append] at hA1
    have hsrc := src_lst (lstV_grow hl [.cells [] 0 none true])
    have hsrc : srcV (S ++ [.cells [] 0 none true]) 1 y = some (l.flatMap byteE.enc, l.length) := hsrc
    have ha1 : appV (S ++ [.cells [] 0 none true]) 1 1 (.sl S.length 0 0 0 0 true) (l.flatMap byteE.enc) l.length = some (y1, M1) := ha1
    have q1 : binV .int true .quo (.i .u32 s) (.i .u32 16777216) = some (.i .u32 (s / 16777216)) := by rw [bin_quo_pos (by omega) (by omega)]; congr 2; simp only [wrapV]; omega
    have q2 : binV .int true .quo (.i .u32 s) (.i .u32 65536) = some (.i .u32 (s / 65536)) := by rw [bin_quo_pos (by omega) (by omega)]; congr 2; simp only [wrapV]; omega
    have q3 : binV .int true .quo (.i .u32 s) (.i .u32 256) = some (.i .u32 (s / 256)) := by rw [bin_quo_pos (by omega) (by omega)]; congr 2; simp only [wrapV]; omega
    have q4 : binV .int true .rem (.i .u32 (s / 65536)) (.i .u32 256) = some (.i .u32 (s / 65536 % 256)) := bin_rem_pos (by omega) (by omega)
    have q5 : binV .int true .rem (.i .u32 (s / 256)) (.i .u32 256) = some (.i .u32 (s / 256 % 256)) := bin_rem_pos (by omega) (by omega)
    have q6 : binV .int true .rem (.i .u32 s) (.i .u32 256) = some (.i .u32 (s % 256)) := bin_rem_pos (by omega) (by omega)
    have w2 : wrapV .u8 (s / 65536 % 256) = wrapV .u8 (s / 65536) := by simp only [wrapV]; omega
    have w3 : wrapV .u8 (s / 256 % 256) = wrapV .u8 (s / 256) := by simp only [wrapV]; omega
    have w4 : wrapV .u8 (s % 256) = wrapV .u8 s := by simp only [wrapV]; omega
    have w1 : wrapV .u8 (s / 16777216) = s / 16777216 := by simp only [wrapV]; omega
    rw [w1]
    generalize wrapV .u8 (s / 65536) = c2 at *
    generalize wrapV .u8 (s / 256) = c3 at *
    generalize wrapV .u8 s = c4 at *
    obtain ⟨y2, M2, ha2, hA2⟩ := (hA1.grow [.cells [.i .u8 (s / 16777216), .i .u8 c2, .i .u8 c3, .i .u8 c4] 0 none true]).apps (bytes := 1) byteE_one [(s / 16777216), c2, c3, c4] (by simp only [List.length_cons, List.length_nil]; omega) (by simp only [List.length_cons, List.length_nil]; omega)
    have ha2 : appV (M1 ++ [.cells [.i .u8 (s / 16777216), .i .u8 c2, .i .u8 c3, .i .u8 c4] 0 none true]) 1 1 y1 [.i .u8 (s / 16777216), .i .u8 c2, .i .u8 c3, .i .u8 c4] 4 = some (y2, M2) := ha2
    have hsrc2 : srcV (M1 ++ [.cells [.i .u8 (s / 16777216), .i .u8 c2, .i .u8 c3, .i .u8 c4] 0 none true]) 1 (.sl M1.length 0 0 4 4 true) = some ([.i .u8 (s / 16777216), .i .u8 c2, .i .u8 c3, .i .u8 c4], 4) := by
     rw [src_sl, at_app0]; rfl
    refine fn_of_wp f62 rfl (W_sound oRSl_ok mixed _ _ _ _ _ ?_)
    simp (maxSteps := 1000000) (disch := omega) only [c62, orc_cons, hof0, hsrc, ha1, q1, q2, q3, q4, q5, q6, w2, w3, w4, List.replicate, hsrc2, ha2, go_sem]
    exact hA2.ret byteE_flat
   ·cases h
  ·cases h
 ·cases h
def rNumS (f : Nat) : Spec := fun args S => match args with
 | [.i .u64 n, .i .i64 m] => if u64 n ∧ 0 ≤ m ∧ m ≤ f ∧ m ≤ 8 then some (retX true S (numF n m.toNat), retM true byteE S (numF n m.toNat)) else none
 | _ => none
theorem rNum_zero {n : Int} : SpecOK Tryz.prog 61 (rNumS 0) := by
 intro args S x S' h
 simp only [rNumS] at h
 split at h
 ·rename_i n mm
  split at h
  ·rename_i hc
   obtain ⟨hn, h0, hf, h8⟩ := hc
   obtain rfl : mm = 0 := by omega
   cases h
   refine fn_of_wp f61 rfl (W_sound none_ok mixed _ _ _ _ _ ?_)
   have e0 : (0 : Int).toNat = 0 := rfl
   simp (maxSteps := 1000000) (disch := omega) only [c61, List.replicate, e0, numF, retX, retM, go_sem]
   exact wkv_same
  ·cases h
 ·cases h
theorem rNum_ok : ∀ f, SpecOK Tryz.prog 61 (rNumS f)
 | 0 => rNum_zero (n := 0)
 | f + 1 => by
  have hO : OK Tryz.prog (lamOf Tryz.prog) (orcOf [(61, rNumS f)]) := orc_ok (by simpa using rNum_ok f)
  intro args S x S' h
  simp only [rNumS] at h
  split at h
  ·rename_i n mm
   split at h
   ·rename_i hc
    obtain ⟨hn, h0, hf, h8⟩ := hc
    have hn' := hn
    unfold u64 at hn'
    obtain ⟨m, rfl⟩ := Int.eq_ofNat_of_zero_le h0
    rw [Int.toNat_natCast] at h
    cases h
    cases m with
    | zero =>
     refine fn_of_wp f61 rfl (W_sound hO mixed _ _ _ _ _ ?_)
     simp (maxSteps := 1000000) (disch := omega) only [c61, List.replicate, numF, retX, retM, go_sem]
     exact wkv_same
    | succ k =>
     have hne : ¬ ((k + 1 : Nat) : Int) = 0 := by omega
     have q1 : binV .int true .quo (.i .u64 n) (.i .u64 256) = some (.i .u64 (n / 256)) := by rw [bin_quo_pos (by omega) (by omega), wrap_u64 (by omega) (by omega)]
     have q2 : wrapV .i64 (((k + 1 : Nat) : Int) - 1) = (k : Int) := by rw [wrap_i64 (by omega) (by omega)]; omega
     have q3 : binV .int true .rem (.i .u64 n) (.i .u64 256) = some (.i .u64 (n % 256)) := bin_rem_pos (by omega) (by omega)
     have q4 : wrapV .u8 (n % 256) = n % 256 := wrap_u8 (by omega) (by omega)
     have hcall : rNumS f [.i .u64 (n / 256), .i .i64 (k : Int)] S = some (retX true S (numF (n / 256) k), retM true byteE S (numF (n / 256) k)) := by
      simp only [rNumS]
      rw [if_pos ⟨⟨by omega, by omega⟩, by omega, by omega, by omega⟩, Int.toNat_natCast]
     have hA := retX_acc (z := true) (E := byteE) (S := S) (l := numF (n / 256) k)
     generalize retX true S (numF (n / 256) k) = y at hcall hA
     generalize retM true byteE S (numF (n / 256) k) = M1 at hcall hA
     have hnl := num_len (n / 256) k
     obtain ⟨y2, M2, ha, hA2⟩ := (hA.grow [.cells [.i .u8 (n % 256)] 0 none true]).app (bytes := 1) byteE_one (n % 256) (by omega) (by omega)
     have ha : appV (M1 ++ [.cells [.i .u8 (n % 256)] 0 none true]) 1 1 y [.i .u8 (n % 256)] 1 = some (y2, M2) := ha
     have hsrc : srcV (M1 ++ [.cells [.i .u8 (n % 256)] 0 none true]) 1 (.sl M1.length 0 0 1 1 true) = some ([.i .u8 (n % 256)], 1) := by
      rw [src_sl, at_app0]; rfl
     refine fn_of_wp f61 rfl (W_sound hO mixed _ _ _ _ _ ?_)
     rw [numF_snoc]
     simp (maxSteps := 1000000) (disch := omega) only [c61, hne, q1, q2, orc_cons, hcall, q3, q4, List.replicate, hsrc, ha, go_sem]
     exact hA2.ret byteE_flat
   ·cases h
  ·cases h
theorem rsize_ok : SpecOK Tryz.prog 52 fSizeS := by
 intro args S x S' h
 simp only [fSizeS] at h
 split at h
 ·rename_i n
  cases h
  refine fn_of_wp f52 rfl (W_sound none_ok mixed _ _ _ _ _ ?_)
  unfold sizeF
  by_cases h1 : n < 0
  ·rw [if_pos (.inl h1)]
   simp (maxSteps := 1000000) (disch := omega) only [c52, h1, go_sem]
   exact wkv_same
  ·by_cases h2 : 700 < n
   ·rw [if_pos (.inr h2)]
    simp (maxSteps := 1000000) (disch := omega) only [c52, h1, h2, go_sem]
    exact wkv_same
   ·rw [if_neg (by omega)]
    obtain ⟨m, hm⟩ : ∃ m : Nat, (n + 81) / 64 = (m : Int) := ⟨((n + 81) / 64).toNat, by omega⟩
    rw [hm]
    simp (maxSteps := 1000000) (disch := omega) only [c52, h1, h2, go_sem]
    have w1 : wrapV .i64 (n + 18) = n + 18 := wrap_i64 (by omega) (by omega)
    refine wp_loop (fun j e M dl => dl = [] ∧ ∃ k : Nat, j = m - k ∧ k ≤ m ∧ M = S ∧ e.get 0 = .i .i64 n ∧ e.get 3 = .i .i64 k) (j := m) ⟨rfl, 0, rfl, Nat.zero_le _, rfl, rfl, rfl⟩ ?_
    rintro j e M d' ⟨rfl, k, rfl, hk, rfl, e0, e3⟩
    refine W_sound none_ok mixed _ _ _ _ _ ?_
    have w2 : wrapV .i64 (64 * (k : Int)) = 64 * (k : Int) := wrap_i64 (by omega) (by omega)
    have hk6 : k < 1000000 := by omega
    by_cases hkm : k < m
    ·have hle : 64 * (k : Int) < n + 18 := by omega
     simp (maxSteps := 1000000) (disch := omega) only [c52l0, e0, e3, w1, w2, hle, wrapS hk6, go_sem]
     exact ⟨m - (k + 1), by omega, k + 1, rfl, hkm, rfl⟩
    ·have hle : ¬ 64 * (k : Int) < n + 18 := by omega
     obtain rfl : k = m := by omega
     simp (maxSteps := 1000000) (disch := omega) only [c52l0, e0, e3, w1, w2, hle, go_sem]
     exact wkv_same
 ·cases h
end Go.Proofs.YtkfobkfhbkicaaaGreat
namespace Go.Proofs.YtkfobkfhbkicaaaGreat
open Go.RowKit
set_option maxRecDepth 10000
theorem pad_set {b : List Int} {k N : Nat} (hk : k < b.length) (hN : k < N) : splice ((padF (b.take k) N).map byV) k [byV b[k]] = (padF (b.take (k + 1)) N).map byV := by
 have h1 : b.take (k + 1) = b.take k ++ [b[k]] := List.take_succ_eq_append_getElem hk
 have hl : (b.take k).length = k := by rw [List.length_take]; omega
 unfold splice padF
 rw [h1]
 simp only [List.map_append, List.map_replicate, List.length_append, hl, List.length_map, List.length_singleton, List.map_cons, List.map_nil]
 rw [List.take_append_of_le_length (by rw [List.length_map, hl]; exact Nat.le_refl _), List.take_of_length_le (by rw [List.length_map, hl]; exact Nat.le_refl _),
  List.drop_append, List.drop_of_length_le (by rw [List.length_map, hl]; omega), List.nil_append, List.length_map, hl, List.drop_replicate, List.append_assoc]
 congr 2
 congr 1; omega
theorem sec_pad {m : Nat} {c : List Int} (h : c.length ≤ m * 64) : (secsF m c).flatMap secE.enc = (padF c (m * 64)).map byV := by
 rw [enc_secs, secsF_bytes _ _ h]
theorem sec_more {m : Nat} {c : List Int} (h : c.length ≤ m * 64) : (secsF m c ++ [zSec]).flatMap secE.enc = (padF c ((m + 1) * 64)).map byV := by
 rw [List.flatMap_append, sec_pad h, List.flatMap_cons, List.flatMap_nil, List.append_nil]
 have hz : secE.enc zSec = (List.replicate 64 0).map byV := rfl
 rw [hz, ← List.map_append]
 congr 1
 unfold padF
 rw [List.append_assoc, List.replicate_append_replicate]
 congr 2; omega
theorem secs_inj {l l' : List Sec} (h : l.flatMap secE.enc = l'.flatMap secE.enc) (hl : l.length = l'.length) : l = l' := by
 have h1 : ∀ {l l' : List Sec}, l.length = l'.length → l.flatMap secE.enc = l'.flatMap secE.enc → l = l' := by
  intro l
  induction l with
  | nil => intro l' h _; cases l' with
   | nil => rfl
   | cons a r => cases h
  | cons s l ih =>
   intro l' hl h
   cases l' with
   | nil => cases hl
   | cons t r =>
    rw [List.flatMap_cons, List.flatMap_cons] at h
    obtain ⟨h1, h2⟩ := List.append_inj h (by rw [show (secE.enc s).length = 64 from s.enc_len, show (secE.enc t).length = 64 from t.enc_len])
    rw [enc_inj (E := secE) h1, ih (by simpa using hl) h2]
 exact h1 hl h
def rmakeS : Spec := fun args S => match args with
 | [.ag [.i .u64 seq, .i .u32 epoch, px]] => match lstV byteE S px with
  | some p => if p.length ≤ 700000 ∧ px.one = true ∧ u64 seq ∧ (0 ≤ epoch ∧ epoch ≤ 4294967295) ∧ p.all (fun c => decide (u8 c)) = true then
    (if 700 < p.length ∨ seq = 0 then some (.tu [.sn, .i .i64 81], S)
     else some (.tu [retX true S (secsF (sizeF p.length).toNat (frameB seq epoch p)), .i .i64 0], retM true secE S (secsF (sizeF p.length).toNat (frameB seq epoch p)))) else none
  | none => none
 | _ => none
theorem frame_u8 {seq epoch : Int} {p : List Int} (hp : ∀ c ∈ p, u8 c) : ∀ c ∈ headB seq epoch p, u8 c := by
 intro x hx
 unfold headB at hx
 rcases List.mem_append.1 hx with hx | hx
 ·rcases List.mem_append.1 hx with hx | hx
  ·rcases List.mem_append.1 hx with hx | hx
   ·exact numF_u8 _ _ _ hx
   ·exact numF_u8 _ _ _ hx
  ·exact numF_u8 _ _ _ hx
 ·exact hp x hx
theorem oRMk_ok : OK Tryz.prog (lamOf Tryz.prog) (orcOf [(61, rNumS 8), (62, rSealS)]) := orc_ok (by simpa using ⟨rNum_ok 8, rSeal_ok⟩)
set_option maxHeartbeats 2000000 in
theorem rmake_ok : SpecOK Tryz.prog 31 rmakeS := by
 intro args S x S' h
 simp only [rmakeS] at h
 split at h
 ·rename_i seq epoch px
  split at h
  ·rename_i p hp
   split at h
   ·rename_i hc
    obtain ⟨hlim, hone, hsq, hep, hu⟩ := hc
    have hcp := cells_one hone
    have hlp := lst_len hp
    refine fn_of_wp f31 rfl (W_sound oRMk_ok mixed _ _ _ _ _ ?_)
    split at h
    ·rename_i hbad
     cases h
     by_cases h7 : 700 < p.length
     ·have h7I : (700 : Int) < p.length := by omega
      simp (maxSteps := 1000000) (disch := omega) only [c31, hcp, hone, hlp, h7I, go_sem]
      exact wkv_drop rfl
     ·have h7I : ¬ (700 : Int) < p.length := by omega
      have hs0 : seq = 0 := hbad.resolve_left h7
      simp (maxSteps := 1000000) (disch := omega) only [c31, hcp, hone, hlp, h7I, hs0, go_sem]
      exact wkv_drop rfl
    ·rename_i hgood
     rw [not_or] at hgood
     obtain ⟨h7, hs0⟩ := hgood
     cases h
     have h7I : ¬ (700 : Int) < p.length := by omega
     have hu' : ∀ c ∈ p, u8 c := fun c hc => of_decide_eq_true (List.all_eq_true.1 hu c hc)
     have hwl : wrapV .u64 (p.length : Int) = p.length := wrap_u64 (by omega) (by omega)
     have hwe : wrapV .u64 epoch = epoch := wrap_u64 (by omega) (by omega)
     obtain ⟨box, hbox⟩ : ∃ box : Blk, box = .cells [.i .u64 seq, .i .u32 epoch, px] 0 none true := ⟨_, rfl⟩
     have hnum : ∀ (U : Mem) (a : Int) (k : Nat), u64 a → k ≤ 8 → 0 < k → rNumS 8 [.i .u64 a, .i .i64 (k : Int)] U = some (.sl U.length 0 0 k k false, U ++ [.cells ((numF a k).map byV) 0 (some 1) true]) := fun U a k ha hk h0 => by
      have hnl := num_len a k
      have hne : numF a k ≠ [] := by intro q; rw [q] at hnl; simp at hnl; omega
      simp only [rNumS]
      rw [if_pos ⟨ha, by omega, by omega, by omega⟩, Int.toNat_natCast, retX_ne hne, retM_ne hne, enc_by, hnl]; rfl
     have hn1 := hnum (S ++ [box]) (p.length : Int) 2 ⟨by omega, by omega⟩ (by omega) (by omega)
     obtain ⟨b1, hb1⟩ : ∃ b1 : Blk, b1 = .cells ((numF (p.length : Int) 2).map byV) 0 (some 1) true := ⟨_, rfl⟩
     rw [← hb1, List.append_assoc, List.length_append] at hn1
     have hn1 : rNumS 8 [.i .u64 (p.length : Int), .i .i64 2] (S ++ [box]) = some (.sl (S.length + 1) 0 0 2 2 false, S ++ [box, b1]) := hn1
     have hn2 := hnum (S ++ [box, b1]) seq 8 hsq (by omega) (by omega)
     obtain ⟨b2, hb2⟩ : ∃ b2 : Blk, b2 = .cells ((numF seq 8).map byV) 0 (some 1) true := ⟨_, rfl⟩
     rw [← hb2, List.append_assoc, List.length_append] at hn2
     have hn2 : rNumS 8 [.i .u64 seq, .i .i64 8] (S ++ [box, b1]) = some (.sl (S.length + 2) 0 0 8 8 false, S ++ [box, b1, b2]) := hn2
     have hl1 := num_len (p.length : Int) 2
     have hl2 := num_len seq 8
     have hl3 := num_len epoch 4
     have hA1 : Acc true byteE (S ++ [box]) (S ++ [box, b1, b2]) (.sl (S.length + 1) 0 0 2 2 false) (numF (p.length : Int) 2) :=
      ⟨[b1, b2], by simp, .inr (.inr ⟨(by intro q; rw [q] at hl1; cases hl1), 0, 0, by rw [List.length_append, hl1]; rfl, by rw [hb1, enc_by]; rfl⟩)⟩
     obtain ⟨y1, M1, ha1, hA2⟩ := hA1.apps (bytes := 1) byteE_one (numF seq 8) (by omega) (by omega)
     rw [enc_by, hl2] at ha1
     have ha1 : appV (S ++ [box, b1, b2]) 1 1 (.sl (S.length + 1) 0 0 2 2 false) ((numF seq 8).map byV) 8 = some (y1, M1) := ha1
     have hs1 : srcV (S ++ [box, b1, b2]) 1 (.sl (S.length + 2) 0 0 8 8 false) = some ((numF seq 8).map byV, 8) := by
      have hl : lstV byteE (S ++ [box, b1, b2]) (.sl (S.length + 2) 0 0 8 8 false) = some (numF seq 8) := lits_lst (E := byteE) (cs := (numF seq 8).map byV) (op := some 1) (by rw [at_app, ← hb2]; rfl) (enc_by _).symm hl2
      have := src_lst hl
      rw [enc_by, hl2] at this; exact this
     have hn3 := hnum M1 epoch 4 ⟨by omega, by omega⟩ (by omega) (by omega)
     obtain ⟨b3, hb3⟩ : ∃ b3 : Blk, b3 = .cells ((numF epoch 4).map byV) 0 (some 1) true := ⟨_, rfl⟩
     rw [← hb3] at hn3
     have hn3 : rNumS 8 [.i .u64 epoch, .i .i64 4] M1 = some (.sl M1.length 0 0 4 4 false, M1 ++ [b3]) := hn3
     obtain ⟨y2, M2, ha2, hA3⟩ := (hA2.grow [b3]).apps (bytes := 1) byteE_one (numF epoch 4) (by rw [List.length_append]; omega) (by rw [List.length_append]; omega)
     rw [enc_by, hl3] at ha2
     have ha2 : appV (M1 ++ [b3]) 1 1 y1 ((numF epoch 4).map byV) 4 = some (y2, M2) := ha2
     have hs2 : srcV (M1 ++ [b3]) 1 (.sl M1.length 0 0 4 4 false) = some ((numF epoch 4).map byV, 4) := by
      have hl : lstV byteE (M1 ++ [b3]) (.sl M1.length 0 0 4 4 false) = some (numF epoch 4) := lits_lst (E := byteE) (cs := (numF epoch 4).map byV) (op := some 1) (by rw [at_app0, ← hb3]; rfl) (enc_by _).symm hl3
      have := src_lst hl
      rw [enc_by, hl3] at this; exact this
     have hx1 := hA2.ext
     have hx2 := hA3.ext
     have g0 : (S ++ [box])[S.length]? = some box := by rw [at_app0]; rfl
     have g1 := fun U => at_old (L := U) (at_pre hx1 g0)
     have g10 := at_pre hx1 g0
     have g2 := at_pre hx2 g0
     have v1 := eqv_lst hA2.lst
     have v2 := eqv_lst hA3.lst
     have hpM2 : lstV byteE M2 px = some p := lst_ext hp ((ext_app _).trans hx2)
     have hs3 := src_lst hpM2
     have hs3 : srcV M2 1 px = some (p.flatMap byteE.enc, p.length) := hs3
     obtain ⟨y3, M3, ha3, hA4⟩ := hA3.apps (bytes := 1) byteE_one p (by rw [List.length_append, List.length_append]; omega) (by rw [List.length_append, List.length_append]; omega)
     have ha3 : appV M2 1 1 y2 (p.flatMap byteE.enc) p.length = some (y3, M3) := ha3
     have hhd : numF (p.length : Int) 2 ++ numF seq 8 ++ numF epoch 4 ++ p = headB seq epoch p := by unfold headB; rw [hwe]
     rw [hhd] at hA4
     have hhl := head_len seq epoch p
     have hse : rSealS [y3] M3 = some (retX true M3 (frameB seq epoch p), retM true byteE M3 (frameB seq epoch p)) := by
      simp only [rSealS, hA4.lst]
      rw [if_pos ⟨by omega, List.all_eq_true.2 fun c hc => decide_eq_true (frame_u8 hu' c hc)⟩]; rfl
     have hA5 := retX_acc (z := true) (E := byteE) (S := M3) (l := frameB seq epoch p)
     have hfl := frameB_len seq epoch p
     obtain ⟨m, hm⟩ : ∃ m : Nat, sizeF p.length = (m : Int) := ⟨((p.length : Int) + 81).toNat / 64, by unfold sizeF; rw [if_neg (by omega)]; omega⟩
     have hm64 : m = (p.length + 81) / 64 := by
      unfold sizeF at hm
      rw [if_neg (by omega)] at hm
      omega
     rw [hm, Int.toNat_natCast]
     generalize frameB seq epoch p = b at hse hA5 hfl
     generalize retX true M3 b = X4 at hse hA5
     generalize retM true byteE M3 b = M4 at hse hA5
     have hSM3 : S <+: M3 := (ext_app _).trans hA4.ext
     have hS4 : S <+: M4 := hSM3.trans hA5.ext
     have vp := eqv_lst hp
     rw [hbox] at hn1 hn2 ha1 hs1 g1 g10 g2
     have g00 : ∀ U : Mem, (S ++ (Blk.cells [.i .u64 seq, .i .u32 epoch, px] 0 none true :: U))[S.length]? = some (.cells [.i .u64 seq, .i .u32 epoch, px] 0 none true) := fun U => by rw [at_app0]; rfl
     simp (maxSteps := 1000000) (disch := omega) only [c31, hcp, hone, hlp, h7I, hs0, go_sem]
     refine draw_of ?_
     simp (maxSteps := 1000000) (disch := omega) only [c31d0, orc_cons, hlp, hwl, hwe, hn1, hn2, hs1, ha1, hn3, hs2, ha2, g00, g1, g10, g2, v1, v2, vp, dNs_nil, dNs_cons, dnK_some, dnK_none, dOpt_none, dOpt_some, doK_some, doK_none, dStages_nil, dStages_cons, s1K_app, s2K_app, s3K_app, s4K_app, dEnd_app, evOne_op, evOne_gd, evG_tt, evG_tf, evG_ft, evG_ff, evG_ud, kSt_nil, kSt_cons, kNs_nil, kNs_cons, kN_zero, kN_succ, kA_some, eqK_some, eqK_none, kOpt_none, kOpt_some, kLike_nil, kLike_cons, ROp.use, IOp.use, IO'.use, X.use, dstL_none, dstL_some, List.flatMap_cons, List.flatMap_nil, eqv_m, eqv_p, eqv_i, eqv_b, eqv_sl, eqv_sn, eqv_pn, eqv_ud, eqv_u, eqv_mn, eqv_ag, eqvL_cons, eqvL_nil, eqv_tu, Bool.and_true, Bool.true_and, Bool.and_self, Nat.le_refl, Nat.reduceLeDiff, and_self, and_true, true_and, go_sem]
     have hlX := lst_len hA5.lst
     rw [hfl] at hlX
     simp (maxSteps := 1000000) (disch := omega) only [hs3, ha3, orc_cons, hse, List.replicate, hlX, go_sem]
     have hzz : secE.enc zSec = zSec.enc := rfl
     refine wp_loop (fun j e M dl => dl = [] ∧ ∃ (k : Nat) (y : AV), j = p.length + 18 - k ∧ k ≤ p.length + 18 ∧ Acc true secE M4 M y (secsF ((k + 63) / 64) (b.take k)) ∧
      e.get 37 = X4 ∧ e.get 38 = .i .i64 ((p.length + 18 : Nat) : Int) ∧ e.get 39 = .i .i64 k ∧ e.get 5 = y) (j := p.length + 18)
      ⟨rfl, 0, .sl M4.length 0 0 0 0 true, rfl, Nat.zero_le _, acc_lit ext_refl, rfl, rfl, rfl, rfl⟩ ?_
     rintro j e M d' ⟨rfl, k, y, rfl, hk, hA, e37, e38, e39, e5⟩
     refine W_sound oRMk_ok mixed _ _ _ _ _ ?_
     have hM4M := hA.ext
     by_cases hkm : k < p.length + 18
     ·have hkb : k < b.length := by omega
      have hkI : (k : Int) < ((p.length + 18 : Nat) : Int) := by omega
      have hk6 : k < 1000000 := by omega
      obtain ⟨bi, o, v, cap, ex, rfl⟩ := lst_sl hA5.lst hkb
      have hbl : ((b.length : Nat) : Int) = ((p.length + 18 : Nat) : Int) := by rw [hfl]
      have hcell := lstV_cell (lst_ext hA5.lst hM4M) rfl (fun a => rfl) hkb []
      rw [List.append_nil] at hcell
      have hr : binV .int true .rem (.i .i64 (k : Int)) (.i .i64 64) = some (.i .i64 ((k % 64 : Nat) : Int)) := by rw [bin_rem_pos (by omega) (by omega)]; congr 2
      have hr64 : ((k % 64 : Nat) : Int) < 64 := by omega
      have hkt : (b.take k).length = k := by rw [List.length_take]; omega
      have hsl := secsF_len ((k + 63) / 64) (b.take k)
      have hset := pad_set (b := b) (k := k) (N := (k / 64 + 1) * 64) hkb (by omega)
      have hpl : (padF (b.take k) ((k / 64 + 1) * 64)).length = (k / 64 + 1) * 64 := pad_len (by omega)
      have hfin : (secsF ((k + 1 + 63) / 64) (b.take (k + 1))).flatMap secE.enc = (padF (b.take (k + 1)) ((k / 64 + 1) * 64)).map byV := by
       rw [show (k + 1 + 63) / 64 = k / 64 + 1 by omega]
       exact sec_pad (by rw [List.length_take]; omega)
      have hstore : ∀ (T : Mem) (q v : Nat), T[q]? = some (.cells ((padF (b.take k) ((k / 64 + 1) * 64)).map byV) v (some 64) true) →
        stB (M4 ++ T) (M4.length + q) ((M4 ++ T)[M4.length + q]?) (k / 64 * 64 + k % 64) v 1 (some [.i .u8 b[k]]) = some ((M4 ++ T).set (M4.length + q) (.cells ((padF (b.take (k + 1)) ((k / 64 + 1) * 64)).map byV) v (some 64) true)) ∧
        Acc true secE M4 ((M4 ++ T).set (M4.length + q) (.cells ((padF (b.take (k + 1)) ((k / 64 + 1) * 64)).map byV) v (some 64) true)) (.sl (M4.length + q) 0 v (k / 64 + 1) (k / 64 + 1) false) (secsF ((k + 1 + 63) / 64) (b.take (k + 1))) := fun T q v hT => by
       constructor
       ·rw [at_app, hT]
        simp only [stB]
        rw [if_pos ⟨trivial, rfl, by rw [List.length_map, hpl]; omega, rfl⟩, show k / 64 * 64 + k % 64 = k by omega]
        have hset' : splice ((padF (b.take k) ((k / 64 + 1) * 64)).map byV) k [.i .u8 b[k]] = _ := hset
        rw [hset']
       ·refine ⟨T.set q (.cells ((padF (b.take (k + 1)) ((k / 64 + 1) * 64)).map byV) v (some 64) true), by rw [set_app], .inr (.inr ⟨?_, q, v, ?_, ?_⟩)⟩
        ·intro z
         have := congrArg List.length z
         rw [secsF_len] at this; simp at this; omega
        ·rw [secsF_len, show (k + 1 + 63) / 64 = k / 64 + 1 by omega]
        ·rw [at_set hT, hfin]; rfl
      generalize hck : b[k] = c at *
      by_cases h0 : k % 64 = 0
      ·have h0I : ((k % 64 : Nat) : Int) = 0 := by omega
       have hmk : (k + 63) / 64 = k / 64 := by omega
       rw [hmk] at hA hsl
       obtain ⟨y2, M6, ha6, hA6⟩ := (hA.grow [.cells zSec.enc 0 none true]).app (bytes := 64) secE_one zSec (by rw [hsl]; omega) (by rw [hsl]; omega)
       have ha6 : appV (M ++ [.cells zSec.enc 0 none true]) 64 64 y zSec.enc 1 = some (y2, M6) := ha6
       have hsr6 : srcV (M ++ [.cells zSec.enc 0 none true]) 64 (.sl M.length 0 0 1 1 true) = some (zSec.enc, 1) := by
        rw [src_sl, at_app0]; rfl
       obtain ⟨T, hT, hd⟩ := hA6
       rcases hd with ⟨z, _⟩ | ⟨z, _⟩ | ⟨_, q, v2, hy2, hTq⟩
       ·simp at z
       ·simp at z
       ·rw [sec_more (by omega)] at hTq
        have hlen2 : (secsF (k / 64) (b.take k) ++ [zSec]).length = k / 64 + 1 := by rw [List.length_append, hsl]; rfl
        rw [hlen2] at hy2
        obtain ⟨hst, hAn⟩ := hstore T q v2 hTq
        rw [← hT] at hst hAn
        have hw1 : wrapV .i64 (((k / 64 + 1 : Nat) : Int) - 1) = ((k / 64 : Nat) : Int) := by rw [wrap_i64 (by omega) (by omega)]; omega
        have hi1 : ((k / 64 : Nat) : Int) < ((k / 64 + 1 : Nat) : Int) := by omega
        subst hy2
        rw [zSec_enc] at ha6 hsr6
        rw [h0, Nat.add_zero] at hst
        simp (maxSteps := 1000000) (disch := omega) only [c31l1, e37, e38, e39, e5, hkI, hbl, Int.toNat_natCast, Nat.mul_one, hcell, hr, h0I, List.replicate, hsr6, ha6, hw1, hi1, hr64, Nat.zero_add, hst, wrapS hk6, go_sem]
        refine ⟨p.length + 18 - (k + 1), ?_, k + 1, _, ?_, ?_, hAn, ?_, ?_⟩
        ·omega
        ·rfl
        ·omega
        ·rfl
        ·rfl
      ·have h0I : ¬ ((k % 64 : Nat) : Int) = 0 := by omega
       have hmk : (k + 63) / 64 = k / 64 + 1 := by omega
       rw [hmk] at hA hsl
       obtain ⟨T, hT, hd⟩ := hA
       rcases hd with ⟨z, _⟩ | ⟨z, _⟩ | ⟨_, q, v2, hy2, hTq⟩
       ·rw [z] at hsl; simp at hsl
       ·rw [z] at hsl; simp at hsl
       ·rw [sec_pad (by omega)] at hTq
        rw [hsl] at hy2
        obtain ⟨hst, hAn⟩ := hstore T q v2 hTq
        rw [← hT] at hst hAn
        have hw1 : wrapV .i64 (((k / 64 + 1 : Nat) : Int) - 1) = ((k / 64 : Nat) : Int) := by rw [wrap_i64 (by omega) (by omega)]; omega
        have hi1 : ((k / 64 : Nat) : Int) < ((k / 64 + 1 : Nat) : Int) := by omega
        subst hy2
        simp (maxSteps := 1000000) (disch := omega) only [c31l1, e37, e38, e39, e5, hkI, hbl, Int.toNat_natCast, Nat.mul_one, hcell, hr, h0I, hw1, hi1, hr64, Nat.zero_add, hst, wrapS hk6, go_sem]
        refine ⟨p.length + 18 - (k + 1), ?_, k + 1, _, ?_, ?_, hAn, ?_, ?_⟩
        ·omega
        ·rfl
        ·omega
        ·rfl
        ·rfl
     ·obtain rfl : k = p.length + 18 := by omega
      have hkI : ¬ ((p.length + 18 : Nat) : Int) < ((p.length + 18 : Nat) : Int) := by omega
      rw [List.take_of_length_le (by omega), show (p.length + 18 + 63) / 64 = m by omega] at hA
      simp (maxSteps := 1000000) (disch := omega) only [c31l1, e37, e38, e39, e5, hkI, go_sem]
      exact (hA.base hS4).ret2 (fun n s => s.flat n) Flat_i
   ·cases h
  ·cases h
 ·cases h
end Go.Proofs.YtkfobkfhbkicaaaGreat
namespace Go.Proofs.YtkfobkfhbkicaaaGreat
open Go.RowKit
set_option maxRecDepth 10000
theorem eq_by : ∀ (l m : List Int), l.length = m.length → eqCells (List.replicate l.length .int) (l.map byV) (m.map byV) = some (decide (l = m))
 | [], [], _ => rfl
 | [], _ :: _, h => by cases h
 | _ :: _, [], h => by cases h
 | a :: l, b :: m, h => by
  have ih := eq_by l m (by simpa using h)
  rw [List.length_cons, List.replicate_succ, List.map_cons, List.map_cons]
  simp only [eqCells, ih]
  have he : eqCell .int (byV a) (byV b) = some (decide (a = b)) := by simp only [eqCell, byV, if_true]; congr 1
  rw [he]
  simp only [List.cons.injEq]
  congr 1
  by_cases h1 : a = b <;> by_cases h2 : l = m <;> simp [h1, h2]
theorem ne_sec (s t : Sec) : eqAgV true [.int, .int, .int, .int, .int, .int, .int, .int, .int, .int, .int, .int, .int, .int, .int, .int, .int, .int, .int, .int, .int, .int, .int, .int, .int, .int, .int, .int, .int, .int, .int, .int, .int, .int, .int, .int, .int, .int, .int, .int, .int, .int, .int, .int, .int, .int, .int, .int, .int, .int, .int, .int, .int, .int, .int, .int, .int, .int, .int, .int, .int, .int, .int, .int] (.ag s.enc) (.ag t.enc) = some (.b (decide (¬ s = t))) := by
 have hl : ([.int, .int, .int, .int, .int, .int, .int, .int, .int, .int, .int, .int, .int, .int, .int, .int, .int, .int, .int, .int, .int, .int, .int, .int, .int, .int, .int, .int, .int, .int, .int, .int, .int, .int, .int, .int, .int, .int, .int, .int, .int, .int, .int, .int, .int, .int, .int, .int, .int, .int, .int, .int, .int, .int, .int, .int, .int, .int, .int, .int, .int, .int, .int, .int] : List TK) = List.replicate s.b.length .int := by rw [s.len]; rfl
 have he := eq_by s.b t.b (by rw [s.len, t.len])
 have h64 : ([.int, .int, .int, .int, .int, .int, .int, .int, .int, .int, .int, .int, .int, .int, .int, .int, .int, .int, .int, .int, .int, .int, .int, .int, .int, .int, .int, .int, .int, .int, .int, .int, .int, .int, .int, .int, .int, .int, .int, .int, .int, .int, .int, .int, .int, .int, .int, .int, .int, .int, .int, .int, .int, .int, .int, .int, .int, .int, .int, .int, .int, .int, .int, .int] : List TK).length = 64 := rfl
 simp only [eqAgV, s.enc_len, t.enc_len, h64, and_self, if_true]
 rw [hl]
 have he' : eqCells (List.replicate s.b.length .int) s.enc t.enc = some (decide (s.b = t.b)) := he
 rw [he']
 have hst : (s = t) = (s.b = t.b) := by
  rw [eq_iff_iff]; exact ⟨fun q => by rw [q], fun q => by cases s; cases t; simp only at q; subst q; rfl⟩
 simp only [if_true, hst, decide_not]
def sameSecS : Spec := fun args S => match args with
 | [x, y] => match lstV secE S x, lstV secE S y with
  | some l, some m => if l.length ≤ 100000 then some (.b (decide (l = m)), S) else none
  | _, _ => none
 | _ => none
theorem sameSec_ok : SpecOK Tryz.prog 53 sameSecS := by
 intro args S x S' h
 simp only [sameSecS] at h
 split at h
 ·rename_i x y
  split at h
  ·rename_i l m hl hm
   split at h
   ·rename_i hlim
    cases h
    have hll := lst_len hl
    have hml := lst_len hm
    refine fn_of_wp f53 rfl (W_sound none_ok mixed _ _ _ _ _ ?_)
    by_cases hlen : l.length = m.length
    ·have hI : (l.length : Int) = m.length := by omega
     simp (maxSteps := 1000000) (disch := omega) only [c53, hll, hml, hI, go_sem]
     refine wp_loop (fun j e M dl => dl = [] ∧ ∃ k : Nat, j = m.length - k ∧ k ≤ m.length ∧ M = S ∧ l.take k = m.take k ∧ e.get 0 = x ∧ e.get 1 = y ∧ e.get 12 = .i .i64 m.length ∧ e.get 13 = .i .i64 k) (j := m.length)
      ⟨rfl, 0, rfl, Nat.zero_le _, rfl, rfl, rfl, rfl, rfl, rfl⟩ ?_
     rintro j e M d' ⟨rfl, k, rfl, hk, rfl, hpre, e0, e1, e12, e13⟩
     refine W_sound none_ok mixed _ _ _ _ _ ?_
     by_cases hkm : k < m.length
     ·have hkl : k < l.length := by omega
      obtain ⟨bi, o, v, cap, ex, rfl⟩ := lst_sl hl hkl
      obtain ⟨bj, o2, v2, cap2, ex2, rfl⟩ := lst_sl hm hkm
      have hkI : (k : Int) < m.length := by omega
      have hkI2 : (k : Int) < l.length := by omega
      have hk6 : k < 1000000 := by omega
      have r1 := lstV_row hl hkl []
      have r2 := lstV_row hm hkm []
      rw [List.append_nil] at r1 r2
      have r1 : rowB (M[bi]?) (o + k * 64) v 64 = some (l[k]).enc := r1
      have r2 : rowB (M[bj]?) (o2 + k * 64) v2 64 = some (m[k]).enc := r2
      have t1 : l.take (k + 1) = l.take k ++ [l[k]] := List.take_succ_eq_append_getElem hkl
      have t2 : m.take (k + 1) = m.take k ++ [m[k]] := List.take_succ_eq_append_getElem hkm
      have hdiff : ¬ l[k] = m[k] → decide (l = m) = false := fun q => decide_eq_false fun z => q (by subst z; rfl)
      generalize l[k] = s at r1 t1 hdiff
      generalize m[k] = t at r2 t2 hdiff
      have hne := ne_sec s t
      by_cases hst : s = t
      ·rw [decide_eq_false (fun q : ¬ s = t => q hst)] at hne
       simp (maxSteps := 1000000) (disch := omega) only [c53l1, e0, e1, e12, e13, hkI, hkI2, hlen, Int.toNat_natCast, r1, r2, hne, wrapS hk6, go_sem]
       refine ⟨m.length - (k + 1), ?_, k + 1, ?_, ?_, ?_, ?_⟩
       ·omega
       ·rfl
       ·omega
       ·rw [t1, t2, hpre, hst]
       ·rfl
      ·rw [decide_eq_true hst] at hne
       rw [hdiff hst]
       simp (maxSteps := 1000000) (disch := omega) only [c53l1, e0, e1, e12, e13, hkI, hkI2, hlen, Int.toNat_natCast, r1, r2, hne, go_sem]
       exact wkv_same
     ·have hkI : ¬ (k : Int) < m.length := by omega
      rw [List.take_of_length_le (by omega), List.take_of_length_le (by omega)] at hpre
      rw [decide_eq_true hpre]
      simp (maxSteps := 1000000) (disch := omega) only [c53l1, e0, e1, e12, e13, hkI, go_sem]
      exact wkv_same
    ·have hI : ¬ (l.length : Int) = m.length := by omega
     rw [decide_eq_false (fun q : l = m => hlen (by rw [q]))]
     simp (maxSteps := 1000000) (disch := omega) only [c53, hll, hml, hI, go_sem]
     exact wkv_same
   ·cases h
  ·cases h
 ·cases h
end Go.Proofs.YtkfobkfhbkicaaaGreat
namespace Go.Proofs.YtkfobkfhbkicaaaGreat
set_option maxRecDepth 10000
theorem val_snoc {l : List Int} {c : Int} (h0 : 0 ≤ valF l) (h : valF l < (256 : Int) ^ 7) (hc : u8 c) : valF (l ++ [c]) = valF l * 256 + c := by
 unfold u8 at hc
 have h7 : (256 : Int) ^ 7 = 72057594037927936 := by decide
 rw [h7] at h
 rw [valF_snoc, wrap_u64 (by omega) (by omega), wrap_u64 (by omega) (by omega), orq_add h0 (by omega) (by omega)]
theorem val_lt : ∀ (k : Nat) (l : List Int), l.length = k → k ≤ 8 → (∀ c ∈ l, u8 c) → 0 ≤ valF l ∧ valF l < (256 : Int) ^ k ∧ numF (valF l) k = l
 | 0, l, hl, _, _ => by
  obtain rfl := List.eq_nil_of_length_eq_zero hl
  exact ⟨by decide, by decide, rfl⟩
 | k + 1, l, hl, hk, hu => by
  obtain rfl | ⟨r, c, rfl⟩ := List.eq_nil_or_concat l
  ·cases hl
  ·rw [List.concat_eq_append] at hl hu ⊢
   rw [List.length_append, List.length_singleton] at hl
   have hc : u8 c := hu c (by simp)
   obtain ⟨h0, h1, h2⟩ := val_lt k r (by omega) (by omega) (fun x hx => hu x (by simp [hx]))
   have h7 : valF r < (256 : Int) ^ 7 := Int.lt_of_lt_of_le h1 (by exact_mod_cast Nat.pow_le_pow_right (by decide : 0 < 256) (by omega : k ≤ 7))
   rw [val_snoc h0 h7 hc]
   have hc' := hc
   unfold u8 at hc'
   refine ⟨by omega, by rw [Int.pow_succ]; omega, ?_⟩
   rw [numF_snoc, show (valF r * 256 + c) / 256 = valF r by omega, show (valF r * 256 + c) % 256 = c by omega, h2]
theorem val2 {a b : Int} (ha : u8 a) (hb : u8 b) : valF [a, b] = 256 * a + b := by
 have h1 : valF [a] = a := by
  have := val_snoc (l := []) (c := a) (by decide) (by decide) ha
  rw [List.nil_append] at this
  rw [this]; show (0 : Int) * 256 + a = a; omega
 have h7 : (256 : Int) ^ 7 = 72057594037927936 := by decide
 have hlt : valF [a] < (256 : Int) ^ 7 := by
  rw [h1, h7]; unfold u8 at ha; omega
 have := val_snoc (l := [a]) (c := b) (by rw [h1]; exact ha.1) hlt hb
 rw [h1] at this
 have h2 : [a] ++ [b] = [a, b] := rfl
 rw [h2] at this
 rw [this]; omega
def openR (L : List Sec) (sz : Nat) (n : Nat) : Option Rec :=
 if 0 < valF (((bytesOf L).drop 2).take 8) ∧ L.take n = secsF n (frameB (valF (((bytesOf L).drop 2).take 8)) (valF (((bytesOf L).drop 10).take 4)) (((bytesOf L).drop 14).take sz)) then
  some ⟨valF (((bytesOf L).drop 2).take 8), valF (((bytesOf L).drop 10).take 4), headB (valF (((bytesOf L).drop 2).take 8)) (valF (((bytesOf L).drop 10).take 4)) (((bytesOf L).drop 14).take sz), n⟩ else none
theorem take_drop_take {α : Type} {l : List α} {a b c : Nat} (h : a + b ≤ c) : ((l.take c).drop a).take b = (l.drop a).take b := by
 rw [List.drop_take, List.take_take, Nat.min_eq_left (by omega)]
theorem open_again {s : Sec} {L : List Sec} {sz n : Nat} (hu : ∀ c ∈ bytesOf (s :: L), u8 c) (hsz : valF (s.b.take 2) = (sz : Int)) (h7 : sz ≤ 700) (hn : sizeF (sz : Int) = (n : Int)) (hL : n ≤ (s :: L).length) :
  openF (s :: L) = openR (s :: L) sz n := by
 have hn64 : sz + 18 ≤ n * 64 ∧ 0 < n := by
  unfold sizeF at hn
  rw [if_neg (by omega)] at hn
  omega
 have hw : wrapV .i64 (sz : Int) = sz := wrap_i64 (by omega) (by omega)
 obtain ⟨LL, hLL⟩ : ∃ LL, LL = s :: L := ⟨_, rfl⟩
 have hop : openF (s :: L) = openL LL sz n := by
  simp only [openF, hsz, hw, hn]
  rw [if_neg (by rw [not_or]; exact ⟨by omega, by omega⟩), Int.toNat_natCast, hLL]
 rw [← hLL] at hu hL ⊢
 rw [hLL, hop, ← hLL]
 have hall : (bytesOf LL).length = LL.length * 64 := secs_len LL
 have hB := bytes_take (L := LL) (m := n) hL
 have hbl : (bytesOf (LL.take n)).length = n * 64 := by rw [secs_len, List.length_take]; omega
 have hs2 : s.b.take 2 = (bytesOf LL).take 2 := by
  rw [hLL]
  have : bytesOf (s :: L) = s.b ++ bytesOf L := by simp [bytesOf]
  rw [this, List.take_append_of_le_length (by rw [s.len]; omega)]
 have huB : ∀ c ∈ bytesOf (LL.take n), u8 c := fun c hc => hu c (List.mem_of_mem_take (by rw [← hB]; exact hc))
 have p2 : (bytesOf LL).take 2 = (bytesOf (LL.take n)).take 2 := by rw [hB, List.take_take, Nat.min_eq_left (by omega)]
 have p8 : ((bytesOf LL).drop 2).take 8 = ((bytesOf (LL.take n)).drop 2).take 8 := by rw [hB, take_drop_take (by omega)]
 have p4 : ((bytesOf LL).drop 10).take 4 = ((bytesOf (LL.take n)).drop 10).take 4 := by rw [hB, take_drop_take (by omega)]
 have pp : ((bytesOf LL).drop 14).take sz = ((bytesOf (LL.take n)).drop 14).take sz := by rw [hB, take_drop_take (by omega)]
 unfold openR
 rw [p8, p4, pp]
 have hsz2 : valF ((bytesOf (LL.take n)).take 2) = (sz : Int) := by rw [← p2, ← hs2, hsz]
 by_cases hc : 0 < valF (((bytesOf (LL.take n)).drop 2).take 8) ∧ LL.take n = secsF n (frameB (valF (((bytesOf (LL.take n)).drop 2).take 8)) (valF (((bytesOf (LL.take n)).drop 10).take 4)) (((bytesOf (LL.take n)).drop 14).take sz))
 ·rw [if_pos hc]
  obtain ⟨hpos, heq⟩ := hc
  obtain ⟨v0, v1, _⟩ := val_lt 8 (((bytesOf (LL.take n)).drop 2).take 8) (by rw [List.length_take, List.length_drop]; omega) (by omega) (fun c hc => huB c (List.mem_of_mem_drop (List.mem_of_mem_take hc)))
  obtain ⟨w0, w1, _⟩ := val_lt 4 (((bytesOf (LL.take n)).drop 10).take 4) (by rw [List.length_take, List.length_drop]; omega) (by omega) (fun c hc => huB c (List.mem_of_mem_drop (List.mem_of_mem_take hc)))
  have hpl : (((bytesOf (LL.take n)).drop 14).take sz).length = sz := by rw [List.length_take, List.length_drop]; omega
  rw [Go.Proofs.YtkfobkfhbkicaaaGreat.p8] at v1
  rw [Go.Proofs.YtkfobkfhbkicaaaGreat.p4] at w1
  have := open_make (seq := valF (((bytesOf (LL.take n)).drop 2).take 8)) (epoch := valF (((bytesOf (LL.take n)).drop 10).take 4)) (p := ((bytesOf (LL.take n)).drop 14).take sz) (m := n) (L := LL) ⟨hpos, by omega⟩ ⟨w0, by omega⟩ (by omega) (by rw [hpl]; exact hn) heq
  rw [← this, hLL, hop, ← hLL]
 ·rw [if_neg hc]
  unfold openL
  have h18 : ((sz : Int) + 18).toNat = sz + 18 := by omega
  rw [h18]
  cases hun : unsealF ((bytesOf (LL.take n)).take (sz + 18)) with
  | none => rfl
  | some body =>
   simp only
   cases hany : ((bytesOf (LL.take n)).drop (sz + 18)).any notZ with
   | true => rfl
   | false =>
    rw [if_neg (by simp)]
    by_cases hq : valF ((body.drop 2).take 8) = 0
    ·rw [if_pos hq]
    ·exfalso
     generalize hBB : bytesOf (LL.take n) = B at *
     have hun2 := hun
     unfold unsealF at hun2
     split at hun2
     ·rename_i hcc
      obtain ⟨hc4, htail⟩ := hcc
      have hbody := Option.some.inj hun2
      have hl18 : (B.take (sz + 18)).length = sz + 18 := by rw [List.length_take]; omega
      rw [hl18, show sz + 18 - 4 = sz + 14 by omega] at hbody htail
      rw [List.take_take, Nat.min_eq_left (by omega)] at hbody htail
      rw [hbody] at htail
      have hseal : B.take (sz + 18) = sealF body := by
       unfold sealF
       rw [htail, ← hbody]
       have : B.take (sz + 14) = (B.take (sz + 18)).take (sz + 14) := by rw [List.take_take, Nat.min_eq_left (by omega)]
       rw [this, List.take_append_drop]
      have hzero : B.drop (sz + 18) = List.replicate (n * 64 - (sz + 18)) 0 := by
       rw [List.eq_replicate_iff]
       refine ⟨by rw [List.length_drop]; omega, fun x hx => ?_⟩
       have := List.any_eq_false.1 hany x hx
       unfold notZ at this
       simpa using this
      have b2 : body.take 2 = B.take 2 := by rw [← hbody, List.take_take, Nat.min_eq_left (by omega)]
      have b8 : (body.drop 2).take 8 = (B.drop 2).take 8 := by rw [← hbody, take_drop_take (by omega)]
      have b4 : (body.drop 10).take 4 = (B.drop 10).take 4 := by rw [← hbody, take_drop_take (by omega)]
      have bp : body.drop 14 = (B.drop 14).take sz := by rw [← hbody, List.drop_take, show sz + 14 - 14 = sz by omega]
      have hbl14 : body.length = sz + 14 := by rw [← hbody, List.length_take]; omega
      have hub : ∀ c ∈ body, u8 c := fun c hc => huB c (by rw [← hbody] at hc; exact List.mem_of_mem_take hc)
      obtain ⟨_, _, n2⟩ := val_lt 2 (body.take 2) (by rw [List.length_take]; omega) (by omega) (fun c hc => hub c (List.mem_of_mem_take hc))
      obtain ⟨v0, _, n8⟩ := val_lt 8 ((body.drop 2).take 8) (by rw [List.length_take, List.length_drop]; omega) (by omega) (fun c hc => hub c (List.mem_of_mem_drop (List.mem_of_mem_take hc)))
      obtain ⟨w0, w1, n4⟩ := val_lt 4 ((body.drop 10).take 4) (by rw [List.length_take, List.length_drop]; omega) (by omega) (fun c hc => hub c (List.mem_of_mem_drop (List.mem_of_mem_take hc)))
      rw [Go.Proofs.YtkfobkfhbkicaaaGreat.p4] at w1
      have hpl : (body.drop 14).length = sz := by rw [List.length_drop]; omega
      have hwe : wrapV .u64 (valF ((body.drop 10).take 4)) = valF ((body.drop 10).take 4) := wrap_u64 (by omega) (by omega)
      have hhead : headB (valF ((body.drop 2).take 8)) (valF ((body.drop 10).take 4)) (body.drop 14) = body := by
       unfold headB
       rw [hpl, hwe, ← hsz2, ← b2, n2, n8, n4]
       have e1 : body.take 2 ++ (body.drop 2).take 8 = body.take 10 := (List.take_add (l := body) (i := 2) (j := 8)).symm
       have e2 : body.take 10 ++ (body.drop 10).take 4 = body.take 14 := (List.take_add (l := body) (i := 10) (j := 4)).symm
       rw [e1, e2, List.take_append_drop]
      refine hc ⟨by rw [← b8]; omega, ?_⟩
      rw [← b8, ← b4, ← bp]
      have hfr : frameB (valF ((body.drop 2).take 8)) (valF ((body.drop 10).take 4)) (body.drop 14) = sealF body := by rw [frame_eq, hhead]
      rw [hfr]
      have hsl : (sealF body).length = sz + 18 := by rw [← hseal, hl18]
      refine secs_inj ?_ (by rw [secsF_len, List.length_take]; omega)
      rw [enc_secs, enc_secs, secsF_bytes _ _ (by omega), hBB]
      refine congrArg (List.map byV) ?_
      unfold padF
      rw [hsl, ← hseal, ← hzero, List.take_append_drop]
     ·cases hun2
end Go.Proofs.YtkfobkfhbkicaaaGreat
namespace Go.Proofs.YtkfobkfhbkicaaaGreat
open Go.RowKit
set_option maxRecDepth 10000
def recY (S : Mem) : Option Rec → AV × Mem
 | none => (noRec, S)
 | some r => (.tu [.ag [.i .u64 r.seq, .i .u32 r.epoch, retX true S r.pay], .i .i64 r.many, .b true], retM true byteE S r.pay)
def rOpenS : Spec := fun args S => match args with
 | [x] => match lstV secE S x with
  | some L => if L.length ≤ 2000 ∧ openQ S 64 x = true ∧ (bytesOf L).all (fun c => decide (u8 c)) = true then some (recY S (openF L)) else none
  | none => none
 | _ => none
theorem Acc.setL {α : Type} {z : Bool} {E : Enc α} {S2 M : Mem} {x : AV} {l : List α} (h : Acc z E S2 M x l) {i : Nat} (hi : i < S2.length) (B : Blk) : Acc z E (S2.set i B) (M.set i B) x l := by
 obtain ⟨T, rfl, h⟩ := h
 refine ⟨T, List.set_append_left _ _ hi, ?_⟩
 rw [List.length_set]; exact h
theorem Acc.retR {α : Type} {z : Bool} {E : Enc α} {S M : Mem} {a b x c d : AV} {l : List α} (hF : ∀ n a, ∀ c ∈ E.enc a, AV.Flat n c) (h : Acc z E S M x l) (ha : AV.Flat S.length a) (hb : AV.Flat S.length b) (hc : AV.Flat S.length c) (hd : AV.Flat S.length d) :
  WkV S (.tu [.ag [a, b, retX z S l], c, d]) (retM z E S l) (.tu [.ag [a, b, x], c, d]) M := by
 obtain ⟨keep, T, rfl, h1, h2, h3, h4⟩ := h.keep hF
 have := wkv_keep (S0 := S) (L := T) (y := .tu [.ag [a, b, x], c, d]) keep h1 h2
 rw [ren_tu, renL_cons, renL_cons, renL_cons, renL_nil, ren_ag, renL_cons, renL_cons, renL_cons, renL_nil, h3, h4, ha, hb, hc, hd] at this
 exact this
theorem val_take {l : List Int} {k : Nat} (hk : k < l.length) (h8 : l.length ≤ 8) (hu : ∀ c ∈ l, u8 c) : valF (l.take (k + 1)) = valF (l.take k) * 256 + l[k] ∧ 0 ≤ valF (l.take k) ∧ valF (l.take k) < (256 : Int) ^ k := by
 obtain ⟨h0, h1, _⟩ := val_lt k (l.take k) (by rw [List.length_take]; omega) (by omega) (fun c hc => hu c (List.mem_of_mem_take hc))
 have h7 : valF (l.take k) < (256 : Int) ^ 7 := Int.lt_of_lt_of_le h1 (by exact_mod_cast Nat.pow_le_pow_right (by decide : 0 < 256) (by omega : k ≤ 7))
 rw [List.take_succ_eq_append_getElem hk, val_snoc h0 h7 (hu _ (List.getElem_mem hk))]
 exact ⟨rfl, h0, h1⟩
theorem take_two {b : List Int} (h : 2 ≤ b.length) : b.take 2 = [b[0]'(by omega), b[1]'(by omega)] := by
 match b, h with
 | a :: c :: r, _ => rfl
theorem size_facts {sz ln : Nat} (h0 : ¬ sizeF (sz : Int) = 0) (hlt : ¬ (ln : Int) < sizeF (sz : Int)) : ∃ n : Nat, sizeF (sz : Int) = (n : Int) ∧ sz ≤ 700 ∧ (sz + 18 ≤ n * 64 ∧ 0 < n) ∧ n ≤ ln := by
 have h7 : sz ≤ 700 := by
  unfold sizeF at h0
  split at h0
  ·exact absurd rfl h0
  ·omega
 have he : sizeF (sz : Int) = ((sz : Int) + 81) / 64 := by unfold sizeF; rw [if_neg (by omega)]
 rw [he] at hlt ⊢
 exact ⟨(sz + 81) / 64, by omega, h7, by omega, by omega⟩
theorem u32_round {w c : Int} (h0 : 0 ≤ w) (h1 : w < 16777216) (hc : 0 ≤ c ∧ c ≤ 255) : binV .int true .mul (.i .u32 w) (.i .u32 256) = some (.i .u32 (w * 256)) ∧ toIntV .u32 (.i .u8 c) = some (.i .u32 c) ∧ binV .int false .add (.i .u32 (w * 256)) (.i .u32 c) = some (.i .u32 (w * 256 + c)) := by
 have q1 : wrapV .u32 (w * 256) = w * 256 := by simp only [wrapV]; omega
 have q2 : wrapV .u32 c = c := by simp only [wrapV]; omega
 have q3 : wrapV .u32 (w * 256 + c) = w * 256 + c := by simp only [wrapV]; omega
 refine ⟨by rw [bin_mul, q1], by rw [toInt_i, q2], by rw [bin_add, q3]⟩
theorem oROp_ok : OK Tryz.prog (lamOf Tryz.prog) (orcOf [(52, fSizeS), (31, rmakeS), (53, sameSecS)]) := orc_ok (by simpa using ⟨rsize_ok, rmake_ok, sameSec_ok⟩)
set_option maxHeartbeats 4000000 in
theorem ropen_ok : SpecOK Tryz.prog 24 rOpenS := by
 intro args S x S' h
 simp only [rOpenS] at h
 split at h
 ·rename_i y
  split at h
  ·rename_i L hL
   split at h
   ·rename_i hc
    obtain ⟨hlim, hoq, hua⟩ := hc
    have hu : ∀ c ∈ bytesOf L, u8 c := fun c hc => of_decide_eq_true (List.all_eq_true.1 hua c hc)
    injection h with h
    have hl0 := lst_len hL
    refine fn_of_wp f24 rfl (W_sound oROp_ok mixed _ _ _ _ _ ?_)
    obtain ⟨z3, hz3⟩ : ∃ z3, z3 = Blk.cells [.i .u64 0, .i .u32 0, .sn] 0 none true := ⟨_, rfl⟩
    simp (maxSteps := 1000000) (disch := omega) only [c24, List.replicate, hl0, go_sem]
    obtain ⟨Sx, hSx⟩ : ∃ Sx, Sx = S ++ [z3] := ⟨_, rfl⟩
    have hSS : S <+: Sx := by rw [hSx]; exact ext_app _
    have hz : Sx[S.length]? = some z3 := by rw [hSx, at_app0]; rfl
    have hSl : Sx.length = S.length + 1 := by rw [hSx, List.length_append]; rfl
    have hst : S ++ [Blk.cells [.i .u64 0, .i .u32 0, .sn] 0 none true, .cells [] 0 none true] = Sx ++ [.cells [] 0 none true] := by rw [hSx, hz3, List.append_assoc]; rfl
    rw [hst]
    refine wp_loop (fun j e M dl => dl = [] ∧ ∃ (k : Nat) (x5 : AV), j = L.length - k ∧ k ≤ L.length ∧ Acc true byteE Sx M x5 (bytesOf (L.take k)) ∧
     e.get 18 = y ∧ e.get 2 = .p S.length 0 0 ∧ e.get 0 = y ∧ e.get 19 = .i .i64 L.length ∧ e.get 20 = .i .i64 k ∧ e.get 5 = x5) (j := L.length)
     ⟨rfl, 0, .sl Sx.length 0 0 0 0 true, rfl, Nat.zero_le _, acc_lit ext_refl, rfl, rfl, rfl, rfl, rfl, by rw [hSl]; rfl⟩ ?_
    rintro j e M d' ⟨rfl, k, x5, rfl, hk, hA, e18, e2, e0, e19, e20, e5⟩
    refine W_sound oROp_ok mixed _ _ _ _ _ ?_
    have hSM := hSS.trans hA.ext
    have hzM := at_pre hA.ext hz
    rw [hz3] at hzM
    obtain ⟨o1, o2, o3, o4, o5⟩ := old_at hzM
    by_cases hkl : k < L.length
    ·obtain ⟨bj, o, v, cap, ex, rfl⟩ := lst_sl hL hkl
     have hkI : (k : Int) < L.length := by omega
     have hk6 : k < 1000000 := by omega
     have hro := lstV_row (lst_ext hL hSM) hkl []
     rw [List.append_nil] at hro
     have hro : rowB (M[bj]?) (o + k * 64) v 64 = some (L[k]).enc := hro
     have hbs : bytesOf (L.take (k + 1)) = bytesOf (L.take k) ++ L[k].b := by unfold bytesOf; rw [List.take_succ_eq_append_getElem hkl, List.flatMap_append]; simp
     have hbl : (bytesOf (L.take k)).length ≤ k * 64 := by rw [secs_len, List.length_take]; omega
     generalize L[k] = t at hro hbs
     have hl64 := t.enc_len
     have hone := t.one
     have htk := t.take64
     have hsla2 : slaV 64 1 (.p M.length 0 0) none none none = some (.sl M.length 0 0 64 64 true) := by rfl
     have hsrc : srcV (M ++ [.cells t.enc 0 none true]) 1 (.sl M.length 0 0 64 64 true) = some (t.enc, 64) := by
      rw [src_sl, at_app0]
      show srcN 64 (rowB (some (Blk.cells t.enc 0 none true)) 0 0 (64 * 1)) = _
      rw [rowB_some, if_pos (by omega), List.drop_zero, Nat.mul_one, htk]; rfl
     obtain ⟨y', M', ha, hA'⟩ := (hA.grow [.cells t.enc 0 none true]).apps (bytes := 1) byteE_one t.b (by rw [t.len]; omega) (by rw [t.len]; omega)
     have ha : appV (M ++ [.cells t.enc 0 none true]) 1 1 x5 t.enc 64 = some (y', M') := by
      have h1 : t.b.flatMap byteE.enc = t.enc := enc_by t.b
      rw [h1, t.len] at ha; exact ha
     rw [← hbs] at hA'
     simp (maxSteps := 1000000) (disch := omega) only [c24l0, e18, e2, e0, e19, e20, e5, hkI, Int.toNat_natCast, hro, List.replicate, hl64, hone, htk, hsla2, hsrc, ha, wrapS hk6, go_sem]
     refine ⟨L.length - (k + 1), ?_, k + 1, y', ?_, ?_, hA', ?_, ?_⟩
     ·omega
     ·rfl
     ·omega
     ·rfl
     ·rfl
    ·have hkI : ¬ (k : Int) < L.length := by omega
     obtain rfl : k = L.length := by omega
     rw [List.take_of_length_le (by omega)] at hA
     have hall : (bytesOf L).length = L.length * 64 := secs_len L
     have hlx := lst_len hA.lst
     cases hLc : L with
     | nil =>
      subst hLc
      have hcI : ((bytesOf ([] : List Sec)).length : Int) < 64 := by decide
      have h' : (noRec, S) = (x, S') := h
      obtain ⟨rfl, rfl⟩ := Prod.mk.inj h'
      simp (maxSteps := 1000000) (disch := omega) only [c24l0, e18, e2, e0, e19, e20, e5, hkI, hlx, hcI, o1, o2, o3, hzM, go_sem]
      exact wkv_dropP (ext_set hSM (Nat.le_refl _) _) rfl
     | cons s R =>
      have hcI : ¬ ((bytesOf L).length : Int) < 64 := by rw [hall, hLc, List.length_cons]; omega
      have h64 : 64 ≤ (bytesOf L).length := by omega
      obtain ⟨p0, hp0⟩ : ∃ a, a = (bytesOf L)[0] := ⟨_, rfl⟩
      obtain ⟨p1, hp1⟩ : ∃ a, a = (bytesOf L)[1] := ⟨_, rfl⟩
      have u0 : u8 p0 := by rw [hp0]; exact hu _ (List.getElem_mem _)
      have u1 : u8 p1 := by rw [hp1]; exact hu _ (List.getElem_mem _)
      obtain ⟨bi, o, v, cap, ex, hx5⟩ := lst_sl hA.lst (show 0 < (bytesOf L).length by omega)
      subst hx5
      have c0 := lstV_cell hA.lst rfl (fun a => rfl) (show 0 < (bytesOf L).length by omega) []
      have c1 := lstV_cell hA.lst rfl (fun a => rfl) (show 1 < (bytesOf L).length by omega) []
      rw [List.append_nil, ← hp0, Nat.add_zero] at c0
      rw [List.append_nil, ← hp1] at c1
      have i0 : (0 : Int) < (bytesOf L).length := by omega
      have i1 : (1 : Int) < (bytesOf L).length := by omega
      have u0' := u0
      have u1' := u1
      unfold u8 at u0' u1'
      obtain ⟨sz, hsz⟩ : ∃ sz : Nat, 256 * p0 + p1 = (sz : Int) := ⟨(256 * p0 + p1).toNat, by omega⟩
      have hs2 : s.b.take 2 = [p0, p1] := by
       have h1 : s.b.take 2 = (bytesOf L).take 2 := by
        rw [hLc]
        have : bytesOf (s :: R) = s.b ++ bytesOf R := by simp [bytesOf]
        rw [this, List.take_append_of_le_length (by rw [s.len]; omega)]
       rw [h1, hp0, hp1]
       exact take_two (by omega)
      have hv2 : valF (s.b.take 2) = (sz : Int) := by rw [hs2, val2 u0 u1, hsz]
      by_cases hbad : sizeF (sz : Int) = 0 ∨ (L.length : Int) < sizeF (sz : Int)
      ·have hno : openF L = none := by
        rw [hLc] at hbad ⊢
        have hwz : wrapV .i64 (sz : Int) = sz := wrap_i64 (by omega) (by omega)
        simp only [openF, hv2, hwz]
        rw [if_pos hbad]
       rw [hno] at h
       have h' : (noRec, S) = (x, S') := h
       obtain ⟨rfl, rfl⟩ := Prod.mk.inj h'
       by_cases hz0 : sizeF (sz : Int) = 0
       ·simp (maxSteps := 1000000) (disch := omega) only [c24l0, e18, e2, e0, e19, e20, e5, hkI, hlx, hcI, i0, i1, Nat.mul_one, c0, c1, hsz, orc_cons, fSizeS, hz0, o1, o2, o3, hzM, go_sem]
        exact wkv_dropP (ext_set hSM (Nat.le_refl _) _) rfl
       ·have hlt := hbad.resolve_left hz0
        simp (maxSteps := 1000000) (disch := omega) only [c24l0, e18, e2, e0, e19, e20, e5, hkI, hlx, hcI, i0, i1, Nat.mul_one, c0, c1, hsz, orc_cons, fSizeS, hz0, hl0, hlt, o1, o2, o3, hzM, go_sem]
        exact wkv_dropP (ext_set hSM (Nat.le_refl _) _) rfl
      ·rw [not_or] at hbad
       obtain ⟨hz0, hlt⟩ := hbad
       obtain ⟨n, hn, hsz7, hn64, hnL⟩ := size_facts hz0 hlt
       rw [hn] at hlt hz0
       have hagain : openF L = openR L sz n := by
        have hnL' := hnL
        rw [hLc] at hnL' ⊢ hu
        exact open_again hu hv2 hsz7 hn hnL'
       rw [hagain] at h
       unfold openR at h
       clear hp0 hp1 hs2 hv2 hagain
       generalize hBB : bytesOf L = B at *
       have hBlen : sz + 18 ≤ B.length := by omega
       obtain ⟨p, hp⟩ : ∃ p, p = (B.drop 14).take sz := ⟨_, rfl⟩
       obtain ⟨l8, hl8⟩ : ∃ l8, l8 = (B.drop 2).take 8 := ⟨_, rfl⟩
       obtain ⟨l4, hl4⟩ : ∃ l4, l4 = (B.drop 10).take 4 := ⟨_, rfl⟩
       rw [← hp, ← hl8, ← hl4] at h
       have lp : p.length = sz := by rw [hp, List.length_take, List.length_drop]; omega
       have ll8 : l8.length = 8 := by rw [hl8, List.length_take, List.length_drop]; omega
       have ll4 : l4.length = 4 := by rw [hl4, List.length_take, List.length_drop]; omega
       have up : ∀ c ∈ p, u8 c := fun c hc => hu c (by rw [hp] at hc; exact List.mem_of_mem_drop (List.mem_of_mem_take hc))
       have ul8 : ∀ c ∈ l8, u8 c := fun c hc => hu c (by rw [hl8] at hc; exact List.mem_of_mem_drop (List.mem_of_mem_take hc))
       have ul4 : ∀ c ∈ l4, u8 c := fun c hc => hu c (by rw [hl4] at hc; exact List.mem_of_mem_drop (List.mem_of_mem_take hc))
       have hBne : B ≠ [] := by intro q; rw [q] at hBlen; simp at hBlen
       have hoB : openQ M 1 (.sl bi o v B.length cap ex) = true := openS_Q (hA.opens hBne)
       obtain ⟨x57, hs57, hx57, _⟩ := part_lst hA.lst hoB (q := .i64) (q' := .i64) (a := 14) (b := 14 + sz) (by omega) (by omega)
       rw [show 14 + sz - 14 = sz by omega, ← hp] at hx57
       have hs57 : ∀ U, sliceV (M ++ U) 1 (.sl bi o v B.length cap ex) (some (.i .i64 14)) (some (.i .i64 ((14 + sz : Nat) : Int))) none = some x57 := fun U => slice_growG hs57
       have w5 : (14 + (sz : Int)) = ((14 + sz : Nat) : Int) := by omega
       have hsrc57 := src_lst (lstV_grow hx57 [.cells [] 0 none true])
       have hsrc57 : srcV (M ++ [.cells [] 0 none true]) 1 x57 = some (p.flatMap byteE.enc, p.length) := hsrc57
       have hP0 : Acc true byteE M (M ++ [.cells [] 0 none true]) (.sl M.length 0 0 0 0 true) [] := acc_lit ext_refl
       obtain ⟨y3, N, ha3, hP⟩ := hP0.apps (bytes := 1) byteE_one p (by simp only [List.length_nil]; omega) (by simp only [List.length_nil]; omega)
       rw [List.nil_append] at hP
       have ha3 : appV (M ++ [.cells [] 0 none true]) 1 1 (.sl M.length 0 0 0 0 true) (p.flatMap byteE.enc) p.length = some (y3, N) := ha3
       have hMN := hP.ext
       have hone3 := one_of_accG hP
       have hcp3 := cells_one hone3
       have hBN := lst_ext hA.lst hMN
       have hoN : openQ N 1 (.sl bi o v B.length cap ex) = true := by
        obtain ⟨T, hT⟩ := hMN
        rw [← hT]; exact openQ_grow hoB T
       obtain ⟨x61, hs61, hx61, _⟩ := part_lst hBN hoN (q := .i64) (q' := .i64) (a := 2) (b := 10) (by omega) (by omega)
       rw [show 10 - 2 = 8 from rfl, ← hl8] at hx61
       have hs61 : ∀ U, sliceV (N ++ U) 1 (.sl bi o v B.length cap ex) (some (.i .i64 2)) (some (.i .i64 10)) none = some x61 := fun U => slice_growG hs61
       have hlen61 := lst_len hx61
       rw [ll8] at hlen61
       obtain ⟨x76, hs76, hx76, _⟩ := part_lst hBN hoN (q := .i64) (q' := .i64) (a := 10) (b := 14) (by omega) (by omega)
       rw [show 14 - 10 = 4 from rfl, ← hl4] at hx76
       have hs76 : ∀ U, sliceV (N ++ U) 1 (.sl bi o v B.length cap ex) (some (.i .i64 10)) (some (.i .i64 14)) none = some x76 := fun U => slice_growG hs76
       have hlen76 := lst_len hx76
       rw [ll4] at hlen76
       simp (maxSteps := 1000000) (disch := omega) only [c24l0, e18, e2, e0, e19, e20, e5, hkI, hlx, hcI, i0, i1, Nat.mul_one, c0, c1, hsz, orc_cons, fSizeS, hn, hz0, hl0, hlt, List.replicate, w5, hs57, hsrc57, ha3, hone3, hcp3, hs61, hlen61, go_sem]
       have hSN : S <+: N := hSM.trans hMN
       clear hs57 hsrc57 ha3 hP0 c0 c1 hx57 e18 e2 e0 e19 e20 e5
       refine wp_loop (fun j e M7 dl => dl = [] ∧ ∃ k : Nat, j = 8 - k ∧ k ≤ 8 ∧ M7 = N ++ [.cells [.i .u64 (valF (l8.take k)), .i .u32 0, y3] 0 none true] ∧
        e.get 10 = .p N.length 0 0 ∧ e.get 61 = x61 ∧ e.get 2 = .p S.length 0 0 ∧ e.get 9 = .i .i64 n ∧ e.get 0 = y ∧ e.get 5 = .sl bi o v B.length cap ex ∧ e.get 62 = .i .i64 8 ∧ e.get 63 = .i .i64 k) (j := 8)
        ⟨rfl, 0, rfl, Nat.zero_le _, rfl, rfl, rfl, rfl, rfl, rfl, rfl, rfl, rfl⟩ ?_
       rintro j e M7 d' ⟨rfl, k, rfl, hk8, rfl, e10, e61, e2, e9, e0, e5, e62, e63⟩
       refine W_sound oROp_ok mixed _ _ _ _ _ ?_
       by_cases hkm : k < 8
       ·have hkl : k < l8.length := by omega
        have hkI8 : (k : Int) < 8 := by omega
        have hk6 : k < 1000000 := by omega
        obtain ⟨hv, hv0, hv1⟩ := val_take hkl (by omega) ul8
        have hv2 : valF (l8.take k) < (256 : Int) ^ 7 := Int.lt_of_lt_of_le hv1 (by exact_mod_cast Nat.pow_le_pow_right (by decide : 0 < 256) (by omega : k ≤ 7))
        have h77 : (256 : Int) ^ 7 = 72057594037927936 := by decide
        rw [h77] at hv2
        obtain ⟨bq, oq, vq, cq, eq, rfl⟩ := lst_sl hx61 hkl
        have hc := lstV_cell hx61 rfl (fun a => rfl) hkl [.cells [.i .u64 (valF (l8.take k)), .i .u32 0, y3] 0 none true]
        have huc := ul8 _ (List.getElem_mem hkl)
        unfold u8 at huc
        generalize l8[k] = c at hc hv huc
        generalize valF (l8.take k) = w at *
        rw [ll8] at e61
        clear hs61 hs76 hlen61 hlen76 hx61 hx76 hl8 hl4 hp
        simp (maxSteps := 1000000) (disch := omega) only [c24l2, e10, e61, e2, e9, e0, e5, e62, e63, hkI8, Int.toNat_natCast, Nat.mul_one, hc, wrapS hk6, go_sem]
        exact ⟨8 - (k + 1), by omega, k + 1, rfl, by omega, by rw [hv], by rw [ll8], rfl⟩
       ·obtain rfl : k = 8 := by omega
        have hkI8 : ¬ ((8 : Nat) : Int) < 8 := by omega
        rw [List.take_of_length_le (by omega)]
        obtain ⟨sq0, sq1, _⟩ := val_lt 8 l8 ll8 (by omega) ul8
        rw [Go.Proofs.YtkfobkfhbkicaaaGreat.p8] at sq1
        generalize hseq : valF l8 = seq at *
        simp (maxSteps := 1000000) (disch := omega) only [c24l2, e10, e61, e2, e9, e0, e5, e62, e63, hkI8, hs76, hlen76, go_sem]
        clear hs61 hlen61 hx61 e10 e61 e2 e9 e0 e5 e62 e63 hs76
        refine wp_loop (fun j e M7 dl => dl = [] ∧ ∃ k : Nat, j = 4 - k ∧ k ≤ 4 ∧ M7 = N ++ [.cells [.i .u64 seq, .i .u32 (valF (l4.take k)), y3] 0 none true] ∧
         e.get 10 = .p N.length 0 0 ∧ e.get 76 = x76 ∧ e.get 2 = .p S.length 0 0 ∧ e.get 9 = .i .i64 n ∧ e.get 0 = y ∧ e.get 77 = .i .i64 4 ∧ e.get 78 = .i .i64 k) (j := 4)
         ⟨rfl, 0, rfl, Nat.zero_le _, rfl, rfl, rfl, rfl, rfl, rfl, rfl, rfl⟩ ?_
        rintro j e M7 d' ⟨rfl, k, rfl, hk4, rfl, e10, e76, e2, e9, e0, e77, e78⟩
        by_cases hkm : k < 4
        ·refine W_sound oROp_ok mixed _ _ _ _ _ ?_
         have hkl : k < l4.length := by omega
         have hkI4 : (k : Int) < 4 := by omega
         have hk6 : k < 1000000 := by omega
         obtain ⟨hv, hv0, hv1⟩ := val_take hkl (by omega) ul4
         have hv2 : valF (l4.take k) < (256 : Int) ^ 3 := Int.lt_of_lt_of_le hv1 (by exact_mod_cast Nat.pow_le_pow_right (by decide : 0 < 256) (by omega : k ≤ 3))
         have h73 : (256 : Int) ^ 3 = 16777216 := by decide
         rw [h73] at hv2
         obtain ⟨bq, oq, vq, cq, eq, rfl⟩ := lst_sl hx76 hkl
         have hc := lstV_cell hx76 rfl (fun a => rfl) hkl [.cells [.i .u64 seq, .i .u32 (valF (l4.take k)), y3] 0 none true]
         have huc := ul4 _ (List.getElem_mem hkl)
         unfold u8 at huc
         generalize l4[k] = c at hc hv huc
         generalize valF (l4.take k) = w at *
         rw [ll4] at e76
         obtain ⟨q1, q2, q3⟩ := u32_round hv0 hv2 huc
         clear hlen76 hx76 hl8 hl4 hp
         simp (maxSteps := 1000000) (disch := omega) only [c24l3, e10, e76, e2, e9, e0, e77, e78, hkI4, Int.toNat_natCast, Nat.mul_one, hc, q1, q2, q3, wrapS hk6, go_sem]
         exact ⟨4 - (k + 1), by omega, k + 1, rfl, by omega, by rw [hv], by rw [ll4], rfl⟩
        ·obtain rfl : k = 4 := by omega
         have hkI4 : ¬ ((4 : Nat) : Int) < 4 := by omega
         rw [List.take_of_length_le (by omega)]
         obtain ⟨ep0, ep1, _⟩ := val_lt 4 l4 ll4 (by omega) ul4
         rw [Go.Proofs.YtkfobkfhbkicaaaGreat.p4] at ep1
         generalize hepo : valF l4 = ep at *
         obtain ⟨R, hR⟩ : ∃ R : Blk, R = .cells [.i .u64 seq, .i .u32 ep, y3] 0 none true := ⟨_, rfl⟩
         have hy3 := lstV_grow hP.lst [R]
         have hRat : (N ++ [R])[N.length]? = some R := by rw [at_app0]; rfl
         by_cases hs0 : seq = 0
         ·have hmk : rmakeS [.ag [.i .u64 seq, .i .u32 ep, y3]] (N ++ [R]) = some (.tu [.sn, .i .i64 81], N ++ [R]) := by
           simp only [rmakeS, hy3]
           rw [if_pos ⟨by omega, hone3, ⟨by omega, by omega⟩, ⟨ep0, by omega⟩, List.all_eq_true.2 fun c hc => decide_eq_true (up c hc)⟩, if_pos (.inr hs0)]
          rw [if_neg (fun q => by have := q.1; omega)] at h
          have h' : (noRec, S) = (x, S') := h
          obtain ⟨rfl, rfl⟩ := Prod.mk.inj h'
          refine W_sound oROp_ok mixed _ _ _ _ _ ?_
          have hzN := at_pre hMN hzM
          rw [hR] at hmk
          obtain ⟨n1, n2, n3, n4, n5⟩ := old_at hzN
          simp (maxSteps := 1000000) (disch := omega) only [c24l3, e10, e76, e2, e9, e0, e77, e78, hkI4, hone3, hcp3, orc_cons, hmk, n1, n2, n3, n4, go_sem]
          exact wkv_dropP (ext_more (ext_set hSN (Nat.le_refl _) _) _) rfl
         ·have hmk : rmakeS [.ag [.i .u64 seq, .i .u32 ep, y3]] (N ++ [R]) = some (.tu [retX true (N ++ [R]) (secsF n (frameB seq ep p)), .i .i64 0], retM true secE (N ++ [R]) (secsF n (frameB seq ep p))) := by
           simp only [rmakeS, hy3]
           rw [if_pos ⟨by omega, hone3, ⟨by omega, by omega⟩, ⟨ep0, by omega⟩, List.all_eq_true.2 fun c hc => decide_eq_true (up c hc)⟩, if_neg (not_or.2 ⟨by omega, hs0⟩), lp, hn, Int.toNat_natCast]
          have hA5 := retX_acc (z := true) (E := secE) (S := N ++ [R]) (l := secsF n (frameB seq ep p))
          generalize retX true (N ++ [R]) (secsF n (frameB seq ep p)) = X5 at hmk hA5
          generalize retM true secE (N ++ [R]) (secsF n (frameB seq ep p)) = M5 at hmk hA5
          have hN5 : N <+: M5 := (ext_app _).trans hA5.ext
          have hL5 : lstV secE M5 y = some L := lst_ext hL (hSN.trans hN5)
          have hoq5 : openQ M5 64 y = true := by
           obtain ⟨T, hT⟩ := hSN.trans hN5
           rw [← hT]; exact openQ_grow hoq T
          obtain ⟨x101, hs101, hx101, _⟩ := take_lst hL5 hoq5 (q := .i64) (b := n) hnL
          have hs101 : sliceV M5 64 y none (some (.i .i64 (n : Int))) none = some x101 := hs101
          have hsame : sameSecS [X5, x101] M5 = some (.b (decide (secsF n (frameB seq ep p) = L.take n)), M5) := by
           simp only [sameSecS, hA5.lst, hx101]
           rw [if_pos (by rw [secsF_len]; omega)]
          have hR5 := at_pre hA5.ext hRat
          have hz5 := at_pre (hMN.trans hN5) hzM
          have hz53 := fun B' => at_set (B' := B') hz5
          rw [hR] at hR5 hmk
          refine W_sound oROp_ok mixed _ _ _ _ _ ?_
          by_cases heq : L.take n = secsF n (frameB seq ep p)
          ·rw [if_pos ⟨by omega, heq⟩] at h
           rw [decide_eq_true heq.symm] at hsame
           have hpay : (Rec.mk seq ep (headB seq ep p) n).pay = p := (head_parts _ _ _).2.2.2
           unfold recY at h
           simp only [hpay] at h
           obtain ⟨rfl, rfl⟩ := Prod.mk.inj h
           simp (maxSteps := 1000000) (disch := omega) only [c24l3, e10, e76, e2, e9, e0, e77, e78, hkI4, hone3, hcp3, orc_cons, hmk, hs101, hsame, hR5, hz5, hz53, go_sem]
           have hSMl : S.length < M.length := (List.getElem?_eq_some_iff.1 hzM).1
           exact (((hP.extM hN5).setL hSMl _).base (ext_set hSM (Nat.le_refl _) _)).retR byteE_flat Flat_i Flat_i Flat_i Flat_b
          ·rw [if_neg (fun q => heq q.2)] at h
           rw [decide_eq_false (fun q => heq q.symm)] at hsame
           have h' : (noRec, S) = (x, S') := h
           obtain ⟨rfl, rfl⟩ := Prod.mk.inj h'
           simp (maxSteps := 1000000) (disch := omega) only [c24l3, e10, e76, e2, e9, e0, e77, e78, hkI4, hone3, hcp3, orc_cons, hmk, hs101, hsame, hR5, hz5, hz53, go_sem]
           exact wkv_dropP (ext_set (hSN.trans hN5) (Nat.le_refl _) _) rfl
   ·cases h
  ·cases h
 ·cases h
end Go.Proofs.YtkfobkfhbkicaaaGreat
namespace Go.Proofs.YtkfobkfhbkicaaaGreat
open Go.RowKit
set_option maxRecDepth 10000
theorem lst_off_old {α : Type} {E : Enc α} {S : Mem} {x : AV} {l : List α} (h : lstV E S x = some l) {n : Nat} (hn : S.length ≤ n) : offB x n = true ∧ x.one = true := by
 rcases lstV_lst h with ⟨rfl, _⟩ | ⟨rfl, _⟩ | ⟨i, o, v, len, cap, ex, rfl, _, hrow⟩
 ·exact ⟨rfl, rfl⟩
 ·exact ⟨rfl, rfl⟩
 ·refine ⟨?_, rfl⟩
  have hi : i < S.length := by
   rcases Nat.lt_or_ge i S.length with q | q
   ·exact q
   ·rw [rowAt_B, List.getElem?_eq_none q] at hrow
    cases hrow
  simp only [offB, decide_eq_true_eq]; omega
theorem Held.dread {S M : Mem} {i ist : Nat} {D : Dsk} {F : List Nat} (h : Held S M i ist D F) (k : Int) : dReadS [.p i 0 0, .i .i64 k] M = some (secT (readAt D.st D.pe k), M) := by
 obtain ⟨px, h1, h2, h3, h4, h5⟩ := h
 exact dread_eq h1 h2 k
theorem oTn_ok : OK Tryz.prog (lamOf Tryz.prog) (orcOf [(6, newS), (5, aliveS), (8, sgreatS), (20, srightS), (9, swriteS), (13, breakS), (15, dCrashS), (17, swreadS), (21, ssameS), (22, rrecordS), (23, dReadS), (24, rOpenS), (25, rrsameS)]) :=
 orc_ok (by simpa using ⟨new_ok, salive_ok, sgreat_ok, sright_ok, swrite_ok, break_ok, dcrash_ok, swread_ok, ssame_ok, rrecord_ok, dRead_ok, ropen_ok, rrsame_ok⟩)
set_option maxHeartbeats 4000000 in
theorem torn_ok (S : Mem) (a b : Chk) (xa xb x0 x1 : AV) (c0 c1 : List Bool) (hla : lstV entE S xa = some a.book.entries) (hlb : lstV entE S xb = some b.book.entries)
  (ga : u64 a.gen ∧ (0 ≤ a.epoch ∧ a.epoch ≤ 4294967295) ∧ u64 a.seq ∧ i64 a.seg ∧ u64 a.book.period ∧ ∀ y ∈ a.book.entries, y.good)
  (gb : u64 b.gen ∧ (0 ≤ b.epoch ∧ b.epoch ≤ 4294967295) ∧ u64 b.seq ∧ i64 b.seg ∧ u64 b.book.period ∧ ∀ y ∈ b.book.entries, y.good)
  (h0 : lstV boolE S x0 = some c0) (h1 : lstV boolE S x1 = some c1) :
  FnOK Tryz.prog 4 [.ag (a.cells xa), .ag (b.cells xb), .ag [x0, x1]] S (.b true) S := by
 have hal : ∀ U, aliveS [] U = some (.b true, U) := fun U => rfl
 have hgA := fun L => sgreat_eq (lstV_grow hla L)
 have hgB := fun L => sgreat_eq (lstV_grow hlb L)
 have hc0 := lst_len h0
 have hc1 := lst_len h1
 have hoff := fun (n : Nat) (hn : S.length ≤ n) => lst_off_old h1 hn
 have one0 := (lst_off_old h0 (Nat.le_refl _)).2
 have one1 := (lst_off_old h1 (Nat.le_refl _)).2
 have oneA := (lst_off_old hla (Nat.le_refl _)).2
 have oneB := (lst_off_old hlb (Nat.le_refl _)).2
 have cp0 := cells_one one0
 have cp1 := cells_one one1
 have cpA := cells_one oneA
 have cpB := cells_one oneB
 refine fn_of_wp f4 rfl (W_sound oTn_ok mixed _ _ _ _ _ ?_)
 by_cases g1 : 30 < a.book.entries.length
 ·rw [decide_eq_true g1] at hgA
  simp (maxSteps := 1000000) (disch := omega) only [c4, Chk.cells, cp0, cp1, cpA, cpB, one0, one1, oneA, oneB, orc_cons, hal, hgA, go_sem]
  exact wkv_drop rfl
 ·rw [decide_eq_false g1] at hgA
  by_cases g2 : 30 < b.book.entries.length
  ·rw [decide_eq_true g2] at hgB
   simp (maxSteps := 1000000) (disch := omega) only [c4, Chk.cells, cp0, cp1, cpA, cpB, one0, one1, oneA, oneB, orc_cons, hal, hgA, hgB, go_sem]
   exact wkv_drop rfl
  ·rw [decide_eq_false g2] at hgB
   by_cases g3 : 40 < c0.length
   ·have g3I : (40 : Int) < c0.length := by omega
    simp (maxSteps := 1000000) (disch := omega) only [c4, Chk.cells, cp0, cp1, cpA, cpB, one0, one1, oneA, oneB, orc_cons, hal, hgA, hgB, hc0, g3I, go_sem]
    exact wkv_drop rfl
   ·have g3I : ¬ (40 : Int) < c0.length := by omega
    by_cases g4 : 40 < c1.length
    ·have g4I : (40 : Int) < c1.length := by omega
     simp (maxSteps := 1000000) (disch := omega) only [c4, Chk.cells, cp0, cp1, cpA, cpB, one0, one1, oneA, oneB, orc_cons, hal, hgA, hgB, hc0, g3I, hc1, g4I, go_sem]
     exact wkv_drop rfl
    ·have g4I : ¬ (40 : Int) < c1.length := by omega
     obtain ⟨a7, ha7⟩ : ∃ a7 : Chk, a7 = ⟨7, a.epoch, a.seq, a.seg, ⟨a.book.period, a.book.entries⟩⟩ := ⟨_, rfl⟩
     obtain ⟨b8, hb8⟩ : ∃ b8 : Chk, b8 = ⟨8, b.epoch, b.seq, b.seg, ⟨b.book.period, b.book.entries⟩⟩ := ⟨_, rfl⟩
     have gA : a7.good := by rw [ha7]; exact ⟨⟨by show (0 : Int) ≤ 7; omega, by show (7 : Int) ≤ _; omega⟩, ga.2.1, ga.2.2.1, ga.2.2.2.1, ga.2.2.2.2.1, by show a.book.entries.length ≤ _; omega, ga.2.2.2.2.2⟩
     have gB : b8.good := by rw [hb8]; exact ⟨⟨by show (0 : Int) ≤ 8; omega, by show (8 : Int) ≤ _; omega⟩, gb.2.1, gb.2.2.1, gb.2.2.2.1, gb.2.2.2.2.1, by show b.book.entries.length ≤ _; omega, gb.2.2.2.2.2⟩
     obtain ⟨b1, hb1⟩ : ∃ b1, b1 = stBlk (List.replicate (secsN 100) zSec) := ⟨_, rfl⟩
     obtain ⟨bc, hbc⟩ : ∃ bc : Blk, bc = .cells [x0, x1] 0 none true := ⟨_, rfl⟩
     obtain ⟨ba, hba⟩ : ∃ ba : Blk, ba = .cells [.i .u64 7, .i .u32 a.epoch, .i .u64 a.seq, .i .i64 a.seg, .i .u64 a.book.period, xa] 0 none true := ⟨_, rfl⟩
     obtain ⟨bb, hbb⟩ : ∃ bb : Blk, bb = .cells [.i .u64 8, .i .u32 b.epoch, .i .u64 b.seq, .i .i64 b.seg, .i .u64 b.book.period, xb] 0 none true := ⟨_, rfl⟩
     obtain ⟨b2, hb2⟩ : ∃ b2, b2 = Blk.cells [.sl (S.length + 3) 0 0 (secsN 100) (secsN 100) true, .sn, .i .i64 (-1), .b false] 0 none true := ⟨_, rfl⟩
     have hnew : ∀ z1 z2 z3 : Blk, newS [.i .i64 100] (S ++ [z1, z2, z3]) = some (.p (S.length + 4) 0 0, S ++ [z1, z2, z3, b1, b2]) := fun z1 z2 z3 => by
      have : newHead (S ++ [z1, z2, z3]) (secsN 100) = [.sl (S.length + 3) 0 0 (secsN 100) (secsN 100) true, .sn, .i .i64 (-1), .b false] := by unfold newHead; rw [List.length_append]; rfl
      simp only [newS]
      rw [this, ← hb1, ← hb2, List.length_append, List.append_assoc]; rfl
     have hH0 : Held S (S ++ [ba, bb, bc, b1, b2]) (S.length + 4) (S.length + 3) (Dsk.new 100) [S.length, S.length + 1, S.length + 2] := by
      have := new_held S (S ++ [ba, bb, bc]) (ext_app _) 100 [S.length, S.length + 1, S.length + 2] (fun j hj => by
       rw [List.length_append]
       simp only [List.mem_cons, List.not_mem_nil, or_false] at hj
       simp only [List.length_cons, List.length_nil]; omega)
      have hh : newHead (S ++ [ba, bb, bc]) (secsN 100) = [.sl (S.length + 3) 0 0 (secsN 100) (secsN 100) true, .sn, .i .i64 (-1), .b false] := by unfold newHead; rw [List.length_append]; rfl
      rw [hh, ← hb1, ← hb2, List.length_append, List.append_assoc] at this
      exact this
     have l0 : ((Dsk.new 100).st.length : Int) = 100 := by show ((List.replicate (secsN 100) zSec).length : Int) = 100; rw [List.length_replicate]; decide
     have eA0 : (S ++ [ba, bb, bc, b1, b2])[S.length]? = some ba := by rw [at_app0]; rfl
     have eB0 : (S ++ [ba, bb, bc, b1, b2])[S.length + 1]? = some bb := by rw [at_app]; rfl
     have eC0 : (S ++ [ba, bb, bc, b1, b2])[S.length + 2]? = some bc := by rw [at_app]; rfl
     have rA := hH0.sright (x := xa) (c := a7) (by rw [ha7]; exact lstV_grow hla _) gA.fits []
     have rB := hH0.sright (x := xb) (c := b8) (by rw [hb8]; exact lstV_grow hlb _) gB.fits []
     rw [l0, List.append_nil] at rA rB
     have kA : chkOf (S ++ [ba, bb, bc, b1, b2]) [.i .u64 7, .i .u32 a.epoch, .i .u64 a.seq, .i .i64 a.seg, .i .u64 a.book.period, xa] = some a7 := by rw [ha7]; exact chkOf_mk (lstV_grow hla _)
     by_cases oA : a7.ok 100
     ·rw [decide_eq_true oA] at rA
      by_cases oB : b8.ok 100
      ·rw [decide_eq_true oB] at rB
       obtain ⟨D1, D3, e, D4, t1, t2, t3, t4, t5, t6, t7, t8, t9, t10⟩ := torn gA gB (by rw [ha7]) (by rw [hb8]) oA oB c0.length c1
       obtain ⟨M3, w1, hH3, fk3⟩ := hH0.write kA gA (by rw [t1]; show D1.pe.length ≤ _; rw [t2]; exact Nat.zero_le _)
       rw [t1] at w1 hH3
       have eA3 := fk3 _ _ (by simp) eA0
       have eB3 := fk3 _ _ (by simp) eB0
       have eC3 := fk3 _ _ (by simp) eC0
       obtain ⟨M4, w2, hH4, fk4⟩ := hH3.brk (n := (c0.length : Int)) (by omega)
       have eA4 := fk4 _ _ (by simp) eA3
       have eB4 := fk4 _ _ (by simp) eB3
       have eC4 := fk4 _ _ (by simp) eC3
       have kB : chkOf M4 [.i .u64 8, .i .u32 b.epoch, .i .u64 b.seq, .i .i64 b.seg, .i .u64 b.book.period, xb] = some b8 := by rw [hb8]; exact chkOf_mk (lst_ext hlb hH4.ext)
       obtain ⟨M5, w3, hH5, fk5⟩ := hH4.write kB gB (by rw [t3]; exact t4)
       rw [t3] at w3 hH5
       have eA5 := fk5 _ _ (by simp) eA4
       have eB5 := fk5 _ _ (by simp) eB4
       have eC5 := fk5 _ _ (by simp) eC4
       obtain ⟨M6, w4, hH6, fk6⟩ := hH5.crash (lst_ext h1 hH5.ext) (hoff _ (by omega)).1 one1
       rw [t5] at hH6
       have eA6 := fk6 _ _ (by simp) eA5
       have eB6 := fk6 _ _ (by simp) eB5
       have w5 := hH6.read t7
       have hS6 := hH6.ext
       obtain ⟨c, f, hcf⟩ : ∃ c f, D4.last = (c, f) := ⟨_, _, rfl⟩
       rw [hcf] at w5 t9 t10
       simp only [outX] at w5
       have hA := retX_acc (z := false) (E := entE) (S := M6) (l := c.book.entries)
       generalize retX false M6 c.book.entries = Y at w5 hA
       generalize retM false entE M6 c.book.entries = M7 at w5 hA
       have oneY := one_of_accG hA
       have cpY := cells_one oneY
       have h67 := hA.ext
       have eA7 := fun U => at_old (L := U) (at_pre h67 eA6)
       have eB7 := fun U => at_old (L := U) (at_pre h67 eB6)
       have hS7 := hS6.trans h67
       have q1 : ∀ U, chkOf (M7 ++ U) [.i .u64 c.gen, .i .u32 c.epoch, .i .u64 c.seq, .i .i64 c.seg, .i .u64 c.book.period, Y] = some c := fun U => chkOf_mk (lstV_grow hA.lst U)
       have q2 : ∀ U, chkOf (M7 ++ U) [.i .u64 7, .i .u32 a.epoch, .i .u64 a.seq, .i .i64 a.seg, .i .u64 a.book.period, xa] = some a7 := fun U => by rw [ha7]; exact chkOf_mk (lst_ext hla (ext_more hS7 U))
       have q3 : ∀ U, chkOf (M7 ++ U) [.i .u64 8, .i .u32 b.epoch, .i .u64 b.seq, .i .i64 b.seg, .i .u64 b.book.period, xb] = some b8 := fun U => by rw [hb8]; exact chkOf_mk (lst_ext hlb (ext_more hS7 U))
       rw [ha7] at rA
       rw [hb8] at rB
       simp only at rA rB
       rw [hba, hbb, hbc] at rA rB w1
       rw [hbb] at eB4 eB7
       rw [hba] at eA7
       rw [hbc] at eC3 eC5
       by_cases he : e = 0
       ·have hl := Prod.mk.inj (t9 he)
        obtain ⟨rfl, rfl⟩ := hl
        subst he
        have hsm : ∀ U, ssameS [.ag [.i .u64 c.gen, .i .u32 c.epoch, .i .u64 c.seq, .i .i64 c.seg, .i .u64 c.book.period, Y], .ag [.i .u64 8, .i .u32 b.epoch, .i .u64 b.seq, .i .i64 b.seg, .i .u64 b.book.period, xb]] (M7 ++ U) = some (.b true, M7 ++ U) := fun U => by
         simp only [ssameS, q1, q3]
         rw [if_pos (by rw [hb8]; show b.book.entries.length ≤ _; omega)]; simp
        simp (maxSteps := 1000000) (disch := omega) only [c4, Chk.cells, cp0, cp1, cpA, cpB, one0, one1, oneA, oneB, orc_cons, hal, hgA, hgB, hc0, g3I, hc1, g4I, hnew, rA, rB, w1, eC3, w2, eB4, w3, eC5, w4, w5, oneY, cpY, eB7, hsm, go_sem]
        exact wkv_dropP (ext_more hS7 _) rfl
       ·have smA : c.book.entries.length ≤ 1000000 → ∀ U, ssameS [.ag [.i .u64 c.gen, .i .u32 c.epoch, .i .u64 c.seq, .i .i64 c.seg, .i .u64 c.book.period, Y], .ag [.i .u64 7, .i .u32 a.epoch, .i .u64 a.seq, .i .i64 a.seg, .i .u64 a.book.period, xa]] (M7 ++ U) = some (.b (decide (c = a7)), M7 ++ U) := fun hl U => by
         simp only [ssameS, q1, q2]
         rw [if_pos hl]
        have smB : c.book.entries.length ≤ 1000000 → ∀ U, ssameS [.ag [.i .u64 c.gen, .i .u32 c.epoch, .i .u64 c.seq, .i .i64 c.seg, .i .u64 c.book.period, Y], .ag [.i .u64 8, .i .u32 b.epoch, .i .u64 b.seq, .i .i64 b.seg, .i .u64 b.book.period, xb]] (M7 ++ U) = some (.b (decide (c = b8)), M7 ++ U) := fun hl U => by
         simp only [ssameS, q1, q3]
         rw [if_pos hl]
        rcases t10 he with hl | ⟨L, R, r1, r2, r3, r4⟩
        ·obtain ⟨hca, rfl⟩ := Prod.mk.inj hl
         have hsm := smA (by rw [hca, ha7]; show a.book.entries.length ≤ _; omega)
         rw [decide_eq_true hca] at hsm
         simp (maxSteps := 1000000) (disch := omega) only [c4, Chk.cells, cp0, cp1, cpA, cpB, one0, one1, oneA, oneB, orc_cons, hal, hgA, hgB, hc0, g3I, hc1, g4I, hnew, rA, rB, w1, eC3, w2, eB4, w3, he, eC5, w4, w5, oneY, cpY, eA7, hsm, go_sem]
         exact wkv_dropP (ext_more hS7 _) rfl
        ·simp only at r3 r4
         subst r3
         have huL := got_u8 t7 r1
         obtain ⟨og1, og2, og3, og4, og5, og6⟩ := openF_good huL r2
         obtain ⟨k1, k2, k3, k4, k5⟩ := check_inv (fun x hx => og3 x (List.mem_of_mem_drop hx)) r4
         have hcg := k5 og1 og2
         have hsmA := smA hcg.2.2.2.2.2.1
         have hsmB := smB hcg.2.2.2.2.2.1
         by_cases hca : c = a7
         ·rw [decide_eq_true hca] at hsmA
          simp (maxSteps := 1000000) (disch := omega) only [c4, Chk.cells, cp0, cp1, cpA, cpB, one0, one1, oneA, oneB, orc_cons, hal, hgA, hgB, hc0, g3I, hc1, g4I, hnew, rA, rB, w1, eC3, w2, eB4, w3, he, eC5, w4, w5, oneY, cpY, eA7, hsmA, go_sem]
          exact wkv_dropP (ext_more hS7 _) rfl
         ·rw [decide_eq_false hca] at hsmA
          by_cases hcb : c = b8
          ·rw [decide_eq_true hcb] at hsmB
           simp (maxSteps := 1000000) (disch := omega) only [c4, Chk.cells, cp0, cp1, cpA, cpB, one0, one1, oneA, oneB, orc_cons, hal, hgA, hgB, hc0, g3I, hc1, g4I, hnew, rA, rB, w1, eC3, w2, eB4, w3, he, eC5, w4, w5, oneY, cpY, eA7, hsmA, eB7, hsmB, go_sem]
           exact wkv_dropP (ext_more hS7 _) rfl
          ·rw [decide_eq_false hcb] at hsmB
           obtain ⟨B9, hB9⟩ : ∃ B9 : Blk, B9 = .cells [.i .u64 c.gen, .i .u32 c.epoch, .i .u64 c.seq, .i .i64 c.seg, .i .u64 c.book.period, Y] 0 none true := ⟨_, rfl⟩
           have hrv : recV 100 c = (c.gen, c.epoch, c.pay, 0) := if_pos k4
           obtain ⟨X, M8, v1, v2, v3, v4, v5⟩ := record_val (M7 ++ [B9]) hcg hrv
           have hrec : rrecordS [.i .i64 100, .ag [.i .u64 c.gen, .i .u32 c.epoch, .i .u64 c.seq, .i .i64 c.seg, .i .u64 c.book.period, Y]] (M7 ++ [B9]) = some (.tu [.ag [.i .u64 c.gen, .i .u32 c.epoch, X], .i .i64 0], M8) := by
            simp only [rrecordS, q1]
            rw [if_pos hcg, v1]
           have cpX := cells_one v4
           rw [hB9] at hrec
           simp (maxSteps := 1000000) (disch := omega) only [c4, Chk.cells, cp0, cp1, cpA, cpB, one0, one1, oneA, oneB, orc_cons, hal, hgA, hgB, hc0, g3I, hc1, g4I, hnew, rA, rB, w1, eC3, w2, eB4, w3, he, eC5, w4, w5, oneY, cpY, eA7, hsmA, eB7, hsmB, hrec, v4, cpX, List.replicate, go_sem]
           obtain ⟨Mb, hMb⟩ : ∃ Mb, Mb = M8 ++ [Blk.cells [.i .u64 c.gen, .i .u32 c.epoch, X] 0 none true] := ⟨_, rfl⟩
           have hMbl : Mb.length = M8.length + 1 := by rw [hMb, List.length_append]; rfl
           have hMb2 : M8 ++ [Blk.cells [.i .u64 c.gen, .i .u32 c.epoch, X] 0 none true, .cells [] 0 none true] = Mb ++ [.cells [] 0 none true] := by rw [hMb, List.append_assoc]; rfl
           have hB11 : Mb[M8.length]? = some (.cells [.i .u64 c.gen, .i .u32 c.epoch, X] 0 none true) := by rw [hMb, at_app0]; rfl
           have h7b : M7 <+: Mb := by rw [hMb]; exact ext_more ((ext_app _).trans v3) _
           have hHb := (hH6.extM h67).extM h7b
           have vXb : lstV byteE Mb X = some c.pay := by rw [hMb]; exact lstV_grow v2 _
           rw [hMb2]
           clear hrec smA smB hsmA hsmB q1 q2 q3 eA7 eB7 w1 w2 w3 w4 w5 rA rB hnew eC3 eC5 eB4 hMb2 hMb
           refine wp_loop (fun j e M dl => dl = [] ∧ ∃ (k : Nat) (y : AV) (l : List Sec), j = 16 - k ∧ k ≤ 16 ∧ D4.got 0 k = some l ∧ Acc true secE Mb M y l ∧
            e.get 7 = .p (S.length + 4) 0 0 ∧ e.get 11 = .p M8.length 0 0 ∧ e.get 12 = .i .i64 0 ∧ e.get 10 = .b true ∧ e.get 14 = .i .i64 k ∧ e.get 13 = y) (j := 16)
            ⟨rfl, 0, .sl Mb.length 0 0 0 0 true, [], rfl, Nat.zero_le _, rfl, acc_lit ext_refl, rfl, rfl, rfl, rfl, rfl, by rw [hMbl]; rfl⟩ ?_
           rintro j e' M d' ⟨rfl, k, y, l, rfl, hk, hl, hAc, e7, e11, e12, e10, e14, e13⟩
           refine W_sound oTn_ok mixed _ _ _ _ _ ?_
           have hll := got_len hl
           have hHM := hHb.extM hAc.ext
           by_cases hkm : k < 16
           ·have hkI : (k : Int) < 16 := by omega
            have hk6 : k < 1000000 := by omega
            have hrd := hHM.dread (k : Int)
            have her : (readAt D4.st D4.pe (k : Int)).2 = 0 := by
             by_cases q : (readAt D4.st D4.pe (k : Int)).2 = 0
             ·exact q
             ·have := got_none (D := D4) (first := 0) (k := k) (by rw [Int.zero_add]; exact q) 16 hkm
              rw [r1] at this; cases this
            have hl' : D4.got 0 (k + 1) = some (l ++ [(readAt D4.st D4.pe (k : Int)).1]) := by
             simp only [Dsk.got, hl, Int.zero_add, if_pos her]
            generalize readAt D4.st D4.pe (k : Int) = r at *
            obtain ⟨s, er⟩ := r
            simp only at her hl'
            subst her
            simp only [secT] at hrd
            have hl64 := s.enc_len
            have hone := s.one
            have htk := s.take64
            obtain ⟨y', M', ha, hA'⟩ := (hAc.grow [.cells s.enc 0 none true, .cells s.enc 0 none true]).app (bytes := 64) secE_one s (by omega) (by omega)
            have ha : appV (M ++ [.cells s.enc 0 none true, .cells s.enc 0 none true]) 64 64 y s.enc 1 = some (y', M') := ha
            have hsrc : srcV (M ++ [.cells s.enc 0 none true, .cells s.enc 0 none true]) 64 (.sl (M.length + 1) 0 0 1 1 true) = some (s.enc, 1) := by
             rw [src_sl, at_app]
             show srcN 1 (rowB (some (Blk.cells s.enc 0 none true)) 0 0 (1 * 64)) = _
             rw [rowB_some, if_pos (by omega), List.drop_zero, Nat.one_mul, htk]; rfl
            simp (maxSteps := 1000000) (disch := omega) only [c4l0, e7, e11, e12, e10, e14, e13, hkI, orc_cons, hrd, List.replicate, hl64, hone, htk, hsrc, ha, wrapS hk6, go_sem]
            refine ⟨16 - (k + 1), ?_, k + 1, y', l ++ [s], ?_, ?_, hl', hA', ?_, ?_⟩
            ·omega
            ·rfl
            ·omega
            ·rfl
            ·rfl
           ·obtain rfl : k = 16 := by omega
            rw [r1] at hl
            have hl := Option.some.inj hl
            subst hl
            have hkI : ¬ ((16 : Nat) : Int) < 16 := by omega
            have hLne : L ≠ [] := by intro q; rw [q] at hll; cases hll
            have hoq : openQ M 64 y = true := openS_Q (hAc.opens hLne)
            have hop : rOpenS [y] M = some (recY M (openF L)) := by
             simp only [rOpenS, hAc.lst]
             rw [if_pos ⟨by omega, hoq, List.all_eq_true.2 fun x hx => decide_eq_true (huL x hx)⟩]
            rw [r2] at hop
            simp only [recY] at hop
            have hZ := retX_acc (z := true) (E := byteE) (S := M) (l := R.pay)
            generalize retX true M R.pay = Z at hop hZ
            generalize retM true byteE M R.pay = M9 at hop hZ
            have oneZ := one_of_accG hZ
            have cpZ := cells_one oneZ
            have hM9 := hAc.ext.trans hZ.ext
            have e11b := fun U => at_old (L := U) (at_pre hM9 hB11)
            have hup : R.pay.all (fun c => decide (u8 c)) = true := List.all_eq_true.2 fun x hx => decide_eq_true (og3 x (List.mem_of_mem_drop hx))
            have hsame : ∀ U, rrsameS [.ag [.i .u64 c.gen, .i .u32 c.epoch, X], .ag [.i .u64 R.seq, .i .u32 R.epoch, Z]] (M9 ++ U) = some (.b true, M9 ++ U) := fun U => by
             have p1 : lstV byteE (M9 ++ U) X = some R.pay := by have k3p : c.pay = R.pay := k3; rw [← k3p]; exact lst_ext vXb (ext_more hM9 U)
             have p2 := lstV_grow hZ.lst U
             simp only [rrsameS, p1, p2]
             rw [if_pos ⟨hup, hup⟩, k1, k2]; simp
            have hSM9 : S <+: M9 := hS7.trans (h7b.trans hM9)
            simp (maxSteps := 1000000) (disch := omega) only [c4l0, e7, e11, e12, e10, e14, e13, hkI, orc_cons, hop, oneZ, cpZ, e11b, hsame, go_sem]
            exact wkv_dropP (ext_more hSM9 _) rfl
      ·rw [decide_eq_false oB] at rB
       rw [ha7] at rA
       rw [hb8] at rB
       simp only at rA rB
       rw [hba, hbb, hbc] at rA rB
       simp (maxSteps := 1000000) (disch := omega) only [c4, Chk.cells, cp0, cp1, cpA, cpB, one0, one1, oneA, oneB, orc_cons, hal, hgA, hgB, hc0, g3I, hc1, g4I, hnew, rA, rB, go_sem]
       exact wkv_drop rfl
     ·rw [decide_eq_false oA] at rA
      rw [ha7] at rA
      simp only at rA
      rw [hba, hbb, hbc] at rA
      simp (maxSteps := 1000000) (disch := omega) only [c4, Chk.cells, cp0, cp1, cpA, cpB, one0, one1, oneA, oneB, orc_cons, hal, hgA, hgB, hc0, g3I, hc1, g4I, hnew, rA, go_sem]
      exact wkv_drop rfl
end Go.Proofs.YtkfobkfhbkicaaaGreat
namespace Go.Proofs.YtkfobkfhbkicaaaGreat
open Go.RowKit
set_option maxRecDepth 100000
section
variable {H : Type} {enc : TypeId × Value → H} {W : World}
theorem cellBools {v : Value} (h : CellIs enc Tryz.prog W (.slice 4) v) : ∃ l : List Bool, lstV boolE (absS W) (absV W v) = some l := by
 have s2 : shapes Tryz.prog 20 4 = some [.bool] := by kernel_rfl
 have c2 : Tryz.prog.cellsOf 4 = 1 := by kernel_rfl
 have row : ∀ cs : List Value, RowIs enc Tryz.prog W [.bool] cs → ∃ a : Bool, cs.map (absV W) = [AV.b a] := fun cs h => by
  obtain ⟨h1, h2⟩ := h
  match cs, h1 with
  | [x], _ =>
   obtain ⟨a, rfl⟩ := h2 0 (by simp) (by simp)
   exact ⟨a, rfl⟩
 obtain ⟨l, hl, hf, _⟩ := lst_of (e := fun n => [AV.b n]) (sz := 1) c2 (by omega) h (fun cs fuel x ht => let ⟨a, h1⟩ := row _ (shapes_ok 20 fuel 4 cs x _ ht s2); ⟨a, h1, rfl⟩)
  (good := fun _ => True) (fun cs fuel x a ht he => trivial)
 exact ⟨l, lst_lstV (E := boolE) hl⟩
theorem argCut {v : Value} {base : Nat} {d : DataW H} {ps : List MemPlace} (o : Value.okWide Tryz.prog W .any base 59 v) (h : DataW.Trod enc Tryz.prog W 0 (fun _ => true) true 59 v d ps) :
  ∃ x0 x1 c0 c1, absA W v = .ag [x0, x1] ∧ lstV boolE (absS W) x0 = some c0 ∧ lstV boolE (absS W) x1 = some c1 := by
 have s0 : shapes Tryz.prog 20 59 = some [.slice 4, .slice 4] := by kernel_rfl
 obtain ⟨cs, rfl⟩ : ∃ cs, v = .agg cs := by
  unfold Value.okWide at o
  rw [Tryz.underlying59] at o
  obtain ⟨cs, h, _⟩ := o
  exact ⟨cs, h⟩
 obtain ⟨h1, h2⟩ := arg_row h s0
 have h1 : cs.toList.length = 2 := h1
 have h2 : ∀ (i : Nat) (h : i < 2) (h' : i < cs.toList.length), CellIs enc Tryz.prog W ([CS.slice 4, CS.slice 4][i]) cs.toList[i] := fun i h h' => h2 i h h'
 generalize hcs : cs.toList = cl at h1 h2
 match cl, h1 with
 | [x, y], _ =>
  obtain ⟨c0, k0⟩ := cellBools (h2 0 (by omega) (by simp))
  obtain ⟨c1, k1⟩ := cellBools (h2 1 (by omega) (by simp))
  refine ⟨absV W x, absV W y, c0, c1, ?_, k0, k1⟩
  show AV.ag (cs.toList.map (absV W)) = _
  rw [hcs]; rfl
theorem walkSlotTorn (W : World) (v0 v1 v2 : Value) {base : Nat} (o0 : Value.okWide Tryz.prog W .any base 37 v0) (o1 : Value.okWide Tryz.prog W .any base 37 v1) (o2 : Value.okWide Tryz.prog W .any base 59 v2) {d0 d1 d2 : DataW H} {p0 p1 p2 : List MemPlace}
  (h0 : DataW.Trod enc Tryz.prog W 0 (fun _ => true) true 37 v0 d0 p0) (h1 : DataW.Trod enc Tryz.prog W 0 (fun _ => true) true 37 v1 d1 p1) (h2 : DataW.Trod enc Tryz.prog W 0 (fun _ => true) true 59 v2 d2 p2) :
  Calls Tryz.prog 4 #[v0, v1, v2] W fun e w' => e = .returned (.bool true) ∧ Below W.heap.size W w' := by
 obtain ⟨a, xa, e0, la, ga⟩ := argChk o0 h0
 obtain ⟨b, xb, e1, lb, gb⟩ := argChk o1 h1
 obtain ⟨x0, x1, c0, c1, e2, k0, k1⟩ := argCut o2 h2
 refine calls_of_fnOK (S' := absS W) ?_
 show FnOK Tryz.prog _ [absA W v0, absA W v1, absA W v2] _ _ _
 rw [e0, e1, e2]
 exact torn_ok _ a b xa xb x0 x1 c0 c1 la lb ga gb k0 k1
end
end Go.Proofs.YtkfobkfhbkicaaaGreat
