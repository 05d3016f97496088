/- Proved here: what turns maps stands for the model's. No condition. -/
import Derived.Test.YtljaigbjiheohaaDoorEvD5
namespace Go.Proofs.YtljaigbjiheohaaDoor
set_option linter.unusedSimpArgs false
set_option linter.unusedVariables false
open Go.RowKit

section
variable {P : Program} {base : Bs} {w0 : World} {K : Ctx} {S : Mem} {w : World}

/-- The block and the key that are found. -/
theorem found_key {kt : TypeId} {ag : Bool} {ks : List TK} {k : AV} {vk : Value} {xs : List AV} (hk : VR K S k vk) (hx : keyC ag ks k = some xs) {es : List (AV × AV × Nat)} {E : Array MapEntry} (hE : EntR K S es E) {j : Nat} {e : MapEntry} {a : AV × AV × Nat} {ys : List AV}
    (h3 : E.toList[j]? = some e) (h4 : es[j]? = some a) (h5 : keyC ag ks a.1 = some ys) (h6 : eqCells ks xs ys = some true) : E[j]? = some e ∧ VR K S a.2.1 e.val ∧ a.2.2 = e.born ∧ (Instr.keyThatStays e.key vk).run P w = .ok vk w := by
  obtain ⟨hj, hej⟩ := List.getElem?_eq_some_iff.1 h3
  obtain ⟨hj', haj⟩ := List.getElem?_eq_some_iff.1 h4
  have hj2 : j < E.size := by simpa using hj
  have he : E[j] = e := by simpa using hej
  have hr := hE.2 j hj' hj2
  rw [haj, he] at hr
  obtain ⟨l1, f1⟩ := keyC_ok hk hx
  obtain ⟨l2, f2⟩ := keyC_ok hr.1 h5
  obtain ⟨e1, e2⟩ := key_same l1 l2 f1 f2 h6
  refine ⟨by simp [hj2, he], hr.2.1, hr.2.2, ?_⟩
  rw [← e1]
  simp [Instr.keyThatStays, e2]

theorem good_mentry (h : Sim base w0 K S w) {t kt el : TypeId} {ag : Bool} {ks : List TK} {z : AV} (ht : P.underlying t = some (.map kt el)) (hq : keyInfo P kt = some (ag, ks)) (hz : zeroAV P el = some z) {x k y : AV} {vx vk : Value} {S' : Mem} (hx : VR K S x vx) (hk : VR K S k vk)
    (hv : mentryV S ag ks z x k = some (y, S')) : Good base w0 K S w y S' ((do let v ← Instr.mapEntry t vx vk; pure (Next.value v) : Sem Next).run P w) := by
  obtain ⟨zv, hzr, hzV⟩ := zeroAV_ok hz
  have tu : ∀ {K : Ctx} {S : Mem} {a : AV} {v : Value} {n : Nat}, VR K S a v → VR K S (.tu [a, .i .i64 n]) (.tuple #[v, goInt n]) := by
    intro K S a v n hV
    refine .tu _ _ rfl fun k => ?_
    match k with
    | 0 => exact hV
    | 1 => exact .i .i64 n
    | k + 2 => simp; exact .u _
  unfold mentryV at hv
  split at hv
  · rename_i xs i hxs
    split at hv
    · rename_i es cl hB
      obtain ⟨E, hh, hE⟩ := map_at h hB
      generalize hvx : vx = u at hx
      cases hx with
      | m _ r B hB' hr' =>
        rw [hB] at hB'; obtain rfl := Option.some.inj hB'
        obtain rfl := hr' rfl
        split at hv
        · rename_i j hf
          split at hv
          · rename_i a ha
            simp only [Option.some.injEq, Prod.mk.injEq] at hv
            obtain ⟨rfl, rfl⟩ := hv
            obtain ⟨hchk, o, ho, hF⟩ := find_ok (w := w) hq hk hxs hE hf
            rcases hF with ⟨h1, _⟩ | ⟨j', e, a', ys, h1, rfl, h3, h4, h5, h6⟩
            · cases h1
            · simp only [Nat.zero_add, Option.some.injEq] at h1
              subst h1
              rw [ha] at h4; obtain rfl := Option.some.inj h4
              obtain ⟨q1, q2, q3, q4⟩ := found_key (P := P) (w := w) (kt := kt) hk hxs hE h3 ha h5 h6
              have hE' := hE.set (a := (k, a.2.1, a.2.2)) (e' := { e with key := vk }) (f := fun e => { e with key := vk }) q1 rfl hk q2 q3
              obtain ⟨s1, t1⟩ := put_map (cl' := cl) h hB hE'
              refine ⟨K, _, .tuple #[e.val, goInt e.born], .inl ?_, by rw [q3]; exact (tu (n := e.born) q2).mono (by rw [← q3]; exact t1.ext), s1, t1⟩
              simp [Instr.mapEntry, run_underlying' ht, run_getMap hh, hchk, ho, q1, q4, run_setMap _ hh]
          · cases hv
        · rename_i hf
          simp only [Option.some.injEq, Prod.mk.injEq] at hv
          obtain ⟨rfl, rfl⟩ := hv
          obtain ⟨hchk, o, ho, hF⟩ := find_ok (w := w) hq hk hxs hE hf
          rcases hF with ⟨_, rfl⟩ | ⟨j', e, a', ys, h1, _⟩
          · have hE' := hE.push (a := (k, z, cl)) (e := { key := vk, val := zv, born := cl }) hk (hzV K S) rfl
            obtain ⟨s1, t1⟩ := put_map (cl' := cl + 1) h hB hE'
            refine ⟨K, _, .tuple #[zv, goInt cl], .inl ?_, tu (hzV _ _), s1, t1⟩
            simp [Instr.mapEntry, run_underlying' ht, run_getMap hh, hchk, ho, hzr, run_setMap _ hh]
          · cases h1
        · cases hv
    · cases hv
  · cases hv

theorem good_mupd (h : Sim base w0 K S w) {t kt el : TypeId} {ag : Bool} {ks : List TK} (ht : P.underlying t = some (.map kt el)) (hq : keyInfo P kt = some (ag, ks)) {x k v : AV} {vx vk vv : Value} {S' : Mem} (hx : VR K S x vx) (hk : VR K S k vk) (hv' : VR K S v vv)
    (hv : mupdV S ag ks x k v = some S') : Good base w0 K S w .u S' ((do Instr.mapUpdate t vx vk vv; pure Next.skip : Sem Next).run P w) := by
  unfold mupdV at hv
  split at hv
  · rename_i xs i hxs
    split at hv
    · rename_i es cl hB
      obtain ⟨E, hh, hE⟩ := map_at h hB
      generalize hvx : vx = u at hx
      cases hx with
      | m _ r B hB' hr' =>
        rw [hB] at hB'; obtain rfl := Option.some.inj hB'
        obtain rfl := hr' rfl
        split at hv
        · rename_i j hf
          split at hv
          · rename_i a ha
            injection hv with hv
            subst hv
            obtain ⟨hchk, o, ho, hF⟩ := find_ok (w := w) hq hk hxs hE hf
            rcases hF with ⟨h1, _⟩ | ⟨j', e, a', ys, h1, rfl, h3, h4, h5, h6⟩
            · cases h1
            · simp only [Nat.zero_add, Option.some.injEq] at h1
              subst h1
              rw [ha] at h4; obtain rfl := Option.some.inj h4
              obtain ⟨q1, q2, q3, q4⟩ := found_key (P := P) (w := w) (kt := kt) hk hxs hE h3 ha h5 h6
              have hE' := hE.set (a := (k, v, a.2.2)) (e' := { e with key := vk, val := vv }) (f := fun e => { e with key := vk, val := vv }) q1 rfl hk hv' q3
              obtain ⟨s1, t1⟩ := put_map (cl' := cl) h hB hE'
              refine ⟨K, _, undef, .inr ⟨?_, rfl⟩, .u _, s1, t1⟩
              simp [Instr.mapUpdate, run_underlying' ht, run_getMap hh, hchk, ho, q1, q4, run_setMap _ hh]
          · cases hv
        · rename_i hf
          injection hv with hv
          subst hv
          obtain ⟨hchk, o, ho, hF⟩ := find_ok (w := w) hq hk hxs hE hf
          rcases hF with ⟨_, rfl⟩ | ⟨j', e, a', ys, h1, _⟩
          · have hE' := hE.push (a := (k, v, cl)) (e := { key := vk, val := vv, born := cl }) hk hv' rfl
            obtain ⟨s1, t1⟩ := put_map (cl' := cl + 1) h hB hE'
            refine ⟨K, _, undef, .inr ⟨?_, rfl⟩, .u _, s1, t1⟩
            simp [Instr.mapUpdate, run_underlying' ht, run_getMap hh, hchk, ho, run_setMap _ hh]
          · cases h1
        · cases hv
    · cases hv
  · cases hv

theorem born_find {es : List (AV × AV × Nat)} {E : Array MapEntry} (h : EntR K S es E) (born : Int) : E.findIdx? (fun e => (e.born : Int) == born) = es.findIdx? (fun e => ((e.2.2 : Nat) : Int) == born) := by
  have h1 : E.toList.map (fun e => (e.born : Int)) = es.map (fun e => ((e.2.2 : Nat) : Int)) := by
    apply List.ext_getElem
    · simp [h.1]
    · intro k a b
      simp only [List.length_map] at a b
      have := (h.2 k b (by simpa using a)).2.2
      simp only [List.getElem_map, Array.getElem_toList]
      rw [this]
  have h2 : E.toList.findIdx? (fun e => (e.born : Int) == born) = (E.toList.map (fun e => (e.born : Int))).findIdx? (· == born) := by rw [List.findIdx?_map]; rfl
  have h3 : es.findIdx? (fun e => ((e.2.2 : Nat) : Int) == born) = (es.map (fun e => ((e.2.2 : Nat) : Int))).findIdx? (· == born) := by rw [List.findIdx?_map]; rfl
  rw [h3, ← h1, ← h2]
  clear h h1 h2 h3
  obtain ⟨l⟩ := E
  simp

theorem good_mstore (h : Sim base w0 K S w) {t : TypeId} {x st v : AV} {vx vs vv : Value} {S' : Mem} (hx : VR K S x vx) (hs : VR K S st vs) (hv' : VR K S v vv) (hv : mstoreV S x st v = some S') :
    Good base w0 K S w .u S' ((do Instr.entryStore t vx vs vv; pure Next.skip : Sem Next).run P w) := by
  unfold mstoreV at hv
  split at hv
  · rename_i i kd born
    split at hv
    · rename_i es cl hB
      obtain ⟨E, hh, hE⟩ := map_at h hB
      generalize hvx : vx = u at hx
      cases hs
      cases hx with
      | m _ r B hB' hr' =>
        rw [hB] at hB'; obtain rfl := Option.some.inj hB'
        obtain rfl := hr' rfl
        split at hv
        · rename_i j hf
          split at hv
          · rename_i a ha
            injection hv with hv
            subst hv
            have hfE := born_find hE born
            rw [hf] at hfE
            obtain ⟨hj, haj⟩ := List.getElem?_eq_some_iff.1 ha
            have hjE : j < E.size := by rw [← hE.1]; exact hj
            have hr := hE.2 j hj hjE
            rw [haj] at hr
            have hE' := hE.set (a := (a.1, v, a.2.2)) (e := E[j]) (e' := { E[j] with val := vv }) (f := fun e => { e with val := vv }) (Array.getElem?_eq_getElem hjE) rfl hr.1 hv' hr.2.2
            obtain ⟨s1, t1⟩ := put_map (cl' := cl) h hB hE'
            refine ⟨K, _, undef, .inr ⟨?_, rfl⟩, .u _, s1, t1⟩
            simp [Instr.entryStore, run_getMap hh, asInt, asIntOf, hfE, run_setMap _ hh]
          · cases hv
        · cases hv
    · cases hv
  · cases hv

theorem good_mdel (h : Sim base w0 K S w) {t kt el ty : TypeId} {ts : Array TypeId} {ag : Bool} {ks : List TK} (hts : ts[0]? = some t) (ht : P.underlying t = some (.map kt el)) (hq : keyInfo P kt = some (ag, ks)) {x k : AV} {vx vk : Value} {S' : Mem} (hx : VR K S x vx) (hk : VR K S k vk)
    (hv : mdelV S ag ks x k = some S') : Good base w0 K S w (.tu []) S' ((do let v ← Builtin.delete_ ts ty #[vx, vk]; pure (Next.value v) : Sem Next).run P w) := by
  have tu : VR K S (.tu []) (.tuple #[]) := .tu [] #[] rfl fun k => by simp; exact .u _
  unfold mdelV at hv
  split at hv
  · rename_i xs hxs
    injection hv with hv; subst hv
    cases hx
    obtain ⟨hchk, _⟩ := find_ok (w := w) (es := []) (E := #[]) (r := none) hq hk hxs ⟨rfl, fun k hk => by simp at hk⟩ rfl
    exact Good.same (v := .tuple #[]) h (by simp [Builtin.delete_, hts, run_underlying' ht, hchk]) tu
  · rename_i xs i hxs
    split at hv
    · rename_i es cl hB
      obtain ⟨E, hh, hE⟩ := map_at h hB
      generalize hvx : vx = u at hx
      cases hx with
      | m _ r B hB' hr' =>
        rw [hB] at hB'; obtain rfl := Option.some.inj hB'
        obtain rfl := hr' rfl
        split at hv
        · rename_i j hf
          injection hv with hv
          subst hv
          obtain ⟨hchk, o, ho, hF⟩ := find_ok (w := w) hq hk hxs hE hf
          rcases hF with ⟨h1, _⟩ | ⟨j', e, a', ys, h1, rfl, h3, h4, h5, h6⟩
          · cases h1
          · simp only [Nat.zero_add, Option.some.injEq] at h1
            subst h1
            obtain ⟨s1, t1⟩ := put_map (cl' := cl) h hB (hE.erase j)
            refine ⟨K, _, .tuple #[], .inl ?_, tu.mono t1.ext, s1, t1⟩
            simp [Builtin.delete_, hts, run_underlying' ht, run_getMap hh, hchk, ho, run_setMap _ hh]
        · rename_i hf
          injection hv with hv
          subst hv
          obtain ⟨hchk, o, ho, hF⟩ := find_ok (w := w) hq hk hxs hE hf
          rcases hF with ⟨_, rfl⟩ | ⟨j', e, a', ys, h1, _⟩
          · obtain ⟨s1, t1⟩ := put_map (cl' := cl) h hB hE
            have hset : S.set i (.map es cl) = S := by
              obtain ⟨hi, e⟩ := List.getElem?_eq_some_iff.1 hB
              rw [← e]; simp
            rw [hset] at s1 t1
            refine ⟨K, _, .tuple #[], .inl ?_, tu, s1, t1⟩
            simp [Builtin.delete_, hts, run_underlying' ht, run_getMap hh, hchk, ho, run_setMap _ hh]
          · cases h1
        · cases hv
    · cases hv
  · cases hv
end
end Go.Proofs.YtljaigbjiheohaaDoor
