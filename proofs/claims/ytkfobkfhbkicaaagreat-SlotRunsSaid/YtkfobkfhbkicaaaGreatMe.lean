/- Proved here: what the law of this claim leans on (an evaluator of the model's code, contracts of functions). No condition. -/
import Derived.Test.YtkfobkfhbkicaaaGreatMd
import Derived.Test.YtkfobkfhbkicaaaGreatMc
set_option linter.unusedSimpArgs false
set_option linter.unusedVariables false
namespace Go.Proofs.YtkfobkfhbkicaaaGreat
open Go.RowKit
set_option maxRecDepth 10000
def predE (f:AV) (S:Mem):Option (Ent→Bool):=match f with
 | .f (.func g) [] []=>if g=72 then some (fun x=>decide (281474976710656<x.granted)) else none
 | _=>none
def entO:Orc:=orcOf [(72,moreS)]
theorem entO_ok:OK Tryz.prog (lamOf Tryz.prog) entO:=orc_ok (by simpa using more_ok)
theorem predE_call {f:AV} {S:Mem} {p:Ent→Bool} (h:predE f S=some p):∃ g b,f = .f (.func g) [] b∧∀ x,entO.fn g (.ag (entE.enc x) :: b) S=some (.b (p x),S):=by
 unfold predE at h
 split at h
 ·split at h
  ·rename_i hg;subst hg;injection h with h;subst h;exact ⟨_,[],rfl,fun x=>rfl⟩
  ·cases h
 ·cases h
theorem predE_more {S:Mem}:predE (.f (.func 72) [] []) S=some (fun x=>decide (281474976710656<x.granted)):=rfl
def idxES:Spec:=fun args S=>match args with
 | [x,f]=>match lstV entE S x,predE f S with
  | some l,some p=>if l.length≤1000000 then some (.i .i64 (idx p l),S) else none
  | _,_=>none
 | _=>none
theorem idxE_ok:SpecOK Tryz.prog 96 idxES:=by
 intro args S x S' h
 simp only [idxES] at h
 split at h
 ·rename_i s f
  split at h
  ·rename_i l p hl hp
   split at h
   ·rename_i hlim
    cases h
    obtain ⟨g,b,rfl,hg⟩:=predE_call hp
    refine fn_of_wp f96 rfl (W_sound entO_ok mixed _ _ _ _ _ ?_)
    simp (maxSteps:=1000000) (disch:=omega) only [c96,lst_len hl,go_sem]
    refine wp_loop (fun j e M dl=>dl=[]∧∃ k:Nat,j=l.length-k∧k≤l.length∧M=S∧(∀ i (hi:i<k) (hl:i<l.length),p l[i]=false) ∧
     e.get 0=s∧e.get 1 = .f (.func g) [] b∧e.get 7 = .i .i64 l.length∧e.get 8 = .i .i64 k) (j:=l.length) ⟨rfl,0,rfl,Nat.zero_le _,rfl,fun i hi=>absurd hi (Nat.not_lt_zero _),rfl,rfl,rfl,rfl⟩ ?_
    rintro j e M d' ⟨rfl,k,rfl,hk,rfl,hn,h0,h1,h7,h8⟩
    refine W_sound entO_ok mixed _ _ _ _ _ ?_
    by_cases hkl:k<l.length
    ·obtain ⟨bi,o,v,cap,ex,rfl⟩:=lst_sl hl hkl
     have hc:=lstV_row hl hkl []
     rw [List.append_nil] at hc
     have hc:rowB (M[bi]?) (o+k * 14) v 14=some (entE.enc l[k]):=hc
     have hkI:(k:Int)<l.length:=by omega
     simp (maxSteps:=1000000) (disch:=omega) only [c96l0,h0,h1,h7,h8,hkI,Int.toNat_natCast,Nat.mul_one,hc,hg,go_sem]
     cases hpk:p l[k] with
     | true =>
      refine ⟨fun _=>?_,fun h=>by cases h⟩
      rw [idx_at hkl hpk fun j hj=>hn j hj (by omega)]
      exact wkv_same
     | false =>
      refine ⟨(fun h=>by cases h),fun _=>⟨l.length-(k+1),by omega,k+1,rfl,hkl,fun i hi hil=>?_,rfl⟩⟩
      by_cases hik:i=k
      ·subst hik;exact hpk
      ·exact hn i (by omega) hil
    ·have hkI:¬ (k:Int)<l.length:=by omega
     simp (maxSteps:=1000000) (disch:=omega) only [c96l0,h0,h1,h7,h8,hkI,go_sem]
     rw [idx_none fun j hj=>hn j (by omega) hj]
     exact wkv_same
   ·cases h
  ·cases h
 ·cases h
theorem idxE_eq {S:Mem} {x f:AV} {l p} (hl:lstV entE S x=some l) (hp:predE f S=some p) (hn:l.length≤1000000):idxES [x,f] S=some (.i .i64 (idx p l),S):=by
 simp only [idxES,hl,hp,if_pos hn]
def hasES:Spec:=fun args S=>match args with
 | [x,f]=>match lstV entE S x,predE f S with
  | some l,some p=>if l.length≤1000000 then some (.b (l.any p),S) else none
  | _,_=>none
 | _=>none
theorem oHasE_ok:OK Tryz.prog (lamOf Tryz.prog) (orcOf [(96,idxES)]):=orc_ok (by simpa using idxE_ok)
theorem hasE_ok:SpecOK Tryz.prog 71 hasES:=by
 intro args S x S' h
 simp only [hasES] at h
 split at h
 ·rename_i s f
  split at h
  ·rename_i l p hl hp
   split at h
   ·rename_i hlim
    cases h
    have hi:=idxE_eq hl hp hlim
    refine fn_of_wp f71 rfl (W_sound oHasE_ok mixed _ _ _ _ _ ?_)
    simp (maxSteps:=1000000) (disch:=omega) only [c71,orc_cons,hi,go_sem]
    refine wkv_eq wkv_same ?_ rfl
    congr 1
    have:=idx_ge p l
    cases h:l.any p
    ·rw [h] at this;simp [this]
    ·rw [h] at this;simp [this]
   ·cases h
  ·cases h
 ·cases h
theorem hasE_eq {S:Mem} {x f:AV} {l p} (hl:lstV entE S x=some l) (hp:predE f S=some p) (hn:l.length≤1000000):hasES [x,f] S=some (.b (l.any p),S):=by
 simp only [hasES,hl,hp,if_pos hn]
theorem oBr_ok:OK Tryz.prog (lamOf Tryz.prog) (orcOf [(70,policiesS),(69,allPS),(71,hasES)]):=orc_ok (by simpa using ⟨policies_ok,all_ok,hasE_ok⟩)
theorem bright_ok:SpecOK Tryz.prog 46 brightS:=by
 intro args S x S' h
 simp only [brightS] at h
 split at h
 ·rename_i cs
  split at h
  ·rename_i b hb
   split at h
   ·rename_i hf
    cases h
    obtain ⟨s,rfl,hl⟩:=bookOf_ok hb
    obtain ⟨p,l⟩:=b
    have hl1:lstV entE (S++[.cells [.i .u64 p,s] 0 none true]) s=some l:=lstV_grow hl _
    have hp:=policies_eq hl1 hf.1
    have hq:=allPS_eq (retX_lst (z:=false) (E:=polE) (S:=S++[.cells [.i .u64 p,s] 0 none true]) (l:=polsOf l)) (fun q hq=>by
     obtain ⟨x,hx,rfl⟩:=List.mem_map.1 hq;exact hf.2 x hx)
    have hext:S <+: retM false polE (S++[.cells [.i .u64 p,s] 0 none true]) (polsOf l):=(ext_app _).trans retM_ext
    have hl2:lstV entE (retM false polE (S++[.cells [.i .u64 p,s] 0 none true]) (polsOf l)) s=some l:=lst_ext hl1 retM_ext
    have hh:=hasE_eq hl2 (predE_more) hf.1
    have hcell:cellB ((retM false polE (S++[.cells [.i .u64 p,s] 0 none true]) (polsOf l))[S.length]?) 1 0=some s:=by
     obtain ⟨T,hT⟩:=(retM_ext (z:=false) (E:=polE) (S:=S++[.cells [.i .u64 p,s] 0 none true]) (l:=polsOf l))
     rw [←hT,List.append_assoc,at_app0];rfl
    refine fn_of_wp f46 rfl (W_sound oBr_ok mixed _ _ _ _ _ ?_)
    simp (maxSteps:=1000000) (disch:=omega) only [c46,lst_len hl,orc_cons,hp,hq,hh,hcell,un_not_b,go_sem]
    have hlp:(polsOf l).length=l.length:=by unfold polsOf;simp
    refine ⟨fun h1=>⟨fun h2=>⟨fun h3=>⟨fun h4=>?_,fun h4=>?_⟩,fun h3=>?_⟩,fun h2=>?_⟩,fun h1=>?_⟩
    ·exact wkv_fP hext fun q=>h4 (by rw [allE_zero];exact q.2.2.1)
    ·rw [Decidable.not_not,allE_zero] at h4
     refine wkv_eqP hext ?_ rfl
     congr 1
     rw [Bool.eq_iff_iff,decide_eq_true_iff,Bool.not_eq_true',List.any_eq_false]
     refine ⟨fun q x hx=>?_,fun q=>⟨(by show (1:Int)≤p;omega),(by show p≤_;omega),h4,fun x hx=>?_⟩⟩
     ·have:=q.2.2.2 x hx;simp only [decide_eq_true_eq];omega
     ·have:=q x hx;simp only [decide_eq_true_eq] at this;omega
    ·refine wkv_f fun q=>?_
     have:=q.2.2.1.1;simp only at this;omega
    ·exact wkv_f fun q=>by have:=q.2.1;simp only at this;omega
    ·exact wkv_f fun q=>by have:=q.1;simp only at this;omega
   ·cases h
  ·cases h
 ·cases h
theorem oBy_ok:OK Tryz.prog (lamOf Tryz.prog) (orcOf [(46,brightS),(78,numsS),(56,lebsS false)]):=orc_ok (by simpa using ⟨bright_ok,nums_ok,lebs_ok⟩)
set_option maxHeartbeats 2000000 in
theorem bytes_ok:SpecOK Tryz.prog 54 bytesS:=by
 intro args S x S' h
 simp only [bytesS] at h
 split at h
 ·rename_i cb
  split at h
  ·rename_i b hb
   split at h
   ·rename_i hg
    obtain ⟨s,rfl,hl⟩:=bookOf_ok hb
    obtain ⟨p,l⟩:=b
    simp only at hl
    have b1:=fun L=>bright_eq (bookOf_mk (p:=p) (lstV_grow hl L)) hg.fits
    refine fn_of_wp f54 rfl (W_sound oBy_ok mixed _ _ _ _ _ ?_)
    split at h
    ·rename_i ho
     cases h
     have hd:decide (Bk.ok ⟨p,l⟩)=true:=decide_eq_true ho
     have hlim:=hg.2.1
     simp only at hlim
     simp (maxSteps:=1000000) (disch:=omega) only [c54,orc_cons,b1,hd,lst_len hl,List.replicate,go_sem]
     have h0:AccL numE S (S++[.cells [.i .u64 p,s] 0 none true,.cells [.i .u64 p] 0 none true]) (.sl (S.length+1) 0 0 1 1 true) [p]:=by
      have:AccL numE S ((S++[Blk.cells [.i .u64 p,s] 0 none true])++[Blk.cells [.i .u64 p] 0 none true]) (.sl (S++[Blk.cells [.i .u64 p,s] 0 none true]).length 0 0 1 1 true) [p]:=accL_lit (E:=numE) (l:=[p]) (ext_app _)
      rwa [List.append_assoc,List.length_append] at this
     refine wp_loop (fun j e M dl=>dl=[]∧∃ (k:Nat) (x:AV),j=l.length-k∧k≤l.length∧AccL numE S M x (p :: entNs (l.take k)) ∧
      e.get 14=s∧e.get 15 = .i .i64 l.length∧e.get 16 = .i .i64 k∧e.get 4=x) (j:=l.length) ⟨rfl,0,_,rfl,Nat.zero_le _,h0,rfl,rfl,rfl,rfl⟩ ?_
     rintro j e M d' ⟨rfl,k,x,rfl,hk,hx,h14,h15,h16,h4⟩
     refine W_sound oBy_ok mixed _ _ _ _ _ ?_
     have hM:=lst_ext hl hx.ext
     have htl:(entNs (l.take k)).length=11 * k:=by rw [entNs_len,List.length_take];omega
     by_cases hkl:k<l.length
     ·obtain ⟨bi,o,v,cap,ex,rfl⟩:=lst_sl hl hkl
      have hr:∀ L,rowB ((M++L)[bi]?) (o+k * 14) v 14=some (entE.enc l[k]):=lstV_row hM hkl
      have hr0:=hr []
      rw [List.append_nil] at hr0
      have hkI:(k:Int)<l.length:=by omega
      have hw:wrapV .i64 ((k:Int)+1)=((k+1:Nat):Int):=by rw [wrap_i64 (by omega) (by omega)];omega
      have hpr:=ok_right ho (k:=k) hkl
      have hpg:=(hg.2.2 _ (List.getElem_mem hkl)).1
      have hns:=fun M=>nsV (S:=M) hpg hpr
      obtain ⟨x1,M1,U1,ha1,hM1,hx1,_⟩:=hx.apps (bytes:=8) numE_one [.cells (entE.enc l[k]) 0 none true,.cells (l[k].pol.ns.map (.i .u64)) 0 none true] l[k].pol.ns (by simp [Pol.ns];omega) (by simp [Pol.ns];omega)
      obtain ⟨x2,M2,U2,ha2,hM2,hx2,_⟩:=hx1.apps (bytes:=8) numE_one [.cells [.i .u64 l[k].granted] 0 none true] [l[k].granted] (by simp [Pol.ns];omega) (by simp [Pol.ns];omega)
      have ha1:appV (M++[.cells (entE.enc l[k]) 0 none true,.cells (l[k].pol.ns.map (.i .u64)) 0 none true]) 1 8 x (l[k].pol.ns.map (.i .u64)) 10=some (x1,M1++(.cells (entE.enc l[k]) 0 none true :: .cells (l[k].pol.ns.map (.i .u64)) 0 none true :: U1)):=by rw [u64E] at ha1;exact ha1
      have ha2:appV (M1++(.cells (entE.enc l[k]) 0 none true :: .cells (l[k].pol.ns.map (.i .u64)) 0 none true :: (U1++[.cells [.i .u64 l[k].granted] 0 none true]))) 1 8 x1 [.i .u64 l[k].granted] 1=some (x2,M2++(.cells [.i .u64 l[k].granted] 0 none true :: U2)):=by
       rw [List.append_assoc] at ha2;exact ha2
      have hat:∀ L:Mem,(M1++L)[M.length]? = L[0]?:=fun L=>by rw [←hM1];exact at_app0
      have hrow:rowB (some (.cells (l[k].pol.ns.map (.i .u64)) 0 none true)) 0 0 10=some (l[k].pol.ns.map (.i .u64)):=rfl
      have v0:=eqv_lst hx.lst
      have v1:=eqv_lst hx1.lst
      have v2:=eqv_lst hx2.lst
      have vc:avEqvL l[k].pol.enc l[k].pol.enc=true:=by simp [Pol.enc,avEqvL,avEqv]
      have r13:rowB (some (.cells (entE.enc l[k]) 0 none true)) 0 0 13=some l[k].pol.enc:=rfl
      have c13:cellB (some (.cells (entE.enc l[k]) 0 none true)) 13 0=some (.i .u64 l[k].granted):=rfl
      generalize l[k].pol.ns.map (AV.i .u64)=N at ha1 ha2 hns hrow
      simp (maxSteps:=1000000) (disch:=omega) only [c54l1,h4,h14,h15,h16,hkI,Int.toNat_natCast,hr0,entE,Ent.enc,List.replicate,go_sem]
      have hB:Blk.cells [.i .i64 l[k].pol.sub,.i .u8 l[k].pol.a,.i .u8 l[k].pol.b,.i .u8 l[k].pol.c,.i .u8 l[k].pol.d,.i .i64 l[k].pol.bits,.i .u64 l[k].pol.rate,.i .u64 l[k].pol.burst,.i .u64 l[k].pol.srate,.i .u64 l[k].pol.sburst,.i .u64 l[k].pol.quota,.i .u64 l[k].pol.lease,.i .u64 l[k].pol.quantum,.i .u64 l[k].granted] 0 none true = .cells (entE.enc l[k]) 0 none true:=rfl
      rw [hB]
      generalize Blk.cells (entE.enc l[k]) 0 none true=B6 at ha1 ha2 r13 c13
      generalize l[k].pol.enc=C13 at hns r13 vc
      refine draw_of ?_
      simp (maxSteps:=1000000) (disch:=omega) only [c54d0,orc_cons,hns,r13,c13,src_sl,Nat.mul_one,hrow,srcN_some,ha1,ha2,hat,v0,v1,v2,vc,hw,dNs_nil,dNs_cons,dnK_some,dnK_none,dOpt_none,dOpt_some,doK_some,doK_none,dStages_nil,dStages_cons,s1K_app,s2K_app,s3K_app,s4K_app,dEnd_app,evOne_op,evOne_gd,evG_tt,evG_tf,evG_ft,evG_ff,evG_ud,kSt_nil,kSt_cons,kNs_nil,kNs_cons,kN_zero,kN_succ,kA_some,eqK_some,eqK_none,kOpt_none,kOpt_some,kLike_nil,kLike_cons,ROp.use,IOp.use,IO'.use,X.use,dstL_none,dstL_some,List.flatMap_cons,List.flatMap_nil,eqv_m,eqv_p,eqv_i,eqv_b,eqv_sl,eqv_sn,eqv_pn,eqv_ud,eqv_u,eqv_mn,eqv_ag,eqvL_cons,eqvL_nil,eqv_tu,Bool.and_true,Bool.true_and,Bool.and_self,Nat.le_refl,Nat.reduceLeDiff,and_self,and_true,true_and,go_sem]
      refine ⟨l.length-(k+1),by omega,k+1,x2,rfl,hkl,?_,rfl,rfl⟩
      rw [show p :: entNs (l.take (k+1))=p :: entNs (l.take k)++l[k].pol.ns++[l[k].granted] by unfold entNs;rw [List.take_succ_eq_append_getElem hkl,List.flatMap_append];simp]
      exact hx2
     ·have hkI:¬ (k:Int)<l.length:=by omega
      rw [List.take_of_length_le (by omega)] at hx htl
      have h8:=ho.2.2.1.1
      rw [show (polsOf (Bk.mk p l).entries).length=l.length by unfold polsOf;simp] at h8
      have hlb:=lebs_eq (z:=false) hx.lst (by simp;omega) (bns_u64 hg ho)
      simp (maxSteps:=1000000) (disch:=omega) only [c54l1,h4,h14,h15,h16,hkI,orc_cons,hlb,go_sem]
      have hne:lebs (p :: entNs l)≠[]:=lebs_ne (b:=⟨p,l⟩)
      have hacc:Acc true byteE S (retM false byteE M (lebs (p :: entNs l))) (retX false M (lebs (p :: entNs l))) (lebs (p :: entNs l)):=by
       obtain ⟨T,hT⟩:=hx.ext
       rw [retX_ne hne,retM_ne hne]
       refine ⟨T++[.cells ((lebs (p :: entNs l)).flatMap byteE.enc) 0 (some byteE.sz) true],by rw [←hT,List.append_assoc],.inr (.inr ⟨hne,T.length,0,by rw [←hT,List.length_append],by simp⟩)⟩
      exact hacc.ret2 byteE_flat Flat_i
    ·rename_i ho
     cases h
     have hd:decide (Bk.ok ⟨p,l⟩)=false:=decide_eq_false ho
     simp (maxSteps:=1000000) (disch:=omega) only [c54,orc_cons,b1,hd,go_sem]
     exact wkv_drop rfl
   ·cases h
  ·cases h
 ·cases h
theorem oBRd_ok:OK Tryz.prog (lamOf Tryz.prog) (orcOf [(110,lallS false),(111,chunkS),(46,brightS)]):=orc_ok (by simpa using ⟨lall_ok,chunk_ok,bright_ok⟩)
theorem read_ok:SpecOK Tryz.prog 91 readS:=by
 intro args S x S' h
 simp only [readS] at h
 split at h
 ·rename_i s
  split at h
  ·rename_i b hl
   split at h
   ·rename_i hc
    obtain ⟨ho,hu,hlen⟩:=hc
    have hu:∀ c∈b,u8 c:=fun c hc=>of_decide_eq_true (List.all_eq_true.1 hu c hc)
    refine fn_of_wp f91 rfl (W_sound oBRd_ok mixed _ _ _ _ _ ?_)
    have hlS:=fun L=>lstV_grow hl L
    have hoS:=fun L=>openQ_grow ho L
    cases hun:unlebs b with
    | none =>
     have hrd:Bk.read b=none:=by unfold Bk.read;rw [hun]
     rw [hrd] at h
     cases h
     have hall:=fun L=>lall_none (z:=false) (hlS L) (hoS L) hu hlen hun
     simp (maxSteps:=1000000) (disch:=omega) only [c91,List.replicate,orc_cons,hall,go_sem]
     exact wkv_drop rfl
    | some l =>
     have hrd:Bk.read b=Bk.ofNums l:=by unfold Bk.read;rw [hun]
     rw [hrd] at h
     obtain ⟨hlb,hlu,hl128⟩:=lebs_unlebs hu hun
     obtain ⟨X,M0,hall,hX,hSM0,hoX⟩:=lall_some (z:=false) (hlS [.cells [.i .u64 0,.sn] 0 none true,.cells [.i .i64 0] 0 none true]) (hoS _) hu hlen hun
     have hlX:=fun M'=>lst_len hX M'
     have m2:M0[S.length]? = some (.cells [.i .u64 0,.sn] 0 none true):=at_pre hSM0 (by rw [at_app0];rfl)
     have m3:M0[S.length+1]? = some (.cells [.i .i64 0] 0 none true):=at_pre hSM0 (by rw [at_app];rfl)
     have hS0:=(ext_app _).trans hSM0
     have hS0l:S.length+1<M0.length:=(List.getElem?_eq_some_iff.1 m3).1
     have hset2:=set_self m2
     by_cases hmod:l.length % 11=1
     ·match l,hl128,hmod with
      | p :: r,hl128,hmod =>
       obtain ⟨bi,o,v,cap,ex,rfl⟩:=lst_sl hX (k:=0) (by simp)
       simp only [List.length_cons] at hX hl128 hall hoX hlX hmod
       have hmI:∀ cst,binV .int cst .rem (.i .i64 ((r.length+1:Nat):Int)) (.i .i64 11)=some (.i .i64 1):=fun cst=>by rw [bin_rem_pos (by omega) (by omega)];congr 2;omega
       have hc0:=fun L=>lstV_cell hX rfl (fun a=>rfl) (k:=0) (by simp) L
       simp only [Nat.add_zero,List.getElem_cons_zero] at hc0
       have hc0':=hc0 []
       rw [List.append_nil] at hc0'
       obtain ⟨x1,hs1,hx1,hox1⟩:=drop_lst hX (hoX (by simp)) (q:=.i64) (a:=1) (by simp)
       rw [List.drop_succ_cons,List.drop_zero] at hx1
       have hs1:∀ L,sliceV (M0++L) 1 (.sl bi o v (r.length+1) cap ex) (some (.i .i64 1)) none none=some x1:=fun L=>sliceV_grow L hs1
       have hch:chunkS [x1,.i .i64 11] (M0++[.cells [.i .u64 p,.sn] 0 none true])=some (.f (.func 121) [] [.p (M0.length+1) 0 0,.p (M0.length+2) 0 0],M0++[.cells [.i .u64 p,.sn] 0 none true,.cells [x1] 0 none true,.cells [.i .i64 11] 0 none true]):=by
        rw [chunkS_eq (lstV_grow hx1 _)];simp
       simp (maxSteps:=1000000) (disch:=omega) only [c91,List.replicate,orc_cons,hall,hlX,hmI,hc0,hc0',hs1,hch,go_sem]
       have hur:∀ m∈r,u64 m:=fun m hm=>hlu m (by simp [hm])
       have hl3:(M0++[Blk.cells [.i .u64 p,.sn] 0 none true,.cells [x1] 0 none true,.cells [.i .i64 11] 0 none true]).length=M0.length+3:=by simp
       have hrf:∀ (e:Env) (keep:List Nat),(keepE e keep).get 2 = .p S.length 0 0→(keepE e keep).get 3 = .p (S.length+1) 0 0→(keepE e keep).get 6 = .p M0.length 0 0 →
         FnR Tryz.prog 121 ([]++[.y ((M0++[Blk.cells [.i .u64 p,.sn] 0 none true,.cells [x1] 0 none true,.cells [.i .i64 11] 0 none true]).length+1)]++[.p (M0.length+1) 0 0,.p (M0.length+2) 0 0])
          (M0++[Blk.cells [.i .u64 p,.sn] 0 none true,.cells [x1] 0 none true,.cells [.i .i64 11] 0 none true]++[.dfr true,.loop 91 rdPath (keepE e keep) .ready none]) (chunkR S M0 p r x1 (keepE e keep)):=by
        intro e keep g2 g3 g6
        rw [hl3,List.append_assoc M0]
        exact chunk1_ok ⟨ext_app _,by rw [at_app0];rfl,by rw [at_app];rfl,by rw [at_app];rfl,by rw [at_app];rfl,by rw [at_app];rfl,acc_nil (ext_app _),entsAt_start r⟩ hS0 m2 m3 g2 g3 g6 hx1 hox1 (by omega) hur (by omega)
       apply wp_rf rfl (hrf _ _ (by rfl) (by rfl) (by rfl))
       rw [hl3]
       rintro y0 S2 (⟨es,y,J⟩ | ⟨JB,hnone⟩)
       ·refine ⟨_,_,_,_,_,J.hl,by simp,?_⟩
        rw [entsAt_end J.he (by omega)] at h
        have JX:=jm_end J hS0 m2 m3
        have he:=J.he
        generalize (Blk.loop _ _ _ _ _:Blk)=B
        have JX:=JX B
        rw [show M0.length+3+1=M0.length+4 from rfl]
        generalize S2.set (M0.length+4) B=M3 at JX ⊢
        obtain ⟨tS,t2,t3,tB,td,tA⟩:=JX
        have hfit:Bk.fits ⟨p,es⟩:=⟨by have:=he.1;simp only;omega,fun x hx=>(he.2.1 x hx).1.fits⟩
        have hbr:=bright_eq (bookOf_mk (p:=p) tA.lst) hfit
        by_cases hok:(Bk.mk p es).ok
        ·rw [show Bk.fin (some ⟨p,es⟩)=some ⟨p,es⟩ by simp only [Bk.fin,if_pos hok]] at h
         cases h
         rw [decide_eq_true hok] at hbr
         obtain ⟨M4,hM4⟩:∃ M4,M4=M3.set S.length (.cells [.i .u64 p,y] 0 none true):=⟨_,rfl⟩
         have f2:M4[S.length]? = some (.cells [.i .u64 p,y] 0 none true):=by rw [hM4];exact at_set t2
         have f3:M4[S.length+1]? = some (.cells [.i .i64 0] 0 none true):=by rw [hM4,List.getElem?_set_ne (by omega)];exact t3
         have fd:M4[M0.length+3]? = some (.dfr true):=by rw [hM4,List.getElem?_set_ne (by omega)];exact td
         have fA:Acc false entE S M4 y es:=by rw [hM4];exact tA.setB (Nat.le_refl _) t2 rfl _
         have fset:=set_self f3
         have g2:(M4.set (M0.length+3) (.dfr false))[S.length]? = some (.cells [.i .u64 p,y] 0 none true):=by rw [List.getElem?_set_ne (by omega)];exact f2
         have g3:(M4.set (M0.length+3) (.dfr false))[S.length+1]? = some (.cells [.i .i64 0] 0 none true):=by rw [List.getElem?_set_ne (by omega)];exact f3
         simp (maxSteps:=1000000) (disch:=omega) only [tB,orc_cons,hbr,t2,t3,lst_one tA.lst,←hM4,f2,f3,fset,ret_d fd,g2,g3,go_sem]
         exact (fA.setB (by omega) fd rfl _).retB entE_flat Flat_i Flat_i
        ·rw [show Bk.fin (some ⟨p,es⟩)=none by simp only [Bk.fin,if_neg hok]] at h
         cases h
         rw [decide_eq_false hok] at hbr
         have s2:=set_self t2
         obtain ⟨M5,hM5⟩:∃ M5,M5=M3.set (S.length+1) (.cells [.i .i64 131] 0 none true):=⟨_,rfl⟩
         have f2:M5[S.length]? = some (.cells [.i .u64 0,.sn] 0 none true):=by rw [hM5,List.getElem?_set_ne (by omega)];exact t2
         have f3:M5[S.length+1]? = some (.cells [.i .i64 131] 0 none true):=by rw [hM5];exact at_set t3
         have fd:M5[M0.length+3]? = some (.dfr true):=by rw [hM5,List.getElem?_set_ne (by omega)];exact td
         have fS:S <+: M5:=by rw [hM5];exact ext_set tS (by omega) _
         have g2:(M5.set (M0.length+3) (.dfr false))[S.length]? = some (.cells [.i .u64 0,.sn] 0 none true):=by rw [List.getElem?_set_ne (by omega)];exact f2
         have g3:(M5.set (M0.length+3) (.dfr false))[S.length+1]? = some (.cells [.i .i64 131] 0 none true):=by rw [List.getElem?_set_ne (by omega)];exact f3
         simp (maxSteps:=1000000) (disch:=omega) only [tB,orc_cons,hbr,t2,t3,s2,←hM5,ret_d fd,g2,g3,go_sem]
         exact wkv_dropP (ext_set fS (by omega) _) rfl
       ·refine ⟨_,_,_,_,_,JB.hl,by simp,?_⟩
        rw [hnone] at h
        cases h
        have JX:=jb_end JB hS0l
        generalize (Blk.loop _ _ _ _ _:Blk)=B
        have JX:=JX B
        rw [show M0.length+3+1=M0.length+4 from rfl]
        generalize S2.set (M0.length+4) B=M3 at JX ⊢
        obtain ⟨tS,t2,t3,td⟩:=JX
        have g2:(M3.set (M0.length+3) (.dfr false))[S.length]? = some (.cells [.i .u64 0,.sn] 0 none true):=by rw [List.getElem?_set_ne (by omega)];exact t2
        have g3:(M3.set (M0.length+3) (.dfr false))[S.length+1]? = some (.cells [.i .i64 131] 0 none true):=by rw [List.getElem?_set_ne (by omega)];exact t3
        simp (maxSteps:=1000000) (disch:=omega) only [Jump.ix,ret_d td,g2,g3,go_sem]
        exact wkv_dropP (ext_set tS (by omega) _) rfl
     ·have hrem:∀ cst,binV .int cst .rem (.i .i64 (l.length:Int)) (.i .i64 11)=some (.i .i64 ((l.length % 11:Nat):Int)):=fun cst=>by rw [bin_rem_pos (by omega) (by omega)];rfl
      have hne:¬ ((l.length % 11:Nat):Int)=1:=by omega
      obtain ⟨M5,hM5⟩:∃ M5,M5=M0.set (S.length+1) (.cells [.i .i64 131] 0 none true):=⟨_,rfl⟩
      have f2:M5[S.length]? = some (.cells [.i .u64 0,.sn] 0 none true):=by rw [hM5,List.getElem?_set_ne (by omega)];exact m2
      have f3:M5[S.length+1]? = some (.cells [.i .i64 131] 0 none true):=by rw [hM5];exact at_set m3
      have fS:S <+: M5:=by rw [hM5];exact ext_set hS0 (by omega) _
      rw [ofNums_mod hmod] at h
      cases h
      simp (maxSteps:=1000000) (disch:=omega) only [c91,List.replicate,orc_cons,hall,hlX,hrem,hne,m2,m3,hset2,←hM5,f2,f3,go_sem]
      exact wkv_dropP fS rfl
   ·cases h
  ·cases h
 ·cases h
theorem wrapS {t:Nat} (h:t<1000000):wrapV .i64 ((t:Int)+1)=((t+1:Nat):Int):=by rw [wrap_i64 (by omega) (by omega)];omega
structure Sec where
 b:List Int
 len:b.length=64
 deriving DecidableEq
def byV (n:Int):AV:=.i .u8 n
def unBy:AV→Option Int
 | .i .u8 n=>some n
 | _=>none
def unBys:List AV→Option (List Int)
 | []=>some []
 | x :: r=>match unBy x,unBys r with
  | some n,some l=>some (n :: l)
  | _,_=>none
theorem unBys_map:∀ l:List Int,unBys (l.map byV)=some l
 | []=>rfl
 | a :: l=>by simp only [List.map_cons,unBys,unBys_map l];rfl
theorem unBys_ok:∀ {xs:List AV} {l:List Int},unBys xs=some l→xs=l.map byV
 | [],l,h=>by cases h;rfl
 | x :: r,l,h=>by
  simp only [unBys] at h
  split at h
  ·rename_i n m h1 h2
   cases h
   rw [unBys_ok h2,List.map_cons]
   congr 1
   unfold unBy at h1
   split at h1
   ·cases h1;rfl
   ·cases h1
  ·cases h
def Sec.enc (s:Sec):List AV:=s.b.map byV
def Sec.dec (r:List AV):Option Sec:=match unBys r with
 | some l=>if h:l.length=64 then some ⟨l,h⟩ else none
 | none=>none
theorem Sec.de (s:Sec):Sec.dec s.enc=some s:=by
 simp only [Sec.dec,Sec.enc,unBys_map]
 rw [dif_pos s.len]
theorem Sec.ed {r:List AV} {s:Sec} (h:Sec.dec r=some s):r=s.enc:=by
 unfold Sec.dec at h
 split at h
 ·rename_i l hl
  split at h
  ·cases h;exact unBys_ok hl
  ·cases h
 ·cases h
theorem Sec.enc_len (s:Sec):s.enc.length=64:=by rw [Sec.enc,List.length_map,s.len]
theorem Sec.take64 (s:Sec):s.enc.take 64=s.enc:=List.take_of_length_le (by rw [s.enc_len];exact Nat.le_refl _)
theorem Sec.drop64 (s:Sec):s.enc.drop 64=[]:=List.drop_of_length_le (by rw [s.enc_len];exact Nat.le_refl _)
theorem Sec.one (s:Sec):s.enc.all AV.one=true:=by
 rw [List.all_eq_true]
 intro x hx
 obtain ⟨n,_,rfl⟩:=List.mem_map.1 hx
 rfl
theorem Sec.flat (n:Nat) (s:Sec):∀ c∈s.enc,AV.Flat n c:=by
 intro x hx
 obtain ⟨z,_,rfl⟩:=List.mem_map.1 hx
 exact fun g=>ren_i
def secE:Enc Sec:=⟨Sec.enc,Sec.dec,64,by decide,Sec.enc_len,Sec.de,fun r a h=>Sec.ed h⟩
def zSec:Sec:=⟨List.replicate 64 0,by simp⟩
structure Wr where
 at_:Int
 sec:Sec
 deriving DecidableEq
def Wr.enc (w:Wr):List AV:=.i .i64 w.at_ :: w.sec.enc
def Wr.dec (r:List AV):Option Wr:=match r with
 | .i .i64 k :: cs=>match Sec.dec cs with
  | some s=>some ⟨k,s⟩
  | none=>none
 | _=>none
def wrE:Enc Wr:=⟨Wr.enc,Wr.dec,65,by decide,fun w=>by rw [Wr.enc,List.length_cons,w.sec.enc_len],fun w=>by simp only [Wr.dec,Wr.enc,Sec.de],fun r a h=>by
 unfold Wr.dec at h
 split at h
 ·split at h
  ·rename_i s hs
   cases h
   rw [Wr.enc,←Sec.ed hs]
  ·cases h
 ·cases h⟩
theorem Wr.one (w:Wr):w.enc.all AV.one=true:=by rw [Wr.enc,List.all_cons,w.sec.one];rfl
structure Dsk where
 st:List Sec
 pe:List Wr
 left:Int
 down:Bool
def Dsk.head (D:Dsk) (ist:Nat) (px:AV):List AV:=[.sl ist 0 0 D.st.length D.st.length true,px,.i .i64 D.left,.b D.down]
def DAt (S:Mem) (i ist:Nat) (px:AV) (D:Dsk):Prop :=
 S[i]? = some (.cells (D.head ist px) 0 none true)∧S[ist]? = some (.cells (D.st.flatMap secE.enc) 0 none true) ∧
 ((D.pe=[]∧px = .sn)∨(D.pe≠[]∧∃ ip v,px = .sl ip 0 v D.pe.length D.pe.length false∧S[ip]? = some (.cells (D.pe.flatMap wrE.enc) v (some 65) true)))
section
variable {S:Mem} {i ist:Nat} {px:AV} {D:Dsk}
theorem DAt.grow (h:DAt S i ist px D) (L:Mem):DAt (S++L) i ist px D:=by
 obtain ⟨h1,h2,h3⟩:=h
 refine ⟨at_old h1,at_old h2,?_⟩
 rcases h3 with h3 | ⟨h3,ip,v,h4,h5⟩
 ·exact .inl h3
 ·exact .inr ⟨h3,ip,v,h4,at_old h5⟩
theorem DAt.ne (h:DAt S i ist px D):i≠ist:=by
 rintro rfl
 have h1:=h.1
 rw [h.2.1] at h1
 injection h1 with h1;injection h1 with h1
 cases hs:D.st with
 | nil=>rw [hs] at h1;cases h1
 | cons s l =>
  rw [hs] at h1
  have hl:=s.enc_len
  rw [List.flatMap_cons] at h1
  have h2:=congrArg (fun l=>l.head?) h1
  simp only [Dsk.head,List.head?_cons] at h2
  cases hse:s.enc with
  | nil=>rw [hse] at hl;cases hl
  | cons x r =>
   have:secE.enc s=x :: r:=hse
   rw [this] at h2
   simp only [List.cons_append,List.head?_cons,Option.some.injEq] at h2
   have hx:x∈s.enc:=by rw [hse];exact List.mem_cons_self
   obtain ⟨z,_,hz⟩:=List.mem_map.1 hx
   rw [←hz] at h2
   cases h2
theorem DAt.pe_lst (h:DAt S i ist px D):lstV wrE S px=some D.pe:=by
 rcases h.2.2 with ⟨h1,rfl⟩ | ⟨_,ip,v,rfl,h5⟩
 ·rw [h1];rfl
 ·refine lst_lstV (.inr (.inr ⟨_,_,_,_,_,_,rfl,rfl,?_⟩))
  rw [rowAt_B,h5,rowB_some,if_pos (by rw [enc_length];omega),List.drop_zero,←enc_length,List.take_length]
theorem DAt.st_lst (h:DAt S i ist px D):lstV secE S (.sl ist 0 0 D.st.length D.st.length true)=some D.st:=by
 refine lst_lstV (.inr (.inr ⟨_,_,_,_,_,_,rfl,rfl,?_⟩))
 rw [rowAt_B,h.2.1,rowB_some,if_pos (by rw [enc_length];omega),List.drop_zero,←enc_length,List.take_length]
end
def lenS:Spec:=fun args S=>match args with
 | [.p i 0 0]=>match S[i]? with
  | some (.cells [.sl _ 0 0 n _ true,_,.i .i64 _,.b _] 0 none true)=>some (.i .i64 n,S)
  | _=>none
 | _=>none
theorem len_ok:SpecOK Tryz.prog 44 lenS:=by
 intro args S x S' h
 simp only [lenS] at h
 split at h
 ·split at h
  ·rename_i i o j n m px left down hB
   cases h
   refine fn_of_wp f44 rfl (W_sound none_ok mixed _ _ _ _ _ ?_)
   simp (maxSteps:=1000000) (disch:=omega) only [c44,hB,go_sem]
   exact wkv_same
  ·cases h
 ·cases h
def thereS:Spec:=fun args S=>match args with
 | [.p i 0 0,.i .i64 k]=>match S[i]? with
  | some (.cells [.sl _ 0 0 n _ true,_,.i .i64 _,.b _] 0 none true)=>some (.b (decide (0≤k∧k<n)),S)
  | _=>none
 | _=>none
theorem there_ok:SpecOK Tryz.prog 34 thereS:=by
 intro args S x S' h
 simp only [thereS] at h
 split at h
 ·rename_i k
  split at h
  ·rename_i i o j n m px left down hB
   cases h
   refine fn_of_wp f34 rfl (W_sound none_ok mixed _ _ _ _ _ ?_)
   by_cases h0:0≤k
   ·simp (maxSteps:=1000000) (disch:=omega) only [c34,hB,h0,go_sem]
    simpa [h0] using wkv_same
   ·simp (maxSteps:=1000000) (disch:=omega) only [c34,hB,h0,go_sem]
    simpa [h0] using wkv_same
  ·cases h
 ·cases h
def actF (left:Int) (down:Bool):Int × Int × Bool:=if down=true then (72,left,true) else if left = -1 then (0,left,false) else if 0<left then (0,left-1,false) else (72,left,true)
def actS:Spec:=fun args S=>match args with
 | [.p i 0 0]=>match S[i]? with
  | some (.cells [s,px,.i .i64 left,.b down] 0 none true)=>if left≤9223372036854775807 then some (.i .i64 (actF left down).1,S.set i (.cells [s,px,.i .i64 (actF left down).2.1,.b (actF left down).2.2] 0 none true)) else none
  | _=>none
 | _=>none
theorem set_id {S:Mem} {i:Nat} {B:Blk} (h:S[i]? = some B):S.set i B=S:=by
 apply List.ext_getElem?
 intro j
 by_cases hij:i=j
 ·subst hij;rw [at_set h,h]
 ·rw [at_set_ne hij]
theorem act_ok:SpecOK Tryz.prog 35 actS:=by
 intro args S x S' h
 simp only [actS] at h
 split at h
 ·split at h
  ·rename_i i s px left down hB
   split at h
   ·rename_i hlim
    cases h
    refine fn_of_wp f35 rfl (W_sound none_ok mixed _ _ _ _ _ ?_)
    obtain ⟨hA,hS,hA2,hA3,hSS⟩:=old_at hB
    unfold actF
    cases down with
    | true =>
     simp (maxSteps:=1000000) (disch:=omega) only [c35,hB,go_sem]
     exact wkv_same
    | false =>
     by_cases h1:left = -1
     ·subst h1
      simp (maxSteps:=1000000) (disch:=omega) only [c35,hB,go_sem]
      rw [set_id hB]
      exact wkv_same
     ·by_cases h2:0<left
      ·have hw:wrapV .i64 (left-1)=left-1:=wrap_i64 (by omega) (by omega)
       simp (maxSteps:=1000000) (disch:=omega) only [c35,hB,h1,h2,hw,go_sem]
       exact wkv_same
      ·simp (maxSteps:=1000000) (disch:=omega) only [c35,hB,h1,h2,go_sem]
       exact wkv_same
   ·cases h
  ·cases h
 ·cases h
def breakS:Spec:=fun args S=>match args with
 | [.p i 0 0,.i .i64 n]=>match S[i]? with
  | some (.cells [s,px,.i .i64 left,d] 0 none true)=>some (.tu [],S.set i (.cells [s,px,.i .i64 (max n (-1)),d] 0 none true))
  | _=>none
 | _=>none
theorem break_ok:SpecOK Tryz.prog 13 breakS:=by
 intro args S x S' h
 simp only [breakS] at h
 split at h
 ·split at h
  ·rename_i i s px left d hB
   cases h
   refine fn_of_wp f13 rfl (W_sound none_ok mixed _ _ _ _ _ ?_)
   simp (maxSteps:=1000000) (disch:=omega) only [c13,hB,go_sem]
   exact wkv_same
  ·cases h
 ·cases h
def stableF (st:List Sec) (k:Int):AV:=if 0≤k∧k<st.length then .tu [.ag ((st.getD k.toNat zSec).enc),.i .i64 0] else .tu [.ag zSec.enc,.i .i64 71]
def stableS:Spec:=fun args S=>match args with
 | [.p i 0 0,.i .i64 k]=>match S[i]? with
  | some (.cells [.sl ist 0 0 n m true,px,.i .i64 left,.b down] 0 none true)=>match lstV secE S (.sl ist 0 0 n m true) with
   | some st=>if st.length=n then some (stableF st k,S) else none
   | none=>none
  | _=>none
 | _=>none
theorem oDk_ok:OK Tryz.prog (lamOf Tryz.prog) (orcOf [(34,thereS),(35,actS)]):=orc_ok (by simpa using ⟨there_ok,act_ok⟩)
theorem zSec_enc:zSec.enc=[.i .u8 0,.i .u8 0,.i .u8 0,.i .u8 0,.i .u8 0,.i .u8 0,.i .u8 0,.i .u8 0,.i .u8 0,.i .u8 0,.i .u8 0,.i .u8 0,.i .u8 0,.i .u8 0,.i .u8 0,.i .u8 0,.i .u8 0,.i .u8 0,.i .u8 0,.i .u8 0,.i .u8 0,.i .u8 0,.i .u8 0,.i .u8 0,.i .u8 0,.i .u8 0,.i .u8 0,.i .u8 0,.i .u8 0,.i .u8 0,.i .u8 0,.i .u8 0,.i .u8 0,.i .u8 0,.i .u8 0,.i .u8 0,.i .u8 0,.i .u8 0,.i .u8 0,.i .u8 0,.i .u8 0,.i .u8 0,.i .u8 0,.i .u8 0,.i .u8 0,.i .u8 0,.i .u8 0,.i .u8 0,.i .u8 0,.i .u8 0,.i .u8 0,.i .u8 0,.i .u8 0,.i .u8 0,.i .u8 0,.i .u8 0,.i .u8 0,.i .u8 0,.i .u8 0,.i .u8 0,.i .u8 0,.i .u8 0,.i .u8 0,.i .u8 0]:=rfl
theorem flat_sec {n:Nat} (s:Sec) (z:Int):AV.flat n (.tu [.ag s.enc,.i .i64 z]):=by
 refine flat_tu fun x hx=>?_
 rcases List.mem_cons.1 hx with rfl | hx
 ·exact flat_ag fun c hc=>by
   obtain ⟨z,_,rfl⟩:=List.mem_map.1 hc
   exact flat_i
 ·rcases List.mem_cons.1 hx with rfl | hx
  ·exact flat_i
  ·cases hx
theorem stable_ok:SpecOK Tryz.prog 51 stableS:=by
 intro args S x S' h
 simp only [stableS] at h
 split at h
 ·rename_i i k
  split at h
  ·rename_i o ist n m px left down hB
   split at h
   ·rename_i st hst
    split at h
    ·rename_i hn
     subst hn
     cases h
     have hth:∀ L,thereS [.p i 0 0,.i .i64 k] (S++L)=some (.b (decide (0≤k∧k<st.length)),S++L):=fun L=>by
      have:=at_old (L:=L) hB
      simp only [thereS,this]
     refine fn_of_wp f51 rfl (W_sound oDk_ok mixed _ _ _ _ _ ?_)
     have hA:=(old_at hB).1
     have htk:=fun (s:Sec)=>s.take64
     unfold stableF
     by_cases hk:0≤k∧k<st.length
     ·rw [decide_eq_true hk] at hth
      rw [if_pos hk]
      obtain ⟨k,rfl⟩:=Int.eq_ofNat_of_zero_le hk.1
      have hkl:k<st.length:=by omega
      have hro:=fun L=>lstV_row hst hkl L
      rw [Int.toNat_natCast,List.getD_eq_getElem?_getD,List.getElem?_eq_getElem hkl,Option.getD_some]
      have hro:∀ L,rowB ((S++L)[ist]?) (0+k * 64) 0 64=some (st[k]).enc:=hro
      simp only [Nat.zero_add] at hro
      have hkI:(k:Int)<st.length:=by omega
      have hl64:=(st[k]).enc_len
      have hone:=(st[k]).one
      generalize st[k]=s at hro hl64 hone ⊢
      simp (maxSteps:=1000000) (disch:=omega) only [c51,orc_cons,hth,hA,hro,hkI,Int.toNat_natCast,hl64,hone,htk,go_sem]
      exact wkv_drop (flat_sec s 0)
     ·rw [decide_eq_false hk] at hth
      rw [if_neg hk,zSec_enc]
      simp (maxSteps:=1000000) (disch:=omega) only [c51,orc_cons,hth,go_sem]
      exact wkv_drop (flat_sec zSec 71)
    ·cases h
   ·cases h
  ·cases h
 ·cases h
def lastW (k:Int) (pe:List Wr) (s:Sec):Sec:=pe.foldl (fun c w=>if w.at_=k then w.sec else c) s
def readAt (st:List Sec) (pe:List Wr) (k:Int):Sec × Int:=if 0≤k∧k<st.length then (lastW k pe (st.getD k.toNat zSec),0) else (zSec,71)
def secT (p:Sec × Int):AV:=.tu [.ag p.1.enc,.i .i64 p.2]
def dReadS:Spec:=fun args S=>match args with
 | [.p i 0 0,.i .i64 k]=>match S[i]? with
  | some (.cells [.sl ist 0 0 n m true,px,.i .i64 left,.b down] 0 none true)=>match lstV secE S (.sl ist 0 0 n m true),lstV wrE S px with
   | some st,some pe=>if st.length=n∧pe.length≤900000 then some (secT (readAt st pe k),S) else none
   | _,_=>none
  | _=>none
 | _=>none
theorem oDRd_ok:OK Tryz.prog (lamOf Tryz.prog) (orcOf [(51,stableS)]):=orc_ok (by simpa using stable_ok)
theorem dRead_ok:SpecOK Tryz.prog 23 dReadS:=by
 intro args S x S' h
 simp only [dReadS] at h
 split at h
 ·rename_i i k
  split at h
  ·rename_i o ist n m px left down hB
   split at h
   ·rename_i st pe hst hpe
    split at h
    ·rename_i hn
     obtain ⟨rfl,hlim⟩:=hn
     cases h
     obtain ⟨s0,e0,hs0,hr0⟩:∃ (s0:Sec) (e0:Int),stableF st k=secT (s0,e0)∧readAt st pe k=(if e0=0 then lastW k pe s0 else s0,e0):=by
      unfold stableF readAt
      by_cases hk:0≤k∧k<st.length
      ·rw [if_pos hk,if_pos hk];exact ⟨_,0,rfl,rfl⟩
      ·rw [if_neg hk,if_neg hk];exact ⟨_,71,rfl,rfl⟩
     have hsb:∀ L,stableS [.p i 0 0,.i .i64 k] (S++L)=some (secT (s0,e0),S++L):=fun L=>by
      have h1:=at_old (L:=L) hB
      have h2:=lstV_grow hst L
      simp only [stableS,h1,h2,if_true,hs0]
     have hl0:=s0.enc_len
     have hone0:=s0.one
     have htk0:=s0.take64
     have hA:=(old_at hB).1
     have hlp:=lst_len hpe
     simp only [secT] at hsb
     rw [hr0]
     refine fn_of_wp f23 rfl (W_sound oDRd_ok mixed _ _ _ _ _ ?_)
     simp (maxSteps:=1000000) (disch:=omega) only [c23,orc_cons,hsb,hl0,hone0,htk0,hA,hlp,go_sem]
     refine wp_loop (fun j e M dl=>dl=[]∧∃ (t:Nat) (s:Sec),j=pe.length-t∧t≤pe.length∧S <+: M∧M[S.length]? = some (.cells zSec.enc 0 none true)∧M[S.length+1]? = some (.cells s.enc 0 none true)∧(if e0=0 then lastW k (pe.take t) s0 else s0)=s ∧
      e.get 6 = .p (S.length+1) 0 0∧e.get 1 = .i .i64 k∧e.get 7 = .i .i64 e0∧e.get 19=px∧e.get 4 = .p S.length 0 0∧e.get 20 = .i .i64 pe.length∧e.get 21 = .i .i64 t) (j:=pe.length)
      ⟨rfl,0,s0,rfl,Nat.zero_le _,ext_app _,by rw [at_app0];rfl,by rw [at_app];rfl,by simp [lastW],rfl,rfl,rfl,rfl,rfl,rfl,rfl⟩ ?_
     rintro j e M d' ⟨rfl,t,s,rfl,ht,hSM,hM0,hM1,hs,e6,e1,e7,e19,e4,e20,e21⟩
     refine W_sound oDRd_ok mixed _ _ _ _ _ ?_
     obtain ⟨hA0,hB0,hC0,hD0,hE0⟩:=old_at hM0
     obtain ⟨hA1,hB1,hC1,hD1,hE1⟩:=old_at hM1
     have hls:=s.enc_len
     have hones:=s.one
     have htks:=s.take64
     have hdrs:=s.drop64
     by_cases htl:t<pe.length
     ·obtain ⟨bi,o,v,cap,ex,rfl⟩:=lst_sl hpe htl
      have hro:=lstV_row (lst_ext hpe hSM) htl []
      rw [List.append_nil] at hro
      have htI:(t:Int)<pe.length:=by omega
      have ht6:t<1000000:=by omega
      have hnext:lastW k (pe.take (t+1)) s0=if pe[t].at_=k then pe[t].sec else lastW k (pe.take t) s0:=by
       unfold lastW;rw [List.take_succ_eq_append_getElem htl,List.foldl_append];rfl
      have hro:rowB (M[bi]?) (o+t * 65) v 65=some (pe[t]).enc:=hro
      generalize pe[t]=w at hro hnext
      obtain ⟨wa,ws⟩:=w
      simp only [Wr.enc] at hro
      have hlw:=ws.enc_len
      have honew:=ws.one
      have htkw:=ws.take64
      by_cases he:e0=0
      ·subst he
       rw [if_pos rfl] at hs
       by_cases hwk:wa=k
       ·rw [if_pos hwk] at hnext
        simp (maxSteps:=1000000) (disch:=omega) only [c23l0,e6,e1,e7,e19,e4,e20,e21,htI,Int.toNat_natCast,hro,wrapS ht6,hlw,honew,htkw,hwk,hA1,hB1,hls,hdrs,List.append_nil,go_sem]
        exact ⟨pe.length-(t+1),by omega,t+1,ws,rfl,htl,ext_more (ext_set hSM (by omega) _) _,by rw [at_old (by rw [at_set_ne (by omega)];exact hM0)],by rw [at_old (at_set hM1)],hnext,rfl⟩
       ·rw [if_neg hwk] at hnext
        simp (maxSteps:=1000000) (disch:=omega) only [c23l0,e6,e1,e7,e19,e4,e20,e21,htI,Int.toNat_natCast,hro,wrapS ht6,hlw,honew,htkw,hwk,hA1,hB1,hls,go_sem]
        exact ⟨pe.length-(t+1),by omega,t+1,s,rfl,htl,ext_more hSM _,by rw [hA0],rfl,hnext.trans hs,rfl⟩
      ·rw [if_neg he] at hs
       simp (maxSteps:=1000000) (disch:=omega) only [c23l0,e6,e1,e7,e19,e4,e20,e21,htI,Int.toNat_natCast,hro,wrapS ht6,hlw,honew,htkw,he,hA1,hB1,hls,go_sem]
       exact ⟨pe.length-(t+1),by omega,t+1,s,rfl,htl,ext_more hSM _,by rw [hA0],rfl,hs,rfl⟩
     ·have htI:¬ (t:Int)<pe.length:=by omega
      rw [List.take_of_length_le (by omega)] at hs
      simp (maxSteps:=1000000) (disch:=omega) only [c23l0,e6,e1,e7,e19,e4,e20,e21,htI,hM1,hA1,hM0,hA0,hC0,hls,hones,htks,zSec.enc_len,zSec.drop64,List.append_nil,go_sem]
      subst hs
      exact wkv_dropP (ext_set hSM (Nat.le_refl _) _) (flat_sec _ e0)
    ·cases h
   ·cases h
  ·cases h
 ·cases h
def boolE:Enc Bool where
 enc b:=[.b b]
 dec r:=match r with
  | [.b b]=>some b
  | _=>none
 sz:=1
 pos:=Nat.one_pos
 len _:=rfl
 de _:=rfl
 ed r a h:=by
  split at h
  ·injection h with h;subst h;rfl
  ·cases h
def syncKS:Spec:=fun args S=>match args with
 | [.i .i64 n]=>some (.b true,S)
 | _=>none
theorem syncK_ok:SpecOK Tryz.prog 60 syncKS:=by
 intro args S x S' h
 simp only [syncKS] at h
 split at h
 ·cases h
  refine fn_of_wp f60 rfl (W_sound none_ok mixed _ _ _ _ _ ?_)
  simp (maxSteps:=1000000) (disch:=omega) only [c60,go_sem]
  exact wkv_same
 ·cases h
def crashKS:Spec:=fun args S=>match args with
 | [.i .i64 n,.p j 0 0]=>match S[j]? with
  | some (.cells [x] 0 none true)=>match lstV boolE S x with
   | some l=>if 0≤n then some (.b (l.getD n.toNat false),S) else none
   | none=>none
  | _=>none
 | _=>none
theorem crashK_ok:SpecOK Tryz.prog 38 crashKS:=by
 intro args S x S' h
 simp only [crashKS] at h
 split at h
 ·rename_i n j
  split at h
  ·rename_i o y hB
   split at h
   ·rename_i l hl
    split at h
    ·rename_i hn
     cases h
     obtain ⟨k,rfl⟩:=Int.eq_ofNat_of_zero_le hn
     rw [Int.toNat_natCast]
     refine fn_of_wp f38 rfl (W_sound none_ok mixed _ _ _ _ _ ?_)
     by_cases hk:k<l.length
     ·obtain ⟨bi,o,v,cap,ex,rfl⟩:=lst_sl hl hk
      have hc:=lstV_cell hl rfl (fun a=>rfl) hk []
      rw [List.append_nil] at hc
      have hkI:(k:Int)<l.length:=by omega
      rw [List.getD_eq_getElem?_getD,List.getElem?_eq_getElem hk,Option.getD_some]
      simp (maxSteps:=1000000) (disch:=omega) only [c38,hB,hkI,Int.toNat_natCast,Nat.mul_one,hc,go_sem]
      exact wkv_same
     ·have hkI:¬ (k:Int)<l.length:=by omega
      rw [List.getD_eq_getElem?_getD,List.getElem?_eq_none (by omega),Option.getD_none]
      simp (maxSteps:=1000000) (disch:=omega) only [c38,hB,hkI,lst_len hl,go_sem]
      exact wkv_same
    ·cases h
   ·cases h
  ·cases h
 ·cases h
def offB (x:AV) (n:Nat):Bool:=match x with
 | .sl i ..=>decide (i≠n)
 | _=>true
def keptF (f:AV) (S:Mem) (ist:Nat):Option (Nat→Bool):=match f with
 | .f (.func g) [] []=>if g=60 then some (fun _=>true) else none
 | .f (.func g) [] [.p j 0 0]=>if g=38∧j≠ist then match S[j]? with
  | some (.cells [x] 0 none true)=>match lstV boolE S x with
   | some l=>if offB x ist=true then some (fun k=>l.getD k false) else none
   | none=>none
  | _=>none else none
 | _=>none
def kO:Orc:=orcOf [(60,syncKS),(38,crashKS)]
theorem kO_ok:OK Tryz.prog (lamOf Tryz.prog) kO:=orc_ok (by simpa using ⟨syncK_ok,crashK_ok⟩)
theorem lst_off {α:Type} {E:Enc α} {S M:Mem} {x:AV} {l:List α} {ist:Nat} (h:lstV E S x=some l) (hM:∀ j B,S[j]? = some B→j≠ist→M[j]? = some B) (ho:offB x ist=true):lstV E M x=some l:=by
 rcases lstV_lst h with ⟨rfl,rfl⟩ | ⟨rfl,rfl⟩ | ⟨i,o,v,len,cap,ex,rfl,h1,h3⟩
 ·rfl
 ·rfl
 ·refine lst_lstV (.inr (.inr ⟨i,o,v,len,cap,ex,rfl,h1,?_⟩))
  rw [rowAt_B] at h3 ⊢
  have hi:i≠ist:=by simpa [offB] using ho
  cases hb:S[i]? with
  | none=>rw [hb] at h3;simp [rowB] at h3
  | some B=>rw [hM i B hb hi,←hb];exact h3
theorem kept_call {f:AV} {S:Mem} {ist:Nat} {p:Nat→Bool} (h:keptF f S ist=some p):∃ g b,f = .f (.func g) [] b∧∀ M,(∀ j B,S[j]? = some B→j≠ist→M[j]? = some B)→∀ k:Nat,kO.fn g (.i .i64 (k:Int) :: b) M=some (.b (p k),M):=by
 unfold keptF at h
 split at h
 ·split at h
  ·rename_i hg;subst hg;injection h with h;subst h;exact ⟨_,[],rfl,fun M _ k=>rfl⟩
  ·cases h
 ·rename_i g j
  split at h
  ·rename_i hg
   obtain ⟨rfl,hj⟩:=hg
   split at h
   ·rename_i x hB
    split at h
    ·rename_i l hl
     split at h
     ·rename_i hoff
      injection h with h;subst h
      refine ⟨_,_,rfl,fun M hM k=>?_⟩
      have he:kO.fn 38=crashKS:=by funext a S;rfl
      rw [he]
      have h1:=hM j _ hB hj
      have h2:=lst_off hl hM hoff
      simp only [crashKS,h1,h2]
      rw [if_pos (by omega),Int.toNat_natCast]
     ·cases h
    ·cases h
   ·cases h
  ·cases h
 ·cases h
def settleL (p:Nat→Bool):Nat→List Wr→List Sec→List Sec
 | _,[],st=>st
 | k,w :: pe,st=>settleL p (k+1) pe (if p k=true then st.set w.at_.toNat w.sec else st)
theorem settle_len {p:Nat→Bool}:∀ (pe:List Wr) (k:Nat) (st:List Sec),(settleL p k pe st).length=st.length:=by
 intro pe
 induction pe with
 | nil=>intro k st;rfl
 | cons w pe ih=>intro k st;rw [settleL,ih];split <;> simp
theorem flat_setE {α:Type} {E:Enc α} {l:List α} {k:Nat} (hk:k<l.length) (p:α):(l.flatMap E.enc).take (k * E.sz)++(E.enc p++(l.flatMap E.enc).drop (k * E.sz+E.sz))=(l.set k p).flatMap E.enc:=by
 have h1:(l.flatMap E.enc).take (k * E.sz)=(l.take k).flatMap E.enc:=flat_take l k
 have h2:(l.flatMap E.enc).drop ((k+1) * E.sz)=(l.drop (k+1)).flatMap E.enc:=flat_drop l (k+1)
 rw [show k * E.sz+E.sz=(k+1) * E.sz by rw [Nat.add_mul,Nat.one_mul],h1,h2,List.set_eq_take_append_cons_drop,if_pos hk,List.flatMap_append,List.flatMap_cons]
def wfP (n:Nat) (pe:List Wr):Prop:=∀ w∈pe,0≤w.at_∧w.at_<n
def stBlk (st:List Sec):Blk:=.cells (st.flatMap secE.enc) 0 none true
noncomputable def keepS:Spec:=fun args S=>match args with
 | [.p i 0 0,f]=>match S[i]? with
  | some (.cells [.sl ist 0 0 n m true,px,.i .i64 l,.b d] 0 none true)=>match lstV secE S (.sl ist 0 0 n m true),lstV wrE S px,keptF f S ist with
   | some st,some pe,some p=>open Classical in if m=n∧st.length=n∧S[ist]? = some (stBlk st)∧pe.length≤900000∧wfP n pe∧i≠ist∧offB px ist=true  then
    some (.tu [],(S.set ist (stBlk (settleL p 0 pe st))).set i (.cells [.sl ist 0 0 n n true,.sn,.i .i64 l,.b d] 0 none true)) else none
   | _,_,_=>none
  | _=>none
 | _=>none
theorem keep_ok:SpecOK Tryz.prog 37 keepS:=by
 intro args S x S' h
 simp only [keepS] at h
 split at h
 ·rename_i i f
  split at h
  ·rename_i o ist n m px ll dd hB
   split at h
   ·rename_i st pe p hst hpe hp
    split at h
    ·rename_i hcond
     obtain ⟨rfl,hsl,hBs,hlim,hwf,hii,hoff⟩:=hcond
     cases h
     subst hsl
     obtain ⟨g,b,rfl,hg⟩:=kept_call hp
     refine fn_of_wp f37 rfl (W_sound kO_ok mixed _ _ _ _ _ ?_)
     simp (maxSteps:=1000000) (disch:=omega) only [c37,hB,lst_len hpe,go_sem]
     refine wp_loop (fun j e M dl=>dl=[]∧∃ (t:Nat) (s2:List Sec) (L:Mem),j=pe.length-t∧t≤pe.length∧M=S.set ist (stBlk s2)++L∧s2.length=st.length∧settleL p t (pe.drop t) s2=settleL p 0 pe st ∧
      e.get 0 = .p i 0 0∧e.get 1 = .f (.func g) [] b∧e.get 9=px∧e.get 10 = .i .i64 pe.length∧e.get 11 = .i .i64 t) (j:=pe.length)
      ⟨rfl,0,st,[],rfl,Nat.zero_le _,by rw [List.append_nil,set_id hBs],rfl,by rw [List.drop_zero],rfl,rfl,rfl,rfl,rfl⟩ ?_
     rintro j e M d' ⟨rfl,t,s2,L,rfl,ht,rfl,hs2,hse,e0,e1,e9,e10,e11⟩
     refine W_sound kO_ok mixed _ _ _ _ _ ?_
     have hkeepM:∀ (L:Mem) j B,S[j]? = some B→j≠ist→(S.set ist (stBlk s2)++L)[j]? = some B:=fun L j B hj hji=>at_old (by rw [at_set_ne (Ne.symm hji)];exact hj)
     have hcall:=fun (L:Mem)=>hg (S.set ist (stBlk s2)++L) (hkeepM L)
     have hBi:=fun L=>hkeepM L i _ hB hii
     have hIs:∀ L,(S.set ist (stBlk s2)++L)[ist]? = some (stBlk s2):=fun L=>at_old (at_set hBs)
     have hIset:∀ (L:Mem) B',(S.set ist (stBlk s2)++L).set ist B'=S.set ist B'++L:=fun L B'=>by rw [set_old (at_set hBs),List.set_set]
     by_cases htl:t<pe.length
     ·obtain ⟨bi,o,v,cap,ex,rfl⟩:=lst_sl hpe htl
      have hro:=fun L=>lstV_row (lst_off hpe (hkeepM L) hoff) htl []
      simp only [List.append_nil] at hro
      have htI:(t:Int)<pe.length:=by omega
      have ht6:t<1000000:=by omega
      have hdr:pe.drop t=pe[t] :: pe.drop (t+1):=List.drop_eq_getElem_cons htl
      rw [hdr] at hse
      have hwt:=hwf pe[t] (List.getElem_mem htl)
      have hro:∀ L,rowB ((S.set ist (stBlk s2)++L)[bi]?) (o+t * 65) v 65=some (pe[t]).enc:=hro
      generalize pe[t]=w at hro hse hwt
      obtain ⟨wa,ws⟩:=w
      obtain ⟨hw0,hw1⟩:=hwt
      obtain ⟨k,rfl⟩:=Int.eq_ofNat_of_zero_le hw0
      have hkI:(k:Int)<st.length:=hw1
      have hk:k<st.length:=by omega
      simp only [Wr.enc] at hro
      have hlw:=ws.enc_len
      have honew:=ws.one
      have htkw:=ws.take64
      simp only [settleL,Int.toNat_natCast] at hse
      cases hpt:p t with
      | true =>
       rw [hpt,if_pos rfl] at hse
       have hstB:∀ L',stB (S.set ist (stBlk s2)++L') ist ((S.set ist (stBlk s2)++L')[ist]?) (k * 64) 0 64 (some ws.enc)=some (S.set ist (stBlk (s2.set k ws))++L'):=fun L'=>by
        rw [hIs]
        have h13:(s2.flatMap secE.enc).length=s2.length * 64:=enc_length s2
        simp only [stB,stBlk]
        rw [if_pos ⟨trivial,hlw,by omega,honew⟩]
        have hfs:=flat_setE (E:=secE) (show k<s2.length by omega) ws
        have hsp:splice (s2.flatMap secE.enc) (k * 64) ws.enc=(s2.set k ws).flatMap secE.enc:=by
         rw [←hfs]
         unfold splice
         rw [hlw];rfl
        rw [hsp]
        congr 1
        exact hIset L' _
       simp (maxSteps:=1000000) (disch:=omega) only [c37l1,e0,e1,e9,e10,e11,htI,Int.toNat_natCast,hro,wrapS ht6,hlw,honew,htkw,hcall,hpt,hBi,hkI,hstB,go_sem]
       exact ⟨pe.length-(t+1),by omega,t+1,s2.set k ws,_,rfl,htl,rfl,by rw [List.length_set];exact hs2,hse,rfl⟩
      | false =>
       rw [hpt,if_neg (by simp)] at hse
       simp (maxSteps:=1000000) (disch:=omega) only [c37l1,e0,e1,e9,e10,e11,htI,Int.toNat_natCast,hro,wrapS ht6,hlw,honew,htkw,hcall,hpt,go_sem]
       exact ⟨pe.length-(t+1),by omega,t+1,s2,_,rfl,htl,rfl,hs2,hse,rfl⟩
     ·have htI:¬ (t:Int)<pe.length:=by omega
      rw [List.drop_of_length_le (by omega)] at hse
      simp (maxSteps:=1000000) (disch:=omega) only [c37l1,e0,e1,e9,e10,e11,htI,hBi,go_sem]
      rw [set_old (at_set_ne (Ne.symm hii) ▸ hB)]
      have hse:s2=settleL p 0 pe st:=hse
      rw [←hse]
      refine wkv_drop' (by simp) (fun j B hj=>?_) (fun g=>by rw [ren_tu,renL_nil])
      have hist:=(List.getElem?_eq_some_iff.1 hBs).1
      by_cases hji:i=j
      ·subst hji
       rw [at_set (by rw [at_set_ne (Ne.symm hii)];exact hB)] at hj
       injection hj with hj;subst hj
       refine .inr (bflat_cells fun x hx=>?_)
       rcases List.mem_cons.1 hx with rfl | hx
       ·exact fun g=>by rw [ren,if_pos hist]
       ·simp only [List.mem_cons,List.not_mem_nil,or_false] at hx
        rcases hx with rfl | rfl | rfl
        ·exact fun g=>ren_sn
        ·exact fun g=>ren_i
        ·exact fun g=>ren_b
      ·rw [at_set_ne hji] at hj
       by_cases hjs:ist=j
       ·subst hjs
        rw [at_set hBs] at hj
        injection hj with hj;subst hj
        refine .inr (bflat_cells fun x hx=>?_)
        obtain ⟨s,_,hs⟩:=List.mem_flatMap.1 hx
        exact s.flat _ x hs
       ·rw [at_set_ne hjs] at hj;exact .inl hj
    ·cases h
   ·cases h
  ·cases h
 ·cases h
def dWriteS:Spec:=fun args S=>match args with
 | [.p i 0 0,.i .i64 k,.ag cs]=>match S[i]?,Sec.dec cs with
  | some (.cells [.sl ist 0 0 n m true,px,.i .i64 left,.b down] 0 none true),some s =>
   if left≤9223372036854775807 then
    (if 0≤k∧k<n then
     (let S1:=S.set i (.cells [.sl ist 0 0 n m true,px,.i .i64 (actF left down).2.1,.b (actF left down).2.2] 0 none true)
     if (actF left down).1=0 then match appV (S1++[.cells s.enc 0 none true,.cells (.i .i64 k :: s.enc) 0 none true]) 65 72 px (.i .i64 k :: s.enc) 1 with
      | some (px',S2)=>match S2[i]? with
       | some (.cells [.sl ist 0 0 n m true,_,.i .i64 left,.b down] 0 none true)=>if px'.one=true then some (.i .i64 0,S2.set i (.cells [.sl ist 0 0 n m true,px',.i .i64 left,.b down] 0 none true)) else none
       | _=>none
      | none=>none
     else some (.i .i64 (actF left down).1,S1++[.cells s.enc 0 none true]))
    else some (.i .i64 71,S)) else none
  | _,_=>none
 | _=>none
theorem dwrite_ok:SpecOK Tryz.prog 11 dWriteS:=by
 intro args S x S' h
 simp only [dWriteS] at h
 split at h
 ·rename_i i k cs
  split at h
  ·rename_i ist n m px left down s hB hs
   obtain rfl:=Sec.ed hs
   have hA:=(old_at hB).1
   have hAs:=(old_at hB).2.1
   have hl:=s.enc_len
   have hone:=s.one
   have htk:=s.take64
   have hth:∀ L,thereS [.p i 0 0,.i .i64 k] (S++L)=some (.b (decide (0≤k∧k<n)),S++L):=fun L=>by
    simp only [thereS,hA]
   split at h
   ·rename_i hlim
    refine fn_of_wp f11 rfl (W_sound oDk_ok mixed _ _ _ _ _ ?_)
    split at h
    ·rename_i hk
     rw [decide_eq_true hk] at hth
     have hac:∀ L,actS [.p i 0 0] (S++L)=some (.i .i64 (actF left down).1,S.set i (.cells [.sl ist 0 0 n m true,px,.i .i64 (actF left down).2.1,.b (actF left down).2.2] 0 none true)++L):=fun L=>by
      simp only [actS,hA]
      rw [if_pos hlim,hAs]
     have hB1:=at_set (B':=.cells [.sl ist 0 0 n m true,px,.i .i64 (actF left down).2.1,.b (actF left down).2.2] 0 none true) hB
     generalize hS1:S.set i (.cells [.sl ist 0 0 n m true,px,.i .i64 (actF left down).2.1,.b (actF left down).2.2] 0 none true)=S1 at h hac hB1
     have hA1:=(old_at hB1).1
     have hlen:S1.length=S.length:=by rw [←hS1];simp
     split at h
     ·rename_i he
      rw [he] at hac
      split at h
      ·rename_i px' S2 hap
       split at h
       ·rename_i j2 n2 m2 y2 l2 d2 hB2
        split at h
        ·rename_i hpx
         cases h
         have hcp:AV.cells px'=some [px']:=by cases px' <;> first | rfl | cases hpx
         have hbx:∀ L,(S1++(Blk.cells s.enc 0 none true :: L))[S.length]? = some (.cells s.enc 0 none true):=fun L=>by rw [←hlen,at_app0];rfl
         simp (maxSteps:=1000000) (disch:=omega) only [c11,orc_cons,hth,hac,hl,hone,htk,hA1,hbx,hap,hB2,hcp,hpx,List.append_nil,go_sem]
         exact wkv_same
        ·cases h
       ·cases h
      ·cases h
     ·rename_i he
      cases h
      simp (maxSteps:=1000000) (disch:=omega) only [c11,orc_cons,hth,hac,hl,hone,htk,he,hA1,List.append_nil,go_sem]
      exact wkv_same
    ·rename_i hk
     rw [decide_eq_false hk] at hth
     cases h
     simp (maxSteps:=1000000) (disch:=omega) only [c11,orc_cons,hth,List.append_nil,go_sem]
     exact wkv_drop rfl
   ·cases h
  ·cases h
 ·cases h
noncomputable def dSyncS:Spec:=fun args S=>match args with
 | [.p i 0 0]=>match actS [.p i 0 0] S with
  | some (.i .i64 e,S1)=>if e=0 then (match keepS [.p i 0 0,.f (.func 60) [] []] S1 with
    | some (.tu [],S2)=>some (.i .i64 0,S2)
    | _=>none) else some (.i .i64 e,S1)
  | _=>none
 | _=>none
theorem oSy_ok:OK Tryz.prog (lamOf Tryz.prog) (orcOf [(35,actS),(37,keepS)]):=orc_ok (by simpa using ⟨act_ok,keep_ok⟩)
theorem dsync_ok:SpecOK Tryz.prog 30 dSyncS:=by
 intro args S x S' h
 simp only [dSyncS] at h
 split at h
 ·rename_i i
  split at h
  ·rename_i e S1 hac
   refine fn_of_wp f30 rfl (W_sound oSy_ok mixed _ _ _ _ _ ?_)
   split at h
   ·rename_i he
    subst he
    split at h
    ·rename_i S2 hke
     cases h
     simp (maxSteps:=1000000) (disch:=omega) only [c30,orc_cons,hac,hke,go_sem]
     exact wkv_same
    ·cases h
   ·rename_i he
    cases h
    simp (maxSteps:=1000000) (disch:=omega) only [c30,orc_cons,hac,he,go_sem]
    exact wkv_same
  ·cases h
 ·cases h
noncomputable def dCrashS:Spec:=fun args S=>match args with
 | [.p i 0 0,x]=>if x.one=true then (match keepS [.p i 0 0,.f (.func 38) [] [.p S.length 0 0]] (S++[.cells [x] 0 none true]) with
  | some (.tu [],S2)=>match S2[i]? with
   | some (.cells [s,px,.i .i64 _,.b _] 0 none true)=>some (.tu [],S2.set i (.cells [s,px,.i .i64 (-1),.b false] 0 none true))
   | _=>none
  | _=>none) else none
 | _=>none
theorem dcrash_ok:SpecOK Tryz.prog 15 dCrashS:=by
 intro args S x S' h
 simp only [dCrashS] at h
 split at h
 ·rename_i i y
  split at h
  ·rename_i hone
   have hcp:AV.cells y=some [y]:=by cases y <;> first | rfl | cases hone
   split at h
   ·rename_i S2 hke
    split at h
    ·rename_i s px l d hB
     cases h
     refine fn_of_wp f15 rfl (W_sound oSy_ok mixed _ _ _ _ _ ?_)
     obtain ⟨hA,hAs,hA2,hA3,hSS⟩:=old_at hB
     simp (maxSteps:=1000000) (disch:=omega) only [c15,orc_cons,hcp,hke,hB,hA2,hSS.2,go_sem]
     exact wkv_same
    ·cases h
   ·cases h
  ·cases h
 ·cases h
def secsN (n:Int):Nat:=(max 0 (min n 512)).toNat
def newHead (S:Mem) (N:Nat):List AV:=[.sl S.length 0 0 N N true,.sn,.i .i64 (-1),.b false]
def newS:Spec:=fun args S=>match args with
 | [.i .i64 n]=>some (.p (S.length+1) 0 0,S++[stBlk (List.replicate (secsN n) zSec),.cells (newHead S (secsN n)) 0 none true])
 | _=>none
theorem zSec_rep:zSec.enc=List.replicate 64 (.i .u8 0):=rfl
theorem zeros_flat (N:Nat):zerosV zSec.enc N=(List.replicate N zSec).flatMap secE.enc:=by
 have h1:zerosV zSec.enc N=List.replicate (N * 64) (.i .u8 0):=by
  rw [List.eq_replicate_iff]
  unfold zerosV
  refine ⟨by rw [List.length_map,List.length_range];rfl,fun x hx=>?_⟩
  obtain ⟨k,_,rfl⟩:=List.mem_map.1 hx
  have hk:k % zSec.enc.length<64:=Nat.mod_lt _ (by decide)
  rw [zSec_rep] at hk ⊢
  rw [List.getD_eq_getElem?_getD,List.getElem?_replicate,if_pos hk];rfl
 have h2:(List.replicate N zSec).flatMap secE.enc=List.replicate (N * 64) (.i .u8 0):=by
  rw [List.eq_replicate_iff]
  refine ⟨by have:=enc_length (E:=secE) (List.replicate N zSec);rw [List.length_replicate] at this;exact this,fun x hx=>?_⟩
  obtain ⟨s,hs,hx⟩:=List.mem_flatMap.1 hx
  rw [(List.mem_replicate.1 hs).2] at hx
  have hx:x∈zSec.enc:=hx
  rw [zSec_rep] at hx
  exact (List.mem_replicate.1 hx).2
 rw [h1,h2]
theorem new_ok:SpecOK Tryz.prog 6 newS:=by
 intro args S x S' h
 simp only [newS] at h
 split at h
 ·rename_i n
  cases h
  obtain ⟨N,hN⟩:∃ N:Nat,max 0 (min n 512)=(N:Int):=⟨(max 0 (min n 512)).toNat,by omega⟩
  have hsn:secsN n=N:=by unfold secsN;omega
  have hN5:N≤512:=by omega
  rw [hsn]
  have hz:=zeros_flat N
  rw [zSec_enc] at hz
  have hb1:64 * N≤140737488355328:=by omega
  have hb2:N≤140737488355328:=by omega
  refine fn_of_wp f6 rfl (W_sound none_ok mixed _ _ _ _ _ ?_)
  simp (maxSteps:=1000000) (disch:=omega) only [c6,hN,natV_nat,hz,hb1,hb2,Nat.le_refl,go_sem]
  exact wkv_same
 ·cases h
def Dsk.act (D:Dsk):Int × Dsk:=((actF D.left D.down).1,{ D with left:=(actF D.left D.down).2.1,down:=(actF D.left D.down).2.2 })
def Dsk.write (D:Dsk) (k:Int) (s:Sec):Int × Dsk:=if 0≤k∧k<D.st.length then (if D.act.1=0 then (0,{ D.act.2 with pe:=D.pe++[⟨k,s⟩] }) else D.act) else (71,D)
def Dsk.keep (D:Dsk) (p:Nat→Bool):Dsk:={ D with st:=settleL p 0 D.pe D.st,pe:=[] }
def Dsk.sync (D:Dsk):Int × Dsk:=if D.act.1=0 then (0,D.act.2.keep fun _=>true) else D.act
def Dsk.crash (D:Dsk) (l:List Bool):Dsk:={ D.keep (fun k=>l.getD k false) with left:=-1,down:=false }
def Dsk.brk (D:Dsk) (n:Int):Dsk:={ D with left:=max n (-1) }
def Dsk.new (n:Int):Dsk:=⟨List.replicate (secsN n) zSec,[],-1,false⟩
structure Dsk.ok (D:Dsk):Prop where
 wf:wfP D.st.length D.pe
 few:D.pe.length≤800000
 lim:D.left≤9223372036854775807
 big:D.st.length≤512
def Ownd (i ist:Nat) (px:AV) (j:Nat):Prop:=j=i∨j=ist∨offB px j=false
structure DOp (S S':Mem) (i ist:Nat) (px px':AV):Prop where
 len:S.length≤S'.length
 keep:∀ (j:Nat) (B:Blk),S[j]? = some B→¬ Ownd i ist px j→S'[j]? = some B
 own:∀ j,j<S.length→Ownd i ist px' j→Ownd i ist px j
theorem DOp.refl {S:Mem} {i ist:Nat} {px:AV}:DOp S S i ist px px:=⟨Nat.le_refl _,fun _ _ h _=>h,fun _ _ h=>h⟩
theorem DOp.trans {S S1 S2:Mem} {i ist:Nat} {px px1 px2:AV} (h1:DOp S S1 i ist px px1) (h2:DOp S1 S2 i ist px1 px2):DOp S S2 i ist px px2:=by
 refine ⟨Nat.le_trans h1.len h2.len,fun j B hB hn=>?_,fun j hj ho=>h1.own j hj (h2.own j (Nat.lt_of_lt_of_le hj h1.len) ho)⟩
 have hj:=(List.getElem?_eq_some_iff.1 hB).1
 exact h2.keep j B (h1.keep j B hB hn) fun ho=>hn (h1.own j hj ho)
theorem DOp.pre {S0 S S':Mem} {i ist:Nat} {px px':AV} (h:DOp S S' i ist px px') (hS:S0 <+: S) (ho:∀ j,Ownd i ist px j→S0.length≤j):S0 <+: S':=by
 refine List.prefix_iff_getElem?.2 fun k hk=>?_
 have h1:=List.prefix_iff_getElem?.1 hS k hk
 exact h.keep k _ h1 fun q=>by have:=ho k q;omega
theorem DOp.grow {S:Mem} {i ist:Nat} {px:AV} (L:Mem):DOp S (S++L) i ist px px:=⟨by simp,fun _ _ h _=>at_old h,fun _ _ h=>h⟩
section
variable {S:Mem} {i ist:Nat} {px:AV} {D:Dsk}
theorem DAt.off (h:DAt S i ist px D):offB px i=true∧offB px ist=true:=by
 rcases h.2.2 with ⟨_,rfl⟩ | ⟨_,ip,v,rfl,h5⟩
 ·exact ⟨rfl,rfl⟩
 ·constructor
  ·simp only [offB,decide_eq_true_eq]
   rintro rfl
   rw [h.1] at h5
   have:=congrArg (Option.map Blk.opn) h5
   simp [Blk.opn] at this
  ·simp only [offB,decide_eq_true_eq]
   rintro rfl
   rw [h.2.1] at h5
   have:=congrArg (Option.map Blk.opn) h5
   simp [Blk.opn] at this
theorem DAt.turn (h:DAt S i ist px D) (left:Int) (down:Bool):DAt (S.set i (.cells [.sl ist 0 0 D.st.length D.st.length true,px,.i .i64 left,.b down] 0 none true)) i ist px { D with left:=left,down:=down }∧DOp S (S.set i (.cells [.sl ist 0 0 D.st.length D.st.length true,px,.i .i64 left,.b down] 0 none true)) i ist px px:=by
 obtain ⟨h1,h2,h3⟩:=h
 have hne:=DAt.ne ⟨h1,h2,h3⟩
 have hof:=DAt.off ⟨h1,h2,h3⟩
 refine ⟨⟨at_set h1,by rw [at_set_ne hne];exact h2,?_⟩,by simp,fun j B hB hn=>?_,fun _ _ q=>q⟩
 ·rcases h3 with h3 | ⟨h3,ip,v,rfl,h5⟩
  ·exact .inl h3
  ·refine .inr ⟨h3,ip,v,rfl,?_⟩
   rw [at_set_ne (fun q=>by subst q;simp [offB] at hof)];exact h5
 ·rw [at_set_ne (fun q=>hn (.inl q.symm))];exact hB
theorem len_eq (h:DAt S i ist px D):lenS [.p i 0 0] S=some (.i .i64 D.st.length,S):=by
 simp only [lenS,h.1,Dsk.head]
theorem dread_eq (h:DAt S i ist px D) (hok:D.ok) (k:Int):dReadS [.p i 0 0,.i .i64 k] S=some (secT (readAt D.st D.pe k),S):=by
 have h2:=h.st_lst
 have h3:=h.pe_lst
 simp only [dReadS,h.1,Dsk.head,h2,h3]
 rw [if_pos ⟨trivial,by have:=hok.few;omega⟩]
theorem break_eq (h:DAt S i ist px D) (n:Int):∃ S',breakS [.p i 0 0,.i .i64 n] S=some (.tu [],S')∧DAt S' i ist px (D.brk n)∧DOp S S' i ist px px:=by
 refine ⟨_,?_,h.turn (max n (-1)) D.down⟩
 simp only [breakS,h.1,Dsk.head]
theorem keep_eq (h:DAt S i ist px D) (hok:D.ok) {f:AV} {p:Nat→Bool} (hp:keptF f S ist=some p):∃ S',keepS [.p i 0 0,f] S=some (.tu [],S')∧DAt S' i ist .sn (D.keep p)∧DOp S S' i ist px .sn:=by
 have h2:=h.st_lst
 have h3:=h.pe_lst
 have hne:=h.ne
 have hof:=h.off
 refine ⟨(S.set ist (stBlk (settleL p 0 D.pe D.st))).set i (.cells [.sl ist 0 0 D.st.length D.st.length true,.sn,.i .i64 D.left,.b D.down] 0 none true),?_,⟨?_,?_,.inl ⟨rfl,rfl⟩⟩,by simp,fun j B hB hn=>?_,fun j _ q=>?_⟩
 ·simp only [keepS,h.1,Dsk.head,h2,h3,hp]
  rw [if_pos ⟨rfl,rfl,h.2.1,by have:=hok.few;omega,hok.wf,hne,hof.2⟩]
 ·rw [at_set (by rw [at_set_ne (Ne.symm hne)];exact h.1)]
  simp only [Dsk.head,Dsk.keep,settle_len]
 ·rw [at_set_ne hne,at_set h.2.1];rfl
 ·rw [at_set_ne (fun q=>hn (.inl q.symm)),at_set_ne (fun q=>hn (.inr (.inl q.symm)))];exact hB
 ·rcases q with q | q | q
  ·exact .inl q
  ·exact .inr (.inl q)
  ·cases q
theorem act_eq (h:DAt S i ist px D) (hok:D.ok):∃ S',actS [.p i 0 0] S=some (.i .i64 D.act.1,S')∧S'=S.set i (.cells [.sl ist 0 0 D.st.length D.st.length true,px,.i .i64 (actF D.left D.down).2.1,.b (actF D.left D.down).2.2] 0 none true)∧DAt S' i ist px D.act.2∧DOp S S' i ist px px:=by
 refine ⟨_,?_,rfl,h.turn _ _⟩
 simp only [actS,h.1,Dsk.head]
 rw [if_pos hok.lim];rfl
theorem act_okD (hok:D.ok):D.act.2.ok:=⟨hok.wf,hok.few,by
 have:=hok.lim
 show (actF D.left D.down).2.1≤_
 unfold actF
 split
 ·exact this
 ·split
  ·exact this
  ·split
   ·show D.left-1≤_;omega
   ·exact this,hok.big⟩
theorem keep_okD (hok:D.ok) (p:Nat→Bool):(D.keep p).ok:=⟨fun w hw=>(by cases hw),by show (0:Nat)≤800000;omega,hok.lim,by show (settleL p 0 D.pe D.st).length≤512;rw [settle_len];exact hok.big⟩
theorem sync_eq (h:DAt S i ist px D) (hok:D.ok):∃ S' px',dSyncS [.p i 0 0] S=some (.i .i64 D.sync.1,S')∧DAt S' i ist px' D.sync.2∧DOp S S' i ist px px'∧D.sync.2.ok:=by
 obtain ⟨S1,h1,_,h2,h3⟩:=act_eq h hok
 have hok1:=act_okD hok
 unfold Dsk.sync
 by_cases he:D.act.1=0
 ·rw [if_pos he]
  have hp:keptF (.f (.func 60) [] []) S1 ist=some (fun _=>true):=rfl
  obtain ⟨S2,h4,h5,h6⟩:=keep_eq h2 hok1 hp
  refine ⟨S2,.sn,?_,h5,h3.trans h6,keep_okD hok1 _⟩
  simp only [dSyncS,h1]
  rw [if_pos he]
  simp only [h4]
 ·rw [if_neg he]
  refine ⟨S1,px,?_,h2,h3,hok1⟩
  simp only [dSyncS,h1]
  rw [if_neg he]
theorem crash_eq (h:DAt S i ist px D) (hok:D.ok) {x:AV} {l:List Bool} (hl:lstV boolE S x=some l) (hoff:offB x ist=true) (h1:x.one=true):∃ S',dCrashS [.p i 0 0,x] S=some (.tu [],S')∧DAt S' i ist .sn (D.crash l)∧DOp S S' i ist px .sn∧(D.crash l).ok:=by
 have hist:=(List.getElem?_eq_some_iff.1 h.2.1).1
 have hp:keptF (.f (.func 38) [] [.p S.length 0 0]) (S++[.cells [x] 0 none true]) ist=some (fun k=>l.getD k false):=by
  have hb:(S++[Blk.cells [x] 0 none true])[S.length]? = some (.cells [x] 0 none true):=by simp
  have hl':=lstV_grow hl [Blk.cells [x] 0 none true]
  simp only [keptF,hb,hl',hoff]
  rw [if_pos ⟨trivial,by omega⟩];rfl
 obtain ⟨S2,h4,h5,h6⟩:=keep_eq (h.grow [.cells [x] 0 none true]) hok hp
 obtain ⟨h7,h8⟩:=h5.turn (-1) false
 refine ⟨_,?_,h7,((DOp.grow _).trans h6).trans h8,?_⟩
 ·simp only [dCrashS,h1,if_true,h4,h5.1,Dsk.head]
 ·have:=keep_okD hok (fun k=>l.getD k false)
  exact ⟨this.wf,this.few,by show (-1:Int)≤_;omega,this.big⟩
theorem write_eq (h:DAt S i ist px D) (hok:D.ok) (hfew:D.pe.length<800000) (k:Int) (s:Sec):∃ S' px',dWriteS [.p i 0 0,.i .i64 k,.ag s.enc] S=some (.i .i64 (D.write k s).1,S')∧DAt S' i ist px' (D.write k s).2∧DOp S S' i ist px px'∧(D.write k s).2.ok:=by
 have hs:=s.de
 unfold Dsk.write
 by_cases hk:0≤k∧k<D.st.length
 ·rw [if_pos hk]
  obtain ⟨S1,h1,hS1,h2,h3⟩:=act_eq h hok
  have hok1:=act_okD hok
  have hof:=h2.off
  by_cases he:D.act.1=0
  ·rw [if_pos he]
   have hB1:S1[i]? = some (.cells [.sl ist 0 0 D.st.length D.st.length true,px,.i .i64 D.act.2.left,.b D.act.2.down] 0 none true):=h2.1
   have hwf2:wfP D.st.length (D.pe++[(Wr.mk k s)]):=by
    intro w hw
    rcases List.mem_append.1 hw with hw | hw
    ·exact hok.wf w hw
    ·rw [List.mem_singleton.1 hw];exact hk
   have hok2:({ D.act.2 with pe:=D.pe++[(Wr.mk k s)] }:Dsk).ok:=⟨hwf2,by rw [List.length_append];show D.pe.length+1≤_;omega,hok1.lim,hok1.big⟩
   have hiS:i<S1.length:=(List.getElem?_eq_some_iff.1 hB1).1
   suffices hap:∃ px' S2,appV (S1++[.cells s.enc 0 none true,.cells (.i .i64 k :: s.enc) 0 none true]) 65 72 px (.i .i64 k :: s.enc) 1=some (px',S2)∧px'.one=true∧S1.length≤S2.length∧(∃ ip v,px' = .sl ip 0 v (D.pe++[(Wr.mk k s)]).length (D.pe++[(Wr.mk k s)]).length false∧S2[ip]? = some (.cells ((D.pe++[(Wr.mk k s)]).flatMap wrE.enc) v (some 65) true)) ∧
     (∀ j B,S1[j]? = some B→offB px j=true→S2[j]? = some B)∧(∀ j,j<S1.length→offB px' j=false→offB px j=false) by
    obtain ⟨px',S2,g1,g2,g3,⟨ip,v,g4,g5⟩,g6,g7⟩:=hap
    have hB2:=g6 i _ hB1 hof.1
    have hI2:=g6 ist _ h2.2.1 hof.2
    have hne:=h2.ne
    have hipi:i≠ip:=by
     rintro rfl
     rw [hB2] at g5
     have:=congrArg (Option.map Blk.opn) g5
     simp [Blk.opn] at this
    refine ⟨S2.set i (.cells [.sl ist 0 0 D.st.length D.st.length true,px',.i .i64 D.act.2.left,.b D.act.2.down] 0 none true),px',?_,⟨at_set hB2,by rw [at_set_ne hne];exact hI2,.inr ⟨by simp,ip,v,g4,by rw [at_set_ne hipi];exact g5⟩⟩,h3.trans ⟨by simpa using g3,fun j B hB hn=>?_,fun j hj q=>?_⟩,hok2⟩
    ·have he':(actF D.left D.down).1=0:=he
     simp only [dWriteS,h.1,Dsk.head,hs]
     rw [if_pos hok.lim,if_pos hk,if_pos he',←hS1]
     simp only [g1,hB2,g2,if_true]
    ·rw [at_set_ne (fun q=>hn (.inl q.symm))]
     exact g6 j B hB (by
      cases hb:offB px j with
      | true=>rfl
      | false=>exact absurd (.inr (.inr hb)) hn)
    ·rcases q with q | q | q
     ·exact .inl q
     ·exact .inr (.inl q)
     ·exact .inr (.inr (g7 j hj q))
   rcases h2.2.2 with ⟨hp0,rfl⟩ | ⟨hp0,ip,v,rfl,hip⟩
   ·have hp0:D.pe=[]:=hp0
    refine ⟨.sl (S1.length+2) 0 0 1 1 false,S1++[Blk.cells s.enc 0 none true,Blk.cells (AV.i .i64 k :: s.enc) 0 none true]++[Blk.cells (AV.i .i64 k :: s.enc) 0 (some 65) true],?_,rfl,by simp,⟨S1.length+2,0,by rw [hp0];rfl,?_⟩,fun j B hB _=>by rw [List.append_assoc];exact at_old hB,fun j hj q=>?_⟩
    ·simp only [appV]
     rw [if_neg (by omega),if_pos ⟨by decide,by decide⟩]
     simp
    ·rw [List.append_assoc,at_app,hp0]
     show some (Blk.cells (.i .i64 k :: s.enc) 0 (some 65) true)=some (.cells ([((Wr.mk k s):Wr)].flatMap wrE.enc) 0 (some 65) true)
     rw [List.flatMap_cons,List.flatMap_nil,List.append_nil];rfl
    ·simp [offB] at q;omega
   ·have hpl:D.act.2.pe.length=D.pe.length:=rfl
    have hipS:ip<S1.length:=(List.getElem?_eq_some_iff.1 hip).1
    have hone:(AV.i .i64 k :: s.enc).all AV.one=true:=Wr.one (Wr.mk k s)
    have hfl:(D.pe++[(Wr.mk k s)]).flatMap wrE.enc=D.pe.flatMap wrE.enc++(AV.i .i64 k :: s.enc):=by rw [List.flatMap_append,List.flatMap_cons,List.flatMap_nil,List.append_nil];rfl
    refine ⟨.sl ip 0 (v+1) (D.pe.length+1) (D.pe.length+1) false,List.set (S1++[Blk.cells s.enc 0 none true,Blk.cells (AV.i .i64 k :: s.enc) 0 none true]) ip (Blk.cells (D.pe.flatMap wrE.enc++(AV.i .i64 k :: s.enc)) (v+1) (some 65) true),?_,rfl,by simp,⟨ip,v+1,by rw [List.length_append];rfl,by rw [hfl,at_set (at_old hip)]⟩,fun j B hB hj=>?_,fun j hj q=>?_⟩
    ·have hip':(S1++[Blk.cells s.enc 0 none true,.cells (.i .i64 k :: s.enc) 0 none true])[ip]? = some (.cells (D.act.2.pe.flatMap wrE.enc) v (some 65) true):=at_old hip
     have hpe:D.act.2.pe=D.pe:=rfl
     have hfe:=enc_length (E:=wrE) D.pe
     have hw65:wrE.sz=65:=rfl
     simp only [appV,hip']
     rw [if_neg (by omega),hpe,if_neg (by omega),if_pos ⟨by show _≤140737488355328;omega,by show _≤140737488355328;omega⟩,if_neg (by simp),if_pos ⟨trivial,trivial,trivial,by rw [hfe,hw65];omega,hone⟩]
     rw [List.take_of_length_le (by rw [hfe,hw65];omega)]
    ·have hij:ip≠j:=by
      rintro rfl
      simp [offB] at hj
     rw [at_set_ne hij];exact at_old hB
    ·simpa [offB] using q
  ·rw [if_neg he]
   refine ⟨S1++[.cells s.enc 0 none true],px,?_,h2.grow _,h3.trans (DOp.grow _),hok1⟩
   have he':¬ (actF D.left D.down).1=0:=he
   simp only [dWriteS,h.1,Dsk.head,hs]
   rw [if_pos hok.lim,if_pos hk,if_neg he',←hS1];rfl
 ·rw [if_neg hk]
  refine ⟨S,px,?_,h,DOp.refl,hok⟩
  simp only [dWriteS,h.1,Dsk.head,hs]
  rw [if_pos hok.lim,if_neg hk]
theorem new_eq (n:Int):DAt (S++[stBlk (List.replicate (secsN n) zSec),.cells (newHead S (secsN n)) 0 none true]) (S.length+1) S.length .sn (Dsk.new n)∧(Dsk.new n).ok:=by
 refine ⟨⟨?_,?_,.inl ⟨rfl,rfl⟩⟩,⟨fun w hw=>(by cases hw),by show (0:Nat)≤800000;omega,by show (-1:Int)≤_;omega,?_⟩⟩
 ·rw [at_app]
  simp only [Dsk.head,Dsk.new,newHead,List.length_replicate];rfl
 ·rw [at_app0];rfl
 ·show (List.replicate (secsN n) zSec).length≤512
  rw [List.length_replicate];unfold secsN;omega
end
def xr (a b:Int):Int:=wrapV .u32 ((Nat.xor (BitVec.ofInt 32 a).toNat (BitVec.ofInt 32 b).toNat:Nat):Int)
theorem bin_xr {cst:Bool} {a b:Int}:binV .int cst .xor (.i .u32 a) (.i .u32 b)=some (.i .u32 (xr a b)):=by
 rw [bin_i rfl];rfl
def nt (a:Int):Int:=match unV .xor (.i .u32 a) with
 | some (.i _ n)=>n
 | _=>0
theorem un_nt {a:Int}:unV .xor (.i .u32 a)=some (.i .u32 (nt a)):=rfl
def crcT (s:Int):Int:=xr (wrapV .u32 (s * 2)) (wrapV .u32 (79764919 * (s / 2147483648)))
def crcN:Nat→Int→Int
 | 0,s=>s
 | n+1,s=>crcT (crcN n s)
def crcStep (s c:Int):Int:=crcN 8 (xr s (wrapV .u32 (wrapV .u32 c * 16777216)))
theorem shr_31 {n:Int}:shiftV .shr .u32 n 31=some (.i .u32 (n / 2147483648)):=by
 simp only [shiftV,IntKind.bits]
 rw [if_neg (by omega),Int.fdiv_eq_ediv_of_nonneg _ (Int.natCast_nonneg _)];rfl
theorem shl_1 {n:Int}:shiftV .shl .u32 n 1=some (.i .u32 (wrapV .u32 (n * 2))):=rfl
theorem shl_24 {n:Int}:shiftV .shl .u32 n 24=some (.i .u32 (wrapV .u32 (n * 16777216))):=rfl
theorem shr_24c {n:Int}:shiftV .shr .u32 n 24=some (.i .u32 (n / 16777216)):=by
 simp only [shiftV,IntKind.bits]
 rw [if_neg (by omega),Int.fdiv_eq_ediv_of_nonneg _ (Int.natCast_nonneg _)];rfl
theorem shr_16c {n:Int}:shiftV .shr .u32 n 16=some (.i .u32 (n / 65536)):=by
 simp only [shiftV,IntKind.bits]
 rw [if_neg (by omega),Int.fdiv_eq_ediv_of_nonneg _ (Int.natCast_nonneg _)];rfl
theorem shr_8c {n:Int}:shiftV .shr .u32 n 8=some (.i .u32 (n / 256)):=by
 simp only [shiftV,IntKind.bits]
 rw [if_neg (by omega),Int.fdiv_eq_ediv_of_nonneg _ (Int.natCast_nonneg _)];rfl
def crcStepS:Spec:=fun args S=>match args with
 | [.i .u32 s,.i .u8 c]=>some (.i .u32 (crcStep s c),S)
 | _=>none
theorem crcStep_ok:SpecOK Tryz.prog 119 crcStepS:=by
 intro args S x S' h
 simp only [crcStepS] at h
 split at h
 ·rename_i s c
  cases h
  refine fn_of_wp f119 rfl (W_sound none_ok mixed _ _ _ _ _ ?_)
  obtain ⟨s0,hs0⟩:∃ s0,s0=xr s (wrapV .u32 (wrapV .u32 c * 16777216)):=⟨_,rfl⟩
  have hcs:crcStep s c=crcN 8 s0:=by rw [hs0];rfl
  rw [hcs]
  simp (maxSteps:=1000000) (disch:=omega) only [c119,go_sem]
  refine wp_scope (fun j e M dl=>dl=[]∧M=S∧∃ n:Nat,j=8-n∧1≤n∧n≤7∧e.get 5 = .i .i64 n∧e.get 0 = .i .u32 (crcN n s0)) ?_ ?_ ?_
  ·refine W_sound none_ok mixed _ _ _ _ _ ?_
   simp (maxSteps:=1000000) (disch:=omega) only [bin_xr,shr_31,shl_1,shl_24,jumpK_normal,jumpK_ret,jumpK_exit,jumpK_goto,go_sem]
   exact ⟨7,1,rfl,Nat.le_refl _,by omega,rfl,by rw [hs0];rfl⟩
  ·rintro j e M d ⟨rfl,rfl,n,rfl,hn1,hn7,e5,e0⟩
   refine W_sound none_ok mixed _ _ _ _ _ ?_
   have hw:wrapV .i64 ((n:Int)+1)=((n+1:Nat):Int):=wrapS (by omega)
   by_cases h7:n=7
   ·subst h7
    simp (maxSteps:=1000000) (disch:=omega) only [c119k0,e5,e0,bin_xr,shr_31,shl_1,shl_24,jumpK_normal,jumpK_ret,jumpK_exit,jumpK_goto,hw,go_sem]
    exact wkv_same
   ·have hlt:((n+1:Nat):Int)<8:=by omega
    simp (maxSteps:=1000000) (disch:=omega) only [c119k0,e5,e0,bin_xr,shr_31,shl_1,shl_24,jumpK_normal,jumpK_ret,jumpK_exit,jumpK_goto,hw,hlt,go_sem]
    exact ⟨8-(n+1),by omega,n+1,rfl,by omega,by omega,rfl,rfl⟩
  ·intro g e S d h
   simp [retK,isEnd] at h
 ·cases h
def morF (sum:Int) (l:List Int):Int:=nt (l.foldl crcStep (nt sum))
def morS:Spec:=fun args S=>match args with
 | [.i .u32 s,x]=>match lstV byteE S x with
  | some l=>if l.length≤900000 then some (.i .u32 (morF s l),S) else none
  | none=>none
 | _=>none
theorem oMo_ok:OK Tryz.prog (lamOf Tryz.prog) (orcOf [(119,crcStepS)]):=orc_ok (by simpa using crcStep_ok)
theorem mor_ok:SpecOK Tryz.prog 102 morS:=by
 intro args S x S' h
 simp only [morS] at h
 split at h
 ·rename_i s x
  split at h
  ·rename_i l hl
   split at h
   ·rename_i hlim
    cases h
    refine fn_of_wp f102 rfl (W_sound oMo_ok mixed _ _ _ _ _ ?_)
    simp (maxSteps:=1000000) (disch:=omega) only [c102,un_nt,lst_len hl,go_sem]
    refine wp_loop (fun j e M dl=>dl=[]∧∃ k:Nat,j=l.length-k∧k≤l.length∧M=S∧e.get 10=x∧e.get 11 = .i .i64 l.length∧e.get 12 = .i .i64 k∧e.get 5 = .i .u32 ((l.take k).foldl crcStep (nt s))) (j:=l.length)
     ⟨rfl,0,rfl,Nat.zero_le _,rfl,rfl,rfl,rfl,rfl⟩ ?_
    rintro j e M d' ⟨rfl,k,rfl,hk,rfl,e10,e11,e12,e5⟩
    refine W_sound oMo_ok mixed _ _ _ _ _ ?_
    by_cases hkl:k<l.length
    ·obtain ⟨bi,o,v,cap,ex,rfl⟩:=lst_sl hl hkl
     have hc:=lstV_cell hl rfl (fun a=>rfl) hkl []
     rw [List.append_nil] at hc
     have hkI:(k:Int)<l.length:=by omega
     have hk6:k<1000000:=by omega
     have hs:(l.take (k+1)).foldl crcStep (nt s)=crcStep ((l.take k).foldl crcStep (nt s)) l[k]:=by rw [List.take_succ_eq_append_getElem hkl,List.foldl_append];rfl
     simp (maxSteps:=1000000) (disch:=omega) only [c102l0,e10,e11,e12,e5,hkI,Int.toNat_natCast,Nat.mul_one,hc,orc_cons,crcStepS,wrapS hk6,go_sem]
     exact ⟨l.length-(k+1),by omega,k+1,rfl,hkl,rfl,by rw [hs]⟩
    ·have hkI:¬ (k:Int)<l.length:=by omega
     rw [List.take_of_length_le (by omega)] at e5
     simp (maxSteps:=1000000) (disch:=omega) only [c102l0,e10,e11,e12,e5,hkI,un_nt,go_sem]
     exact wkv_same
   ·cases h
  ·cases h
 ·cases h
def sumS:Spec:=fun args S=>match args with
 | [.sl j 0 0 1 1 true]=>match S[j]? with
  | some (.cells [x] 0 none true)=>match lstV byteE S x with
   | some l=>if l.length≤900000 then some (.i .u32 (morF 0 l),S) else none
   | none=>none
  | _=>none
 | _=>none
theorem oSum_ok:OK Tryz.prog (lamOf Tryz.prog) (orcOf [(102,morS)]):=orc_ok (by simpa using mor_ok)
theorem sum_ok:SpecOK Tryz.prog 82 sumS:=by
 intro args S x S' h
 simp only [sumS] at h
 split at h
 ·rename_i j
  split at h
  ·rename_i o y hB
   split at h
   ·rename_i l hl
    split at h
    ·rename_i hlim
     cases h
     have hm:∀ s,morS [.i .u32 s,y] S=some (.i .u32 (morF s l),S):=fun s=>by
      simp only [morS,hl];rw [if_pos hlim]
     refine fn_of_wp f82 rfl (W_sound oSum_ok mixed _ _ _ _ _ ?_)
     simp (maxSteps:=1000000) (disch:=omega) only [c82,go_sem]
     refine wp_unroll oSum_ok mixed 2 ?_
     simp (maxSteps:=1000000) (disch:=omega) only [c82l0,orc_cons,hB,hm,go_sem]
     exact wkv_same
    ·cases h
   ·cases h
  ·cases h
 ·cases h
def tailF (s:Int):List Int:=[wrapV .u8 (s / 16777216),wrapV .u8 (s / 65536),wrapV .u8 (s / 256),wrapV .u8 s]
def tailS:Spec:=fun args S=>match args with
 | [.i .u32 s]=>some (.sl S.length 0 0 4 4 true,S++[.cells ((tailF s).map byV) 0 none true])
 | _=>none
theorem tail_ok:SpecOK Tryz.prog 81 tailS:=by
 intro args S x S' h
 simp only [tailS] at h
 split at h
 ·rename_i s
  cases h
  refine fn_of_wp f81 rfl (W_sound none_ok mixed _ _ _ _ _ ?_)
  simp (maxSteps:=1000000) (disch:=omega) only [c81,List.replicate,shr_24c,shr_16c,shr_8c,go_sem]
  exact wkv_same
 ·cases h
def appzQ (S:Mem) (z:List AV) (bytes:Nat) (x n:AV):Option (AV × Mem):=match natV n with
 | some n=>if n≤lim∧n * bytes≤lim then appV S z.length bytes x (zerosV z n) n else none
 | none=>none
theorem oi_appz {e:Env} {S:Mem} {k:AV→Mem→Prop} {z:List AV} {b:Nat} {x n:X}:optK (evIO e S (.appz z b x n)) k=optK (appzQ S z b (x.ev e) (n.ev e)) k:=(rfl)
theorem enc_by (l:List Int):l.flatMap byteE.enc=l.map byV:=b8_enc l
theorem by_one (l:List Int):(l.map byV).all AV.one=true:=by rw [←enc_by];exact all_one byteE_one l
def growS:Spec:=fun args S=>match args with
 | [.sn,.i .i64 n]=>if 0≤n∧n≤4000000 then (if n=0 then some (.sn,S) else some (.sl S.length 0 0 0 n.toNat false,S++[.cells (List.replicate n.toNat (.i .u8 0)) 0 (some 1) true])) else none
 | _=>none
theorem grow_ok:SpecOK Tryz.prog 79 growS:=by
 intro args S x S' h
 simp only [growS] at h
 split at h
 ·rename_i n
  split at h
  ·rename_i hn
   obtain ⟨h0,hlim⟩:=hn
   obtain ⟨k,rfl⟩:=Int.eq_ofNat_of_zero_le h0
   rw [Int.toNat_natCast] at h
   have hc:capQ .sn=some (.i .i64 0):=rfl
   have hneg:¬ ((k:Int)<0):=by omega
   refine fn_of_wp f79 rfl (W_sound none_ok mixed _ _ _ _ _ ?_)
   split at h
   ·rename_i hk0
    cases h
    have hk:k=0:=by omega
    subst hk
    have hw:wrapV .i64 (0-wrapV .i64 (0-0))=0:=by decide
    simp (maxSteps:=1000000) (disch:=omega) only [c79,hc,hw,go_sem]
    first | exact wkv_same | (rw [hw];exact wkv_same) | skip
   ·rename_i hk0
    cases h
    have hw0:wrapV .i64 (0:Int)=0:=by decide
    have hw1:wrapV .i64 ((k:Int)-0)=k:=by rw [wrap_i64 (by omega) (by omega)];omega
    have hpos:(0:Int)<k:=by omega
    have s1:sliceV S 1 .sn none (some (.i .i64 0)) none=some .sn:=rfl
    have hz:appzQ S [.i .u8 0] 1 .sn (.i .i64 k)=some (.sl S.length 0 0 k k false,S++[.cells (List.replicate k (.i .u8 0)) 0 (some 1) true]):=by
     simp only [appzQ,natV_nat]
     rw [if_pos ⟨by show _≤140737488355328;omega,by show _≤140737488355328;omega⟩]
     simp only [appV]
     rw [if_neg (by omega),if_pos ⟨by show _≤140737488355328;omega,by show _≤140737488355328;omega⟩,zerosV_one];rfl
    have s2:sliceV (S++[.cells (List.replicate k (.i .u8 0)) 0 (some 1) true]) 1 (.sl S.length 0 0 k k false) none (some (.i .i64 0)) none=some (.sl S.length 0 0 0 k false):=by
     have:=slice_hi (S:=S++[.cells (List.replicate k (.i .u8 0)) 0 (some 1) true]) (size:=1) (i:=S.length) (o:=0) (v:=0) (len:=k) (cap:=k) (ex:=false) (q:=.i64) (n:=0) (Nat.zero_le _) (by simp [openS,Blk.opn];omega)
     exact this
    simp (maxSteps:=1000000) (disch:=omega) only [c79,hc,hneg,Int.sub_zero,hw0,hw1,hpos,s1,oi_appz,hz,s2,go_sem]
    exact wkv_same
  ·cases h
 ·cases h
def partsV (S:Mem):List AV→Option (List (List Int))
 | []=>some []
 | x :: r=>match lstV byteE S x,partsV S r with
  | some l,some ls=>some (l :: ls)
  | _,_=>none
theorem partsV_get {S:Mem}:∀ {xs:List AV} {ls:List (List Int)},partsV S xs=some ls→ls.length=xs.length∧∀ k (h:k<xs.length) (h2:k<ls.length),lstV byteE S xs[k]=some ls[k]
 | [],ls,h=>by cases h;exact ⟨rfl,fun k h=>absurd h (Nat.not_lt_zero _)⟩
 | x :: r,ls,h=>by
  simp only [partsV] at h
  split at h
  ·rename_i l m h1 h2
   cases h
   obtain ⟨g1,g2⟩:=partsV_get h2
   refine ⟨by rw [List.length_cons,List.length_cons,g1],fun k hk hk2=>?_⟩
   cases k with
   | zero=>exact h1
   | succ k=>exact g2 k (by simpa using hk) (by simpa using hk2)
  ·cases h
def Cat (S M:Mem) (N:Nat) (y:AV) (l:List Int):Prop:=(N=0∧l=[]∧y = .sn∧M=S)∨(0<N∧l.length≤N∧y = .sl S.length 0 0 l.length N false∧∃ rest:List AV,rest.length=N-l.length∧M=S++[.cells (l.map byV++rest) 0 (some 1) true])
theorem Cat.ext {S M:Mem} {N:Nat} {y:AV} {l:List Int} (h:Cat S M N y l):S <+: M:=by
 rcases h with ⟨_,_,_,rfl⟩ | ⟨_,_,_,_,_,rfl⟩
 ·exact ext_refl
 ·exact ext_app _
theorem Cat.app {S M:Mem} {N:Nat} {y:AV} {l m:List Int} (h:Cat S M N y l) (hN:l.length+m.length≤N):∃ y' M',appV M 1 1 y (m.flatMap byteE.enc) m.length=some (y',M')∧Cat S M' N y' (l++m):=by
 rcases h with ⟨rfl,rfl,rfl,rfl⟩ | ⟨h0,h1,rfl,rest,h2,rfl⟩
 ·have hm:m=[]:=List.eq_nil_of_length_eq_zero (by simpa using hN)
  subst hm
  exact ⟨.sn,M,by simp [appV],.inl ⟨rfl,rfl,rfl,rfl⟩⟩
 ·by_cases hm:m=[]
  ·subst hm
   refine ⟨.sl S.length 0 0 l.length N false,S++[.cells (l.map byV++rest) 0 (some 1) true],by simp only [appV];rw [if_pos List.length_nil],.inr ⟨h0,by simpa using h1,by simp,rest,by simpa using h2,by simp⟩⟩
  ·have hmp:0<m.length:=List.length_pos_iff.2 hm
   have hB:(S++[Blk.cells (l.map byV++rest) 0 (some 1) true])[S.length]? = some (.cells (l.map byV++rest) 0 (some 1) true):=by simp
   refine ⟨.sl S.length 0 0 (l.length+m.length) N false,S++[.cells ((l++m).map byV++rest.drop m.length) 0 (some 1) true],?_,.inr ⟨h0,by rw [List.length_append];exact hN,by rw [List.length_append],rest.drop m.length,by rw [List.length_drop,List.length_append];omega,rfl⟩⟩
   simp only [appV,hB]
   rw [if_neg (by omega),if_pos hN,if_pos ⟨trivial,by rw [List.length_append,List.length_map];omega,by rw [enc_by];exact by_one m⟩,set_app0]
   have hsp:splice (l.map byV++rest) (0+l.length * 1) (m.flatMap byteE.enc)=(l++m).map byV++rest.drop m.length:=by
    unfold splice
    have hll:(l.map byV).length=l.length:=List.length_map ..
    rw [enc_by,Nat.zero_add,Nat.mul_one,List.take_append_of_le_length (by omega),List.take_of_length_le (by omega),List.length_map,List.drop_append,List.drop_of_length_le (by omega),List.nil_append,hll,Nat.add_sub_cancel_left,List.map_append,List.append_assoc]
   rw [hsp];rfl
theorem Cat.ret {S M:Mem} {N:Nat} {y:AV} {l:List Int} (h:Cat S M N y l) (hl:l.length=N):WkV S (retX false S l) (retM false byteE S l) y M:=by
 rcases h with ⟨rfl,rfl,rfl,rfl⟩ | ⟨h0,h1,rfl,rest,h2,rfl⟩
 ·exact wkv_same
 ·have hr:rest=[]:=List.eq_nil_of_length_eq_zero (by omega)
  subst hr
  cases l with
  | nil=>simp at hl;omega
  | cons a l =>
   have e2:retM false byteE S (a :: l)=S++[.cells ((a :: l).map byV++[]) 0 (some 1) true]:=by
    show S++[Blk.cells ((a :: l).flatMap byteE.enc) 0 (some 1) true]=_
    rw [enc_by,List.append_nil]
   rw [e2,←hl]
   exact wkv_same
def catS:Spec:=fun args S=>match args with
 | [.sl j 0 0 n m true]=>match S[j]? with
  | some (.cells xs 0 none true)=>match partsV S xs with
   | some ls=>if xs.length=n∧n≤900000∧ls.flatten.length≤900000 then some (retX false S ls.flatten,retM false byteE S ls.flatten) else none
   | none=>none
  | _=>none
 | _=>none
theorem oCat_ok:OK Tryz.prog (lamOf Tryz.prog) (orcOf [(79,growS)]):=orc_ok (by simpa using grow_ok)
theorem flat_take_len {ls:List (List Int)} {k:Nat} (hk:k<ls.length):(ls.take (k+1)).flatten=(ls.take k).flatten++ls[k]:=by
 rw [List.take_succ_eq_append_getElem hk,List.flatten_append];simp
theorem flat_le {ls:List (List Int)} (k:Nat):(ls.take k).flatten.length≤ls.flatten.length:=by
 have:ls.flatten=(ls.take k).flatten++(ls.drop k).flatten:=by rw [←List.flatten_append,List.take_append_drop]
 rw [this,List.length_append];omega
theorem cat_ok:SpecOK Tryz.prog 55 catS:=by
 intro args S x S' h
 simp only [catS] at h
 split at h
 ·rename_i j n m
  split at h
  ·rename_i o xs hB
   split at h
   ·rename_i ls hp
    split at h
    ·rename_i hc
     obtain ⟨rfl,hn,hlim⟩:=hc
     cases h
     obtain ⟨hll,hget⟩:=partsV_get hp
     have hcell:∀ k (hk:k<xs.length) L,cellB ((S++L)[j]?) k 0=some xs[k]:=fun k hk L=>by
      rw [at_old hB,cellB_some,List.getElem?_eq_getElem hk]
     refine fn_of_wp f55 rfl (W_sound oCat_ok mixed _ _ _ _ _ ?_)
     simp (maxSteps:=1000000) (disch:=omega) only [c55,go_sem]
     refine wp_loop (fun jj e M dl=>dl=[]∧∃ k:Nat,jj=xs.length-k∧k≤xs.length∧M=S∧e.get 9 = .sl j 0 0 xs.length m true∧e.get 0 = .sl j 0 0 xs.length m true∧e.get 10 = .i .i64 xs.length∧e.get 11 = .i .i64 k∧e.get 3 = .i .i64 ((ls.take k).flatten.length:Nat)) (j:=xs.length)
      ⟨rfl,0,rfl,Nat.zero_le _,rfl,rfl,rfl,rfl,rfl,rfl⟩ ?_
     rintro jj e M d' ⟨rfl,k,rfl,hk,rfl,e9,e0,e10,e11,e3⟩
     refine W_sound oCat_ok mixed _ _ _ _ _ ?_
     by_cases hkl:k<xs.length
     ·have hk2:k<ls.length:=by omega
      have hkI:(k:Int)<xs.length:=by omega
      have hk6:k<1000000:=by omega
      have hc:=hcell k hkl []
      rw [List.append_nil] at hc
      have hlen:=lst_len (hget k hkl hk2)
      have hf:=congrArg List.length (flat_take_len hk2)
      rw [List.length_append] at hf
      have hf2:=flat_le (ls:=ls) (k+1)
      have hw:wrapV .i64 (((ls.take k).flatten.length:Int)+ls[k].length)=((ls.take (k+1)).flatten.length:Nat):=by rw [wrap_i64 (by omega) (by omega)];omega
      have hneg:¬ ((((ls.take (k+1)).flatten.length:Nat):Int)<0):=by omega
      simp (maxSteps:=1000000) (disch:=omega) only [c55l0,e9,e0,e10,e11,e3,hkI,Int.toNat_natCast,Nat.mul_one,Nat.zero_add,hc,hlen,hw,hneg,wrapS hk6,go_sem]
      exact ⟨xs.length-(k+1),by omega,k+1,rfl,hkl,rfl,rfl⟩
     ·have hkI:¬ (k:Int)<xs.length:=by omega
      rw [List.take_of_length_le (by omega)] at e3
      have hgr:growS [.sn,.i .i64 (ls.flatten.length:Nat)] M=some (if ls.flatten.length=0 then .sn else .sl M.length 0 0 0 ls.flatten.length false,if ls.flatten.length=0 then M else M++[.cells (List.replicate ls.flatten.length (.i .u8 0)) 0 (some 1) true]):=by
       simp only [growS]
       rw [if_pos ⟨by omega,by omega⟩,Int.toNat_natCast]
       by_cases h0:ls.flatten.length=0
       ·rw [if_pos (by omega),if_pos h0,if_pos h0]
       ·rw [if_neg (by omega),if_neg h0,if_neg h0]
      have hcat0:Cat M (if ls.flatten.length=0 then M else M++[.cells (List.replicate ls.flatten.length (.i .u8 0)) 0 (some 1) true]) ls.flatten.length (if ls.flatten.length=0 then .sn else .sl M.length 0 0 0 ls.flatten.length false) []:=by
       by_cases h0:ls.flatten.length=0
       ·rw [if_pos h0,if_pos h0];exact .inl ⟨h0,rfl,rfl,rfl⟩
       ·rw [if_neg h0,if_neg h0]
        exact .inr ⟨by omega,Nat.zero_le _,rfl,List.replicate ls.flatten.length (.i .u8 0),by simp,rfl⟩
      generalize (if ls.flatten.length=0 then M else M++[.cells (List.replicate ls.flatten.length (.i .u8 0)) 0 (some 1) true])=M1 at hgr hcat0
      generalize (if ls.flatten.length=0 then .sn else .sl M.length 0 0 0 ls.flatten.length false:AV)=y1 at hgr hcat0
      simp (maxSteps:=1000000) (disch:=omega) only [c55l0,e9,e0,e10,e11,e3,hkI,orc_cons,hgr,go_sem]
      refine wp_loop (fun jj e M2 dl=>dl=[]∧∃ (k:Nat) (y:AV),jj=xs.length-k∧k≤xs.length∧Cat M M2 ls.flatten.length y (ls.take k).flatten∧e.get 25 = .sl j 0 0 xs.length m true∧e.get 26 = .i .i64 xs.length∧e.get 27 = .i .i64 k∧e.get 6=y) (j:=xs.length)
       ⟨rfl,0,y1,rfl,Nat.zero_le _,hcat0,rfl,rfl,rfl,rfl⟩ ?_
      clear hgr hcat0 e9 e0 e10 e11 e3
      rintro jj e M2 d' ⟨rfl,k,y,rfl,hk,hC,e25,e26,e27,e6⟩
      refine W_sound oCat_ok mixed _ _ _ _ _ ?_
      by_cases hkl:k<xs.length
      ·have hk2:k<ls.length:=by omega
       have hkI:(k:Int)<xs.length:=by omega
       have hk6:k<1000000:=by omega
       have hMM:=hC.ext
       have hc:cellB (M2[j]?) k 0=some xs[k]:=by
        obtain ⟨T,rfl⟩:=hMM
        exact hcell k hkl T
       have hsrc:=src_lst (lst_ext (hget k hkl hk2) hMM)
       have hsrc:srcV M2 1 xs[k]=some (ls[k].flatMap byteE.enc,ls[k].length):=hsrc
       have hf:=congrArg List.length (flat_take_len hk2)
       rw [List.length_append] at hf
       have hf2:=flat_le (ls:=ls) (k+1)
       obtain ⟨y',M',ha,hC'⟩:=hC.app (m:=ls[k]) (by omega)
       rw [←flat_take_len hk2] at hC'
       simp (maxSteps:=1000000) (disch:=omega) only [c55l1,e25,e26,e27,e6,hkI,Int.toNat_natCast,Nat.mul_one,Nat.zero_add,hc,hsrc,ha,wrapS hk6,go_sem]
       exact ⟨xs.length-(k+1),by omega,k+1,y',rfl,hkl,hC',rfl,rfl⟩
      ·have hkI:¬ (k:Int)<xs.length:=by omega
       rw [List.take_of_length_le (by omega)] at hC
       simp (maxSteps:=1000000) (disch:=omega) only [c55l1,e25,e26,e27,e6,hkI,go_sem]
       exact hC.ret rfl
    ·cases h
   ·cases h
  ·cases h
 ·cases h
def eqlBS:Spec:=fun args S=>match args with
 | [x,y]=>match lstV byteE S x,lstV byteE S y with
  | some l,some m=>if l.length≤900000 then some (.b (decide (l=m)),S) else none
  | _,_=>none
 | _=>none
theorem eqlB_ok:SpecOK Tryz.prog 106 eqlBS:=by
 intro args S x S' h
 simp only [eqlBS] at h
 split at h
 ·rename_i s t
  split at h
  ·rename_i l m hl hm
   split at h
   ·rename_i hlim
    cases h
    refine fn_of_wp f106 rfl (W_sound none_ok mixed _ _ _ _ _ ?_)
    simp (maxSteps:=1000000) (disch:=omega) only [c106,lst_len hl,lst_len hm,go_sem]
    refine ⟨fun hne=>wkv_fP ext_refl fun q=>hne (by rw [q]),fun he=>?_⟩
    have he:l.length=m.length:=by omega
    refine wp_loop (fun j e M dl=>dl=[]∧∃ k:Nat,j=l.length-k∧k≤l.length∧M=S∧(∀ i (hi:i<k) (h1:i<l.length) (h2:i<m.length),l[i]=m[i]) ∧
     e.get 0=s∧e.get 1=t∧e.get 12 = .i .i64 l.length∧e.get 13 = .i .i64 k) (j:=l.length) ⟨rfl,0,rfl,Nat.zero_le _,rfl,fun i hi=>absurd hi (Nat.not_lt_zero _),rfl,rfl,rfl,rfl⟩ ?_
    rintro j e M d' ⟨rfl,k,rfl,hk,rfl,hn,h0,h1,h12,h13⟩
    refine W_sound none_ok mixed _ _ _ _ _ ?_
    by_cases hkl:k<l.length
    ·obtain ⟨bi,o,v,cap,ex,rfl⟩:=lst_sl hl hkl
     obtain ⟨bj,o2,v2,cap2,ex2,rfl⟩:=lst_sl hm (show k<m.length by omega)
     have hkI:(k:Int)<l.length:=by omega
     have hkm:k<m.length:=by omega
     have hkmI:(k:Int)<m.length:=by omega
     have hk6:k<1000000:=by omega
     have ha:=lstV_cell hl rfl (fun a=>rfl) hkl []
     have hb:=lstV_cell hm rfl (fun a=>rfl) hkm []
     rw [List.append_nil] at ha hb
     simp (maxSteps:=1000000) (disch:=omega) only [c106l1,h0,h1,h12,h13,hkI,hkmI,Int.toNat_natCast,Nat.mul_one,ha,hb,wrapS hk6,go_sem]
     refine ⟨fun hd=>wkv_fP ext_refl fun q=>hd (by subst q;rfl),fun hd=>⟨l.length-(k+1),by omega,k+1,rfl,hkl,fun i hi h1 h2=>?_,rfl⟩⟩
     by_cases hik:i=k
     ·subst hik;exact Decidable.not_not.1 hd
     ·exact hn i (by omega) h1 h2
    ·have hkI:¬ (k:Int)<l.length:=by omega
     simp (maxSteps:=1000000) (disch:=omega) only [c106l1,h0,h1,h12,h13,hkI,go_sem]
     exact wkv_tP ext_refl (List.ext_getElem he fun i h1 h2=>hn i (by omega) h1 h2)
   ·cases h
  ·cases h
 ·cases h
def cloneBS:Spec:=fun args S=>match args with
 | [.sn]=>some (.sn,S)
 | [x]=>match lstV byteE S x with
  | some l=>if l.length≤900000 then some (retX true S l,retM true byteE S l) else none
  | none=>none
 | _=>none
theorem cloneB_ok:SpecOK Tryz.prog 107 cloneBS:=by
 intro args S x S' h
 simp only [cloneBS] at h
 split at h
 ·cases h
  refine fn_of_wp f107 rfl (W_sound none_ok mixed _ _ _ _ _ ?_)
  simp (maxSteps:=1000000) (disch:=omega) only [c107,go_sem]
  exact wkv_same
 ·rename_i y hy
  split at h
  ·rename_i l hl
   split at h
   ·rename_i hlim
    cases h
    have hs:∀ L,srcV (S++L) 1 y=some (l.flatMap byteE.enc,l.length):=fun L=>src_lst (lstV_grow hl L)
    obtain ⟨X1,M1,hap1,hX1⟩:=(acc_lit (E:=byteE) (S:=S) (M:=S) ext_refl).apps (bytes:=1) byteE_one l (by simp only [List.length_nil];omega) (by simp only [List.length_nil];omega)
    rw [List.nil_append] at hX1
    have hap1:appV (S++[.cells [] 0 none true]) 1 1 (.sl S.length 0 0 0 0 true) (l.flatMap byteE.enc) l.length=some (X1,M1):=hap1
    refine fn_of_wp f107 rfl (W_sound none_ok mixed _ _ _ _ _ ?_)
    rcases lstV_lst hl with ⟨rfl,rfl⟩ | ⟨rfl,rfl⟩ | ⟨i,o,v,len,cap,ex,rfl,h1,h3⟩
    ·exact absurd rfl hy
    ·simp (maxSteps:=1000000) (disch:=omega) only [c107,hs,hap1,go_sem]
     exact (acc_lit (E:=byteE) ext_refl).ret byteE_flat
    ·simp (maxSteps:=1000000) (disch:=omega) only [c107,hs,hap1,go_sem]
     exact hX1.ret byteE_flat
   ·cases h
  ·cases h
 ·cases h
def sealF (l:List Int):List Int:=l++tailF (morF 0 l)
def sealS:Spec:=fun args S=>match args with
 | [x]=>match lstV byteE S x with
  | some l=>if l.length≤800000∧x.one=true then some (retX false S (sealF l),retM false byteE S (sealF l)) else none
  | none=>none
 | _=>none
theorem tail_len (s:Int):(tailF s).length=4:=rfl
theorem lit_lst {S:Mem} {j:Nat} {l:List Int} (h:S[j]? = some (.cells (l.map byV) 0 none true)):lstV byteE S (.sl j 0 0 l.length l.length true)=some l:=by
 refine lst_lstV (.inr (.inr ⟨_,_,_,_,_,_,rfl,rfl,?_⟩))
 rw [rowAt_B,h,rowB_some,if_pos (by rw [List.length_map];show 0+l.length * 1≤_;omega),List.drop_zero]
 show some ((l.map byV).take (l.length * 1))=some (l.flatMap byteE.enc)
 rw [enc_by,Nat.mul_one,List.take_of_length_le (by rw [List.length_map];exact Nat.le_refl _)]
theorem oSeal_ok:OK Tryz.prog (lamOf Tryz.prog) (orcOf [(82,sumS),(81,tailS),(55,catS)]):=orc_ok (by simpa using ⟨sum_ok,tail_ok,cat_ok⟩)
theorem seal_ok:SpecOK Tryz.prog 58 sealS:=by
 intro args S x S' h
 simp only [sealS] at h
 split at h
 ·rename_i y
  split at h
  ·rename_i l hl
   split at h
   ·rename_i hc
    obtain ⟨hlim,hone⟩:=hc
    cases h
    have hcp:AV.cells y=some [y]:=by cases y <;> first | rfl | cases hone
    have hof:sumS [.sl S.length 0 0 1 1 true] (S++[.cells [y] 0 none true])=some (.i .u32 (morF 0 l),S++[.cells [y] 0 none true]):=by
     have hb:(S++[Blk.cells [y] 0 none true])[S.length]? = some (.cells [y] 0 none true):=by simp
     have hl':=lstV_grow hl [Blk.cells [y] 0 none true]
     simp only [sumS,hb,hl']
     rw [if_pos (by omega)]
    obtain ⟨T,hT⟩:∃ T:List Int,T=tailF (morF 0 l):=⟨_,rfl⟩
    have hTl:T.length=4:=by rw [hT];rfl
    have hta:∀ L,tailS [.i .u32 (morF 0 l)] (S++L)=some (.sl (S++L).length 0 0 4 4 true,S++L++[.cells (T.map byV) 0 none true]):=fun L=>by rw [hT];rfl
    have hta:=hta [.cells [y] 0 none true]
    rw [List.append_assoc,List.length_append] at hta
    have hca:catS [.sl (S.length+2) 0 0 2 2 true] (S++[.cells [y] 0 none true,.cells (T.map byV) 0 none true,.cells [y,.sl (S.length+1) 0 0 4 4 true] 0 none true]) =
      some (retX false (S++[.cells [y] 0 none true,.cells (T.map byV) 0 none true,.cells [y,.sl (S.length+1) 0 0 4 4 true] 0 none true]) (sealF l),retM false byteE (S++[.cells [y] 0 none true,.cells (T.map byV) 0 none true,.cells [y,.sl (S.length+1) 0 0 4 4 true] 0 none true]) (sealF l)):=by
     have hb:(S++[Blk.cells [y] 0 none true,.cells (T.map byV) 0 none true,.cells [y,.sl (S.length+1) 0 0 4 4 true] 0 none true])[S.length+2]? = some (.cells [y,.sl (S.length+1) 0 0 4 4 true] 0 none true):=by simp
     have hb1:(S++[Blk.cells [y] 0 none true,.cells (T.map byV) 0 none true,.cells [y,.sl (S.length+1) 0 0 4 4 true] 0 none true])[S.length+1]? = some (.cells (T.map byV) 0 none true):=by simp
     have h1:=lstV_grow hl [Blk.cells [y] 0 none true,.cells (T.map byV) 0 none true,.cells [y,.sl (S.length+1) 0 0 4 4 true] 0 none true]
     have h2:=lit_lst hb1
     rw [hTl] at h2
     simp only [catS,hb,partsV,h1,h2]
     have hfl:[l,T].flatten=sealF l:=by simp [sealF,hT]
     rw [if_pos ⟨rfl,by omega,by rw [hfl];unfold sealF;rw [List.length_append,tail_len];omega⟩,hfl]
    have hA:=retX_acc (z:=false) (E:=byteE) (S:=S++[Blk.cells [y] 0 none true,.cells (T.map byV) 0 none true,.cells [y,.sl (S.length+1) 0 0 4 4 true] 0 none true]) (l:=sealF l)
    have hA:=hA.base (ext_app (S:=S) _)
    generalize retX false (S++[Blk.cells [y] 0 none true,.cells (T.map byV) 0 none true,.cells [y,.sl (S.length+1) 0 0 4 4 true] 0 none true]) (sealF l)=X1 at hca hA
    generalize retM false byteE (S++[Blk.cells [y] 0 none true,.cells (T.map byV) 0 none true,.cells [y,.sl (S.length+1) 0 0 4 4 true] 0 none true]) (sealF l)=M1 at hca hA
    refine fn_of_wp f58 rfl (W_sound oSeal_ok mixed _ _ _ _ _ ?_)
    simp (maxSteps:=1000000) (disch:=omega) only [c58,List.replicate,hcp,hone,orc_cons,hof,hta,hca,go_sem]
    exact hA.ret byteE_flat
   ·cases h
  ·cases h
 ·cases h
def unsealF (l:List Int):Option (List Int):=if 4≤l.length∧tailF (morF 0 (l.take (l.length-4)))=l.drop (l.length-4) then some (l.take (l.length-4)) else none
def openX (S:Mem):Option (List Int)→AV × Mem
 | some m=>(.tu [retX true S m,.b true],retM true byteE S m)
 | none=>(.tu [.sn,.b false],S)
def cOpenS:Spec:=fun args S=>match args with
 | [x]=>match lstV byteE S x with
  | some l=>if l.length≤800000∧openQ S 1 x=true then some (openX S (unsealF l)) else none
  | none=>none
 | _=>none
theorem oOpen_ok:OK Tryz.prog (lamOf Tryz.prog) (orcOf [(82,sumS),(81,tailS),(106,eqlBS),(107,cloneBS)]):=orc_ok (by simpa using ⟨sum_ok,tail_ok,eqlB_ok,cloneB_ok⟩)
theorem clone_eq {S:Mem} {x:AV} {l:List Int} (hl:lstV byteE S x=some l) (hn:x≠.sn) (hlim:l.length≤900000):cloneBS [x] S=some (retX true S l,retM true byteE S l):=by
 have:cloneBS [x] S=(match lstV byteE S x with
  | some l=>if l.length≤900000 then some (retX true S l,retM true byteE S l) else none
  | none=>none):=by cases x <;> first | rfl | exact absurd rfl hn
 rw [this,hl]
 simp only []
 rw [if_pos hlim]
theorem slice_ne {S:Mem} {sz i o v len cap:Nat} {ex:Bool} {lo hi mx:Option AV} {x':AV} (h:sliceV S sz (.sl i o v len cap ex) lo hi mx=some x'):x'≠.sn∧x'.one=true:=by
 simp only [sliceV] at h
 split at h
 ·cases h
 ·split at h
  ·cases h;exact ⟨by simp,rfl⟩
  ·split at h
   ·cases h;exact ⟨by simp,rfl⟩
   ·split at h
    ·split at h
     ·cases h;exact ⟨by simp,rfl⟩
     ·cases h
    ·cases h
theorem slice_grow {S L:Mem} {sz i o v len cap:Nat} {ex:Bool} {lo hi mx:Option AV} {x':AV} (h:sliceV S sz (.sl i o v len cap ex) lo hi mx=some x'):sliceV (S++L) sz (.sl i o v len cap ex) lo hi mx=some x':=by
 simp only [sliceV] at h ⊢
 cases hb:bnds len cap lo hi mx with
 | none=>rw [hb] at h;cases h
 | some t =>
  obtain ⟨a,b,m⟩:=t
  rw [hb] at h
  simp only at h ⊢
  by_cases h1:(ex || mx.isSome)=true
  ·rw [if_pos h1] at h ⊢;exact h
  ·rw [if_neg h1] at h ⊢
   by_cases h2:a=m
   ·rw [if_pos h2] at h ⊢;exact h
   ·rw [if_neg h2] at h ⊢
    cases hB:S[i]? with
    | none=>rw [hB] at h;cases h
    | some B=>rw [at_old hB];rw [hB] at h;exact h
theorem copen_ok:SpecOK Tryz.prog 86 cOpenS:=by
 intro args S x S' h
 simp only [cOpenS] at h
 split at h
 ·rename_i y
  split at h
  ·rename_i l hl
   split at h
   ·rename_i hc
    obtain ⟨hlim,hoq⟩:=hc
    injection h with h
    obtain ⟨hx,hS⟩:=Prod.mk.inj h
    subst hx;subst hS
    have hw:wrapV .i64 ((l.length:Int)-4)=(l.length:Int)-4:=wrap_i64 (by omega) (by omega)
    refine fn_of_wp f86 rfl (W_sound oOpen_ok mixed _ _ _ _ _ ?_)
    by_cases h4:4≤l.length
    ·obtain ⟨n,hn⟩:∃ n,l.length=n+4:=⟨l.length-4,by omega⟩
     have hwn:(l.length:Int)-4=(n:Int):=by omega
     have hw:wrapV .i64 ((l.length:Int)-4)=(n:Int):=by rw [hw,hwn]
     have hn4:l.length-4=n:=by omega
     have hneg:¬ ((n:Int)<0):=by omega
     obtain ⟨bi,o,v,cap,ex,rfl⟩:=lst_sl hl (show 0<l.length by omega)
     obtain ⟨x1,s1,hx1,_⟩:=take_lst hl hoq (q:=.i64) (b:=n) (by omega)
     obtain ⟨x2,s2,hx2,_⟩:=drop_lst hl hoq (q:=.i64) (a:=n) (by omega)
     have s1:sliceV S 1 (.sl bi o v l.length cap ex) none (some (.i .i64 (n:Int))) none=some x1:=s1
     have s2:sliceV S 1 (.sl bi o v l.length cap ex) (some (.i .i64 (n:Int))) none none=some x2:=s2
     obtain ⟨hne1,hone1⟩:=slice_ne s1
     have hcp:AV.cells x1=some [x1]:=by cases x1 <;> first | rfl | cases hone1
     have hof:sumS [.sl S.length 0 0 1 1 true] (S++[.cells [x1] 0 none true])=some (.i .u32 (morF 0 (l.take n)),S++[.cells [x1] 0 none true]):=by
      have hb:(S++[Blk.cells [x1] 0 none true])[S.length]? = some (.cells [x1] 0 none true):=by simp
      have hl':=lstV_grow hx1 [Blk.cells [x1] 0 none true]
      simp only [sumS,hb,hl']
      rw [if_pos (by rw [List.length_take];omega)]
     obtain ⟨T,hT⟩:∃ T:List Int,T=tailF (morF 0 (l.take n)):=⟨_,rfl⟩
     have hTl:T.length=4:=by rw [hT];rfl
     have hta:∀ L,tailS [.i .u32 (morF 0 (l.take n))] (S++L)=some (.sl (S++L).length 0 0 4 4 true,S++L++[.cells (T.map byV) 0 none true]):=fun L=>by rw [hT];rfl
     have hta:=hta [.cells [x1] 0 none true]
     rw [List.append_assoc,List.length_append] at hta
     have heq:eqlBS [.sl (S.length+1) 0 0 4 4 true,x2] (S++[.cells [x1] 0 none true,.cells (T.map byV) 0 none true])=some (.b (decide (T=l.drop n)),S++[.cells [x1] 0 none true,.cells (T.map byV) 0 none true]):=by
      have hb1:(S++[Blk.cells [x1] 0 none true,.cells (T.map byV) 0 none true])[S.length+1]? = some (.cells (T.map byV) 0 none true):=by simp
      have h1:=lit_lst hb1
      rw [hTl] at h1
      have h2:=lstV_grow hx2 [Blk.cells [x1] 0 none true,.cells (T.map byV) 0 none true]
      simp only [eqlBS,h1,h2]
      rw [if_pos (by omega)]
     have hs1:∀ L,sliceV (S++L) 1 (.sl bi o v l.length cap ex) none (some (.i .i64 (n:Int))) none=some x1:=fun L=>slice_grow s1
     by_cases he:T=l.drop n
     ·have hun:unsealF l=some (l.take n):=by unfold unsealF;rw [hn4,if_pos ⟨h4,by rw [←hT];exact he⟩]
      rw [decide_eq_true he] at heq
      rw [hun]
      have hcl:=clone_eq (lstV_grow hx1 [Blk.cells [x1] 0 none true,.cells (T.map byV) 0 none true]) hne1 (by rw [List.length_take];omega)
      have hA:=retX_acc (z:=true) (E:=byteE) (S:=S++[Blk.cells [x1] 0 none true,.cells (T.map byV) 0 none true]) (l:=l.take n)
      have hA:=hA.base (ext_app (S:=S) _)
      generalize retX true (S++[Blk.cells [x1] 0 none true,.cells (T.map byV) 0 none true]) (l.take n)=X1 at hcl hA
      generalize retM true byteE (S++[Blk.cells [x1] 0 none true,.cells (T.map byV) 0 none true]) (l.take n)=M1 at hcl hA
      simp (maxSteps:=1000000) (disch:=omega) only [c86,hw,hneg,s1,s2,hcp,hone1,orc_cons,hof,hta,heq,hs1,hcl,go_sem]
      exact hA.ret2 byteE_flat (Flat_b)
     ·have hun:unsealF l=none:=by unfold unsealF;rw [hn4,if_neg (fun q=>he (by rw [hT];exact q.2))]
      rw [decide_eq_false he] at heq
      rw [hun]
      simp (maxSteps:=1000000) (disch:=omega) only [c86,hw,hneg,s1,s2,hcp,hone1,orc_cons,hof,hta,heq,go_sem]
      exact wkv_drop rfl
    ·have hun:unsealF l=none:=by unfold unsealF;rw [if_neg (fun q=>h4 q.1)]
     have hneg:(l.length:Int)-4<0:=by omega
     rw [hun]
     simp (maxSteps:=1000000) (disch:=omega) only [c86,lst_len hl,hw,hneg,go_sem]
     exact wkv_same
   ·cases h
  ·cases h
 ·cases h
def sizeF (n:Int):Int:=if n<0∨700<n then 0 else (n+81) / 64
def fSizeS:Spec:=fun args S=>match args with
 | [.i .i64 n]=>some (.i .i64 (sizeF n),S)
 | _=>none
theorem fsize_ok:SpecOK Tryz.prog 57 fSizeS:=by
 intro args S x S' h
 simp only [fSizeS] at h
 split at h
 ·rename_i n
  cases h
  refine fn_of_wp f57 rfl (W_sound none_ok mixed _ _ _ _ _ ?_)
  unfold sizeF
  by_cases h1:n<0
  ·rw [if_pos (.inl h1)]
   simp (maxSteps:=1000000) (disch:=omega) only [c57,h1,go_sem]
   exact wkv_same
  ·by_cases h2:700<n
   ·rw [if_pos (.inr h2)]
    simp (maxSteps:=1000000) (disch:=omega) only [c57,h1,h2,go_sem]
    exact wkv_same
   ·rw [if_neg (by omega)]
    have w1:wrapV .i64 (14+n)=14+n:=wrap_i64 (by omega) (by omega)
    have w2:wrapV .i64 (14+n+4)=n+18:=by rw [wrap_i64 (by omega) (by omega)];omega
    have w3:wrapV .i64 (n+18+64)=n+82:=by rw [wrap_i64 (by omega) (by omega)];omega
    have w4:wrapV .i64 (n+82-1)=n+81:=by rw [wrap_i64 (by omega) (by omega)];omega
    have w5:binV .int true .quo (.i .i64 (n+81)) (.i .i64 64)=some (.i .i64 ((n+81) / 64)):=by
     rw [bin_quo_pos (by omega) (by omega),wrap_i64 (by omega) (by omega)]
    simp (maxSteps:=1000000) (disch:=omega) only [c57,h1,h2,w1,w2,w3,w4,w5,go_sem]
    exact wkv_same
 ·cases h
def numF (n:Int):Nat→List Int
 | 0=>[]
 | k+1=>(n / ((256:Int) ^ k)) % 256 :: numF n k
theorem num_len (n:Int):∀ k,(numF n k).length=k
 | 0=>rfl
 | k+1=>by rw [numF,List.length_cons,num_len n k]
theorem shr_8q {n:Int}:shiftV .shr .u64 n 8=some (.i .u64 (n / 256)):=by
 simp only [shiftV,IntKind.bits]
 rw [if_neg (by omega),Int.fdiv_eq_ediv_of_nonneg _ (Int.natCast_nonneg _)];rfl
theorem div_pow (n:Int) (k:Nat):n / ((256:Int) ^ k) / 256=n / ((256:Int) ^ (k+1)):=by
 have hp:(0:Int)<(256:Int) ^ k:=Int.pow_pos (by decide)
 rw [Int.ediv_ediv,if_neg (fun q=>absurd q.1 (by omega)),Int.sub_zero,Int.pow_succ]
def numPath:List Bool:=[true,true,false,true,false]
def numL (n:Int) (m k:Nat):List Int:=List.replicate (m-k) 0++numF n k
structure Jn (S:Mem) (n:Int) (m:Nat) (env:Env) (k:Nat) (M:Mem):Prop where
 hS:S <+: M
 hn:M[S.length]? = some (.cells [.i .u64 (n / ((256:Int) ^ k))] 0 none true)
 hb:M[S.length+1]? = some (.cells ((numL n m k).map byV) 0 none true)
 h5:M[S.length+2]? = some (.cells [.sl (S.length+1) 0 0 m m true] 0 none true)
 h3:M[S.length+3]? = some (.cells [.sl (S.length+1) 0 0 m m true] 0 none true)
 hd:M[S.length+4]? = some (.dfr true)
 hl:M[S.length+5]? = some (.loop 59 numPath env .ready none)
theorem numL_len {n:Int} {m k:Nat} (hk:k≤m):(numL n m k).length=m:=by
 unfold numL;rw [List.length_append,List.length_replicate,num_len];omega
theorem numL_set {n:Int} {m k:Nat} (hk:k<m):(numL n m k).set (m-1-k) (n / ((256:Int) ^ k) % 256)=numL n m (k+1):=by
 unfold numL
 obtain ⟨r,hr⟩:∃ r,m-k=r+1:=⟨m-k-1,by omega⟩
 have h1:m-1-k=r:=by omega
 have h2:m-(k+1)=r:=by omega
 rw [h1,h2,hr,List.replicate_succ',List.append_assoc,List.set_append_right _ _ (by simp)]
 simp [numF]
theorem number_round {S:Mem} {n:Int} {m:Nat} {env:Env} {k:Nat} {M:Mem} (J:Jn S n m env k M) (e5:env.get 5 = .p (S.length+2) 0 0) (e2:env.get 2 = .p S.length 0 0) (hk:k<m) (hm:m≤8) (c:AV) :
  ∃ M',RdOK Tryz.prog (S.length+5) [.i .i64 ((m-1-k:Nat):Int),c] M (.b true) M'∧Jn S n m env (k+1) M':=by
 obtain ⟨hS,hn,hb,h5,h3,hd,hl⟩:=J
 obtain ⟨Mb,hMb⟩:∃ Mb,Mb=M.set (S.length+5) (.loop 59 numPath env .busy none):=⟨_,rfl⟩
 have st:∀ {i:Nat} {B:Blk},i≠S.length+5→M[i]? = some B→Mb[i]? = some B:=fun hi hB=>by rw [hMb,List.getElem?_set_ne (Ne.symm hi)];exact hB
 have bn:=st (by omega) hn
 have bb:=st (by omega) hb
 have b5:=st (by omega) h5
 have hlb:Mb[S.length+5]? = some (.loop 59 numPath env .busy none):=by rw [hMb];exact at_set hl
 obtain ⟨i,hi⟩:∃ i,i=m-1-k:=⟨_,rfl⟩
 have him:i<m:=by omega
 have hiI:(i:Int)<m:=by omega
 obtain ⟨v,hv⟩:∃ v,v=n / ((256:Int) ^ k):=⟨_,rfl⟩
 rw [←hv] at bn
 have hlen:=numL_len (n:=n) (m:=m) (k:=k) (by omega)
 have hset:=numL_set (n:=n) hk
 rw [←hi,←hv] at hset
 refine ⟨((Mb.set (S.length+1) (.cells ((numL n m (k+1)).map byV) 0 none true)).set S.length (.cells [.i .u64 (v / 256)] 0 none true)).set (S.length+5) (.loop 59 numPath env .ready none),?_,?_⟩
 ·rw [←hi]
  have hw8:wrapV .u8 v=v % 256:=rfl
  have hstB:stB Mb (S.length+1) (Mb[S.length+1]?) i 0 1 (some [.i .u8 (v % 256)])=some (Mb.set (S.length+1) (.cells ((numL n m (k+1)).map byV) 0 none true)):=by
   rw [bb]
   simp only [stB]
   rw [if_pos ⟨trivial,rfl,by rw [List.length_map,hlen];omega,rfl⟩]
   have hsp:splice ((numL n m k).map byV) i [.i .u8 (v % 256)]=(numL n m (k+1)).map byV:=by
    rw [←hset,List.map_set,List.set_eq_take_append_cons_drop,if_pos (by rw [List.length_map,hlen];exact him)]
    rfl
   rw [hsp]
  have bn2:(Mb.set (S.length+1) (.cells ((numL n m (k+1)).map byV) 0 none true))[S.length]? = some (.cells [.i .u64 v] 0 none true):=by rw [at_set_ne (by omega)];exact bn
  refine round_of_wp hl f59 (List.mem_cons_self ..) rfl (W_sound none_ok mixed _ _ _ _ _ ?_)
  simp (maxSteps:=1000000) (disch:=omega) only [c59ra0,bindE,go_sem]
  refine ⟨rfl,rfl,59,numPath,env,none,hl,?_⟩
  refine W_sound none_ok mixed _ _ _ _ _ ?_
  rw [←hMb]
  simp (maxSteps:=1000000) (disch:=omega) only [c59rb0,e5,e2,b5,bn,hw8,hiI,Int.toNat_natCast,Nat.mul_one,Nat.zero_add,hstB,bn2,shr_8q,go_sem]
  refine ⟨59,numPath,env,.busy,none,?_,wkv_same⟩
  rw [at_set_ne (by omega),at_set_ne (by omega)];exact hlb
 ·have hSb:S <+: Mb:=by rw [hMb];exact ext_set hS (by omega) _
  have st2:∀ {j:Nat} {B:Blk},j≠S.length→j≠S.length+1→j≠S.length+5→M[j]? = some B→(((Mb.set (S.length+1) (.cells ((numL n m (k+1)).map byV) 0 none true)).set S.length (.cells [.i .u64 (v / 256)] 0 none true)).set (S.length+5) (.loop 59 numPath env .ready none))[j]? = some B:=fun h0 h1 h4 hB=>by
   rw [at_set_ne (Ne.symm h4),at_set_ne (Ne.symm h0),at_set_ne (Ne.symm h1)];exact st h4 hB
  refine ⟨ext_set (ext_set (ext_set hSb (by omega) _) (Nat.le_refl _) _) (by omega) _,?_,?_,st2 (by omega) (by omega) (by omega) h5,st2 (by omega) (by omega) (by omega) h3,st2 (by omega) (by omega) (by omega) hd,?_⟩
  ·rw [at_set_ne (by omega),at_set (by rw [at_set_ne (by omega)];exact bn),hv,div_pow]
  ·rw [at_set_ne (by omega),at_set_ne (by omega),at_set bb]
  ·exact at_set (by rw [at_set_ne (by omega),at_set_ne (by omega)];exact hlb)
theorem Jn.grow {S:Mem} {n:Int} {m:Nat} {env:Env} {k:Nat} {M:Mem} (J:Jn S n m env k M) (L:Mem):Jn S n m env k (M++L) :=
 ⟨ext_more J.hS L,at_old J.hn,at_old J.hb,at_old J.h5,at_old J.h3,at_old J.hd,at_old J.hl⟩
theorem bw_iter {S:Mem} {n:Int} {m:Nat} {env:Env} {M0:Mem} (e5:env.get 5 = .p (S.length+2) 0 0) (e2:env.get 2 = .p S.length 0 0) (hm:m≤8) (h0:Jn S n m env 0 M0) :
  FnR Tryz.prog 103 [.y (S.length+5),.p (S.length+3) 0 0] M0 (fun v M'=>Jn S n m env m M'):=by
 have hw:wrapV .i64 ((m:Int)-1)=(m:Int)-1:=wrap_i64 (by omega) (by omega)
 refine fnR_of_wp f103 rfl (W_sound none_ok mixed _ _ _ _ _ ?_)
 simp (maxSteps:=1000000) (disch:=omega) only [c103,h0.h3,hw,go_sem]
 refine wp_loop (fun j e M dl=>dl=[]∧∃ k:Nat,j=m-k∧k≤m∧Jn S n m env k M∧e.get 0 = .y (S.length+5)∧e.get 1 = .p (S.length+3) 0 0∧e.get 3 = .i .i64 ((m:Int)-1-k)) (j:=m)
  ⟨rfl,0,rfl,Nat.zero_le _,h0,rfl,rfl,by rw [show (m:Int)-1-((0:Nat):Int)=(m:Int)-1 by omega];rfl⟩ ?_
 rintro j e M d' ⟨rfl,k,rfl,hk,hJ,g0,g1,g3⟩
 by_cases hkm:k<m
 ·obtain ⟨i,hi⟩:∃ i,i=m-1-k:=⟨_,rfl⟩
  have hI:(m:Int)-1-k=(i:Int):=by omega
  have hi0:(0:Int)≤(i:Int):=by omega
  have hiI:(i:Int)<m:=by omega
  have him:i<m:=by omega
  rw [hI] at g3
  have hc:cellB (M[S.length+1]?) i 0=some (.i .u8 0):=by
   rw [hJ.hb,cellB_some,List.getElem?_map]
   unfold numL
   rw [List.getElem?_append_left (by rw [List.length_replicate];omega),List.getElem?_replicate,if_pos (by omega)];rfl
  obtain ⟨M',hrd,hJ'⟩:=number_round hJ e5 e2 hkm hm (.i .u8 0)
  rw [←hi] at hrd
  have hw1:wrapV .i64 ((i:Int)-1)=(m:Int)-1-((k+1:Nat):Int):=by rw [wrap_i64 (by omega) (by omega)];omega
  refine W_sound (orcY_ok (l:=[]) (by simp) hrd) mixed _ _ _ _ _ ?_
  simp (maxSteps:=1000000) (disch:=omega) only [c103l0,g0,g1,g3,hi0,hJ.h3,hiI,Int.toNat_natCast,Nat.mul_one,Nat.zero_add,hc,orcY_y,hw1,go_sem]
  exact ⟨m-(k+1),by omega,k+1,rfl,hkm,hJ',rfl⟩
 ·obtain rfl:k=m:=by omega
  have hneg:¬ ((k:Int)-1-k≥0):=by omega
  have hneg2:¬ (0≤(k:Int)-1-k):=by omega
  refine W_sound none_ok mixed _ _ _ _ _ ?_
  simp (maxSteps:=1000000) (disch:=omega) only [c103l0,g0,g1,g3,hneg2,go_sem]
  exact hJ
def bwS:Spec:=fun args S=>match args with
 | [x]=>if x.one=true then some (.f (.func 103) [] [.p S.length 0 0],S++[.cells [x] 0 none true]) else none
 | _=>none
theorem bw_ok:SpecOK Tryz.prog 83 bwS:=by
 intro args S x S' h
 simp only [bwS] at h
 split at h
 ·rename_i y
  split at h
  ·rename_i hone
   cases h
   have hcp:AV.cells y=some [y]:=by cases y <;> first | rfl | cases hone
   refine fn_of_wp f83 rfl (W_sound none_ok mixed _ _ _ _ _ ?_)
   simp (maxSteps:=1000000) (disch:=omega) only [c83,hcp,go_sem]
   exact wkv_same
  ·cases h
 ·cases h
def numberS:Spec:=fun args S=>match args with
 | [.i .u64 n,.i .i64 m]=>if 0≤m∧m≤8 then some (.sl S.length 0 0 m.toNat m.toNat true,S++[.cells ((numF n m.toNat).map byV) 0 none true]) else none
 | _=>none
theorem oNb_ok:OK Tryz.prog (lamOf Tryz.prog) (orcOf [(83,bwS)]):=orc_ok (by simpa using bw_ok)
theorem number_ok:SpecOK Tryz.prog 59 numberS:=by
 intro args S x S' h
 simp only [numberS] at h
 split at h
 ·rename_i n mm
  split at h
  ·rename_i hm
   obtain ⟨h0,h8⟩:=hm
   obtain ⟨m,rfl⟩:=Int.eq_ofNat_of_zero_le h0
   rw [Int.toNat_natCast] at h
   cases h
   have hm8:m≤8:=by omega
   have hb1:1 * m≤140737488355328:=by omega
   have hb2:m≤140737488355328:=by omega
   have hz:List.replicate m (AV.i .u8 0)=(numL n m 0).map byV:=by
    unfold numL;simp [numF,byV]
   have hbw:∀ L:Mem,L.length=3→bwS [.sl (S.length+1) 0 0 m m true] (S++L)=some (.f (.func 103) [] [.p (S.length+3) 0 0],S++(L++[.cells [.sl (S.length+1) 0 0 m m true] 0 none true])):=fun L hL=>by
    simp only [bwS]
    rw [if_pos one_sl,List.length_append,hL,List.append_assoc]
   have hbw:=hbw [.cells [.i .u64 n] 0 none true,.cells ((numL n m 0).map byV) 0 none true,.cells [.sl (S.length+1) 0 0 m m true] 0 none true] rfl
   refine fn_of_wp f59 rfl (W_sound oNb_ok mixed _ _ _ _ _ ?_)
   simp (maxSteps:=1000000) (disch:=omega) only [c59,natV_nat,Nat.le_refl,hb1,hb2,hz,orc_cons,hbw,go_sem]
   obtain ⟨M4,hM4⟩:∃ M4,M4=S++[Blk.cells [.i .u64 n] 0 none true,.cells ((numL n m 0).map byV) 0 none true,.cells [.sl (S.length+1) 0 0 m m true] 0 none true,.cells [.sl (S.length+1) 0 0 m m true] 0 none true]:=⟨_,rfl⟩
   have hl4:M4.length=S.length+4:=by rw [hM4];simp
   have hrf:∀ (e:Env) (keep:List Nat),(keepE e keep).get 5 = .p (S.length+2) 0 0→(keepE e keep).get 2 = .p S.length 0 0 →
     FnR Tryz.prog 103 ([]++[.y (M4.length+1)]++[.p (S.length+3) 0 0]) (M4++[.dfr true,.loop 59 numPath (keepE e keep) .ready none]) (fun v M'=>Jn S n m (keepE e keep) m M'):=by
    intro e keep g5 g2
    rw [hl4]
    refine bw_iter g5 g2 hm8 ?_
    rw [hM4,List.append_assoc S]
    exact ⟨ext_app _,by rw [at_app0];simp,by rw [at_app];rfl,by rw [at_app];rfl,by rw [at_app];rfl,by rw [at_app];rfl,by rw [at_app];rfl⟩
   rw [←hM4]
   apply wp_rf rfl (hrf _ _ (by rfl) (by rfl))
   rw [hl4]
   intro y0 S2 J
   refine ⟨_,_,_,_,_,J.hl,by simp,?_⟩
   obtain ⟨hS,hn,hb,h5,h3,hd,hl⟩:=J
   rw [show S.length+4+1=S.length+5 from rfl]
   generalize hM3:S2.set (S.length+5) _=M3
   have f5:M3[S.length+2]? = some (.cells [.sl (S.length+1) 0 0 m m true] 0 none true):=by rw [←hM3,at_set_ne (by omega)];exact h5
   have fb:M3[S.length+1]? = some (.cells ((numL n m m).map byV) 0 none true):=by rw [←hM3,at_set_ne (by omega)];exact hb
   have fd:M3[S.length+4]? = some (.dfr true):=by rw [←hM3,at_set_ne (by omega)];exact hd
   have fS:S <+: M3:=by rw [←hM3];exact ext_set hS (by omega) _
   have hnl:numL n m m=numF n m:=by unfold numL;simp
   rw [hnl] at fb
   simp (maxSteps:=1000000) (disch:=omega) only [f5,ret_d fd,go_sem]
   exact lit_ret (p:=1) (ext_set fS (by omega) _) (by rw [at_set_ne (by omega)];exact fb) (fun c hc=>by obtain ⟨z,_,rfl⟩:=List.mem_map.1 hc;exact fun g=>ren_i)
  ·cases h
 ·cases h
def orq (a b:Int):Int:=wrapV .u64 ((Nat.lor (BitVec.ofInt 64 a).toNat (BitVec.ofInt 64 b).toNat:Nat):Int)
theorem bin_orq {cst:Bool} {a b:Int}:binV .int cst .or (.i .u64 a) (.i .u64 b)=some (.i .u64 (orq a b)):=by
 rw [bin_i rfl];rfl
theorem shl_8q {n:Int}:shiftV .shl .u64 n 8=some (.i .u64 (wrapV .u64 (n * 256))):=rfl
def valF (l:List Int):Int:=l.foldl (fun n c=>orq (wrapV .u64 (n * 256)) (wrapV .u64 c)) 0
def valS:Spec:=fun args S=>match args with
 | [x]=>match lstV byteE S x with
  | some l=>if l.length≤900000 then some (.i .u64 (valF l),S) else none
  | none=>none
 | _=>none
theorem val_ok:SpecOK Tryz.prog 85 valS:=by
 intro args S x S' h
 simp only [valS] at h
 split at h
 ·rename_i x
  split at h
  ·rename_i l hl
   split at h
   ·rename_i hlim
    cases h
    refine fn_of_wp f85 rfl (W_sound none_ok mixed _ _ _ _ _ ?_)
    simp (maxSteps:=1000000) (disch:=omega) only [c85,lst_len hl,go_sem]
    refine wp_loop (fun j e M dl=>dl=[]∧∃ k:Nat,j=l.length-k∧k≤l.length∧M=S∧e.get 6=x∧e.get 7 = .i .i64 l.length∧e.get 8 = .i .i64 k∧e.get 3 = .i .u64 (valF (l.take k))) (j:=l.length)
     ⟨rfl,0,rfl,Nat.zero_le _,rfl,rfl,rfl,rfl,rfl⟩ ?_
    rintro j e M d' ⟨rfl,k,rfl,hk,rfl,e6,e7,e8,e3⟩
    refine W_sound none_ok mixed _ _ _ _ _ ?_
    by_cases hkl:k<l.length
    ·obtain ⟨bi,o,v,cap,ex,rfl⟩:=lst_sl hl hkl
     have hc:=lstV_cell hl rfl (fun a=>rfl) hkl []
     rw [List.append_nil] at hc
     have hkI:(k:Int)<l.length:=by omega
     have hk6:k<1000000:=by omega
     have hs:valF (l.take (k+1))=orq (wrapV .u64 (valF (l.take k) * 256)) (wrapV .u64 l[k]):=by
      unfold valF;rw [List.take_succ_eq_append_getElem hkl,List.foldl_append];rfl
     simp (maxSteps:=1000000) (disch:=omega) only [c85l0,e6,e7,e8,e3,hkI,Int.toNat_natCast,Nat.mul_one,hc,bin_orq,shl_8q,wrapS hk6,go_sem]
     exact ⟨l.length-(k+1),by omega,k+1,rfl,hkl,rfl,by rw [hs]⟩
    ·have hkI:¬ (k:Int)<l.length:=by omega
     rw [List.take_of_length_le (by omega)] at e3
     simp (maxSteps:=1000000) (disch:=omega) only [c85l0,e6,e7,e8,e3,hkI,go_sem]
     exact wkv_same
   ·cases h
  ·cases h
 ·cases h
def frameB (seq epoch:Int) (p:List Int):List Int:=sealF (numF (p.length:Int) 2++numF seq 8++numF (wrapV .u64 epoch) 4++p)
theorem frameB_len (seq epoch:Int) (p:List Int):(frameB seq epoch p).length=p.length+18:=by
 unfold frameB sealF
 simp only [List.length_append,num_len,tail_len];omega
def padF (b:List Int) (n:Nat):List Int:=b++List.replicate (n-b.length) 0
def makeS:Spec:=fun args S=>match args with
 | [.ag [.i .u64 seq,.i .u32 epoch,px]]=>match lstV byteE S px with
  | some p=>if p.length≤700000∧px.one=true then
    (if sizeF p.length=0∨seq=0 then some (.tu [.sn,.i .i64 81],S)
     else some (.tu [.sl S.length 0 0 (sizeF p.length).toNat (sizeF p.length).toNat true,.i .i64 0],S++[.cells ((padF (frameB seq epoch p) ((sizeF p.length).toNat * 64)).map byV) 0 none true])) else none
  | none=>none
 | _=>none
theorem one_of_acc {z:Bool} {S M:Mem} {x:AV} {l:List Int} (h:Acc z byteE S M x l):x.one=true:=by
 obtain ⟨T,rfl,⟨_,_,rfl⟩ | ⟨_,_,p,rfl,_⟩ | ⟨_,p,v,rfl,_⟩⟩:=h <;> rfl
theorem pad_len {b:List Int} {n:Nat} (h:b.length≤n):(padF b n).length=n:=by unfold padF;rw [List.length_append,List.length_replicate];omega
theorem pad_step {b:List Int} {k many:Nat} (hk:k<many):splice ((padF (b.take (k * 64)) (many * 64)).map byV) (k * 64) (((b.drop (k * 64)).take 64).map byV)=(padF (b.take ((k+1) * 64)) (many * 64)).map byV:=by
 have hsp:∀ (cs ys:List Int) (o:Nat),splice (cs.map byV) o (ys.map byV)=(cs.take o++(ys++cs.drop (o+ys.length))).map byV:=fun cs ys o=>by
  unfold splice
  simp only [List.map_append,List.map_take,List.map_drop,List.length_map]
 rw [hsp]
 congr 1
 have h1:b.take ((k+1) * 64)=b.take (k * 64)++(b.drop (k * 64)).take 64:=by
  rw [show (k+1) * 64=k * 64+64 by omega,List.take_add]
 unfold padF
 rw [h1]
 by_cases hb:b.length≤k * 64
 ·have hd:b.drop (k * 64)=[]:=List.drop_of_length_le hb
  have ht:b.take (k * 64)=b:=List.take_of_length_le hb
  rw [hd,ht]
  simp only [List.take_nil,List.append_nil,List.nil_append,List.length_nil,Nat.add_zero,List.take_append_drop]
 ·have htl:(b.take (k * 64)).length=k * 64:=by rw [List.length_take];omega
  have hdl:((b.drop (k * 64)).take 64).length=min 64 (b.length-k * 64):=by rw [List.length_take,List.length_drop]
  rw [List.take_append_of_le_length (by omega),List.take_of_length_le (by omega),List.drop_append,List.drop_of_length_le (by omega:(b.take (k * 64)).length≤_),List.nil_append,htl,List.drop_replicate,List.length_append,htl,List.append_assoc]
  congr 2
  congr 1;omega
theorem take_min (D:List Int):D.take (Nat.min D.length 64)=D.take 64:=by
 by_cases h:64≤D.length
 ·rw [show Nat.min D.length 64=64 from Nat.min_eq_right h]
 ·rw [show Nat.min D.length 64=D.length from Nat.min_eq_left (by omega),List.take_of_length_le (Nat.le_refl _),List.take_of_length_le (by omega)]
theorem oMk_ok:OK Tryz.prog (lamOf Tryz.prog) (orcOf [(57,fSizeS),(59,numberS),(55,catS),(58,sealS)]):=orc_ok (by simpa using ⟨fsize_ok,number_ok,cat_ok,seal_ok⟩)
set_option maxHeartbeats 1000000 in
theorem make_ok:SpecOK Tryz.prog 28 makeS:=by
 intro args S x S' h
 simp only [makeS] at h
 split at h
 ·rename_i seq epoch px
  split at h
  ·rename_i p hp
   split at h
   ·rename_i hc
    obtain ⟨hlim,hone⟩:=hc
    have hcp:AV.cells px=some [px]:=by cases px <;> first | rfl | cases hone
    have hlp:=lst_len hp
    refine fn_of_wp f28 rfl (W_sound oMk_ok mixed _ _ _ _ _ ?_)
    split at h
    ·rename_i hbad
     cases h
     by_cases h0:sizeF p.length=0
     ·simp (maxSteps:=1000000) (disch:=omega) only [c28,hlp,orc_cons,fSizeS,h0,go_sem]
      exact wkv_drop rfl
     ·have hs0:seq=0:=hbad.resolve_left h0
      simp (maxSteps:=1000000) (disch:=omega) only [c28,hlp,orc_cons,fSizeS,h0,hs0,go_sem]
      exact wkv_drop rfl
    ·rename_i hgood
     rw [not_or] at hgood
     obtain ⟨h0,hs0⟩:=hgood
     cases h
     have hp7:p.length≤700:=by
      unfold sizeF at h0
      split at h0
      ·exact absurd rfl h0
      ·omega
     obtain ⟨m,hm⟩:∃ m:Nat,sizeF p.length=(m:Int):=⟨((p.length:Int)+81).toNat / 64,by unfold sizeF;rw [if_neg (by omega)];omega⟩
     have hm64:p.length+18≤m * 64∧m≤12:=by
      unfold sizeF at hm
      rw [if_neg (by omega)] at hm
      omega
     rw [hm,Int.toNat_natCast]
     have hm0:¬ (m:Int)=0:=by rw [hm] at h0;exact h0
     have hnum:∀ (L:Mem) (a:Int) (k:Nat),k≤8→numberS [.i .u64 a,.i .i64 (k:Int)] (S++L)=some (.sl (S++L).length 0 0 k k true,S++L++[.cells ((numF a k).map byV) 0 none true]):=fun L a k hk=>by
      simp only [numberS]
      rw [if_pos ⟨by omega,by omega⟩,Int.toNat_natCast]
     obtain ⟨box,hbox⟩:∃ box:Blk,box = .cells [.i .u64 seq,.i .u32 epoch,px] 0 none true:=⟨_,rfl⟩
     have hn1:=hnum [box] (p.length:Int) 2 (by omega)
     rw [List.length_append,List.append_assoc,List.cons_append,List.nil_append] at hn1
     obtain ⟨b1,hb1⟩:∃ b1:Blk,b1 = .cells ((numF (p.length:Int) 2).map byV) 0 none true:=⟨_,rfl⟩
     rw [←hb1] at hn1
     have hn2:=hnum [box,b1] seq 8 (by omega)
     rw [List.length_append,List.append_assoc,List.cons_append,List.cons_append,List.nil_append] at hn2
     obtain ⟨b2,hb2⟩:∃ b2:Blk,b2 = .cells ((numF seq 8).map byV) 0 none true:=⟨_,rfl⟩
     rw [←hb2] at hn2
     have hn3:=hnum [box,b1,b2] (wrapV .u64 epoch) 4 (by omega)
     rw [List.length_append,List.append_assoc,List.cons_append,List.cons_append,List.cons_append,List.nil_append] at hn3
     obtain ⟨b3,hb3⟩:∃ b3:Blk,b3 = .cells ((numF (wrapV .u64 epoch) 4).map byV) 0 none true:=⟨_,rfl⟩
     rw [←hb3] at hn3
     obtain ⟨B14,hB14⟩:∃ B14,B14=numF (p.length:Int) 2++numF seq 8++numF (wrapV .u64 epoch) 4++p:=⟨_,rfl⟩
     obtain ⟨Sc,hSc⟩:∃ Sc,Sc=S++[box,b1,b2,b3,.cells [.sl (S.length+1) 0 0 2 2 true,.sl (S.length+2) 0 0 8 8 true,.sl (S.length+3) 0 0 4 4 true,px] 0 none true]:=⟨_,rfl⟩
     have hca:catS [.sl (S.length+4) 0 0 4 4 true] Sc=some (retX false Sc B14,retM false byteE Sc B14):=by
      have e4:Sc[S.length+4]? = some (.cells [.sl (S.length+1) 0 0 2 2 true,.sl (S.length+2) 0 0 8 8 true,.sl (S.length+3) 0 0 4 4 true,px] 0 none true):=by rw [hSc];simp
      have e1:Sc[S.length+1]? = some b1:=by rw [hSc];simp
      have e2:Sc[S.length+2]? = some b2:=by rw [hSc];simp
      have e3:Sc[S.length+3]? = some b3:=by rw [hSc];simp
      rw [hb1] at e1;rw [hb2] at e2;rw [hb3] at e3
      have l1:=lit_lst e1
      have l2:=lit_lst e2
      have l3:=lit_lst e3
      rw [num_len] at l1 l2 l3
      have l4:lstV byteE Sc px=some p:=by rw [hSc];exact lstV_grow hp _
      simp only [catS,e4,partsV,l1,l2,l3,l4]
      have hfl:[numF (p.length:Int) 2,numF seq 8,numF (wrapV .u64 epoch) 4,p].flatten=B14:=by rw [hB14];simp
      rw [hfl]
      have hlen:B14.length≤900000:=by rw [hB14];simp only [List.length_append,num_len];omega
      rw [if_pos ⟨rfl,by omega,hlen⟩]
     have hA1:=(retX_acc (z:=false) (E:=byteE) (S:=Sc) (l:=B14)).base (show S <+: Sc by rw [hSc];exact ext_app _)
     generalize retX false Sc B14=X1 at hca hA1
     generalize retM false byteE Sc B14=M1 at hca hA1
     have hse:sealS [X1] M1=some (retX false M1 (sealF B14),retM false byteE M1 (sealF B14)):=by
      simp only [sealS,hA1.lst]
      rw [if_pos ⟨by rw [hB14];simp only [List.length_append,num_len];omega,one_of_acc hA1⟩]
     have hA2:=(retX_acc (z:=false) (E:=byteE) (S:=M1) (l:=sealF B14)).base hA1.ext
     generalize retX false M1 (sealF B14)=X2 at hse hA2
     generalize retM false byteE M1 (sealF B14)=M2 at hse hA2
     have hfb:sealF B14=frameB seq epoch p:=by rw [hB14];rfl
     rw [hfb] at hA2
     have hfl:=frameB_len seq epoch p
     generalize frameB seq epoch p=b at hA2 hfl
     have hSM2:=hA2.ext
     have hq1:64 * m≤140737488355328:=by omega
     have hq2:m≤140737488355328:=by omega
     have hzm:zerosV zSec.enc m=(padF (b.take (0 * 64)) (m * 64)).map byV:=by
      rw [zeros_flat]
      have h1:(List.replicate m zSec).flatMap secE.enc=List.replicate (m * 64) (byV 0):=by
       rw [←zeros_flat]
       rw [List.eq_replicate_iff]
       unfold zerosV
       refine ⟨by rw [List.length_map,List.length_range];rfl,fun x hx=>?_⟩
       obtain ⟨k,_,rfl⟩:=List.mem_map.1 hx
       have hk:k % zSec.enc.length<64:=Nat.mod_lt _ (by decide)
       rw [zSec_rep] at hk ⊢
       rw [List.getD_eq_getElem?_getD,List.getElem?_replicate,if_pos hk];rfl
      rw [h1];unfold padF;simp
     rw [zSec_enc] at hzm
     rw [hSc] at hca
     have hn1:numberS [.i .u64 (p.length:Int),.i .i64 2] (S++[box])=some (.sl (S.length+1) 0 0 2 2 true,S++[box,b1]):=hn1
     have hn2:numberS [.i .u64 seq,.i .i64 8] (S++[box,b1])=some (.sl (S.length+2) 0 0 8 8 true,S++[box,b1,b2]):=hn2
     have hn3:numberS [.i .u64 (wrapV .u64 epoch),.i .i64 4] (S++[box,b1,b2])=some (.sl (S.length+3) 0 0 4 4 true,S++[box,b1,b2,b3]):=hn3
     rw [hbox] at hn1 hn2 hn3 hca
     simp (maxSteps:=1000000) (disch:=omega) only [c28,hlp,orc_cons,fSizeS,hm,hm0,hs0,hcp,hone,List.replicate,hn1,hn2,hn3,hca,hse,natV_nat,Nat.le_refl,hq1,hq2,hzm,go_sem]
     have hpad0:padF [] (m * 64)=padF (b.take (0 * 64)) (m * 64):=by simp
     rw [hpad0]
     refine wp_loop (fun j e M dl=>dl=[]∧∃ k:Nat,j=m-k∧k≤m∧M=M2++[.cells ((padF (b.take (k * 64)) (m * 64)).map byV) 0 none true]∧e.get 6 = .sl M2.length 0 0 m m true∧e.get 5=X2∧e.get 39 = .i .i64 m∧e.get 40 = .i .i64 k) (j:=m)
      ⟨rfl,0,rfl,Nat.zero_le _,rfl,rfl,rfl,rfl,rfl⟩ ?_
     clear hca hse hn1 hn2 hn3 hzm hA1
     rintro j e M d' ⟨rfl,k,rfl,hk,rfl,e6,e5,e39,e40⟩
     refine W_sound oMk_ok mixed _ _ _ _ _ ?_
     by_cases hkm:k<m
     ·have hkb:k * 64≤b.length:=by
       unfold sizeF at hm
       rw [if_neg (by omega)] at hm
       omega
      have hbne:b≠[]:=by
       intro q;rw [q] at hfl;simp at hfl
      have hoq:openQ M2 1 X2=true:=openS_Q (hA2.opens hbne)
      have hkI:(k:Int)<m:=by omega
      have hk6:k<1000000:=by omega
      obtain ⟨i0,o0,v0,cap0,ex0,hX2⟩:=lst_sl hA2.lst (show 0<b.length by omega)
      obtain ⟨x',hs1,hx',_⟩:=drop_lst hA2.lst hoq (q:=.i64) (a:=k * 64) hkb
      rw [hX2] at hs1
      have hs1:=fun L=>slice_grow (L:=L) hs1
      rw [←hX2] at hs1
      have hs1:∀ L,sliceV (M2++L) 1 X2 (some (.i .i64 ((k * 64:Nat):Int))) none none=some x':=hs1
      have hw:wrapV .i64 ((k:Int) * 64)=((k * 64:Nat):Int):=by rw [wrap_i64 (by omega) (by omega)];omega
      have hsla:slaV 64 1 (.p M2.length (k * 64) 0) none none none=some (.sl M2.length (k * 64) 0 64 64 true):=by
       have hb0:bnds 64 64 none none none=some (0,64,64):=by rfl
       simp only [slaV,hb0];unfold cutAt;rw [if_neg (by omega)];simp
      have hcopy:copyV (M2++[.cells ((padF (b.take (k * 64)) (m * 64)).map byV) 0 none true]) 1 (.sl M2.length (k * 64) 0 64 64 true) x'=some (Nat.min (b.drop (k * 64)).length 64,M2++[.cells ((padF (b.take ((k+1) * 64)) (m * 64)).map byV) 0 none true]):=by
       have hsrc:=src_lst (lstV_grow hx' [.cells ((padF (b.take (k * 64)) (m * 64)).map byV) 0 none true])
       have hsrc:srcV (M2++[.cells ((padF (b.take (k * 64)) (m * 64)).map byV) 0 none true]) 1 x'=some ((b.drop (k * 64)).flatMap byteE.enc,(b.drop (k * 64)).length):=hsrc
       have hB:(M2++[Blk.cells ((padF (b.take (k * 64)) (m * 64)).map byV) 0 none true])[M2.length]? = some (.cells ((padF (b.take (k * 64)) (m * 64)).map byV) 0 none true):=by simp
       have hpl:(padF (b.take (k * 64)) (m * 64)).length=m * 64:=pad_len (by rw [List.length_take];omega)
       simp only [copyV,hsrc,hB]
       have htk:((b.drop (k * 64)).flatMap byteE.enc).take (Nat.min (b.drop (k * 64)).length 64 * 1)=((b.drop (k * 64)).take 64).map byV:=by
        rw [enc_by,Nat.mul_one,←List.map_take]
        exact congrArg (List.map byV) (take_min _)
       have hle:k * 64+Nat.min (b.drop (k * 64)).length 64 * 1≤((padF (b.take (k * 64)) (m * 64)).map byV).length:=by
        rw [List.length_map,hpl]
        have:Nat.min (b.drop (k * 64)).length 64≤64:=Nat.min_le_right _ _
        omega
       rw [htk,pad_step hkm,if_pos ⟨trivial,hle,by_one _⟩,set_app0]
       rfl
      simp (maxSteps:=1000000) (disch:=omega) only [c28l2,e6,e5,e39,e40,hkI,Int.toNat_natCast,Nat.zero_add,hsla,hw,hs1,hcopy,wrapS hk6,go_sem]
      exact ⟨m-(k+1),by omega,k+1,rfl,hkm,rfl,rfl⟩
     ·have hkI:¬ (k:Int)<m:=by omega
      obtain rfl:k=m:=by omega
      have htk:b.take (k * 64)=b:=List.take_of_length_le (by omega)
      rw [htk]
      simp (maxSteps:=1000000) (disch:=omega) only [c28l2,e6,e5,e39,e40,hkI,go_sem]
      obtain ⟨q,hq⟩:∃ q,M2.length=S.length+q:=⟨M2.length-S.length,by have:=hSM2.length_le;omega⟩
      rw [hq]
      exact lit_ret2 (ext_more hSM2 _) (by rw [←hq];simp) (fun c hc=>by obtain ⟨z,_,rfl⟩:=List.mem_map.1 hc;exact fun g=>ren_i) (fun g=>ren_i)
   ·cases h
  ·cases h
 ·cases h
def notZ (c:Int):Bool:=decide (c≠0)
def notZS:Spec:=fun args S=>match args with
 | [.i .u8 c]=>some (.b (notZ c),S)
 | _=>none
theorem notZ_ok:SpecOK Tryz.prog 88 notZS:=by
 intro args S x S' h
 simp only [notZS] at h
 split at h
 ·rename_i c
  cases h
  refine fn_of_wp f88 rfl (W_sound none_ok mixed _ _ _ _ _ ?_)
  simp (maxSteps:=1000000) (disch:=omega) only [c88,go_sem]
  unfold notZ
  first | exact wkv_same | simpa using wkv_same
 ·cases h
def idxB (l:List Int):Int:=match l.findIdx? notZ with
 | some k=>k
 | none=>-1
def idxBS:Spec:=fun args S=>match args with
 | [x,.f (.func f) [] []]=>match lstV byteE S x with
  | some l=>if f=88∧l.length≤900000 then some (.i .i64 (idxB l),S) else none
  | none=>none
 | _=>none
theorem oIdx_ok:OK Tryz.prog (lamOf Tryz.prog) (orcOf [(88,notZS)]):=orc_ok (by simpa using notZ_ok)
theorem idxB_ok:SpecOK Tryz.prog 108 idxBS:=by
 intro args S x S' h
 simp only [idxBS] at h
 split at h
 ·rename_i s f
  split at h
  ·rename_i l hl
   split at h
   ·rename_i hc
    obtain ⟨rfl,hlim⟩:=hc
    cases h
    refine fn_of_wp f108 rfl (W_sound oIdx_ok mixed _ _ _ _ _ ?_)
    simp (maxSteps:=1000000) (disch:=omega) only [c108,lst_len hl,go_sem]
    refine wp_loop (fun j e M dl=>dl=[]∧∃ k:Nat,j=l.length-k∧k≤l.length∧M=S∧(∀ i (hi:i<k) (h1:i<l.length),notZ l[i]=false) ∧
     e.get 0=s∧e.get 1 = .f (.func 88) [] []∧e.get 7 = .i .i64 l.length∧e.get 8 = .i .i64 k) (j:=l.length) ⟨rfl,0,rfl,Nat.zero_le _,rfl,fun i hi=>absurd hi (Nat.not_lt_zero _),rfl,rfl,rfl,rfl⟩ ?_
    rintro j e M d' ⟨rfl,k,rfl,hk,rfl,hn,h0,h1,h7,h8⟩
    refine W_sound oIdx_ok mixed _ _ _ _ _ ?_
    by_cases hkl:k<l.length
    ·obtain ⟨bi,o,v,cap,ex,rfl⟩:=lst_sl hl hkl
     have hkI:(k:Int)<l.length:=by omega
     have hk6:k<1000000:=by omega
     have ha:=lstV_cell hl rfl (fun a=>rfl) hkl []
     rw [List.append_nil] at ha
     cases hz:notZ l[k] with
     | true =>
      have hix:idxB l=(k:Int):=by
       have:l.findIdx? notZ=some k:=List.findIdx?_eq_some_iff_getElem.2 ⟨hkl,hz,fun j hj=>by rw [hn j hj (by omega)];simp⟩
       unfold idxB;rw [this]
      rw [hix]
      simp (maxSteps:=1000000) (disch:=omega) only [c108l0,h0,h1,h7,h8,hkI,Int.toNat_natCast,Nat.mul_one,ha,orc_cons,notZS,hz,go_sem]
      exact wkv_same
     | false =>
      simp (maxSteps:=1000000) (disch:=omega) only [c108l0,h0,h1,h7,h8,hkI,Int.toNat_natCast,Nat.mul_one,ha,orc_cons,notZS,hz,wrapS hk6,go_sem]
      refine ⟨l.length-(k+1),by omega,k+1,rfl,hkl,fun i hi h1=>?_,rfl⟩
      by_cases hik:i=k
      ·subst hik;exact hz
      ·exact hn i (by omega) h1
    ·have hkI:¬ (k:Int)<l.length:=by omega
     have hix:idxB l = -1:=by
      have:l.findIdx? notZ=none:=List.findIdx?_eq_none_iff.2 fun x hx=>by
       obtain ⟨i,hi,rfl⟩:=List.mem_iff_getElem.1 hx
       exact hn i (by omega) hi
      unfold idxB;rw [this]
     rw [hix]
     simp (maxSteps:=1000000) (disch:=omega) only [c108l0,h0,h1,h7,h8,hkI,go_sem]
     exact wkv_same
   ·cases h
  ·cases h
 ·cases h
def hasBS:Spec:=fun args S=>match args with
 | [x,.f (.func f) [] []]=>match lstV byteE S x with
  | some l=>if f=88∧l.length≤900000 then some (.b (l.any notZ),S) else none
  | none=>none
 | _=>none
theorem oHasB_ok:OK Tryz.prog (lamOf Tryz.prog) (orcOf [(108,idxBS)]):=orc_ok (by simpa using idxB_ok)
theorem hasB_ok:SpecOK Tryz.prog 87 hasBS:=by
 intro args S x S' h
 simp only [hasBS] at h
 split at h
 ·rename_i s f
  split at h
  ·rename_i l hl
   split at h
   ·rename_i hc
    obtain ⟨rfl,hlim⟩:=hc
    cases h
    have hi:idxBS [s,.f (.func 88) [] []] S=some (.i .i64 (idxB l),S):=by
     simp only [idxBS,hl];rw [if_pos ⟨trivial,hlim⟩]
    refine fn_of_wp f87 rfl (W_sound oHasB_ok mixed _ _ _ _ _ ?_)
    cases hz:l.any notZ with
    | true =>
     have hge:idxB l≥0:=by
      unfold idxB
      cases hf:l.findIdx? notZ with
      | some k=>simp only [];omega
      | none =>
       rw [List.findIdx?_eq_none_iff] at hf
       rw [List.any_eq_true] at hz
       obtain ⟨x,hx,hx2⟩:=hz
       rw [hf x hx] at hx2;cases hx2
     simp (maxSteps:=1000000) (disch:=omega) only [c87,orc_cons,hi,hge,go_sem]
     first | exact wkv_same | exact wkv_tP ext_refl hge
    | false =>
     have hlt:¬ idxB l≥0:=by
      unfold idxB
      cases hf:l.findIdx? notZ with
      | some k =>
       obtain ⟨h1,h2,_⟩:=List.findIdx?_eq_some_iff_getElem.1 hf
       rw [List.any_eq_false] at hz
       exact absurd h2 (hz _ (List.getElem_mem h1))
      | none=>simp
     simp (maxSteps:=1000000) (disch:=omega) only [c87,orc_cons,hi,hlt,go_sem]
     first | exact wkv_same | exact wkv_fP ext_refl hlt
   ·cases h
  ·cases h
 ·cases h
def bytesOf (L:List Sec):List Int:=L.flatMap Sec.b
structure Rec where
 seq:Int
 epoch:Int
 body:List Int
 many:Nat
def Rec.pay (r:Rec):List Int:=r.body.drop 14
def openL (L:List Sec) (size:Int) (m:Nat):Option Rec :=
 match unsealF ((bytesOf (L.take m)).take (size+18).toNat) with
 | none=>none
 | some body=>if ((bytesOf (L.take m)).drop (size+18).toNat).any notZ=true then none
  else if valF ((body.drop 2).take 8)=0 then none else some ⟨valF ((body.drop 2).take 8),wrapV .u32 (valF ((body.drop 10).take 4)),body,m⟩
def openF:List Sec→Option Rec
 | []=>none
 | s :: L=>if sizeF (wrapV .i64 (valF (s.b.take 2)))=0∨((s :: L).length:Int)<sizeF (wrapV .i64 (valF (s.b.take 2))) then none else openL (s :: L) (wrapV .i64 (valF (s.b.take 2))) (sizeF (wrapV .i64 (valF (s.b.take 2)))).toNat
def payX (n:Nat) (l:List Int):AV:=if l.length=14 then .se else .sl n 14 0 (l.length-14) (l.length-14) false
def noRec:AV:=.tu [.ag [.i .u64 0,.i .u32 0,.sn],.i .i64 0,.b false]
def recX (S:Mem):Option Rec→AV × Mem
 | none=>(noRec,S)
 | some r=>(.tu [.ag [.i .u64 r.seq,.i .u32 r.epoch,payX S.length r.body],.i .i64 r.many,.b true],S++[.cells (r.body.map byV) 0 (some 1) true])
def fOpenS:Spec:=fun args S=>match args with
 | [x]=>match lstV secE S x with
  | some L=>if L.length≤2000∧openQ S 64 x=true then some (recX S (openF L)) else none
  | none=>none
 | _=>none
theorem enc_secs (L:List Sec):L.flatMap secE.enc=(bytesOf L).map byV:=by
 unfold bytesOf
 rw [List.map_flatMap];rfl
theorem secs_len (L:List Sec):(bytesOf L).length=L.length * 64:=by
 have:=enc_length (E:=secE) L
 rw [enc_secs,List.length_map] at this
 exact this
theorem unseal_len {l m:List Int} (h:unsealF l=some m):m=l.take (l.length-4)∧4≤l.length:=by
 unfold unsealF at h
 split at h
 ·rename_i hc;cases h;exact ⟨rfl,hc.1⟩
 ·cases h
theorem oFo_ok:OK Tryz.prog (lamOf Tryz.prog) (orcOf [(85,valS),(57,fSizeS),(86,cOpenS),(87,hasBS)]):=orc_ok (by simpa using ⟨val_ok,fsize_ok,copen_ok,hasB_ok⟩)
theorem val_eq {S:Mem} {x:AV} {l:List Int} (h:lstV byteE S x=some l) (hn:l.length≤900000):valS [x] S=some (.i .u64 (valF l),S):=by
 simp only [valS,h];rw [if_pos hn]
theorem rec_ret {S M:Mem} {p o len cap:Nat} {a b c d:AV} {cs:List AV} {op:Option Nat} {ex:Bool} (hS:S <+: M) (hB:M[S.length+p]? = some (.cells cs 0 op true)) (hF:∀ c∈cs,AV.Flat S.length c)
  (ha:AV.Flat S.length a) (hb:AV.Flat S.length b) (hc:AV.Flat S.length c) (hd:AV.Flat S.length d) :
  WkV S (.tu [.ag [a,b,.sl S.length o 0 len cap ex],c,d]) (S++[.cells cs 0 op true]) (.tu [.ag [a,b,.sl (S.length+p) o 0 len cap ex],c,d]) M:=by
 obtain ⟨T,rfl⟩:=hS
 rw [at_app] at hB
 have h1:[p].all (fun k=>match T[k]? with | some B=>B.plain | none=>false)=true:=by simp [hB,Blk.plain]
 have:=wkv_keep (S0:=S) (L:=T) (y:=.tu [.ag [a,b,.sl (S.length+p) o 0 len cap ex],c,d]) [p] h1 (by simp)
 have hk:keepB S.length T [p]=[.cells cs 0 op true]:=by
  simp only [keepB_eq,List.map_cons,List.map_nil]
  rw [show T.getD p (.dfr false) = .cells cs 0 op true by rw [List.getD_eq_getElem?_getD,hB];rfl]
  simp only [renB_cells,renL_eq]
  congr 2
  exact (List.map_congr_left (g:=id) fun c hc=>hF _ hc _).trans (List.map_id _)
 have hr:ren S.length (gKeep S.length T [p]) (.sl (S.length+p) o 0 len cap ex) = .sl S.length o 0 len cap ex:=by
  rw [ren_sl,gKeep_at,hB]
  simp only [List.findIdx?_cons,beq_self_eq_true,if_true,gQ_some,ver_cells,renS_some,Nat.add_zero]
 rw [hk,ren_tu,renL_cons,renL_cons,renL_cons,renL_nil,ren_ag,renL_cons,renL_cons,renL_cons,renL_nil,hr,ha,hb,hc,hd] at this
 exact this
theorem rec_rete {S M:Mem} {p:Nat} {a b c d:AV} {cs:List AV} {op:Option Nat} (hS:S <+: M) (hB:M[S.length+p]? = some (.cells cs 0 op true)) (hF:∀ c∈cs,AV.Flat S.length c)
  (ha:AV.Flat S.length a) (hb:AV.Flat S.length b) (hc:AV.Flat S.length c) (hd:AV.Flat S.length d) :
  WkV S (.tu [.ag [a,b,.se],c,d]) (S++[.cells cs 0 op true]) (.tu [.ag [a,b,.se],c,d]) M:=by
 obtain ⟨T,rfl⟩:=hS
 rw [at_app] at hB
 have h1:[p].all (fun k=>match T[k]? with | some B=>B.plain | none=>false)=true:=by simp [hB,Blk.plain]
 have:=wkv_keep (S0:=S) (L:=T) (y:=.tu [.ag [a,b,.se],c,d]) [p] h1 (by simp)
 have hk:keepB S.length T [p]=[.cells cs 0 op true]:=by
  simp only [keepB_eq,List.map_cons,List.map_nil]
  rw [show T.getD p (.dfr false) = .cells cs 0 op true by rw [List.getD_eq_getElem?_getD,hB];rfl]
  simp only [renB_cells,renL_eq]
  congr 2
  exact (List.map_congr_left (g:=id) fun c hc=>hF _ hc _).trans (List.map_id _)
 have hr:ren S.length (gKeep S.length T [p]) .se = .se:=ren_se
 rw [hk,ren_tu,renL_cons,renL_cons,renL_cons,renL_nil,ren_ag,renL_cons,renL_cons,renL_cons,renL_nil,hr,ha,hb,hc,hd] at this
 exact this
set_option maxHeartbeats 2000000 in
theorem fopen_ok:SpecOK Tryz.prog 63 fOpenS:=by
 intro args S x S' h
 simp only [fOpenS] at h
 split at h
 ·rename_i y
  split at h
  ·rename_i L hL
   split at h
   ·rename_i hc
    obtain ⟨hlim,hoq⟩:=hc
    injection h with h
    obtain ⟨hx,hS⟩:=Prod.mk.inj h
    subst hx;subst hS
    clear h
    refine fn_of_wp f63 rfl (W_sound oFo_ok mixed _ _ _ _ _ ?_)
    cases L with
    | nil =>
     have hl0:=lst_len hL
     simp (maxSteps:=1000000) (disch:=omega) only [c63,hl0,go_sem]
     exact wkv_drop rfl
    | cons s L =>
     obtain ⟨LL,hLL⟩:∃ LL,LL=s :: L:=⟨_,rfl⟩
     rw [←hLL] at hL hlim
     have hLp:0<LL.length:=by rw [hLL];simp
     have hL0:LL[0]=s:=by simp [hLL]
     obtain ⟨bi,o,v,cap,ex,rfl⟩:=lst_sl hL hLp
     have hl0I:¬ ((LL.length:Int)=0):=by omega
     have h0I:(0:Int)<LL.length:=by omega
     have hr0:=fun U=>lstV_row hL hLp U
     have hr0:∀ U,rowB ((S++U)[bi]?) (o+0 * 64) v 64=some (LL[0]).enc:=hr0
     rw [hL0] at hr0
     simp only [Nat.zero_mul,Nat.add_zero] at hr0
     have hsla:slaV 64 1 (.p bi o v) none (some (.i .i64 2)) none=some (.sl bi o v 2 64 true):=by
      have hb0:bnds 64 64 none (some (.i .i64 2)) none=some (0,2,64):=by rfl
      simp only [slaV,hb0];unfold cutAt;rw [if_neg (by omega)];simp
     have hl2:∀ U,lstV byteE (S++U) (.sl bi o v 2 64 true)=some (s.b.take 2):=fun U=>by
      have hr:=hr0 U
      have htl:(s.b.take 2).length=2:=by rw [List.length_take,s.len];rfl
      refine lst_lstV (.inr (.inr ⟨bi,o,v,2,64,true,rfl,htl,?_⟩))
      rw [rowAt_B]
      cases hb:(S++U)[bi]? with
      | none=>rw [hb] at hr;simp [rowB] at hr
      | some B =>
       rw [hb] at hr
       cases B with
       | cells cs ver op r =>
        simp only [rowB] at hr ⊢
        split at hr
        ·rename_i hcond
         have hr:=Option.some.inj hr
         rw [if_pos ⟨hcond.1,by show o+2 * 1≤_;omega⟩]
         show some ((cs.drop o).take (2 * 1))=some ((s.b.take 2).flatMap byteE.enc)
         rw [enc_by,List.map_take]
         have:s.b.map byV=s.enc:=rfl
         rw [this,←hr,List.take_take];rfl
        ·cases hr
       | _=>simp [rowB] at hr
     have hv2:=fun U=>val_eq (hl2 U) (by rw [List.length_take,s.len];omega)
     obtain ⟨size,hsize⟩:∃ size,size=wrapV .i64 (valF (s.b.take 2)):=⟨_,rfl⟩
     have hopen:openF (s :: L)=if sizeF size=0∨(LL.length:Int)<sizeF size then none else openL LL size (sizeF size).toNat:=by rw [hsize,hLL];rfl
     rw [hopen]
     by_cases hz:sizeF size=0
     ·rw [if_pos (.inl hz)]
      simp (maxSteps:=1000000) (disch:=omega) only [c63,hl0I,h0I,iaddr_sl_i,Int.toNat_natCast,Nat.zero_mul,Nat.add_zero,hsla,orc_cons,hv2,←hsize,fSizeS,hz,go_sem]
      exact wkv_drop rfl
     ·have hsz:0≤size∧size≤700:=by
       unfold sizeF at hz
       split at hz
       ·exact absurd rfl hz
       ·omega
      obtain ⟨sz,rfl⟩:=Int.eq_ofNat_of_zero_le hsz.1
      obtain ⟨m,hm⟩:∃ m:Nat,sizeF sz=(m:Int):=⟨(sz+81) / 64,by unfold sizeF;rw [if_neg (by omega)];omega⟩
      have hm64:sz+18≤m * 64∧m≤12∧0<m:=by
       unfold sizeF at hm
       rw [if_neg (by omega)] at hm
       omega
      rw [hm,Int.toNat_natCast]
      have hm0:¬ (m:Int)=0:=by omega
      by_cases hml:(LL.length:Int)<m
      ·rw [if_pos (.inr hml)]
       simp (maxSteps:=1000000) (disch:=omega) only [c63,hl0I,h0I,iaddr_sl_i,Int.toNat_natCast,Nat.zero_mul,Nat.add_zero,hsla,orc_cons,hv2,←hsize,fSizeS,hm,hm0,hml,go_sem]
       exact wkv_drop rfl
      ·rw [if_neg (not_or.2 ⟨hm0,hml⟩)]
       obtain ⟨x37,hs37,hx37,_⟩:=take_lst hL hoq (q:=.i64) (b:=m) (by omega)
       have hs37:=fun U=>slice_grow (L:=U) hs37
       have hs37:∀ U,sliceV (S++U) 64 (.sl bi o v LL.length cap ex) none (some (.i .i64 (m:Int))) none=some x37:=hs37
       have hlm:(LL.take m).length=m:=by rw [List.length_take];omega
       have hlen37:=lst_len hx37
       rw [hlm] at hlen37
       simp (maxSteps:=1000000) (disch:=omega) only [c63,hl0I,h0I,iaddr_sl_i,Int.toNat_natCast,Nat.zero_mul,Nat.add_zero,hsla,orc_cons,hv2,←hsize,fSizeS,hm,hm0,hml,hs37,hlen37,go_sem]
       obtain ⟨Sf,hSf⟩:∃ Sf,Sf=S++[Blk.cells [.i .u64 0,.i .u32 0,.sn] 0 none true]:=⟨_,rfl⟩
       rw [←hSf]
       generalize hLm:LL.take m=Lm at hx37 hlm
       refine wp_loop (fun j e M dl=>dl=[]∧∃ (k:Nat) (y:AV),j=m-k∧k≤m∧Acc false byteE Sf M y (bytesOf (Lm.take k))∧e.get 37=x37∧e.get 2 = .p S.length 0 0∧e.get 6 = .i .i64 m∧e.get 5 = .i .i64 sz∧e.get 38 = .i .i64 m∧e.get 39 = .i .i64 k∧e.get 7=y) (j:=m)
        ⟨rfl,0,.sn,rfl,Nat.zero_le _,acc_nil ext_refl,rfl,rfl,rfl,rfl,rfl,rfl,rfl⟩ ?_
       rintro j e M d' ⟨rfl,k,y,rfl,hk,hA,e37,e2,e6,e5,e38,e39,e7⟩
       refine W_sound oFo_ok mixed _ _ _ _ _ ?_
       have hSfM:=hA.ext
       have hSM:S <+: M:=(by rw [hSf] at hSfM;exact (ext_app _).trans hSfM)
       by_cases hkm:k<m
       ·have hkl:k<Lm.length:=by omega
        obtain ⟨bj,o2,v2,cap2,ex2,rfl⟩:=lst_sl hx37 hkl
        have hro:=lstV_row (lst_ext hx37 hSM) hkl []
        rw [List.append_nil] at hro
        have hro:rowB (M[bj]?) (o2+k * 64) v2 64=some (Lm[k]).enc:=hro
        have hkI:(k:Int)<m:=by omega
        have hk6:k<1000000:=by omega
        have hbs:bytesOf (Lm.take (k+1))=bytesOf (Lm.take k)++Lm[k].b:=by unfold bytesOf;rw [List.take_succ_eq_append_getElem hkl,List.flatMap_append];simp
        have hbl:(bytesOf (Lm.take k)).length≤k * 64:=by rw [secs_len,List.length_take];omega
        generalize Lm[k]=t at hro hbs
        have hl64:=t.enc_len
        have hone:=t.one
        have htk:=t.take64
        rw [hlm] at e37 hx37
        have hsla2:slaV 64 1 (.p M.length 0 0) none none none=some (.sl M.length 0 0 64 64 true):=by rfl
        have hsrc:srcV (M++[.cells t.enc 0 none true]) 1 (.sl M.length 0 0 64 64 true)=some (t.enc,64):=by
         rw [src_sl,at_app0]
         show srcN 64 (rowB (some (Blk.cells t.enc 0 none true)) 0 0 (64 * 1))=_
         rw [rowB_some,if_pos (by omega),List.drop_zero,Nat.mul_one,htk];rfl
        obtain ⟨y',M',ha,hA'⟩:=(hA.grow [.cells t.enc 0 none true]).apps (bytes:=1) byteE_one t.b (by rw [t.len];omega) (by rw [t.len];omega)
        have ha:appV (M++[.cells t.enc 0 none true]) 1 1 y t.enc 64=some (y',M'):=by
         have h1:t.b.flatMap byteE.enc=t.enc:=enc_by t.b
         rw [h1,t.len] at ha;exact ha
        rw [←hbs] at hA'
        simp (maxSteps:=1000000) (disch:=omega) only [c63l0,e37,e2,e6,e5,e38,e39,e7,hkI,Int.toNat_natCast,hro,List.replicate,hl64,hone,htk,hsla2,hsrc,ha,wrapS hk6,go_sem]
        exact ⟨m-(k+1),by omega,k+1,y',rfl,hkm,hA',by rw [hlm],rfl,rfl⟩
       ·have hkI:¬ (k:Int)<m:=by omega
        obtain rfl:k=m:=by omega
        rw [List.take_of_length_le (by omega)] at hA
        have hopL:openL LL sz k=(match unsealF ((bytesOf Lm).take (sz+18)) with
         | none=>none
         | some body=>if ((bytesOf Lm).drop (sz+18)).any notZ=true then none
          else if valF ((body.drop 2).take 8)=0 then none else some ⟨valF ((body.drop 2).take 8),wrapV .u32 (valF ((body.drop 10).take 4)),body,k⟩):=by
         have h18:((sz:Int)+18).toNat=sz+18:=by omega
         unfold openL
         rw [hLm,h18]
         first | done | (cases unsealF ((bytesOf Lm).take (sz+18)) <;> rfl)
        rw [hopL]
        have hbl:(bytesOf Lm).length=k * 64:=by rw [secs_len,hlm]
        generalize bytesOf Lm=b at hA hbl
        have hbne:b≠[]:=by
         intro q;rw [q] at hbl;simp at hbl;omega
        have hoqy:openQ M 1 y=true:=openS_Q (hA.opens hbne)
        obtain ⟨iy,oy,vy,capy,exy,hy⟩:=lst_sl hA.lst (show 0<b.length by omega)
        obtain ⟨x53,hs53,hx53,hq53⟩:=take_lst hA.lst hoqy (q:=.i64) (b:=sz+18) (by omega)
        obtain ⟨x59,hs59,hx59,hq59⟩:=drop_lst hA.lst hoqy (q:=.i64) (a:=sz+18) (by omega)
        rw [hy] at hs53 hs59
        have hs53':sliceV M 1 (.sl iy oy vy b.length capy exy) none (some (.i .i64 ((sz+18:Nat):Int))) none=some x53:=hs53
        have hs59':=fun U=>slice_grow (L:=U) hs59
        have hs59':∀ U,sliceV (M++U) 1 (.sl iy oy vy b.length capy exy) (some (.i .i64 ((sz+18:Nat):Int))) none none=some x59:=hs59'
        have hs590:=hs59' []
        rw [List.append_nil] at hs590
        have w1:wrapV .i64 (14+(sz:Int))=14+sz:=wrap_i64 (by omega) (by omega)
        have w2:wrapV .i64 (14+(sz:Int)+4)=((sz+18:Nat):Int):=by rw [wrap_i64 (by omega) (by omega)];omega
        have hco:cOpenS [x53] M=some (openX M (unsealF (b.take (sz+18)))):=by
         simp only [cOpenS,hx53]
         rw [if_pos ⟨by rw [List.length_take];omega,hq53⟩]
        have hha:∀ U,hasBS [x59,.f (.func 88) [] []] (M++U)=some (.b ((b.drop (sz+18)).any notZ),M++U):=fun U=>by
         simp only [hasBS,lstV_grow hx59 U]
         rw [if_pos ⟨trivial,by rw [List.length_drop];omega⟩]
        have hha0:=hha []
        rw [List.append_nil] at hha0
        have hMf:M[S.length]? = some (.cells [.i .u64 0,.i .u32 0,.sn] 0 none true):=at_pre hSfM (by rw [hSf];simp)
        have hMf':=fun U=>at_old (L:=U) hMf
        have hMs':∀ (U:Mem) B',(M++U).set S.length B'=M.set S.length B'++U:=fun U B'=>set_old hMf
        have hMs2:∀ B',(M.set S.length B')[S.length]? = some B':=fun B'=>at_set hMf
        have hMs3:∀ B' (U:Mem),(M.set S.length B'++U)[S.length]? = some B':=fun B' U=>at_old (at_set hMf)
        have hSset:∀ B',S <+: M.set S.length B':=fun B'=>ext_set hSM (Nat.le_refl _) B'
        cases hun:unsealF (b.take (sz+18)) with
        | none =>
         rw [hun] at hco
         have hco:cOpenS [x53] M=some (.tu [.sn,.b false],M):=hco
         cases hany:(b.drop (sz+18)).any notZ with
         | true =>
          rw [hany] at hha0
          simp (maxSteps:=1000000) (disch:=omega) only [c63l0,e37,e2,e6,e5,e38,e39,e7,hkI,w1,w2,hy,hs53',hco,hs590,orc_cons,hha0,hMf,hMs2,go_sem]
          exact wkv_dropP (hSset _) rfl
         | false =>
          rw [hany] at hha0
          simp (maxSteps:=1000000) (disch:=omega) only [c63l0,e37,e2,e6,e5,e38,e39,e7,hkI,w1,w2,hy,hs53',hco,hs590,orc_cons,hha0,hMf,hMs2,go_sem]
          exact wkv_dropP (hSset _) rfl
        | some body =>
         obtain ⟨hbody,h4⟩:=unseal_len hun
         have hbol:body.length=sz+14:=by
          rw [hbody]
          simp only [List.length_take];omega
         rw [hun] at hco
         have hrx:retX true M body = .sl M.length 0 0 (sz+14) (sz+14) false∧retM true byteE M body=M++[.cells (body.map byV) 0 (some 1) true]:=by
          cases hb:body with
          | nil=>rw [hb] at hbol;simp at hbol
          | cons a r =>
           rw [hb] at hbol
           rw [←hbol]
           refine ⟨rfl,?_⟩
           show M++[Blk.cells ((a :: r).flatMap byteE.enc) 0 (some 1) true]=_
           rw [enc_by]
         have hco:cOpenS [x53] M=some (.tu [.sl M.length 0 0 (sz+14) (sz+14) false,.b true],M++[.cells (body.map byV) 0 (some 1) true]):=by
          rw [hco]
          show some (AV.tu [retX true M body,.b true],retM true byteE M body)=_
          rw [hrx.1,hrx.2]
         obtain ⟨bb,hbb⟩:∃ bb:Blk,bb = .cells (body.map byV) 0 (some 1) true:=⟨_,rfl⟩
         rw [←hbb] at hco
         have hha1:=hha [bb]
         have hs591:=hs59' [bb]
         simp only [hun]
         cases hany:(b.drop (sz+18)).any notZ with
         | true =>
          rw [hany] at hha1
          rw [if_pos rfl]
          simp (maxSteps:=1000000) (disch:=omega) only [c63l0,e37,e2,e6,e5,e38,e39,e7,hkI,w1,w2,hy,hs53',hco,hs591,orc_cons,hha1,hMf',hMs',hMs3,go_sem]
          exact wkv_dropP (ext_more (hSset _) _) rfl
         | false =>
          rw [hany] at hha1
          rw [if_neg (by simp)]
          have hbB:∀ U:Mem,(M++(bb :: U))[M.length]? = some bb:=fun U=>by rw [at_app0];rfl
          have hlX:lstV byteE (M++[bb]) (.sl M.length 0 0 (sz+14) (sz+14) false)=some body:=by
           refine lst_lstV (.inr (.inr ⟨_,_,_,_,_,_,rfl,hbol,?_⟩))
           rw [rowAt_B,hbB,hbb,rowB_some,if_pos (by rw [List.length_map,hbol];show 0+(sz+14) * 1≤_;omega),List.drop_zero]
           show some ((body.map byV).take ((sz+14) * 1))=some (body.flatMap byteE.enc)
           rw [enc_by,Nat.mul_one,List.take_of_length_le (by rw [List.length_map,hbol];exact Nat.le_refl _)]
          have hoX:openQ (M++[bb]) 1 (.sl M.length 0 0 (sz+14) (sz+14) false)=true:=by
           simp only [openQ,hbB,hbb];simp [Blk.opn]
          obtain ⟨x68,hs68,hx68,_⟩:=part_lst hlX hoX (q:=.i64) (q':=.i64) (a:=2) (b:=10) (by omega) (by omega)
          obtain ⟨x71,hs71,hx71,_⟩:=part_lst hlX hoX (q:=.i64) (q':=.i64) (a:=10) (b:=14) (by omega) (by omega)
          have hs68:sliceV (M++[bb]) 1 (.sl M.length 0 0 (sz+14) (sz+14) false) (some (.i .i64 2)) (some (.i .i64 10)) none=some x68:=hs68
          have hs71:sliceV (M++[bb]) 1 (.sl M.length 0 0 (sz+14) (sz+14) false) (some (.i .i64 10)) (some (.i .i64 14)) none=some x71:=hs71
          have hs75:sliceV (M++[bb]) 1 (.sl M.length 0 0 (sz+14) (sz+14) false) (some (.i .i64 14)) none none=some (payX M.length body):=by
           have hb0:bnds (sz+14) (sz+14) (some (.i .i64 14)) none none=some (14,sz+14,sz+14):=by
            have:=bnds_lo (q:=.i64) (len:=sz+14) (cap:=sz+14) (a:=14) (by omega) (Nat.le_refl _)
            exact this
           simp only [sliceV,hb0,Option.isSome_none,Bool.or_false,Bool.false_eq_true,if_false]
           unfold payX
           rw [hbol]
           have hbB0:=hbB []
           by_cases h0:sz=0
           ·subst h0;rfl
           ·rw [if_neg (by omega),if_neg (by omega)]
            simp only [hbB0]
            rw [hbb]
            rfl
          have hv68:=val_eq hx68 (by rw [List.length_take];omega)
          have hv71:=val_eq hx71 (by rw [List.length_take];omega)
          have hone75:(payX M.length body).one=true:=by unfold payX;split <;> rfl
          have hcp75:AV.cells (payX M.length body)=some [payX M.length body]:=by unfold payX;split <;> rfl
          have hv68:valS [x68] (M++[bb])=some (.i .u64 (valF ((body.drop 2).take 8)),M++[bb]):=hv68
          have hv71:valS [x71] (M++[bb])=some (.i .u64 (valF ((body.drop 10).take 4)),M++[bb]):=hv71
          generalize hse:valF ((body.drop 2).take 8)=seq at hv68
          generalize hep:valF ((body.drop 10).take 4)=ep at hv71
          generalize hpx:payX M.length body=px at hs75 hone75 hcp75
          by_cases hseq:seq=0
          ·rw [if_pos hseq]
           simp (maxSteps:=1000000) (disch:=omega) only [c63l0,e37,e2,e6,e5,e38,e39,e7,hkI,w1,w2,hy,hs53',hco,hs591,orc_cons,hha1,hMf',hMs',hMs3,hs68,hs71,hs75,hv68,hv71,hone75,hcp75,hseq,go_sem]
           exact wkv_dropP (ext_more (hSset _) _) rfl
          ·rw [if_neg hseq]
           simp (maxSteps:=1000000) (disch:=omega) only [c63l0,e37,e2,e6,e5,e38,e39,e7,hkI,w1,w2,hy,hs53',hco,hs591,orc_cons,hha1,hMf',hMs',hMs3,hs68,hs71,hs75,hv68,hv71,hone75,hcp75,hseq,go_sem]
           obtain ⟨q,hq⟩:∃ q,List.length M=S.length+q:=⟨List.length M-S.length,by have:=hSM.length_le;omega⟩
           have hSx:=fun B' U=>ext_more (hSset B') U
           have hBx:∀ B' B2,(List.set M S.length B'++[bb,B2])[S.length+q]? = some (.cells (body.map byV) 0 (some 1) true):=fun B' B2=>by
            rw [←hq,←hbb,List.getElem?_append_right (by simp)];simp
           have hF:∀ c∈body.map byV,AV.Flat S.length c:=fun c hc=>by obtain ⟨z,_,rfl⟩:=List.mem_map.1 hc;exact fun g=>ren_i
           unfold payX at hpx ⊢
           rw [hbol] at hpx ⊢
           by_cases h0:sz=0
           ·rw [if_pos (by omega)] at hpx ⊢
            subst hpx
            exact rec_rete (hSx _ _) (hBx _ _) hF (fun g=>ren_i) (fun g=>ren_i) (fun g=>ren_i) (fun g=>ren_b)
           ·rw [if_neg (by omega)] at hpx ⊢
            subst hpx
            rw [hq]
            exact rec_ret (hSx _ _) (hBx _ _) hF (fun g=>ren_i) (fun g=>ren_i) (fun g=>ren_i) (fun g=>ren_b)
   ·cases h
  ·cases h
 ·cases h
def segsF (n:Int):Int × Int:=if n<64∨512<n then (0,91) else ((n-32) / 16,0)
def segsS:Spec:=fun args S=>match args with
 | [.i .i64 n]=>some (.tu [.i .i64 (segsF n).1,.i .i64 (segsF n).2],S)
 | _=>none
theorem segs_ok:SpecOK Tryz.prog 94 segsS:=by
 intro args S x S' h
 simp only [segsS] at h
 split at h
 ·rename_i n
  cases h
  refine fn_of_wp f94 rfl (W_sound none_ok mixed _ _ _ _ _ ?_)
  unfold segsF
  by_cases h1:n<64
  ·rw [if_pos (.inl h1)]
   simp (maxSteps:=1000000) (disch:=omega) only [c94,h1,go_sem]
   exact wkv_same
  ·by_cases h2:512<n
   ·rw [if_pos (.inr h2)]
    simp (maxSteps:=1000000) (disch:=omega) only [c94,h1,h2,go_sem]
    exact wkv_same
   ·rw [if_neg (by omega)]
    have w1:wrapV .i64 (n-32)=n-32:=wrap_i64 (by omega) (by omega)
    have w5:binV .int true .quo (.i .i64 (n-32)) (.i .i64 16)=some (.i .i64 ((n-32) / 16)):=by
     rw [bin_quo_pos (by omega) (by omega),wrap_i64 (by omega) (by omega)]
    simp (maxSteps:=1000000) (disch:=omega) only [c94,h1,h2,w1,w5,go_sem]
    exact wkv_same
 ·cases h
theorem rsegs_ok:SpecOK Tryz.prog 97 segsS:=by
 intro args S x S' h
 simp only [segsS] at h
 split at h
 ·rename_i n
  cases h
  refine fn_of_wp f97 rfl (W_sound none_ok mixed _ _ _ _ _ ?_)
  unfold segsF
  by_cases h1:n<64
  ·rw [if_pos (.inl h1)]
   simp (maxSteps:=1000000) (disch:=omega) only [c97,h1,go_sem]
   exact wkv_same
  ·by_cases h2:512<n
   ·rw [if_pos (.inr h2)]
    simp (maxSteps:=1000000) (disch:=omega) only [c97,h1,h2,go_sem]
    exact wkv_same
   ·rw [if_neg (by omega)]
    obtain ⟨m,hm⟩:∃ m:Nat,(n-32) / 16=(m:Int):=⟨((n-32) / 16).toNat,by omega⟩
    rw [hm]
    simp (maxSteps:=1000000) (disch:=omega) only [c97,h1,h2,go_sem]
    refine wp_loop (fun j e M dl=>dl=[]∧∃ k:Nat,j=m-k∧k≤m∧M=S∧e.get 0 = .i .i64 n∧e.get 4 = .i .i64 k) (j:=m) ⟨rfl,0,rfl,Nat.zero_le _,rfl,rfl,rfl⟩ ?_
    rintro j e M d' ⟨rfl,k,rfl,hk,rfl,e0,e4⟩
    refine W_sound none_ok mixed _ _ _ _ _ ?_
    have w1:=wrapS (t:=k) (by omega)
    have w2:wrapV .i64 (16 * ((k+1:Nat):Int))=16 * ((k+1:Nat):Int):=wrap_i64 (by omega) (by omega)
    have w3:wrapV .i64 (32+16 * ((k+1:Nat):Int))=32+16 * ((k+1:Nat):Int):=wrap_i64 (by omega) (by omega)
    by_cases hkm:k<m
    ·have hle:32+16 * ((k+1:Nat):Int)≤n:=by omega
     simp (maxSteps:=1000000) (disch:=omega) only [c97l0,e0,e4,w1,w2,w3,hle,go_sem]
     exact ⟨m-(k+1),by omega,k+1,rfl,hkm,rfl⟩
    ·have hle:¬ 32+16 * ((k+1:Nat):Int)≤n:=by omega
     obtain rfl:k=m:=by omega
     simp (maxSteps:=1000000) (disch:=omega) only [c97l0,e0,e4,w1,w2,w3,hle,go_sem]
     exact wkv_same
 ·cases h
def segBad (n k:Int):Bool:=decide (n<64∨512<n∨k<0∨(n-32) / 16≤k)
def outA (n k:Int):Bool:=decide (k<0∨n≤k)
def aThereF (n:Int) (l:List Int):Int:=if l.any (outA (segsF n).1)=true then 91 else (segsF n).2
def aThereS:Spec:=fun args S=>match args with
 | [.i .i64 n,x]=>match lstV (intE .i64) S x with
  | some l=>if l.length≤900000 then some (.tu [.i .i64 (segsF n).1,.i .i64 (aThereF n l)],S) else none
  | none=>none
 | _=>none
theorem oAr_ok:OK Tryz.prog (lamOf Tryz.prog) (orcOf [(94,segsS)]):=orc_ok (by simpa using segs_ok)
theorem athere_ok:SpecOK Tryz.prog 68 aThereS:=by
 intro args S x S' h
 simp only [aThereS] at h
 split at h
 ·rename_i n y
  split at h
  ·rename_i l hl
   split at h
   ·rename_i hlim
    cases h
    refine fn_of_wp f68 rfl (W_sound oAr_ok mixed _ _ _ _ _ ?_)
    unfold aThereF
    generalize hsg:segsF n=sg
    obtain ⟨a,b⟩:=sg
    simp (maxSteps:=1000000) (disch:=omega) only [c68,lst_len hl,orc_cons,segsS,hsg,go_sem]
    refine wp_loop (fun j e M dl=>dl=[]∧∃ k:Nat,j=l.length-k∧k≤l.length∧M=S∧e.get 6 = .i .i64 a∧e.get 15=y∧e.get 16 = .i .i64 l.length∧e.get 17 = .i .i64 k ∧
     e.get 7 = .i .i64 (if (l.take k).any (outA a)=true then 91 else b)) (j:=l.length) ⟨rfl,0,rfl,Nat.zero_le _,rfl,rfl,rfl,rfl,rfl,rfl⟩ ?_
    rintro j e M d' ⟨rfl,k,rfl,hk,rfl,e6,e15,e16,e17,e7⟩
    refine W_sound oAr_ok mixed _ _ _ _ _ ?_
    by_cases hkl:k<l.length
    ·obtain ⟨bi,o,v,cap,ex,rfl⟩:=lst_sl hl hkl
     have hkI:(k:Int)<l.length:=by omega
     have hk6:k<1000000:=by omega
     have hc:=lstV_cell hl rfl (fun a=>rfl) hkl []
     rw [List.append_nil] at hc
     have htk:(l.take (k+1)).any (outA a)=((l.take k).any (outA a) || outA a l[k]):=by
      rw [List.take_succ_eq_append_getElem hkl,List.any_append];simp
     generalize l[k]=c at hc htk
     by_cases h1:c<0
     ·have ho:outA a c=true:=decide_eq_true (.inl h1)
      rw [ho,Bool.or_true] at htk
      simp (maxSteps:=1000000) (disch:=omega) only [c68l0,e6,e15,e16,e17,e7,hkI,Int.toNat_natCast,Nat.mul_one,hc,h1,wrapS hk6,go_sem]
      exact ⟨l.length-(k+1),by omega,k+1,rfl,hkl,rfl,by rw [htk];rfl⟩
     ·by_cases h2:a≤c
      ·have ho:outA a c=true:=decide_eq_true (.inr h2)
       rw [ho,Bool.or_true] at htk
       simp (maxSteps:=1000000) (disch:=omega) only [c68l0,e6,e15,e16,e17,e7,hkI,Int.toNat_natCast,Nat.mul_one,hc,h1,h2,wrapS hk6,go_sem]
       exact ⟨l.length-(k+1),by omega,k+1,rfl,hkl,rfl,by rw [htk];rfl⟩
      ·have ho:outA a c=false:=decide_eq_false (by omega)
       rw [ho,Bool.or_false] at htk
       simp (maxSteps:=1000000) (disch:=omega) only [c68l0,e6,e15,e16,e17,e7,hkI,Int.toNat_natCast,Nat.mul_one,hc,h1,h2,wrapS hk6,go_sem]
       exact ⟨l.length-(k+1),by omega,k+1,rfl,hkl,rfl,by rw [htk]⟩
    ·have hkI:¬ (k:Int)<l.length:=by omega
     rw [List.take_of_length_le (by omega)] at e7
     simp (maxSteps:=1000000) (disch:=omega) only [c68l0,e6,e15,e16,e17,e7,hkI,go_sem]
     exact wkv_same
   ·cases h
  ·cases h
 ·cases h
def segF (n k:Int):Int × Int:=if segBad n k=true then (0,91) else (32+16 * k,0)
def segS:Spec:=fun args S=>match args with
 | [.i .i64 n,.i .i64 k]=>some (.tu [.i .i64 (segF n k).1,.i .i64 (segF n k).2],S)
 | _=>none
theorem there1 {n k:Int}:aThereF n [k]=(segF n k).2:=by
 unfold aThereF segF segBad segsF
 simp only [List.any_cons,List.any_nil,Bool.or_false]
 by_cases h:n<64∨512<n
 ·rw [if_pos h]
  rw [if_pos (decide_eq_true (by omega:n<64∨512<n∨k<0∨(n-32) / 16≤k))]
  split <;> rfl
 ·rw [if_neg h]
  unfold outA
  by_cases h2:k<0∨(n-32) / 16≤k
  ·rw [if_pos (decide_eq_true h2),if_pos (decide_eq_true (by omega))]
  ·rw [if_neg (by simpa using h2),if_neg (by rw [decide_eq_true_eq];omega)]
theorem oSeg_ok:OK Tryz.prog (lamOf Tryz.prog) (orcOf [(68,aThereS)]):=orc_ok (by simpa using athere_ok)
theorem seg_ok:SpecOK Tryz.prog 43 segS:=by
 intro args S x S' h
 simp only [segS] at h
 split at h
 ·rename_i n k
  cases h
  refine fn_of_wp f43 rfl (W_sound oSeg_ok mixed _ _ _ _ _ ?_)
  have hth:aThereS [.i .i64 n,.sl S.length 0 0 1 1 true] (S++[.cells [.i .i64 k] 0 none true])=some (.tu [.i .i64 (segsF n).1,.i .i64 (segF n k).2],S++[.cells [.i .i64 k] 0 none true]):=by
   have hl:lstV (intE .i64) (S++[.cells [.i .i64 k] 0 none true]) (.sl S.length 0 0 1 1 true)=some [k]:=by
    refine lst_lstV (.inr (.inr ⟨S.length,0,0,1,1,true,rfl,rfl,?_⟩))
    rw [rowAt_B,at_app0];rfl
   simp only [aThereS,hl]
   rw [if_pos (by show 1≤_;omega),there1]
  unfold segF at hth ⊢
  cases hb:segBad n k with
  | true =>
   rw [hb] at hth
   simp (maxSteps:=1000000) (disch:=omega) only [c43,List.replicate,orc_cons,hth,go_sem]
   exact wkv_drop rfl
  | false =>
   rw [hb] at hth
   have hb':=of_decide_eq_false hb
   have w1:wrapV .i64 (k * 16)=k * 16:=wrap_i64 (by omega) (by omega)
   have w2:wrapV .i64 (32+k * 16)=32+16 * k:=by rw [wrap_i64 (by omega) (by omega)];omega
   simp (maxSteps:=1000000) (disch:=omega) only [c43,List.replicate,orc_cons,hth,w1,w2,go_sem]
   exact wkv_drop rfl
 ·cases h
theorem oRSeg_ok:OK Tryz.prog (lamOf Tryz.prog) (orcOf [(97,segsS)]):=orc_ok (by simpa using rsegs_ok)
theorem rseg_ok:SpecOK Tryz.prog 74 segS:=by
 intro args S x S' h
 simp only [segS] at h
 split at h
 ·rename_i n k
  cases h
  refine fn_of_wp f74 rfl (W_sound oRSeg_ok mixed _ _ _ _ _ ?_)
  unfold segF segBad
  by_cases h1:n<64∨512<n
  ·have hsg:segsF n=(0,91):=if_pos h1
   rw [if_pos (decide_eq_true (by omega:n<64∨512<n∨k<0∨(n-32) / 16≤k))]
   simp (maxSteps:=1000000) (disch:=omega) only [c74,orc_cons,segsS,hsg,go_sem]
   exact wkv_same
  ·have hsg:segsF n=((n-32) / 16,0):=if_neg h1
   by_cases h2:k<0
   ·rw [if_pos (decide_eq_true (by omega:n<64∨512<n∨k<0∨(n-32) / 16≤k))]
    simp (maxSteps:=1000000) (disch:=omega) only [c74,orc_cons,segsS,hsg,h2,go_sem]
    exact wkv_same
   ·by_cases h3:(n-32) / 16≤k
    ·rw [if_pos (decide_eq_true (by omega:n<64∨512<n∨k<0∨(n-32) / 16≤k))]
     simp (maxSteps:=1000000) (disch:=omega) only [c74,orc_cons,segsS,hsg,h2,h3,go_sem]
     exact wkv_same
    ·rw [if_neg (by rw [decide_eq_true_eq];omega)]
     have w1:wrapV .i64 (16 * k)=16 * k:=wrap_i64 (by omega) (by omega)
     have w2:wrapV .i64 (32+16 * k)=32+16 * k:=wrap_i64 (by omega) (by omega)
     simp (maxSteps:=1000000) (disch:=omega) only [c74,orc_cons,segsS,hsg,h2,h3,w1,w2,go_sem]
     exact wkv_same
 ·cases h
def slotF (g:Int):Int:=(g % 2) * 16
def aSlotS:Spec:=fun args S=>match args with
 | [.i .u64 g]=>if 0≤g then some (.i .i64 (slotF g),S) else none
 | _=>none
theorem aslot_ok:SpecOK Tryz.prog 29 aSlotS:=by
 intro args S x S' h
 simp only [aSlotS] at h
 split at h
 ·rename_i g
  split at h
  ·rename_i hg
   cases h
   refine fn_of_wp f29 rfl (W_sound none_ok mixed _ _ _ _ _ ?_)
   have h1:binV .int true .rem (.i .u64 g) (.i .u64 2)=some (.i .u64 (g % 2)):=by
    rw [bin_rem_pos hg (by omega)]
   have w1:wrapV .i64 (g % 2)=g % 2:=wrap_i64 (by omega) (by omega)
   have w2:wrapV .i64 (g % 2 * 16)=g % 2 * 16:=wrap_i64 (by omega) (by omega)
   simp (maxSteps:=1000000) (disch:=omega) only [c29,h1,w1,w2,go_sem]
   exact wkv_same
  ·cases h
 ·cases h
structure Chk where
 gen:Int
 epoch:Int
 seq:Int
 seg:Int
 book:Bk
 deriving DecidableEq
def valQ (n:Int):Prop:=1≤n∧n≤281474976710656
instance (n:Int):Decidable (valQ n):=by unfold valQ;infer_instance
def Chk.ok (n:Int) (c:Chk):Prop:=segBad n c.seg=false∧valQ c.gen∧valQ c.seq∧c.epoch≤2147483648∧c.book.ok
noncomputable instance (n:Int) (c:Chk):Decidable (c.ok n):=Classical.propDecidable _
def Chk.good (c:Chk):Prop:=u64 c.gen∧(0≤c.epoch∧c.epoch≤4294967295)∧u64 c.seq∧i64 c.seg∧c.book.good
noncomputable instance (c:Chk):Decidable c.good:=Classical.propDecidable _
def chkOf (S:Mem) (cs:List AV):Option Chk:=match cs with
 | [.i .u64 g,.i .u32 ep,.i .u64 sq,.i .i64 sg,.i .u64 p,x]=>match lstV entE S x with
  | some l=>some ⟨g,ep,sq,sg,⟨p,l⟩⟩
  | none=>none
 | _=>none
theorem chkOf_ok {S:Mem} {cs:List AV} {c:Chk} (h:chkOf S cs=some c):∃ x,cs=[.i .u64 c.gen,.i .u32 c.epoch,.i .u64 c.seq,.i .i64 c.seg,.i .u64 c.book.period,x]∧lstV entE S x=some c.book.entries:=by
 unfold chkOf at h
 split at h
 ·split at h
  ·rename_i hl
   cases h
   exact ⟨_,rfl,hl⟩
  ·cases h
 ·cases h
theorem chkOf_mk {S:Mem} {g ep sq sg p:Int} {x:AV} {l:List Ent} (h:lstV entE S x=some l):chkOf S [.i .u64 g,.i .u32 ep,.i .u64 sq,.i .i64 sg,.i .u64 p,x]=some ⟨g,ep,sq,sg,⟨p,l⟩⟩:=by
 simp only [chkOf,h]
def valueS:Spec:=fun args S=>match args with
 | [.i .u64 n]=>some (.b (decide (valQ n)),S)
 | _=>none
theorem value_ok:SpecOK Tryz.prog 45 valueS:=by
 intro args S x S' h
 simp only [valueS] at h
 split at h
 ·rename_i n
  cases h
  refine fn_of_wp f45 rfl (W_sound none_ok mixed _ _ _ _ _ ?_)
  by_cases h1:1≤n
  ·by_cases h2:n≤281474976710656
   ·have hd:decide (valQ n)=true:=decide_eq_true ⟨h1,h2⟩
    rw [hd]
    simp (maxSteps:=1000000) (disch:=omega) only [c45,h1,h2,go_sem]
    exact wkv_same
   ·have hd:decide (valQ n)=false:=decide_eq_false fun q=>h2 q.2
    rw [hd]
    simp (maxSteps:=1000000) (disch:=omega) only [c45,h1,h2,go_sem]
    exact wkv_same
  ·have hd:decide (valQ n)=false:=decide_eq_false fun q=>h1 q.1
   rw [hd]
   simp (maxSteps:=1000000) (disch:=omega) only [c45,h1,go_sem]
   exact wkv_same
 ·cases h
theorem oRb_ok:OK Tryz.prog (lamOf Tryz.prog) (orcOf [(75,brightS),(76,rnumsS),(50,lebsS true)]):=orc_ok (by simpa using ⟨rbright_ok,rnums_ok,rlebs_ok⟩)
set_option maxHeartbeats 2000000 in
theorem rbytes_ok:SpecOK Tryz.prog 49 bytesS:=by
 intro args S x S' h
 simp only [bytesS] at h
 split at h
 ·rename_i cb
  split at h
  ·rename_i b hb
   split at h
   ·rename_i hg
    obtain ⟨s,rfl,hl⟩:=bookOf_ok hb
    obtain ⟨p,l⟩:=b
    simp only at hl
    have b1:=fun L=>bright_eq (bookOf_mk (p:=p) (lstV_grow hl L)) hg.fits
    refine fn_of_wp f49 rfl (W_sound oRb_ok mixed _ _ _ _ _ ?_)
    split at h
    ·rename_i ho
     cases h
     have hd:decide (Bk.ok ⟨p,l⟩)=true:=decide_eq_true ho
     have hlim:=hg.2.1
     simp only at hlim
     simp (maxSteps:=1000000) (disch:=omega) only [c49,orc_cons,b1,hd,lst_len hl,List.replicate,go_sem]
     have h0:AccL numE S (S++[.cells [.i .u64 p,s] 0 none true,.cells [.i .u64 p] 0 none true]) (.sl (S.length+1) 0 0 1 1 true) [p]:=by
      have:AccL numE S ((S++[Blk.cells [.i .u64 p,s] 0 none true])++[Blk.cells [.i .u64 p] 0 none true]) (.sl (S++[Blk.cells [.i .u64 p,s] 0 none true]).length 0 0 1 1 true) [p]:=accL_lit (E:=numE) (l:=[p]) (ext_app _)
      rwa [List.append_assoc,List.length_append] at this
     refine wp_loop (fun j e M dl=>dl=[]∧∃ (k:Nat) (x:AV),j=l.length-k∧k≤l.length∧AccL numE S M x (p :: entNs (l.take k)) ∧
      e.get 14=s∧e.get 15 = .i .i64 l.length∧e.get 16 = .i .i64 k∧e.get 4=x) (j:=l.length) ⟨rfl,0,_,rfl,Nat.zero_le _,h0,rfl,rfl,rfl,rfl⟩ ?_
     rintro j e M d' ⟨rfl,k,x,rfl,hk,hx,h14,h15,h16,h4⟩
     refine W_sound oRb_ok mixed _ _ _ _ _ ?_
     have hM:=lst_ext hl hx.ext
     have htl:(entNs (l.take k)).length=11 * k:=by rw [entNs_len,List.length_take];omega
     by_cases hkl:k<l.length
     ·obtain ⟨bi,o,v,cap,ex,rfl⟩:=lst_sl hl hkl
      have hr:∀ L,rowB ((M++L)[bi]?) (o+k * 14) v 14=some (entE.enc l[k]):=lstV_row hM hkl
      have hr0:=hr []
      rw [List.append_nil] at hr0
      have hkI:(k:Int)<l.length:=by omega
      have hw:wrapV .i64 ((k:Int)+1)=((k+1:Nat):Int):=by rw [wrap_i64 (by omega) (by omega)];omega
      have hpr:=ok_right ho (k:=k) hkl
      have hpg:=(hg.2.2 _ (List.getElem_mem hkl)).1
      have hns:∀ M,rnumsS [.ag l[k].pol.enc] M=some (.sl M.length 0 0 10 10 false,M++[.cells (l[k].pol.ns.map (.i .u64)) 0 (some 1) true]):=fun M=>by
       rw [rnsV hpg hpr,retX_ne (by simp [Pol.ns]),retM_ne (by simp [Pol.ns]),u64E];rfl
      obtain ⟨x1,M1,U1,ha1,hM1,hx1,_⟩:=hx.apps (bytes:=8) numE_one [.cells (entE.enc l[k]) 0 none true,.cells (l[k].pol.ns.map (.i .u64)) 0 (some 1) true] l[k].pol.ns (by simp [Pol.ns];omega) (by simp [Pol.ns];omega)
      obtain ⟨x2,M2,U2,ha2,hM2,hx2,_⟩:=hx1.apps (bytes:=8) numE_one [.cells [.i .u64 l[k].granted] 0 none true] [l[k].granted] (by simp [Pol.ns];omega) (by simp [Pol.ns];omega)
      have ha1:appV (M++[.cells (entE.enc l[k]) 0 none true,.cells (l[k].pol.ns.map (.i .u64)) 0 (some 1) true]) 1 8 x (l[k].pol.ns.map (.i .u64)) 10=some (x1,M1++(.cells (entE.enc l[k]) 0 none true :: .cells (l[k].pol.ns.map (.i .u64)) 0 (some 1) true :: U1)):=by rw [u64E] at ha1;exact ha1
      have ha2:appV (M1++(.cells (entE.enc l[k]) 0 none true :: .cells (l[k].pol.ns.map (.i .u64)) 0 (some 1) true :: (U1++[.cells [.i .u64 l[k].granted] 0 none true]))) 1 8 x1 [.i .u64 l[k].granted] 1=some (x2,M2++(.cells [.i .u64 l[k].granted] 0 none true :: U2)):=by
       rw [List.append_assoc] at ha2;exact ha2
      have hat:∀ L:Mem,(M1++L)[M.length]? = L[0]?:=fun L=>by rw [←hM1];exact at_app0
      have hrow:rowB (some (.cells (l[k].pol.ns.map (.i .u64)) 0 (some 1) true)) 0 0 10=some (l[k].pol.ns.map (.i .u64)):=rfl
      have r13:rowB (some (.cells (entE.enc l[k]) 0 none true)) 0 0 13=some l[k].pol.enc:=rfl
      have c13:cellB (some (.cells (entE.enc l[k]) 0 none true)) 13 0=some (.i .u64 l[k].granted):=rfl
      generalize l[k].pol.ns.map (AV.i .u64)=N at ha1 ha2 hns hrow
      simp only [entE,Ent.enc,Pol.enc] at hr0 ha1 ha2 hns r13 c13
      simp (maxSteps:=1000000) (disch:=omega) only [c49l0,h4,h14,h15,h16,hkI,Int.toNat_natCast,hr0,orc_cons,hns,src_sl,Nat.mul_one,hrow,srcN_some,ha1,ha2,hat,hw,List.replicate,go_sem]
      refine ⟨l.length-(k+1),by omega,k+1,x2,rfl,hkl,?_,rfl,rfl⟩
      rw [show p :: entNs (l.take (k+1))=p :: entNs (l.take k)++l[k].pol.ns++[l[k].granted] by unfold entNs;rw [List.take_succ_eq_append_getElem hkl,List.flatMap_append];simp]
      exact hx2
     ·have hkI:¬ (k:Int)<l.length:=by omega
      rw [List.take_of_length_le (by omega)] at hx htl
      have h8:=ho.2.2.1.1
      rw [show (polsOf (Bk.mk p l).entries).length=l.length by unfold polsOf;simp] at h8
      have hlb:=lebs_eq (z:=true) hx.lst (by simp;omega) (bns_u64 hg ho)
      simp (maxSteps:=1000000) (disch:=omega) only [c49l0,h4,h14,h15,h16,hkI,orc_cons,hlb,go_sem]
      have hne:lebs (p :: entNs l)≠[]:=lebs_ne (b:=⟨p,l⟩)
      have hacc:Acc true byteE S (retM true byteE M (lebs (p :: entNs l))) (retX true M (lebs (p :: entNs l))) (lebs (p :: entNs l)):=by
       obtain ⟨T,hT⟩:=hx.ext
       rw [retX_ne hne,retM_ne hne]
       refine ⟨T++[.cells ((lebs (p :: entNs l)).flatMap byteE.enc) 0 (some byteE.sz) true],by rw [←hT,List.append_assoc],.inr (.inr ⟨hne,T.length,0,by rw [←hT,List.length_append],by simp⟩)⟩
      exact hacc.ret2 byteE_flat Flat_i
    ·rename_i ho
     cases h
     have hd:decide (Bk.ok ⟨p,l⟩)=false:=decide_eq_false ho
     simp (maxSteps:=1000000) (disch:=omega) only [c49,orc_cons,b1,hd,go_sem]
     exact wkv_drop rfl
   ·cases h
  ·cases h
 ·cases h
theorem len_grow {S:Mem} {i:Nat} {n:Int} {M:Mem} (h:lenS [.p i 0 0] S=some (.i .i64 n,M)) (L:Mem):lenS [.p i 0 0] (S++L)=some (.i .i64 n,S++L):=by
 simp only [lenS] at h
 split at h
 ·rename_i hB
  cases h
  simp only [lenS,at_old hB]
 ·cases h
noncomputable def srightS:Spec:=fun args S=>match args with
 | [.p i 0 0,.ag cs]=>match lenS [.p i 0 0] S,chkOf S cs with
  | some (.i .i64 n,_),some c=>if c.book.fits then some (.b (decide (c.ok n)),S) else none
  | _,_=>none
 | _=>none
theorem bright_dec {S:Mem} {p:Int} {x:AV} {l:List Ent} (h:lstV entE S x=some l) (hf:Bk.fits ⟨p,l⟩):brightS [.ag [.i .u64 p,x]] S=some (.b (decide (Bk.ok ⟨p,l⟩)),S):=bright_eq (bookOf_mk h) hf
theorem oSr_ok:OK Tryz.prog (lamOf Tryz.prog) (orcOf [(44,lenS),(43,segS),(45,valueS),(46,brightS)]):=orc_ok (by simpa using ⟨len_ok,seg_ok,value_ok,bright_ok⟩)
theorem sright_ok:SpecOK Tryz.prog 20 srightS:=by
 intro args S x S' h
 simp only [srightS] at h
 split at h
 ·rename_i i cs
  split at h
  ·rename_i n M0 c hn hcs
   split at h
   ·rename_i hf
    cases h
    obtain ⟨y,rfl,hl⟩:=chkOf_ok hcs
    obtain ⟨g,ep,sq,sg,p,l⟩:=c
    simp only at hl hf
    refine fn_of_wp f20 rfl (W_sound oSr_ok mixed _ _ _ _ _ ?_)
    have h1:=len_grow hn
    have hb:=fun L=>bright_dec (p:=p) (lstV_grow hl L) hf
    cases hs:segBad n sg with
    | true =>
     have hd:decide (Chk.ok n ⟨g,ep,sq,sg,⟨p,l⟩⟩)=false:=decide_eq_false fun q=>by have:=q.1;simp only [hs] at this;cases this
     rw [hd]
     simp (maxSteps:=1000000) (disch:=omega) only [c20,orc_cons,h1,segS,segF,hs,go_sem]
     exact wkv_drop rfl
    | false =>
     by_cases hg:valQ g
     ·by_cases hq:valQ sq
      ·by_cases he:ep≤2147483648
       ·have hd:decide (Chk.ok n ⟨g,ep,sq,sg,⟨p,l⟩⟩)=decide (Bk.ok ⟨p,l⟩):=by
         rw [decide_eq_decide];exact ⟨fun q=>q.2.2.2.2,fun q=>⟨hs,hg,hq,he,q⟩⟩
        rw [hd]
        have g1:=decide_eq_true hg
        have g2:=decide_eq_true hq
        simp (maxSteps:=1000000) (disch:=omega) only [c20,orc_cons,h1,segS,segF,hs,valueS,g1,g2,he,hb,go_sem]
        exact wkv_drop rfl
       ·have hd:decide (Chk.ok n ⟨g,ep,sq,sg,⟨p,l⟩⟩)=false:=decide_eq_false fun q=>he q.2.2.2.1
        rw [hd]
        have g1:=decide_eq_true hg
        have g2:=decide_eq_true hq
        simp (maxSteps:=1000000) (disch:=omega) only [c20,orc_cons,h1,segS,segF,hs,valueS,g1,g2,he,go_sem]
        exact wkv_drop rfl
      ·have hd:decide (Chk.ok n ⟨g,ep,sq,sg,⟨p,l⟩⟩)=false:=decide_eq_false fun q=>hq q.2.2.1
       rw [hd]
       have g1:=decide_eq_true hg
       have g2:=decide_eq_false hq
       simp (maxSteps:=1000000) (disch:=omega) only [c20,orc_cons,h1,segS,segF,hs,valueS,g1,g2,go_sem]
       exact wkv_drop rfl
     ·have hd:decide (Chk.ok n ⟨g,ep,sq,sg,⟨p,l⟩⟩)=false:=decide_eq_false fun q=>hg q.2.1
      rw [hd]
      have g1:=decide_eq_false hg
      simp (maxSteps:=1000000) (disch:=omega) only [c20,orc_cons,h1,segS,segF,hs,valueS,g1,go_sem]
      exact wkv_drop rfl
   ·cases h
  ·cases h
 ·cases h
noncomputable def rsrightS:Spec:=fun args S=>match args with
 | [.i .i64 n,.ag cs]=>match chkOf S cs with
  | some c=>if c.book.fits then some (.b (decide (c.ok n)),S) else none
  | _=>none
 | _=>none
theorem oRSr_ok:OK Tryz.prog (lamOf Tryz.prog) (orcOf [(74,segS),(75,brightS)]):=orc_ok (by simpa using ⟨rseg_ok,rbright_ok⟩)
theorem rsright_ok:SpecOK Tryz.prog 48 rsrightS:=by
 intro args S x S' h
 simp only [rsrightS] at h
 split at h
 ·rename_i n cs
  split at h
  ·rename_i c hcs
   split at h
   ·rename_i hf
    cases h
    obtain ⟨y,rfl,hl⟩:=chkOf_ok hcs
    obtain ⟨g,ep,sq,sg,p,l⟩:=c
    simp only at hl hf
    refine fn_of_wp f48 rfl (W_sound oRSr_ok mixed _ _ _ _ _ ?_)
    have hb:=fun L=>bright_dec (p:=p) (lstV_grow hl L) hf
    cases hs:segBad n sg with
    | true =>
     have hd:decide (Chk.ok n ⟨g,ep,sq,sg,⟨p,l⟩⟩)=false:=decide_eq_false fun q=>by have:=q.1;simp only [hs] at this;cases this
     rw [hd]
     simp (maxSteps:=1000000) (disch:=omega) only [c48,orc_cons,segS,segF,hs,go_sem]
     exact wkv_drop rfl
    | false =>
     by_cases g1:g<1
     ·have hd:decide (Chk.ok n ⟨g,ep,sq,sg,⟨p,l⟩⟩)=false:=decide_eq_false fun q=>by have:=q.2.1.1;simp only at this;omega
      rw [hd]
      simp (maxSteps:=1000000) (disch:=omega) only [c48,orc_cons,segS,segF,hs,g1,go_sem]
      exact wkv_drop rfl
     ·by_cases g2:281474976710656<g
      ·have hd:decide (Chk.ok n ⟨g,ep,sq,sg,⟨p,l⟩⟩)=false:=decide_eq_false fun q=>by have:=q.2.1.2;simp only at this;omega
       rw [hd]
       simp (maxSteps:=1000000) (disch:=omega) only [c48,orc_cons,segS,segF,hs,g1,g2,go_sem]
       exact wkv_drop rfl
      ·by_cases g3:sq<1
       ·have hd:decide (Chk.ok n ⟨g,ep,sq,sg,⟨p,l⟩⟩)=false:=decide_eq_false fun q=>by have:=q.2.2.1.1;simp only at this;omega
        rw [hd]
        simp (maxSteps:=1000000) (disch:=omega) only [c48,orc_cons,segS,segF,hs,g1,g2,g3,go_sem]
        exact wkv_drop rfl
       ·by_cases g4:281474976710656<sq
        ·have hd:decide (Chk.ok n ⟨g,ep,sq,sg,⟨p,l⟩⟩)=false:=decide_eq_false fun q=>by have:=q.2.2.1.2;simp only at this;omega
         rw [hd]
         simp (maxSteps:=1000000) (disch:=omega) only [c48,orc_cons,segS,segF,hs,g1,g2,g3,g4,go_sem]
         exact wkv_drop rfl
        ·by_cases he:ep≤2147483648
         ·have hd:decide (Chk.ok n ⟨g,ep,sq,sg,⟨p,l⟩⟩)=decide (Bk.ok ⟨p,l⟩):=by
           rw [decide_eq_decide];exact ⟨fun q=>q.2.2.2.2,fun q=>⟨hs,⟨(by show 1≤g;omega),(by show g≤_;omega)⟩,⟨(by show 1≤sq;omega),(by show sq≤_;omega)⟩,he,q⟩⟩
          rw [hd]
          simp (maxSteps:=1000000) (disch:=omega) only [c48,orc_cons,segS,segF,hs,g1,g2,g3,g4,he,hb,go_sem]
          exact wkv_drop rfl
         ·have hd:decide (Chk.ok n ⟨g,ep,sq,sg,⟨p,l⟩⟩)=false:=decide_eq_false fun q=>he q.2.2.2.1
          rw [hd]
          simp (maxSteps:=1000000) (disch:=omega) only [c48,orc_cons,segS,segF,hs,g1,g2,g3,g4,he,go_sem]
          exact wkv_drop rfl
   ·cases h
  ·cases h
 ·cases h
def ssameS:Spec:=fun args S=>match args with
 | [.ag c1,.ag c2]=>match chkOf S c1,chkOf S c2 with
  | some a,some b=>if a.book.entries.length≤1000000 then some (.b (decide (a=b)),S) else none
  | _,_=>none
 | _=>none
theorem chk_ne {a b:Chk} (h:¬ (a.gen=b.gen∧a.epoch=b.epoch∧a.seq=b.seq∧a.seg=b.seg)):decide (a=b)=false:=decide_eq_false fun q=>h (by subst q;exact ⟨rfl,rfl,rfl,rfl⟩)
theorem chk_eqB {g ep sq sg:Int} {a b:Bk}:decide ((⟨g,ep,sq,sg,a⟩:Chk)=⟨g,ep,sq,sg,b⟩)=decide (a=b):=by
 rw [decide_eq_decide];exact ⟨fun q=>(Chk.mk.inj q).2.2.2.2,fun q=>by rw [q]⟩
theorem oSs_ok:OK Tryz.prog (lamOf Tryz.prog) (orcOf [(47,bsameS)]):=orc_ok (by simpa using bsame_ok)
theorem ssame_ok:SpecOK Tryz.prog 21 ssameS:=by
 intro args S x S' h
 simp only [ssameS] at h
 split at h
 ·rename_i c1 c2
  split at h
  ·rename_i a b ha hb
   split at h
   ·rename_i hf
    cases h
    obtain ⟨x1,rfl,hl1⟩:=chkOf_ok ha
    obtain ⟨x2,rfl,hl2⟩:=chkOf_ok hb
    have e1:=fun L=>bsame_eq (bookOf_mk (p:=a.book.period) (lstV_grow hl1 L)) (bookOf_mk (p:=b.book.period) (lstV_grow hl2 L)) hf
    refine fn_of_wp f21 rfl (W_sound oSs_ok mixed _ _ _ _ _ ?_)
    obtain ⟨g,ep,sq,sg,p,l⟩:=a
    obtain ⟨g2,ep2,sq2,sg2,p2,l2⟩:=b
    simp only at e1 hf ⊢
    by_cases h1:g=g2
    ·subst h1
     by_cases h2:ep=ep2
     ·subst h2
      by_cases h3:sq=sq2
      ·subst h3
       by_cases h4:sg=sg2
       ·subst h4
        rw [chk_eqB]
        simp (maxSteps:=1000000) (disch:=omega) only [c21,orc_cons,e1,go_sem]
        exact wkv_drop rfl
       ·rw [chk_ne fun q=>h4 q.2.2.2]
        simp (maxSteps:=1000000) (disch:=omega) only [c21,orc_cons,h4,go_sem]
        exact wkv_drop rfl
      ·rw [chk_ne fun q=>h3 q.2.2.1]
       simp (maxSteps:=1000000) (disch:=omega) only [c21,orc_cons,h3,go_sem]
       exact wkv_drop rfl
     ·rw [chk_ne fun q=>h2 q.2.1]
      simp (maxSteps:=1000000) (disch:=omega) only [c21,orc_cons,h2,go_sem]
      exact wkv_drop rfl
    ·rw [chk_ne fun q=>h1 q.1]
     simp (maxSteps:=1000000) (disch:=omega) only [c21,orc_cons,h1,go_sem]
     exact wkv_drop rfl
   ·cases h
  ·cases h
 ·cases h
theorem oRSs_ok:OK Tryz.prog (lamOf Tryz.prog) (orcOf [(42,bsameS)]):=orc_ok (by simpa using rbsame_ok)
theorem rssame_ok:SpecOK Tryz.prog 19 ssameS:=by
 intro args S x S' h
 simp only [ssameS] at h
 split at h
 ·rename_i c1 c2
  split at h
  ·rename_i a b ha hb
   split at h
   ·rename_i hf
    cases h
    obtain ⟨x1,rfl,hl1⟩:=chkOf_ok ha
    obtain ⟨x2,rfl,hl2⟩:=chkOf_ok hb
    have e1:=fun L=>bsame_eq (bookOf_mk (p:=a.book.period) (lstV_grow hl1 L)) (bookOf_mk (p:=b.book.period) (lstV_grow hl2 L)) hf
    refine fn_of_wp f19 rfl (W_sound oRSs_ok mixed _ _ _ _ _ ?_)
    obtain ⟨g,ep,sq,sg,p,l⟩:=a
    obtain ⟨g2,ep2,sq2,sg2,p2,l2⟩:=b
    simp only at e1 hf ⊢
    by_cases h1:g=g2
    ·subst h1
     by_cases h2:ep=ep2
     ·subst h2
      by_cases h3:sq=sq2
      ·subst h3
       by_cases h4:sg=sg2
       ·subst h4
        rw [chk_eqB]
        simp (maxSteps:=1000000) (disch:=omega) only [c19,orc_cons,e1,go_sem]
        exact wkv_drop rfl
       ·rw [chk_ne fun q=>h4 q.2.2.2]
        simp (maxSteps:=1000000) (disch:=omega) only [c19,orc_cons,h4,go_sem]
        exact wkv_drop rfl
      ·rw [chk_ne fun q=>h3 q.2.2.1]
       simp (maxSteps:=1000000) (disch:=omega) only [c19,orc_cons,h3,go_sem]
       exact wkv_drop rfl
     ·rw [chk_ne fun q=>h2 q.2.1]
      simp (maxSteps:=1000000) (disch:=omega) only [c19,orc_cons,h2,go_sem]
      exact wkv_drop rfl
    ·rw [chk_ne fun q=>h1 q.1]
     simp (maxSteps:=1000000) (disch:=omega) only [c19,orc_cons,h1,go_sem]
     exact wkv_drop rfl
   ·cases h
  ·cases h
 ·cases h
structure Rcd where
 seq:Int
 epoch:Int
 pay:List Int
 deriving DecidableEq
def Chk.pay (c:Chk):List Int:=lebs [c.seq,c.seg]++lebs c.book.ns
theorem rec2_ret {S M:Mem} {p v len:Nat} {a b c:AV} {cs:List AV} {op:Option Nat} {ex:Bool} (hS:S <+: M) (hB:M[S.length+p]? = some (.cells cs v op true)) (hF:∀ c∈cs,AV.Flat S.length c)
  (ha:AV.Flat S.length a) (hb:AV.Flat S.length b) (hc:AV.Flat S.length c) :
  WkV S (.tu [.ag [a,b,.sl S.length 0 0 len len ex],c]) (S++[.cells cs 0 op true]) (.tu [.ag [a,b,.sl (S.length+p) 0 v len len ex],c]) M:=by
 obtain ⟨keep,T,rfl,h1,h2,h3,h4⟩:=lit_keep (len:=len) (ex:=ex) hS hB hF
 have:=wkv_keep (S0:=S) (L:=T) (y:=.tu [.ag [a,b,.sl (S.length+p) 0 v len len ex],c]) keep h1 h2
 rw [ren_tu,renL_cons,renL_cons,renL_nil,ren_ag,renL_cons,renL_cons,renL_cons,renL_nil,h3,h4,ha,hb,hc] at this
 exact this
theorem Chk.good.fits {c:Chk} (h:c.good):c.book.fits:=h.2.2.2.2.fits
theorem seg_pos {n k:Int} (h:segBad n k=false):0≤k∧k≤30:=by
 have:=of_decide_eq_false h;omega
theorem by_flat (n:Nat) (l:List Int):∀ c∈l.map byV,AV.Flat n c:=fun c hc=>by
 obtain ⟨z,_,rfl⟩:=List.mem_map.1 hc;exact fun g=>ren_i
theorem lebs_ne0 {a:Int} {l:List Int}:lebs (a :: l)≠[]:=by
 unfold lebs
 rw [List.flatMap_cons]
 intro h
 have:=leb_ne a
 exact this (List.append_eq_nil_iff.1 h).1
theorem Chk.pay_ne {c:Chk}:c.pay≠[]:=fun h=>lebs_ne0 (List.append_eq_nil_iff.1 h).1
def noRcd:AV:=.tu [.ag [.i .u64 0,.i .u32 0,.sn],.i .i64 141]
noncomputable def recordF (S:Mem) (n:Int) (c:Chk):AV × Mem:=if c.ok n then (.tu [.ag [.i .u64 c.gen,.i .u32 c.epoch,retX false S c.pay],.i .i64 0],retM false byteE S c.pay) else (noRcd,S)
noncomputable def recordS:Spec:=fun args S=>match args with
 | [.p i 0 0,.ag cs]=>match lenS [.p i 0 0] S,chkOf S cs with
  | some (.i .i64 n,_),some c=>if c.good then some (recordF S n c) else none
  | _,_=>none
 | _=>none
theorem sright_call {S:Mem} {i:Nat} {n g ep sq sg p:Int} {y:AV} {l:List Ent} {M0:Mem} (hn:lenS [.p i 0 0] S=some (.i .i64 n,M0)) (hl:lstV entE S y=some l) (hf:Bk.fits ⟨p,l⟩) (L:Mem) :
  srightS [.p i 0 0,.ag [.i .u64 g,.i .u32 ep,.i .u64 sq,.i .i64 sg,.i .u64 p,y]] (S++L)=some (.b (decide (Chk.ok n ⟨g,ep,sq,sg,⟨p,l⟩⟩)),S++L):=by
 simp only [srightS,len_grow hn,chkOf_mk (lstV_grow hl L)]
 rw [if_pos hf]
theorem rsright_call {S:Mem} {n g ep sq sg p:Int} {y:AV} {l:List Ent} (hl:lstV entE S y=some l) (hf:Bk.fits ⟨p,l⟩) (L:Mem) :
  rsrightS [.i .i64 n,.ag [.i .u64 g,.i .u32 ep,.i .u64 sq,.i .i64 sg,.i .u64 p,y]] (S++L)=some (.b (decide (Chk.ok n ⟨g,ep,sq,sg,⟨p,l⟩⟩)),S++L):=by
 simp only [rsrightS,chkOf_mk (lstV_grow hl L)]
 rw [if_pos hf]
theorem bytes_exact {S:Mem} {p:Int} {y:AV} {l:List Ent} (hl:lstV entE S y=some l) (hg:Bk.good ⟨p,l⟩) (ho:Bk.ok ⟨p,l⟩) :
  bytesS [.ag [.i .u64 p,y]] S=some (.tu [.sl S.length 0 0 (lebs (Bk.ns ⟨p,l⟩)).length (lebs (Bk.ns ⟨p,l⟩)).length false,.i .i64 0],S++[.cells ((lebs (Bk.ns ⟨p,l⟩)).map byV) 0 (some 1) true]):=by
 simp only [bytesS,bookOf_mk hl]
 rw [if_pos hg,if_pos ho,retX_ne lebs_ne,retM_ne lebs_ne,enc_by];rfl
theorem lebs_exact {z:Bool} {S:Mem} {x:AV} {a b:Int} (hl:lstV numE S x=some [a,b]) (ha:u64 a) (hb:u64 b) :
  lebsS z [x] S=some (.sl S.length 0 0 (lebs [a,b]).length (lebs [a,b]).length false,S++[.cells ((lebs [a,b]).map byV) 0 (some 1) true]):=by
 rw [lebs_eq hl (by simp) (by simp [ha,hb]),retX_ne lebs_ne0,retM_ne lebs_ne0,enc_by];rfl
theorem lits_lst {α:Type} {E:Enc α} {S:Mem} {j n:Nat} {l:List α} {cs:List AV} {op:Option Nat} {ex:Bool} (hB:S[j]? = some (.cells cs 0 op true)) (hcs:cs=l.flatMap E.enc) (hn:l.length=n):lstV E S (.sl j 0 0 n n ex)=some l:=by
 refine lst_lstV (.inr (.inr ⟨j,0,0,n,n,ex,rfl,hn,?_⟩))
 rw [rowAt_B,hB,rowB_some,hcs,if_pos (by rw [enc_length,hn];omega),List.drop_zero,←hn,←enc_length,List.take_length]
theorem oRec_ok:OK Tryz.prog (lamOf Tryz.prog) (orcOf [(20,srightS),(54,bytesS),(56,lebsS false),(55,catS)]):=orc_ok (by simpa using ⟨sright_ok,bytes_ok,lebs_ok,cat_ok⟩)
set_option maxHeartbeats 1000000 in
theorem record_ok:SpecOK Tryz.prog 27 recordS:=by
 intro args S x S' h
 simp only [recordS] at h
 split at h
 ·rename_i i cs
  split at h
  ·rename_i n M0 c hn hcs
   split at h
   ·rename_i hg
    injection h with h
    unfold recordF at h
    obtain ⟨y,rfl,hl⟩:=chkOf_ok hcs
    obtain ⟨g,ep,sq,sg,p,l⟩:=c
    simp only at hl
    have hr:=sright_call (g:=g) (ep:=ep) (sq:=sq) (sg:=sg) (p:=p) hn hl hg.fits
    refine fn_of_wp f27 rfl (W_sound oRec_ok mixed _ _ _ _ _ ?_)
    split at h
    ·rename_i ho
     obtain ⟨rfl,rfl⟩:=Prod.mk.inj h
     rw [decide_eq_true ho] at hr
     obtain ⟨hg1,hg2,hg3,hg4,hg5⟩:=hg
     obtain ⟨ho1,ho2,ho3,ho4,ho5⟩:=ho
     have hsg:=seg_pos ho1
     simp only at hg1 hg2 hg3 hg4 hg5 ho1 ho2 ho3 ho4 ho5 hsg
     have hws:wrapV .u64 sg=sg:=wrap_u64 (by omega) (by omega)
     have hpne:=Chk.pay_ne (c:=⟨g,ep,sq,sg,p,l⟩)
     rw [retX_ne hpne,retM_ne hpne,enc_by]
     obtain ⟨box,hbox⟩:∃ box:Blk,box = .cells [.i .u64 g,.i .u32 ep,.i .u64 sq,.i .i64 sg,.i .u64 p,y] 0 none true:=⟨_,rfl⟩
     obtain ⟨rec,hrec⟩:∃ rec:Blk,rec = .cells [.i .u64 0,.i .u32 0,.sn] 0 none true:=⟨_,rfl⟩
     have hby:=bytes_exact (p:=p) (lstV_grow hl [box,rec]) hg5 ho5
     obtain ⟨d,hd⟩:∃ d,d=lebs (Bk.ns ⟨p,l⟩):=⟨_,rfl⟩
     rw [←hd] at hby
     obtain ⟨bd,hbd⟩:∃ bd:Blk,bd = .cells (d.map byV) 0 (some 1) true:=⟨_,rfl⟩
     rw [←hbd,List.append_assoc,List.length_append] at hby
     have hby:bytesS [.ag [.i .u64 p,y]] (S++[box,rec])=some (.tu [.sl (S.length+2) 0 0 d.length d.length false,.i .i64 0],S++[box,rec,bd]):=hby
     obtain ⟨bn,hbn⟩:∃ bn:Blk,bn = .cells [.i .u64 sq,.i .u64 sg] 0 none true:=⟨_,rfl⟩
     have hnu:=lebs_exact (z:=false) (S:=S++[box,rec,bd,bn]) (x:=.sl (S.length+3) 0 0 2 2 true) (a:=sq) (b:=sg) (lits_lst (E:=numE) (l:=[sq,sg]) (cs:=[.i .u64 sq,.i .u64 sg]) (op:=none) (by rw [at_app,←hbn];rfl) rfl rfl) hg3 ⟨by omega,by omega⟩
     obtain ⟨f,hf⟩:∃ f,f=lebs [sq,sg]:=⟨_,rfl⟩
     rw [←hf] at hnu
     obtain ⟨bf,hbf⟩:∃ bf:Blk,bf = .cells (f.map byV) 0 (some 1) true:=⟨_,rfl⟩
     rw [←hbf,List.append_assoc,List.length_append] at hnu
     have hnu:lebsS false [.sl (S.length+3) 0 0 2 2 true] (S++[box,rec,bd,bn])=some (.sl (S.length+4) 0 0 f.length f.length false,S++[box,rec,bd,bn,bf]):=hnu
     have hpay:Chk.pay ⟨g,ep,sq,sg,p,l⟩=f++d:=by rw [hf,hd];rfl
     rw [hpay] at hpne ⊢
     obtain ⟨bp,hbp⟩:∃ bp:Blk,bp = .cells [.sl (S.length+4) 0 0 f.length f.length false,.sl (S.length+2) 0 0 d.length d.length false] 0 none true:=⟨_,rfl⟩
     have hlen:(f++d).length≤900000:=by
      rw [hf,hd,List.length_append]
      have h1:=lebs_len (l:=[sq,sg]) (by simp;exact ⟨hg3,by omega,by omega⟩)
      have h2:=bytes_len hg5 ho5
      simp only [List.length_cons,List.length_nil] at h1
      omega
     have hca:catS [.sl (S.length+5) 0 0 2 2 true] (S++[box,rec,bd,bn,bf,bp])=some (.sl (S.length+6) 0 0 (f++d).length (f++d).length false,S++[box,rec,bd,bn,bf,bp,.cells ((f++d).map byV) 0 (some 1) true]):=by
      have e5:(S++[box,rec,bd,bn,bf,bp])[S.length+5]? = some (.cells [.sl (S.length+4) 0 0 f.length f.length false,.sl (S.length+2) 0 0 d.length d.length false] 0 none true):=by rw [at_app,←hbp];rfl
      have l4:lstV byteE (S++[box,rec,bd,bn,bf,bp]) (.sl (S.length+4) 0 0 f.length f.length false)=some f:=lits_lst (E:=byteE) (cs:=f.map byV) (op:=some 1) (by rw [at_app,←hbf];rfl) (enc_by f).symm rfl
      have l2:lstV byteE (S++[box,rec,bd,bn,bf,bp]) (.sl (S.length+2) 0 0 d.length d.length false)=some d:=lits_lst (E:=byteE) (cs:=d.map byV) (op:=some 1) (by rw [at_app,←hbd];rfl) (enc_by d).symm rfl
      simp only [catS,e5,partsV,l4,l2]
      have hfl:[f,d].flatten=f++d:=by simp
      rw [hfl,if_pos ⟨rfl,by omega,hlen⟩,retX_ne hpne,retM_ne hpne,enc_by,List.append_assoc,List.length_append];rfl
     rw [hbox,hrec] at hby hnu hca
     rw [hbn] at hnu hca
     rw [hbp] at hca
     simp (maxSteps:=1000000) (disch:=omega) only [c27,orc_cons,hr,hby,hnu,hca,hws,List.replicate,go_sem]
     exact rec2_ret (p:=6) (ext_app _) (by rw [at_app];rfl) (by_flat _ _) Flat_i Flat_i Flat_i
    ·rename_i ho
     obtain ⟨rfl,rfl⟩:=Prod.mk.inj h
     rw [decide_eq_false ho] at hr
     simp (maxSteps:=1000000) (disch:=omega) only [c27,orc_cons,hr,go_sem]
     exact wkv_drop rfl
   ·cases h
  ·cases h
 ·cases h
noncomputable def rrecordS:Spec:=fun args S=>match args with
 | [.i .i64 n,.ag cs]=>match chkOf S cs with
  | some c=>if c.good then some (recordF S n c) else none
  | _=>none
 | _=>none
theorem oRRec_ok:OK Tryz.prog (lamOf Tryz.prog) (orcOf [(48,rsrightS),(49,bytesS),(50,lebsS true)]):=orc_ok (by simpa using ⟨rsright_ok,rbytes_ok,rlebs_ok⟩)
set_option maxHeartbeats 1000000 in
theorem rrecord_ok:SpecOK Tryz.prog 22 rrecordS:=by
 intro args S x S' h
 simp only [rrecordS] at h
 split at h
 ·rename_i n cs
  split at h
  ·rename_i c hcs
   split at h
   ·rename_i hg
    injection h with h
    unfold recordF at h
    obtain ⟨y,rfl,hl⟩:=chkOf_ok hcs
    obtain ⟨g,ep,sq,sg,p,l⟩:=c
    simp only at hl
    have hr:=rsright_call (n:=n) (g:=g) (ep:=ep) (sq:=sq) (sg:=sg) (p:=p) hl hg.fits
    refine fn_of_wp f22 rfl (W_sound oRRec_ok mixed _ _ _ _ _ ?_)
    split at h
    ·rename_i ho
     obtain ⟨rfl,rfl⟩:=Prod.mk.inj h
     rw [decide_eq_true ho] at hr
     obtain ⟨hg1,hg2,hg3,hg4,hg5⟩:=hg
     obtain ⟨ho1,ho2,ho3,ho4,ho5⟩:=ho
     have hsg:=seg_pos ho1
     simp only at hg1 hg2 hg3 hg4 hg5 ho1 ho2 ho3 ho4 ho5 hsg
     have hws:wrapV .u64 sg=sg:=wrap_u64 (by omega) (by omega)
     have hpne:=Chk.pay_ne (c:=⟨g,ep,sq,sg,p,l⟩)
     rw [retX_ne hpne,retM_ne hpne,enc_by]
     obtain ⟨box,hbox⟩:∃ box:Blk,box = .cells [.i .u64 g,.i .u32 ep,.i .u64 sq,.i .i64 sg,.i .u64 p,y] 0 none true:=⟨_,rfl⟩
     obtain ⟨rec,hrec⟩:∃ rec:Blk,rec = .cells [.i .u64 0,.i .u32 0,.sn] 0 none true:=⟨_,rfl⟩
     have hby:=bytes_exact (p:=p) (lstV_grow hl [box,rec]) hg5 ho5
     obtain ⟨d,hd⟩:∃ d,d=lebs (Bk.ns ⟨p,l⟩):=⟨_,rfl⟩
     rw [←hd] at hby
     obtain ⟨bd,hbd⟩:∃ bd:Blk,bd = .cells (d.map byV) 0 (some 1) true:=⟨_,rfl⟩
     rw [←hbd,List.append_assoc,List.length_append] at hby
     have hby:bytesS [.ag [.i .u64 p,y]] (S++[box,rec])=some (.tu [.sl (S.length+2) 0 0 d.length d.length false,.i .i64 0],S++[box,rec,bd]):=hby
     obtain ⟨bn,hbn⟩:∃ bn:Blk,bn = .cells [.i .u64 sq,.i .u64 sg] 0 none true:=⟨_,rfl⟩
     have hnu:=lebs_exact (z:=true) (S:=S++[box,rec,bd,bn]) (x:=.sl (S.length+3) 0 0 2 2 true) (a:=sq) (b:=sg) (lits_lst (E:=numE) (l:=[sq,sg]) (cs:=[.i .u64 sq,.i .u64 sg]) (op:=none) (by rw [at_app,←hbn];rfl) rfl rfl) hg3 ⟨by omega,by omega⟩
     obtain ⟨f,hf⟩:∃ f,f=lebs [sq,sg]:=⟨_,rfl⟩
     rw [←hf] at hnu
     obtain ⟨bf,hbf⟩:∃ bf:Blk,bf = .cells (f.map byV) 0 (some 1) true:=⟨_,rfl⟩
     rw [←hbf,List.append_assoc,List.length_append] at hnu
     have hnu:lebsS true [.sl (S.length+3) 0 0 2 2 true] (S++[box,rec,bd,bn])=some (.sl (S.length+4) 0 0 f.length f.length false,S++[box,rec,bd,bn,bf]):=hnu
     have hpay:Chk.pay ⟨g,ep,sq,sg,p,l⟩=f++d:=by rw [hf,hd];rfl
     rw [hpay] at hpne ⊢
     have hlen:(f++d).length≤900000:=by
      rw [hf,hd,List.length_append]
      have h1:=lebs_len (l:=[sq,sg]) (by simp;exact ⟨hg3,by omega,by omega⟩)
      have h2:=bytes_len hg5 ho5
      simp only [List.length_cons,List.length_nil] at h1
      omega
     have hF0:Acc true byteE (S++[box,rec,bd,bn]) (S++[box,rec,bd,bn]++[bf]) (.sl (S++[box,rec,bd,bn]).length 0 0 f.length f.length false) f:=by
      have:=retX_acc (z:=true) (E:=byteE) (S:=S++[box,rec,bd,bn]) (l:=f)
      have hfne:f≠[]:=by rw [hf];exact lebs_ne0
      rw [retX_ne hfne,retM_ne hfne,enc_by] at this
      rw [hbf];exact this
     obtain ⟨x',M',ha,hA⟩:=hF0.apps (bytes:=1) byteE_one d (by have:=hlen;rw [List.length_append] at this;omega) (by have:=hlen;rw [List.length_append] at this;omega)
     rw [List.append_assoc,List.length_append,enc_by] at ha
     have ha:appV (S++[box,rec,bd,bn,bf]) 1 1 (.sl (S.length+4) 0 0 f.length f.length false) (d.map byV) d.length=some (x',M'):=ha
     have hsr:srcV (S++[box,rec,bd,bn,bf]) 1 (.sl (S.length+2) 0 0 d.length d.length false)=some (d.map byV,d.length):=by
      have l2:lstV byteE (S++[box,rec,bd,bn,bf]) (.sl (S.length+2) 0 0 d.length d.length false)=some d:=lits_lst (E:=byteE) (cs:=d.map byV) (op:=some 1) (by rw [at_app,←hbd];rfl) (enc_by d).symm rfl
      have:=src_lst l2
      rw [enc_by] at this;exact this
     obtain ⟨T,hT,hd3⟩:=hA
     have hrs:∀ B',M'.set (S.length+1) B'=(S++[box,B',bd,bn])++T:=fun B'=>by
      rw [hT,List.append_assoc,set_app];simp
     have hrg:M'[S.length+1]? = some rec:=by rw [hT,List.append_assoc,at_app];rfl
     have hbg:M'[S.length]? = some box:=by rw [hT,List.append_assoc,at_app0];rfl
     rcases hd3 with ⟨h0,_⟩ | ⟨h0,_⟩ | ⟨_,q,v,rfl,hq⟩
     ·exact absurd h0 hpne
     ·exact absurd h0 hpne
     rw [hbox,hrec] at hby hnu ha hsr
     rw [hbn] at hnu ha hsr
     rw [hrec] at hrg
     rw [hbox] at hbg
     simp (maxSteps:=1000000) (disch:=omega) only [c22,orc_cons,hr,hby,hnu,hws,List.replicate,go_sem]
     refine draw_of ?_
     simp (maxSteps:=1000000) (disch:=omega) only [c22d0,ha,hsr,hrs,hrg,hbg,dNs_nil,dNs_cons,dnK_some,dnK_none,dOpt_none,dOpt_some,doK_some,doK_none,dStages_nil,dStages_cons,s1K_app,s2K_app,s3K_app,s4K_app,dEnd_app,evOne_op,evOne_gd,evG_tt,evG_tf,evG_ft,evG_ff,evG_ud,kSt_nil,kSt_cons,kNs_nil,kNs_cons,kN_zero,kN_succ,kA_some,eqK_some,eqK_none,kOpt_none,kOpt_some,kLike_nil,kLike_cons,ROp.use,IOp.use,IO'.use,X.use,dstL_none,dstL_some,List.flatMap_cons,List.flatMap_nil,eqv_m,eqv_p,eqv_i,eqv_b,eqv_sl,eqv_sn,eqv_pn,eqv_ud,eqv_u,eqv_mn,eqv_ag,eqvL_cons,eqvL_nil,eqv_tu,Bool.and_true,Bool.true_and,Bool.and_self,Nat.le_refl,Nat.reduceLeDiff,and_self,and_true,true_and,go_sem]
     rw [show S.length+4+q=S.length+(q+4) by omega]
     refine rec2_ret (p:=q+4) (ext_app _) ?_ (by_flat _ _) Flat_i Flat_i Flat_i
     rw [at_app]
     show T[q]? = _
     rw [hq,enc_by]
    ·rename_i ho
     obtain ⟨rfl,rfl⟩:=Prod.mk.inj h
     rw [decide_eq_false ho] at hr
     simp (maxSteps:=1000000) (disch:=omega) only [c22,orc_cons,hr,go_sem]
     exact wkv_drop rfl
   ·cases h
  ·cases h
 ·cases h
def secsF:Nat→List Int→List Sec
 | 0,_=>[]
 | m+1,b=>⟨padF (b.take 64) 64,pad_len (by rw [List.length_take];omega)⟩ :: secsF m (b.drop 64)
theorem secsF_len:∀ (m:Nat) (b:List Int),(secsF m b).length=m
 | 0,_=>rfl
 | m+1,b=>by rw [secsF,List.length_cons,secsF_len m]
theorem secsF_bytes:∀ (m:Nat) (b:List Int),b.length≤m * 64→bytesOf (secsF m b)=padF b (m * 64)
 | 0,b,h=>by
  have:b=[]:=List.eq_nil_of_length_eq_zero (by omega)
  subst this;rfl
 | m+1,b,h=>by
  have ih:=secsF_bytes m (b.drop 64) (by rw [List.length_drop];omega)
  have h1:bytesOf (secsF (m+1) b)=padF (b.take 64) 64++bytesOf (secsF m (b.drop 64)):=by
   simp only [secsF,bytesOf,List.flatMap_cons]
  rw [h1,ih]
  unfold padF
  by_cases hb:b.length≤64
  ·rw [List.take_of_length_le hb,List.drop_of_length_le hb,List.nil_append,List.length_nil,Nat.sub_zero,List.append_assoc,←List.replicate_append_replicate.symm]
   congr 2
   rw [show (64-b.length)+m * 64=(m+1) * 64-b.length by omega]
  ·have hz:64-(b.take 64).length=0:=by rw [List.length_take];omega
   rw [hz,List.replicate_zero,List.append_nil,←List.append_assoc,List.take_append_drop,List.length_drop]
   congr 2;omega
def Chk.many (c:Chk):Nat:=(sizeF (c.pay.length:Int)).toNat
def Chk.frm (c:Chk):List Int:=frameB c.gen c.epoch c.pay
def Chk.secs (c:Chk):List Sec:=secsF c.many c.frm
theorem Chk.pay_len {n:Int} {c:Chk} (hg:c.good) (ho:c.ok n):c.pay.length≤620:=by
 have h3:=seg_pos ho.1
 have h1:=lebs_len (l:=[c.seq,c.seg]) (by simp;exact ⟨hg.2.2.1,by omega,by omega⟩)
 have h2:=bytes_len hg.2.2.2.2 ho.2.2.2.2
 unfold Chk.pay
 rw [List.length_append]
 simp only [List.length_cons,List.length_nil] at h1
 omega
theorem Chk.many_eq {n:Int} {c:Chk} (hg:c.good) (ho:c.ok n):sizeF (c.pay.length:Int)=(c.many:Int)∧c.pay.length+18≤c.many * 64∧1≤c.many∧c.many≤11:=by
 have hp:=Chk.pay_len hg ho
 unfold Chk.many sizeF
 rw [if_neg (by omega)]
 omega
theorem Chk.frm_len {c:Chk}:c.frm.length=c.pay.length+18:=frameB_len _ _ _
theorem Chk.secs_enc {n:Int} {c:Chk} (hg:c.good) (ho:c.ok n):(padF c.frm (c.many * 64)).map byV=c.secs.flatMap secE.enc:=by
 rw [enc_secs]
 unfold Chk.secs
 rw [secsF_bytes _ _ (by rw [Chk.frm_len];have:=Chk.many_eq hg ho;omega)]
theorem Chk.secs_len {c:Chk}:c.secs.length=c.many:=secsF_len _ _
noncomputable def wrL (i:Nat) (first:Int):List Sec→Nat→Mem→Option (AV × Mem)
 | [],_,M=>dSyncS [.p i 0 0] M
 | s :: l,k,M=>match dWriteS [.p i 0 0,.i .i64 (first+k),.ag s.enc] (M++[.cells s.enc 0 none true]) with
  | some (.i .i64 e,M')=>if e=0 then wrL i first l (k+1) M' else some (.i .i64 e,M')
  | _=>none
def DIn (S:Mem) (i:Nat) (D:Dsk):Prop:=∃ ist px,DAt S i ist px D∧D.ok∧D.pe.length≤700000
def swM (S:Mem) (cs:List AV) (c:Chk):Mem:=S++[.cells cs 0 none true,.cells (c.pay.map byV) 0 (some 1) true,.cells [.i .u64 c.gen,.i .u32 c.epoch,.sl (S.length+1) 0 0 c.pay.length c.pay.length false] 0 none true,.cells ((padF c.frm (c.many * 64)).map byV) 0 none true]
open Classical in
noncomputable def swriteS:Spec:=fun args S=>match args with
 | [.p i 0 0,.ag cs]=>match lenS [.p i 0 0] S,chkOf S cs with
  | some (.i .i64 n,_),some c=>if c.good∧∃ D,DIn S i D then
    (if c.ok n then wrL i (slotF c.gen) c.secs 0 (swM S cs c) else some (.i .i64 141,S)) else none
  | _,_=>none
 | _=>none
theorem write_pe (D:Dsk) (k:Int) (s:Sec):(D.write k s).2.pe.length≤D.pe.length+1:=by
 unfold Dsk.write Dsk.act
 split
 ·split
  ·simp
  ·simp
 ·simp
theorem oSw_ok:OK Tryz.prog (lamOf Tryz.prog) (orcOf [(27,recordS),(28,makeS),(29,aSlotS),(11,dWriteS),(30,dSyncS)]):=orc_ok (by simpa using ⟨record_ok,make_ok,aslot_ok,dwrite_ok,dsync_ok⟩)
theorem record_call {S:Mem} {i:Nat} {n:Int} {cs:List AV} {c:Chk} {M0:Mem} (hn:lenS [.p i 0 0] S=some (.i .i64 n,M0)) (hc:chkOf S cs=some c) (hg:c.good) (L:Mem):recordS [.p i 0 0,.ag cs] (S++L)=some (recordF (S++L) n c):=by
 obtain ⟨y,rfl,hl⟩:=chkOf_ok hc
 simp only [recordS,len_grow hn,chkOf_mk (lstV_grow hl L)]
 rw [if_pos hg]
set_option maxHeartbeats 1000000 in
theorem swrite_ok:SpecOK Tryz.prog 9 swriteS:=by
 intro args S x S' h
 simp only [swriteS] at h
 split at h
 ·rename_i i cs
  split at h
  ·rename_i n M0 c hn hcs
   split at h
   ·rename_i hc
    obtain ⟨hg,D,ist,px,hD,hok,hfew⟩:=hc
    have hr:=record_call hn hcs hg
    have hcs':=hcs
    obtain ⟨y,hcsE,hl⟩:=chkOf_ok hcs
    subst hcsE
    refine fn_of_wp f9 rfl (W_sound oSw_ok mixed _ _ _ _ _ ?_)
    split at h
    ·rename_i ho
     have hmany:=Chk.many_eq hg ho
     have hplen:=Chk.pay_len hg ho
     have hpne:=Chk.pay_ne (c:=c)
     obtain ⟨hm1,hm2,hm3,hm4⟩:=hmany
     have hm0:¬ (c.many:Int)=0:=by omega
     have hg0:¬ c.gen=0:=by have:=ho.2.1.1;omega
     have hgp:0≤c.gen:=by have:=ho.2.1.1;omega
     simp only [recordF,if_pos ho] at hr
     obtain ⟨box,hbox⟩:∃ box:Blk,box = .cells [.i .u64 c.gen,.i .u32 c.epoch,.i .u64 c.seq,.i .i64 c.seg,.i .u64 c.book.period,y] 0 none true:=⟨_,rfl⟩
     have hr1:=hr [box]
     rw [retX_ne hpne,retM_ne hpne,enc_by,List.append_assoc,List.length_append] at hr1
     obtain ⟨bp,hbp⟩:∃ bp:Blk,bp = .cells (c.pay.map byV) 0 (some 1) true:=⟨_,rfl⟩
     have hr1:recordS [.p i 0 0,.ag [.i .u64 c.gen,.i .u32 c.epoch,.i .u64 c.seq,.i .i64 c.seg,.i .u64 c.book.period,y]] (S++[box])=some (.tu [.ag [.i .u64 c.gen,.i .u32 c.epoch,.sl (S.length+1) 0 0 c.pay.length c.pay.length false],.i .i64 0],S++[box,bp]):=by rw [hr1,hbp];rfl
     obtain ⟨br,hbr⟩:∃ br:Blk,br = .cells [.i .u64 c.gen,.i .u32 c.epoch,.sl (S.length+1) 0 0 c.pay.length c.pay.length false] 0 none true:=⟨_,rfl⟩
     obtain ⟨bs,hbs⟩:∃ bs:Blk,bs = .cells ((padF c.frm (c.many * 64)).map byV) 0 none true:=⟨_,rfl⟩
     have hmk:makeS [.ag [.i .u64 c.gen,.i .u32 c.epoch,.sl (S.length+1) 0 0 c.pay.length c.pay.length false]] (S++[box,bp,br])=some (.tu [.sl (S.length+3) 0 0 c.many c.many true,.i .i64 0],S++[box,bp,br,bs]):=by
      have l1:lstV byteE (S++[box,bp,br]) (.sl (S.length+1) 0 0 c.pay.length c.pay.length false)=some c.pay:=lits_lst (E:=byteE) (cs:=c.pay.map byV) (op:=some 1) (by rw [at_app,←hbp];rfl) (enc_by c.pay).symm rfl
      simp only [makeS,l1]
      rw [if_pos ⟨by omega,rfl⟩,if_neg (by rw [hm1];exact not_or.2 ⟨hm0,hg0⟩),List.append_assoc,List.length_append,hm1,Int.toNat_natCast,hbs];rfl
     have hS4:swM S [.i .u64 c.gen,.i .u32 c.epoch,.i .u64 c.seq,.i .i64 c.seg,.i .u64 c.book.period,y] c=S++[box,bp,br,bs]:=by rw [hbox,hbp,hbr,hbs];rfl
     rw [hS4] at h
     have hsl:aSlotS [.i .u64 c.gen] (S++[box,bp,br,bs])=some (.i .i64 (slotF c.gen),S++[box,bp,br,bs]):=by simp only [aSlotS];rw [if_pos hgp]
     have hfst:0≤slotF c.gen∧slotF c.gen≤16:=by unfold slotF;omega
     generalize slotF c.gen=first at hsl h hfst
     have hL:lstV secE (S++[box,bp,br,bs]) (.sl (S.length+3) 0 0 c.many c.many true)=some c.secs:=lits_lst (E:=secE) (cs:=(padF c.frm (c.many * 64)).map byV) (op:=none) (by rw [at_app,←hbs];rfl) (Chk.secs_enc hg ho) Chk.secs_len
     have hLl:=Chk.secs_len (c:=c)
     have hSE:=Chk.secs_enc hg ho
     generalize c.secs=L at h hL hLl hSE
     generalize c.many=m at *
     rw [hbox] at hr1 hmk hsl
     rw [hbr] at hmk hsl
     simp (maxSteps:=1000000) (disch:=omega) only [c9,orc_cons,hr1,hmk,hsl,List.replicate,go_sem]
     obtain ⟨S4,hS4e⟩:∃ S4,S4=S++[box,bp,br,bs]:=⟨_,rfl⟩
     have hS4f:=hS4e
     rw [←hS4e] at h
     rw [hbox,hbr] at hS4f
     rw [←hS4f]
     have hDS:DAt S4 i ist px D:=by rw [hS4e];exact hD.grow _
     obtain ⟨q,hq⟩:∃ q,q=S.length+3:=⟨_,rfl⟩
     rw [←hq]
     have hbq:S4[q]? = some bs:=by rw [hS4e,hq,at_app];rfl
     have hiS:i<S.length:=(List.getElem?_eq_some_iff.1 hD.1).1
     have hjS:ist<S.length:=(List.getElem?_eq_some_iff.1 hD.2.1).1
     have hoq:¬ Ownd i ist px q:=by
      rintro (r | r | r)
      ·omega
      ·omega
      ·rcases hD.2.2 with ⟨_,rfl⟩ | ⟨_,ip,v,rfl,h5⟩
       ·cases r
       ·have:=(List.getElem?_eq_some_iff.1 h5).1
        simp [offB] at r;omega
     have hqS:q<S4.length:=(List.getElem?_eq_some_iff.1 hbq).1
     clear hS4e hS4f hr hr1 hmk hsl hS4 hL hn hcs hcs'
     refine wp_loop (fun j e M dl=>dl=[]∧∃ (k:Nat) (px1:AV) (D1:Dsk),j=m-k∧k≤m∧wrL i first (L.drop k) k M=some (x,S')∧DAt M i ist px1 D1∧D1.ok∧D1.pe.length≤700000+k∧M[q]? = some bs∧¬ Ownd i ist px1 q ∧
      e.get 8 = .i .i64 first∧e.get 0 = .p i 0 0∧e.get 31 = .sl q 0 0 m m true∧e.get 32 = .i .i64 m∧e.get 33 = .i .i64 k) (j:=m)
      ⟨rfl,0,px,D,rfl,Nat.zero_le _,h,hDS,hok,by omega,hbq,hoq,rfl,rfl,rfl,rfl,rfl⟩ ?_
     clear h hDS hbq hoq
     rintro j e M d' ⟨rfl,k,px1,D1,rfl,hk,h,hD1,hok1,hfew1,hbM,hoM,e8,e0,e31,e32,e33⟩
     refine W_sound oSw_ok mixed _ _ _ _ _ ?_
     by_cases hkm:k<m
     ·have hkl:k<L.length:=by omega
      have hkI:(k:Int)<m:=by omega
      have hk6:k<1000000:=by omega
      have hLM:lstV secE M (.sl q 0 0 m m true)=some L:=lits_lst (E:=secE) (cs:=(padF c.frm (m * 64)).map byV) (op:=none) (by rw [hbM,hbs]) hSE hLl
      have hro:=lstV_row hLM hkl []
      rw [List.append_nil] at hro
      have hro:rowB (M[q]?) (k * 64) 0 64=some (L[k]).enc:=by
       have:rowB (M[q]?) (0+k * 64) 0 64=some (L[k]).enc:=hro
       rwa [Nat.zero_add] at this
      rw [List.drop_eq_getElem_cons hkl,wrL] at h
      generalize L[k]=t at hro h
      have hl64:=t.enc_len
      have hone:=t.one
      have htk:=t.take64
      obtain ⟨M',px',hw,hD2,hop,hok2⟩:=write_eq (hD1.grow [.cells t.enc 0 none true]) hok1 (by omega) (first+k) t
      rw [hw] at h
      have hpe:=write_pe D1 (first+k) t
      have hw1:wrapV .i64 (first+(k:Int))=first+k:=wrap_i64 (by omega) (by omega)
      generalize D1.write (first+k) t=r at *
      obtain ⟨er,D2⟩:=r
      simp only at h hD2 hok2 hpe hw
      by_cases he:er=0
      ·rw [if_pos he] at h
       subst he
       have hqM:q<M.length:=(List.getElem?_eq_some_iff.1 hbM).1
       have hbM':=hop.keep q bs (at_old hbM) hoM
       have hoM':¬ Ownd i ist px' q:=fun z=>hoM (hop.own q (by rw [List.length_append];omega) z)
       simp (maxSteps:=1000000) (disch:=omega) only [c9l0,e8,e0,e31,e32,e33,hkI,Int.toNat_natCast,Nat.zero_add,hro,List.replicate,hl64,hone,htk,orc_cons,hw1,hw,wrapS hk6,go_sem]
       exact ⟨m-(k+1),by omega,k+1,px',D2,rfl,hkm,h,hD2,hok2,by omega,hbM',hoM',rfl⟩
      ·rw [if_neg he] at h
       cases h
       simp (maxSteps:=1000000) (disch:=omega) only [c9l0,e8,e0,e31,e32,e33,hkI,Int.toNat_natCast,Nat.zero_add,hro,List.replicate,hl64,hone,htk,orc_cons,hw1,hw,he,go_sem]
       exact wkv_same
     ·have hkI:¬ (k:Int)<m:=by omega
      obtain rfl:k=m:=by omega
      rw [List.drop_of_length_le (by omega),wrL] at h
      simp (maxSteps:=1000000) (disch:=omega) only [c9l0,e8,e0,e31,e32,e33,hkI,orc_cons,h,go_sem]
      exact wkv_same
    ·rename_i ho
     cases h
     simp only [recordF,if_neg ho] at hr
     simp (maxSteps:=1000000) (disch:=omega) only [c9,orc_cons,hr,noRcd,go_sem]
     exact wkv_drop rfl
   ·cases h
  ·cases h
 ·cases h
def Dsk.wrs (first:Int):List Sec→Nat→Dsk→Int × Dsk
 | [],_,D=>D.sync
 | s :: l,k,D=>if (D.write (first+k) s).1=0 then Dsk.wrs first l (k+1) (D.write (first+k) s).2 else D.write (first+k) s
noncomputable def Dsk.swrite (D:Dsk) (c:Chk):Int × Dsk:=if c.ok D.st.length then Dsk.wrs (slotF c.gen) c.secs 0 D else (141,D)
theorem wrL_eq {i ist:Nat} {first:Int}:∀ (l:List Sec) (k:Nat) {M:Mem} {px:AV} {D:Dsk},DAt M i ist px D→D.ok→D.pe.length+l.length≤790000 →
  ∃ M' px',wrL i first l k M=some (.i .i64 (Dsk.wrs first l k D).1,M')∧DAt M' i ist px' (Dsk.wrs first l k D).2∧DOp M M' i ist px px'∧(Dsk.wrs first l k D).2.ok
 | [],k,M,px,D,h,hok,hf=>by
  obtain ⟨S',px',h1,h2,h3,h4⟩:=sync_eq h hok
  exact ⟨S',px',h1,h2,h3,h4⟩
 | s :: l,k,M,px,D,h,hok,hf=>by
  rw [List.length_cons] at hf
  obtain ⟨M1,px1,h1,h2,h3,h4⟩:=write_eq (h.grow [.cells s.enc 0 none true]) hok (by omega) (first+k) s
  have hpe:=write_pe D (first+k) s
  simp only [wrL,Dsk.wrs,h1]
  by_cases he:(D.write (first+k) s).1=0
  ·rw [if_pos he,if_pos he]
   obtain ⟨M2,px2,g1,g2,g3,g4⟩:=wrL_eq l (k+1) h2 h4 (by omega)
   exact ⟨M2,px2,g1,g2,((DOp.grow _).trans h3).trans g3,g4⟩
  ·rw [if_neg he,if_neg he]
   exact ⟨M1,px1,rfl,h2,(DOp.grow _).trans h3,h4⟩
section
variable {S:Mem} {i ist:Nat} {px:AV} {D:Dsk}
theorem swrite_eq (h:DAt S i ist px D) (hok:D.ok) (hfew:D.pe.length≤700000) {cs:List AV} {c:Chk} (hc:chkOf S cs=some c) (hg:c.good) :
  ∃ S' px',swriteS [.p i 0 0,.ag cs] S=some (.i .i64 (D.swrite c).1,S')∧DAt S' i ist px' (D.swrite c).2∧DOp S S' i ist px px'∧(D.swrite c).2.ok:=by
 have hd:∃ D,DIn S i D:=⟨D,ist,px,h,hok,hfew⟩
 simp only [swriteS,len_eq h,hc]
 rw [if_pos ⟨hg,hd⟩]
 unfold Dsk.swrite
 by_cases ho:c.ok D.st.length
 ·rw [if_pos ho,if_pos ho]
  have hm:=Chk.many_eq hg ho
  obtain ⟨M',px',h1,h2,h3,h4⟩:=wrL_eq (first:=slotF c.gen) c.secs 0 (h.grow _) hok (by rw [Chk.secs_len];omega) (i:=i) (ist:=ist) (px:=px) (M:=swM S cs c) (D:=D)
  exact ⟨M',px',h1,h2,(DOp.grow _).trans h3,h4⟩
 ·rw [if_neg ho,if_neg ho]
  exact ⟨S,px,rfl,h,DOp.refl,hok⟩
end
theorem Acc.ret6 {α:Type} {z:Bool} {E:Enc α} {S M:Mem} {a b c d p x y:AV} {l:List α} (hF:∀ n a,∀ c∈E.enc a,AV.Flat n c) (h:Acc z E S M x l) (ha:AV.Flat S.length a) (hb:AV.Flat S.length b) (hc:AV.Flat S.length c) (hd:AV.Flat S.length d) (hp:AV.Flat S.length p) (hy:AV.Flat S.length y) :
  WkV S (.tu [.ag [a,b,c,d,p,retX z S l],y]) (retM z E S l) (.tu [.ag [a,b,c,d,p,x],y]) M:=by
 obtain ⟨keep,T,rfl,h1,h2,h3,h4⟩:=h.keep hF
 have:=wkv_keep (S0:=S) (L:=T) (y:=.tu [.ag [a,b,c,d,p,x],y]) keep h1 h2
 rw [ren_tu,renL_cons,renL_cons,renL_nil,ren_ag,renL_cons,renL_cons,renL_cons,renL_cons,renL_cons,renL_cons,renL_nil,h3,h4,ha,hb,hc,hd,hp,hy] at this
 exact this
def noChk:Chk:=⟨0,0,0,0,⟨0,[]⟩⟩
def outX (S:Mem) (o:Chk × Bool):AV × Mem:=(.tu [.ag [.i .u64 o.1.gen,.i .u32 o.1.epoch,.i .u64 o.1.seq,.i .i64 o.1.seg,.i .u64 o.1.book.period,retX false S o.1.book.entries],.b o.2],retM false entE S o.1.book.entries)
def satN (n:Int):Int:=if n≤9223372036854775807 then n else 0
def satQ (n:Int):Bool:=decide (n≤9223372036854775807)
theorem sat_eq {n:Int} (h:u64 n) (S:Mem):satS [.i .u64 n] S=some (.tu [.i .i64 (satN n),.b (satQ n)],S):=by
 unfold satN satQ
 simp only [satS,if_pos h]
 by_cases hc:n≤9223372036854775807
 ·rw [if_pos hc,if_pos hc,decide_eq_true hc]
 ·rw [if_neg hc,if_neg hc,decide_eq_false hc]
noncomputable def checkF (n gen ep:Int) (pay:List Int):Chk × Bool:=match getL pay with
 | none=>(noChk,false)
 | some (sq,k)=>match getL (pay.drop k) with
  | none=>(noChk,false)
  | some (sg,m)=>match Bk.read (pay.drop (k+m)) with
   | none=>(⟨gen,ep,sq,satN sg,⟨0,[]⟩⟩,false)
   | some b=>(⟨gen,ep,sq,satN sg,b⟩,satQ sg && decide (Chk.ok n ⟨gen,ep,sq,satN sg,b⟩))
noncomputable def checkS:Spec:=fun args S=>match args with
 | [.p i 0 0,.ag [.i .u64 gen,.i .u32 ep,x]]=>match lenS [.p i 0 0] S,lstV byteE S x with
  | some (.i .i64 n,_),some pay=>if openQ S 1 x=true∧pay.all (fun c=>decide (u8 c))=true∧pay.length≤900000∧x.one=true then some (outX S (checkF n gen ep pay)) else none
  | _,_=>none
 | _=>none
theorem getL_ok {b:List Int} {n:Int} {k:Nat} (h:getL b=some (n,k)) (hu:∀ c∈b,u8 c):u64 n∧k≤b.length:=by
 obtain ⟨h1,_,_,_,h2⟩:=getL_some hu h
 exact ⟨h1,h2⟩
theorem slice_growG {S L:Mem} {sz:Nat} {x x':AV} {lo hi mx:Option AV} (h:sliceV S sz x lo hi mx=some x'):sliceV (S++L) sz x lo hi mx=some x':=by
 cases x with
 | sl i o v len cap ex=>exact slice_grow h
 | _=>exact h
theorem one_of_accG {α:Type} {z:Bool} {E:Enc α} {S M:Mem} {x:AV} {l:List α} (h:Acc z E S M x l):x.one=true:=by
 obtain ⟨T,rfl,⟨_,_,rfl⟩ | ⟨_,_,p,rfl,_⟩ | ⟨_,p,v,rfl,_⟩⟩:=h <;> rfl
theorem cells_one {x:AV} (h:x.one=true):AV.cells x=some [x]:=by cases x <;> first | rfl | cases h
theorem oCk_ok:OK Tryz.prog (lamOf Tryz.prog) (orcOf [(89,getS),(90,satS),(91,readS),(20,srightS)]):=orc_ok (by simpa using ⟨get_ok,sat_ok,read_ok,sright_ok⟩)
set_option maxHeartbeats 2000000 in
theorem check_ok:SpecOK Tryz.prog 64 checkS:=by
 intro args S x S' h
 simp only [checkS] at h
 split at h
 ·rename_i i gen ep y
  split at h
  ·rename_i n M0 pay hn hl
   split at h
   ·rename_i hc
    obtain ⟨hoq,hu,hlim,hone⟩:=hc
    have hu:∀ c∈pay,u8 c:=fun c hc=>of_decide_eq_true (List.all_eq_true.1 hu c hc)
    injection h with h
    have hcp:AV.cells y=some [y]:=by cases y <;> first | rfl | cases hone
    have hg1:=fun L=>getS_eq (S:=S++L) (lstV_grow hl L) (openQ_grow hoq L) hu (by omega)
    refine fn_of_wp f64 rfl (W_sound oCk_ok mixed _ _ _ _ _ ?_)
    unfold checkF at h
    cases hp1:getL pay with
    | none =>
     rw [hp1] at h hg1
     simp only at h
     obtain ⟨rfl,rfl⟩:=Prod.mk.inj h
     simp (maxSteps:=1000000) (disch:=omega) only [c64,hcp,hone,orc_cons,hg1,got,go_sem]
     exact wkv_drop rfl
    | some r1 =>
     obtain ⟨sq,k⟩:=r1
     rw [hp1] at h hg1
     simp only at h
     obtain ⟨hsq,hk⟩:=getL_ok hp1 hu
     obtain ⟨x2,hs2,hl2,hq2⟩:=drop_lst hl hoq (q:=.i64) (a:=k) hk
     have hs2:=fun L=>slice_growG (L:=L) hs2
     have hs2:∀ L,sliceV (S++L) 1 y (some (.i .i64 (k:Int))) none none=some x2:=hs2
     have hu2:∀ c∈pay.drop k,u8 c:=fun c hc=>hu c (List.mem_of_mem_drop hc)
     have hg2:=fun L=>getS_eq (S:=S++L) (lstV_grow hl2 L) (openQ_grow hq2 L) hu2 (by rw [List.length_drop];omega)
     cases hp2:getL (pay.drop k) with
     | none =>
      rw [hp2] at h hg2
      simp only at h
      obtain ⟨rfl,rfl⟩:=Prod.mk.inj h
      simp (maxSteps:=1000000) (disch:=omega) only [c64,hcp,hone,orc_cons,hg1,got,hs2,hg2,go_sem]
      exact wkv_drop rfl
     | some r2 =>
      obtain ⟨sg,m⟩:=r2
      rw [hp2] at h hg2
      simp only at h
      obtain ⟨hsg,hm⟩:=getL_ok hp2 hu2
      rw [List.length_drop] at hm
      obtain ⟨x3,hs3,hl3,hq3⟩:=drop_lst hl hoq (q:=.i64) (a:=k+m) (by omega)
      have hs3:=fun L=>slice_growG (L:=L) hs3
      have hs3:∀ L,sliceV (S++L) 1 y (some (.i .i64 ((k+m:Nat):Int))) none none=some x3:=hs3
      have hu3:∀ c∈pay.drop (k+m),u8 c:=fun c hc=>hu c (List.mem_of_mem_drop hc)
      have hw:wrapV .i64 ((k:Int)+m)=((k+m:Nat):Int):=by rw [wrap_i64 (by omega) (by omega)];omega
      have hr3:=fun L=>readS_eq (S:=S++L) (lstV_grow hl3 L) (openQ_grow hq3 L) hu3 (by rw [List.length_drop];omega)
      have hsat:=sat_eq hsg
      cases hp3:Bk.read (pay.drop (k+m)) with
      | none =>
       rw [hp3] at h hr3
       simp only at h hr3
       obtain ⟨rfl,rfl⟩:=Prod.mk.inj h
       cases hsq2:satQ sg with
       | true =>
        rw [hsq2] at hsat
        simp (maxSteps:=1000000) (disch:=omega) only [c64,hcp,hone,orc_cons,hg1,got,hs2,hg2,hs3,hw,hsat,hr3,go_sem]
        exact wkv_drop rfl
       | false =>
        rw [hsq2] at hsat
        simp (maxSteps:=1000000) (disch:=omega) only [c64,hcp,hone,orc_cons,hg1,got,hs2,hg2,hs3,hw,hsat,hr3,go_sem]
        exact wkv_drop rfl
      | some b =>
       rw [hp3] at h hr3
       simp only at h hr3
       obtain ⟨hbo,hbg,_⟩:=bytes_read hu3 hp3
       obtain ⟨rfl,rfl⟩:=Prod.mk.inj h
       obtain ⟨p,es⟩:=b
       have hr4:=hr3 [.cells [.i .u64 gen,.i .u32 ep,y] 0 none true,.cells [.i .u64 0,.i .u32 0,.i .u64 0,.i .i64 0,.i .u64 0,.sn] 0 none true]
       obtain ⟨Sx,hSx⟩:∃ Sx,Sx=S++[Blk.cells [.i .u64 gen,.i .u32 ep,y] 0 none true,.cells [.i .u64 0,.i .u32 0,.i .u64 0,.i .i64 0,.i .u64 0,.sn] 0 none true]:=⟨_,rfl⟩
       rw [←hSx] at hr4
       simp only [bookR] at hr4
       have hA:=retX_acc (z:=false) (E:=entE) (S:=Sx) (l:=es)
       generalize retX false Sx es=X at hr4 hA
       generalize retM false entE Sx es=M2 at hr4 hA
       have hone2:=one_of_accG hA
       have hcp2:=cells_one hone2
       have hM2:=hA.ext
       have hb0:M2[S.length]? = some (.cells [.i .u64 gen,.i .u32 ep,y] 0 none true):=at_pre hM2 (by rw [hSx,at_app0];rfl)
       have hb1:M2[S.length+1]? = some (.cells [.i .u64 0,.i .u32 0,.i .u64 0,.i .i64 0,.i .u64 0,.sn] 0 none true):=at_pre hM2 (by rw [hSx,at_app];rfl)
       obtain ⟨o1,o2,o3,o4,o5⟩:=old_at hb0
       obtain ⟨q1,q2,q3,q4,q5⟩:=old_at hb1
       have hSM:S <+: M2:=(by rw [hSx] at hM2;exact (ext_app _).trans hM2)
       have hlen2:lenS [.p i 0 0] M2=some (.i .i64 n,M2):=by
        obtain ⟨T,hT⟩:=hSM
        rw [←hT];exact len_grow hn T
       have hR:=fun L=>sright_call (g:=gen) (ep:=ep) (sq:=sq) (sg:=satN sg) (p:=p) hlen2 hA.lst hbg.fits L
       have hAS:Acc false entE S M2 X es:=hA.base (by rw [hSx];exact ext_app _)
       have hcl:=fun B' U=>(hAS.setB (Nat.le_add_right S.length 1) hb1 rfl B').grow U
       rw [hSx] at hr4
       generalize decide (Chk.ok n ⟨gen,ep,sq,satN sg,⟨p,es⟩⟩)=okb at hR
       cases hsq2:satQ sg with
       | true =>
        rw [hsq2] at hsat
        simp (maxSteps:=1000000) (disch:=omega) only [c64,hcp,hone,orc_cons,hg1,got,hs2,hg2,hs3,hw,hsat,hr4,hone2,hcp2,o1,q1,hb0,hb1,q2,q3,q4,hR,go_sem]
        exact (hcl _ _).ret6 entE_flat Flat_i Flat_i Flat_i Flat_i Flat_i Flat_b
       | false =>
        rw [hsq2] at hsat
        simp (maxSteps:=1000000) (disch:=omega) only [c64,hcp,hone,orc_cons,hg1,got,hs2,hg2,hs3,hw,hsat,hr4,hone2,hcp2,o1,q1,hb0,hb1,q2,q3,q4,hR,go_sem]
        exact (hcl _ _).ret6 entE_flat Flat_i Flat_i Flat_i Flat_i Flat_i Flat_b
   ·cases h
  ·cases h
 ·cases h
end Go.Proofs.YtkfobkfhbkicaaaGreat
