/- Proved here: what the law of this claim leans on (an evaluator of the model's code, contracts of functions). No condition. -/
import Derived.Test.YtkfobkfhbkicaaaGreatMe
import Derived.Test.YtkfobkfhbkicaaaGreatMd
set_option linter.unusedSimpArgs false
set_option linter.unusedVariables false
namespace Go.Proofs.YtkfobkfhbkicaaaGreat
open Go.RowKit
set_option maxRecDepth 10000
def Dsk.got (D:Dsk) (first:Int):Nat→Option (List Sec)
 | 0=>some []
 | k+1=>match D.got first k with
  | some l=>if (readAt D.st D.pe (first+k)).2=0 then some (l++[(readAt D.st D.pe (first+k)).1]) else none
  | none=>none
noncomputable def Dsk.one (D:Dsk) (first:Int):Chk × Bool:=match D.got first 16 with
 | none=>(noChk,false)
 | some L=>match openF L with
  | none=>(noChk,false)
  | some r=>if slotF r.seq=first then checkF D.st.length r.seq r.epoch r.pay else (noChk,false)
def Dsk.by_ (D:Dsk):Prop:=(∀ s∈D.st,∀ c∈s.b,u8 c)∧∀ w∈D.pe,∀ c∈w.sec.b,u8 c
def DBy (S:Mem) (i:Nat) (D:Dsk):Prop:=DIn S i D∧D.by_
open Classical in
noncomputable def sreadS:Spec:=fun args S=>match args with
 | [.p i 0 0,.i .i64 first]=>if h:(∃ D,DBy S i D)∧0≤first∧first≤1000 then some (outX S (h.1.choose.one first)) else none
 | _=>none
theorem head_inj {S:Mem} {i ist ist':Nat} {px px':AV} {D D':Dsk} (h:DAt S i ist px D) (h':DAt S i ist' px' D'):D=D':=by
 obtain ⟨a1,a2,a3⟩:=h
 obtain ⟨b1,b2,b3⟩:=h'
 rw [a1] at b1
 injection b1 with b1;injection b1 with b1
 simp only [Dsk.head,List.cons.injEq,AV.sl.injEq,AV.i.injEq,AV.b.injEq,and_true,true_and] at b1
 obtain ⟨⟨e1,e2,_⟩,e3,e4,e5⟩:=b1
 subst e1;subst e3
 have c1:=DAt.st_lst ⟨a1,a2,a3⟩
 have c2:=DAt.pe_lst ⟨a1,a2,a3⟩
 have d1:lstV secE S (.sl ist 0 0 D'.st.length D'.st.length true)=some D'.st:=by
  refine lst_lstV (.inr (.inr ⟨_,_,_,_,_,_,rfl,rfl,?_⟩))
  rw [rowAt_B,b2,rowB_some,if_pos (by rw [enc_length];omega),List.drop_zero,←enc_length,List.take_length]
 have d2:lstV wrE S px=some D'.pe:=by
  rcases b3 with ⟨h1,rfl⟩ | ⟨_,ip,v,rfl,h5⟩
  ·rw [h1];rfl
  ·refine lst_lstV (.inr (.inr ⟨_,_,_,_,_,_,rfl,rfl,?_⟩))
   rw [rowAt_B,h5,rowB_some,if_pos (by rw [enc_length];omega),List.drop_zero,←enc_length,List.take_length]
 obtain ⟨st,pe,left,down⟩:=D
 obtain ⟨st',pe',left',down'⟩:=D'
 simp only at e2 e4 e5 c1 c2 d1 d2
 rw [←e2,c1] at d1
 rw [c2] at d2
 have f1:=Option.some.inj d1
 have f2:=Option.some.inj d2
 subst f1;subst f2;subst e4;subst e5
 rfl
theorem din_eq {S:Mem} {i ist:Nat} {px:AV} {D:Dsk} (h:DAt S i ist px D) (hd:∃ D,DBy S i D):hd.choose=D:=by
 obtain ⟨⟨a,b,hc,_⟩,_⟩:=hd.choose_spec
 exact head_inj hc h
theorem sread_eq {S:Mem} {i ist:Nat} {px:AV} {D:Dsk} (h:DAt S i ist px D) (hok:D.ok) (hfew:D.pe.length≤700000) (hby:D.by_) {first:Int} (hf:0≤first∧first≤1000):sreadS [.p i 0 0,.i .i64 first] S=some (outX S (D.one first)):=by
 have hd:∃ D,DBy S i D:=⟨D,⟨ist,px,h,hok,hfew⟩,hby⟩
 simp only [sreadS]
 rw [dif_pos ⟨hd,hf⟩,din_eq h]
theorem got_len {D:Dsk} {first:Int}:∀ {k:Nat} {L:List Sec},D.got first k=some L→L.length=k
 | 0,L,h=>by cases h;rfl
 | k+1,L,h=>by
  simp only [Dsk.got] at h
  split at h
  ·rename_i l hl
   split at h
   ·cases h
    rw [List.length_append,got_len hl];rfl
   ·cases h
  ·cases h
theorem got_none {D:Dsk} {first:Int} {k:Nat} (h:(readAt D.st D.pe (first+k)).2≠0):∀ m,k<m→D.got first m=none
 | 0,q=>absurd q (Nat.not_lt_zero _)
 | m+1,q=>by
  simp only [Dsk.got]
  by_cases e:k=m
  ·subst e
   split
   ·rw [if_neg h]
   ·rfl
  ·rw [got_none h m (by omega)]
theorem one_none {D:Dsk} {first:Int} (h:D.got first 16=none):D.one first=(noChk,false):=by
 unfold Dsk.one
 rw [h]
theorem one_some {D:Dsk} {first:Int} {L:List Sec} (h:D.got first 16=some L):D.one first=match openF L with
  | none=>(noChk,false)
  | some r=>if slotF r.seq=first then checkF D.st.length r.seq r.epoch r.pay else (noChk,false):=by
 unfold Dsk.one
 rw [h]
theorem readAt_u8 {D:Dsk} (h:D.by_) (k:Int):∀ c∈(readAt D.st D.pe k).1.b,u8 c:=by
 have hz:∀ c∈zSec.b,u8 c:=fun c hc=>by
  have:c=0:=(List.mem_replicate.1 hc).2
  rw [this];unfold u8;omega
 unfold readAt
 split
 ·rename_i hk
  have hlast:∀ (pe:List Wr) (s:Sec),(∀ c∈s.b,u8 c)→(∀ w∈pe,∀ c∈w.sec.b,u8 c)→∀ c∈(lastW k pe s).b,u8 c:=by
   intro pe
   induction pe with
   | nil=>intro s hs _;exact hs
   | cons w pe ih =>
    intro s hs hw
    refine ih _ ?_ (fun w' hw'=>hw w' (by simp [hw']))
    show ∀ c∈(if w.at_=k then w.sec else s).b,u8 c
    split
    ·exact hw w (by simp)
    ·exact hs
  refine hlast _ _ ?_ h.2
  rw [List.getD_eq_getElem?_getD]
  have hlt:k.toNat<D.st.length:=by omega
  rw [List.getElem?_eq_getElem hlt]
  exact h.1 _ (List.getElem_mem hlt)
 ·exact hz
theorem got_u8 {D:Dsk} (hb:D.by_) {first:Int}:∀ {k:Nat} {L:List Sec},D.got first k=some L→∀ c∈bytesOf L,u8 c
 | 0,L,h=>by cases h;intro c hc;cases hc
 | k+1,L,h=>by
  simp only [Dsk.got] at h
  split at h
  ·rename_i l hl
   split at h
   ·cases h
    intro c hc
    unfold bytesOf at hc
    rw [List.flatMap_append] at hc
    rcases List.mem_append.1 hc with hc | hc
    ·exact got_u8 hb hl c hc
    ·rw [List.flatMap_cons,List.flatMap_nil,List.append_nil] at hc
     exact readAt_u8 hb _ c hc
   ·cases h
  ·cases h
theorem orq_u64 (a b:Int):u64 (orq a b):=by
 unfold orq u64
 simp only [wrapV];omega
theorem valF_u64 (l:List Int):u64 (valF l):=by
 unfold valF
 rcases List.eq_nil_or_concat l with rfl | ⟨l,a,rfl⟩
 ·unfold u64;simp
 ·rw [List.concat_eq_append,List.foldl_append]
  exact orq_u64 _ _
theorem openF_good {L:List Sec} {r:Rec} (hu:∀ c∈bytesOf L,u8 c) (h:openF L=some r):u64 r.seq∧(0≤r.epoch∧r.epoch≤4294967295)∧(∀ c∈r.body,u8 c)∧14≤r.body.length∧r.body.length≤714∧0<r.seq:=by
 cases L with
 | nil=>cases h
 | cons s L =>
  simp only [openF] at h
  split at h
  ·cases h
  ·rename_i hc
   rw [not_or] at hc
   obtain ⟨h0,h1⟩:=hc
   generalize hsz:wrapV .i64 (valF (s.b.take 2))=size at h h0 h1
   have hs:0≤size∧size≤700:=by
    unfold sizeF at h0
    split at h0
    ·exact absurd rfl h0
    ·omega
   have hm:size+18≤sizeF size * 64:=by
    unfold sizeF
    rw [if_neg (by omega)];omega
   have hL:(bytesOf ((s :: L).take (sizeF size).toNat)).length=(sizeF size).toNat * 64:=by
    rw [secs_len,List.length_take];omega
   have hsub:∀ c∈bytesOf ((s :: L).take (sizeF size).toNat),u8 c:=fun c hc=>by
    unfold bytesOf at hc
    obtain ⟨t,ht,hct⟩:=List.mem_flatMap.1 hc
    exact hu c (List.mem_flatMap.2 ⟨t,List.mem_of_mem_take ht,hct⟩)
   unfold openL at h
   split at h
   ·cases h
   ·rename_i body hb
    obtain ⟨e1,e2⟩:=unseal_len hb
    split at h
    ·cases h
    ·split at h
     ·cases h
     ·rename_i hq
      cases h
      have hv:=valF_u64 ((body.drop 2).take 8)
      have hbl:body.length=(size+18).toNat-4:=by
       rw [e1]
       simp only [List.length_take,hL];omega
      refine ⟨hv,?_,fun c hc=>?_,?_,?_,?_⟩
      ·simp only [wrapV];omega
      ·have hc:c∈body:=hc
       rw [e1] at hc
       exact hsub c (List.mem_of_mem_take (List.mem_of_mem_take hc))
      ·show 14≤body.length;omega
      ·show body.length≤714;omega
      ·have:=hv.1;show 0<valF ((body.drop 2).take 8);omega
theorem payX_lst {M U:Mem} {body:List Int} (h14:14≤body.length):lstV byteE (M++(.cells (body.map byV) 0 (some 1) true :: U)) (payX M.length body)=some (body.drop 14)∧openQ (M++(.cells (body.map byV) 0 (some 1) true :: U)) 1 (payX M.length body)=true∧(payX M.length body).one=true:=by
 have hB:(M++(Blk.cells (body.map byV) 0 (some 1) true :: U))[M.length]? = some (.cells (body.map byV) 0 (some 1) true):=by rw [at_app0];rfl
 unfold payX
 split
 ·rename_i h
  rw [List.drop_of_length_le (by omega)]
  exact ⟨rfl,rfl,rfl⟩
 ·refine ⟨lst_lstV (.inr (.inr ⟨_,_,_,_,_,_,rfl,by rw [List.length_drop],?_⟩)),?_,rfl⟩
  ·rw [rowAt_B,hB,rowB_some,if_pos (by rw [List.length_map];show 14+(body.length-14) * 1≤_;omega),enc_by,List.map_drop]
   rw [List.take_of_length_le (by rw [List.length_drop,List.length_map];show body.length-14≤(body.length-14) * 1;omega)]
  ·simp only [openQ,hB];simp [Blk.opn]
theorem secE_one (s:Sec):(secE.enc s).all AV.one=true:=s.one
theorem oSd_ok:OK Tryz.prog (lamOf Tryz.prog) (orcOf [(23,dReadS),(63,fOpenS),(29,aSlotS),(64,checkS)]):=orc_ok (by simpa using ⟨dRead_ok,fopen_ok,aslot_ok,check_ok⟩)
set_option maxHeartbeats 2000000 in
theorem sread_ok:SpecOK Tryz.prog 40 sreadS:=by
 intro args S x S' h
 simp only [sreadS] at h
 split at h
 ·rename_i i first
  split at h
  ·rename_i hc
   obtain ⟨⟨D,⟨ist,px,hD,hok,hfew⟩,hby⟩,hf⟩:=hc
   rw [din_eq hD] at h
   injection h with h
   refine fn_of_wp f40 rfl (W_sound oSd_ok mixed _ _ _ _ _ ?_)
   simp (maxSteps:=1000000) (disch:=omega) only [c40,go_sem]
   obtain ⟨z6,hz6⟩:∃ z6,z6=Blk.cells [.i .u64 0,.i .u32 0,.i .u64 0,.i .i64 0,.i .u64 0,.sn] 0 none true:=⟨_,rfl⟩
   rw [←hz6]
   obtain ⟨Sx,hSx⟩:∃ Sx,Sx=S++[z6]:=⟨_,rfl⟩
   rw [←hSx]
   have hSSx:S <+: Sx:=by rw [hSx];exact ext_app _
   have hz:Sx[S.length]? = some z6:=by rw [hSx,at_app0];rfl
   have hDx:DAt Sx i ist px D:=by rw [hSx];exact hD.grow _
   refine wp_loop (fun j e M dl=>dl=[]∧∃ (k:Nat) (y:AV) (L:List Sec),j=16-k∧k≤16∧D.got first k=some L∧Acc false secE Sx M y L ∧
    e.get 4 = .p S.length 0 0∧e.get 1 = .i .i64 first∧e.get 0 = .p i 0 0∧e.get 13 = .i .i64 k∧e.get 6=y) (j:=16)
    ⟨rfl,0,.sn,[],rfl,Nat.zero_le _,rfl,acc_nil ext_refl,rfl,rfl,rfl,rfl,rfl⟩ ?_
   rintro j e M d' ⟨rfl,k,y,L,rfl,hk,hL,hA,e4,e1,e0,e13,e6⟩
   refine W_sound oSd_ok mixed _ _ _ _ _ ?_
   have hLl:=got_len hL
   have hDM:DAt M i ist px D:=by
    obtain ⟨T,hT⟩:=hA.ext
    rw [←hT];exact hDx.grow T
   have hzM:M[S.length]? = some z6:=at_pre hA.ext hz
   rw [hz6] at hzM
   obtain ⟨o1,o2,o3,o4,o5⟩:=old_at hzM
   have hSM:=hSSx.trans hA.ext
   by_cases hkm:k<16
   ·have hkI:(k:Int)<16:=by omega
    have hk6:k<1000000:=by omega
    have hw1:wrapV .i64 (first+(k:Int))=first+k:=wrap_i64 (by omega) (by omega)
    have hrd:=dread_eq hDM hok (first+k)
    by_cases he:(readAt D.st D.pe (first+k)).2=0
    ·have hL':D.got first (k+1)=some (L++[(readAt D.st D.pe (first+k)).1]):=by simp only [Dsk.got,hL,if_pos he]
     generalize readAt D.st D.pe (first+k)=r at *
     obtain ⟨t,er⟩:=r
     simp only at he
     subst he
     simp only [secT] at hrd
     simp only at hL'
     have hl64:=t.enc_len
     have hone:=t.one
     have htk:=t.take64
     obtain ⟨y',M',ha,hA'⟩:=(hA.grow [.cells t.enc 0 none true,.cells t.enc 0 none true]).app (bytes:=64) secE_one t (by omega) (by omega)
     have ha:appV (M++[.cells t.enc 0 none true,.cells t.enc 0 none true]) 64 64 y t.enc 1=some (y',M'):=ha
     have hsrc:srcV (M++[.cells t.enc 0 none true,.cells t.enc 0 none true]) 64 (.sl (M.length+1) 0 0 1 1 true)=some (t.enc,1):=by
      rw [src_sl,at_app]
      show srcN 1 (rowB (some (Blk.cells t.enc 0 none true)) 0 0 (1 * 64))=_
      rw [rowB_some,if_pos (by omega),List.drop_zero,Nat.one_mul,htk];rfl
     simp (maxSteps:=1000000) (disch:=omega) only [c40l0,e4,e1,e0,e13,e6,hkI,hw1,orc_cons,hrd,List.replicate,hl64,hone,htk,hsrc,ha,wrapS hk6,go_sem]
     refine ⟨16-(k+1),?_,k+1,y',L++[t],?_,?_,?_,?_,?_,?_⟩
     ·omega
     ·rfl
     ·omega
     ·exact hL'
     ·exact hA'
     ·rfl
     ·rfl
    ·have hno:=got_none he 16 hkm
     rw [one_none hno] at h
     obtain ⟨rfl,rfl⟩:=Prod.mk.inj h
     generalize readAt D.st D.pe (first+k)=r at *
     obtain ⟨t,er⟩:=r
     simp only at he
     simp only [secT] at hrd
     have hl64:=t.enc_len
     have hone:=t.one
     have htk:=t.take64
     simp (maxSteps:=1000000) (disch:=omega) only [c40l0,e4,e1,e0,e13,e6,hkI,hw1,orc_cons,hrd,List.replicate,hl64,hone,htk,he,o1,o2,o3,o4,go_sem]
     exact wkv_dropP (ext_more (ext_set hSM (Nat.le_refl _) _) _) rfl
   ·obtain rfl:k=16:=by omega
    have hkI:¬ ((16:Nat):Int)<16:=by omega
    have hone:=one_some hL
    have hLne:L≠[]:=by intro q;rw [q] at hLl;cases hLl
    have hoq:openQ M 64 y=true:=openS_Q (hA.opens hLne)
    have hop:fOpenS [y] M=some (recX M (openF L)):=by
     simp only [fOpenS,hA.lst]
     rw [if_pos ⟨by omega,hoq⟩]
    have hu:=got_u8 hby hL
    clear hL
    cases hr:openF L with
    | none =>
     rw [hr] at hone hop
     simp only at hone
     rw [hone] at h
     obtain ⟨rfl,rfl⟩:=Prod.mk.inj h
     have hop:fOpenS [y] M=some (.tu [.ag [.i .u64 0,.i .u32 0,.sn],.i .i64 0,.b false],M):=hop
     simp (maxSteps:=1000000) (disch:=omega) only [c40l0,e4,e1,e0,e13,e6,hkI,orc_cons,hop,o1,o2,o3,o4,go_sem]
     exact wkv_dropP (ext_more (ext_set hSM (Nat.le_refl _) _) _) rfl
    | some r =>
     rw [hr] at hone hop
     simp only at hone
     obtain ⟨g1,g2,g3,g4,g5,g6⟩:=openF_good hu hr
     have hop:fOpenS [y] M=some (.tu [.ag [.i .u64 r.seq,.i .u32 r.epoch,payX M.length r.body],.i .i64 r.many,.b true],M++[.cells (r.body.map byV) 0 (some 1) true]):=hop
     have hpl:=fun U=>payX_lst (M:=M) (U:=U) g4
     have hsl:=fun U=>(show aSlotS [.i .u64 r.seq] U=some (.i .i64 (slotF r.seq),U) by simp only [aSlotS];rw [if_pos g1.1])
     have hck:∀ U,checkS [.p i 0 0,.ag [.i .u64 r.seq,.i .u32 r.epoch,payX M.length r.body]] (M++(.cells (r.body.map byV) 0 (some 1) true :: U))=some (outX (M++(.cells (r.body.map byV) 0 (some 1) true :: U)) (checkF D.st.length r.seq r.epoch r.pay)):=fun U=>by
      have hln:=len_eq (hDM.grow (.cells (r.body.map byV) 0 (some 1) true :: U))
      obtain ⟨p1,p2,p3⟩:=hpl U
      simp only [checkS,hln,p1]
      rw [if_pos ⟨p2,List.all_eq_true.2 fun c hc=>decide_eq_true (g3 c (List.mem_of_mem_drop hc)),by rw [List.length_drop];omega,p3⟩];rfl
     have hpone:=(hpl []).2.2
     have hpcp:=cells_one hpone
     generalize payX M.length r.body=px2 at hop hck hpone hpcp
     generalize Blk.cells (r.body.map byV) 0 (some 1) true=bb at hop hck
     have hop:fOpenS [y] M=some (.tu [.ag [.i .u64 r.seq,.i .u32 r.epoch,px2],.i .i64 r.many,.b true],M++[bb]):=hop
     by_cases hs:slotF r.seq=first
     ·rw [if_pos hs] at hone
      rw [hone] at h
      obtain ⟨rfl,rfl⟩:=Prod.mk.inj h
      have hck1:=hck [.cells [.i .u64 r.seq,.i .u32 r.epoch,px2] 0 none true]
      obtain ⟨My,hMy⟩:∃ My,My=M++(bb :: [Blk.cells [.i .u64 r.seq,.i .u32 r.epoch,px2] 0 none true]):=⟨_,rfl⟩
      rw [←hMy] at hck1
      generalize checkF D.st.length r.seq r.epoch r.pay=out at hck1
      obtain ⟨⟨og,oe,oq,os,op,oes⟩,ob⟩:=out
      simp only [outX] at hck1
      have hAo:=retX_acc (z:=false) (E:=entE) (S:=My) (l:=oes)
      generalize retX false My oes=X at hck1 hAo
      generalize retM false entE My oes=M2 at hck1 hAo
      have hSMy:S <+: My:=by rw [hMy];exact ext_more hSM _
      have hb1:M2[S.length]? = some (.cells [.i .u64 0,.i .u32 0,.i .u64 0,.i .i64 0,.i .u64 0,.sn] 0 none true):=at_pre hAo.ext (by rw [hMy];exact at_old hzM)
      obtain ⟨q1,q2,q3,q4,q5⟩:=old_at hb1
      have hAS:=(hAo.base hSMy).setB (Nat.le_refl S.length) hb1 rfl
      have hone2:=one_of_accG hAo
      have hcp2:=cells_one hone2
      rw [hMy] at hck1
      have hck1:checkS [.p i 0 0,.ag [.i .u64 r.seq,.i .u32 r.epoch,px2]] (M++[bb,.cells [.i .u64 r.seq,.i .u32 r.epoch,px2] 0 none true])=some (.tu [.ag [.i .u64 og,.i .u32 oe,.i .u64 oq,.i .i64 os,.i .u64 op,X],.b ob],M2):=hck1
      simp (maxSteps:=1000000) (disch:=omega) only [c40l0,e4,e1,e0,e13,e6,hkI,orc_cons,hop,o1,o2,o3,o4,hsl,hs,hpone,hpcp,hck1,hone2,hcp2,hb1,q1,q2,q3,q4,go_sem]
      exact (hAS _).ret6 entE_flat Flat_i Flat_i Flat_i Flat_i Flat_i Flat_b
     ·rw [if_neg hs] at hone
      rw [hone] at h
      obtain ⟨rfl,rfl⟩:=Prod.mk.inj h
      simp (maxSteps:=1000000) (disch:=omega) only [c40l0,e4,e1,e0,e13,e6,hkI,orc_cons,hop,o1,o2,o3,o4,hsl,hs,hpone,hpcp,go_sem]
      exact wkv_dropP (ext_more (ext_set hSM (Nat.le_refl _) _) _) rfl
  ·cases h
 ·cases h
def stepC (o c:Chk × Bool):Chk × Bool:=if c.2=true∧o.1.gen<c.1.gen then (c.1,true) else o
noncomputable def Dsk.lastK (D:Dsk):Nat→Chk × Bool
 | 0=>(noChk,false)
 | k+1=>stepC (D.lastK k) (D.one ((k:Int) * 16))
noncomputable def Dsk.last (D:Dsk):Chk × Bool:=stepC (stepC (noChk,false) (D.one 0)) (D.one 16)
theorem last_eq (D:Dsk):D.lastK 2=D.last:=rfl
def Chk.cells (c:Chk) (x:AV):List AV:=[.i .u64 c.gen,.i .u32 c.epoch,.i .u64 c.seq,.i .i64 c.seg,.i .u64 c.book.period,x]
open Classical in
noncomputable def swreadS:Spec:=fun args S=>match args with
 | [.p i 0 0]=>if h:∃ D,DBy S i D then some (outX S h.choose.last) else none
 | _=>none
theorem swread_eq {S:Mem} {i ist:Nat} {px:AV} {D:Dsk} (h:DAt S i ist px D) (hok:D.ok) (hfew:D.pe.length≤700000) (hby:D.by_):swreadS [.p i 0 0] S=some (outX S D.last):=by
 have hd:∃ D,DBy S i D:=⟨D,⟨ist,px,h,hok,hfew⟩,hby⟩
 simp only [swreadS]
 rw [dif_pos hd,din_eq h]
theorem oSq_ok:OK Tryz.prog (lamOf Tryz.prog) (orcOf [(29,aSlotS),(40,sreadS)]):=orc_ok (by simpa using ⟨aslot_ok,sread_ok⟩)
theorem dat_ext {S M:Mem} {i ist:Nat} {px:AV} {D:Dsk} (h:DAt S i ist px D) (hM:S <+: M):DAt M i ist px D:=by
 obtain ⟨T,rfl⟩:=hM;exact h.grow T
set_option maxHeartbeats 1000000 in
theorem swread_ok:SpecOK Tryz.prog 17 swreadS:=by
 intro args S x S' h
 simp only [swreadS] at h
 split at h
 ·rename_i i
  split at h
  ·rename_i hc
   obtain ⟨D,⟨ist,px,hD,hok,hfew⟩,hby⟩:=hc
   rw [din_eq hD,←last_eq] at h
   injection h with h
   refine fn_of_wp f17 rfl (W_sound oSq_ok mixed _ _ _ _ _ ?_)
   simp (maxSteps:=1000000) (disch:=omega) only [c17,go_sem]
   refine wp_loop (fun j e M dl=>dl=[]∧∃ (k:Nat) (X:AV),j=2-k∧k≤2∧S <+: M∧Acc false entE S M X (D.lastK k).1.book.entries ∧
    M[S.length]? = some (.cells [.i .u64 0,.i .u32 0,.i .u64 0,.i .i64 0,.i .u64 0,.sn] 0 none true) ∧
    M[S.length+1]? = some (.cells ((D.lastK k).1.cells X) 0 none true) ∧
    e.get 4 = .p (S.length+1) 0 0∧e.get 0 = .p i 0 0∧e.get 2 = .p S.length 0 0∧e.get 9 = .i .u64 k∧e.get 5 = .b (D.lastK k).2) (j:=2)
    ⟨rfl,0,.sn,rfl,Nat.zero_le _,ext_app _,acc_nil (ext_app _),(by rw [at_app0];rfl),(by rw [at_app];rfl),rfl,rfl,rfl,rfl,rfl⟩ ?_
   rintro j e M d' ⟨rfl,k,X,rfl,hk,hSM,hA,hb0,hb1,e4,e0,e2,e9,e5⟩
   refine W_sound oSq_ok mixed _ _ _ _ _ ?_
   have hone:=one_of_accG hA
   have hcp:=cells_one hone
   by_cases hkm:k<2
   ·have hkI:(k:Int)<2:=by omega
    have hw:wrapV .u64 ((k:Int)+1)=((k+1:Nat):Int):=by rw [wrap_u64 (by omega) (by omega)];omega
    have hsl:∀ U,aSlotS [.i .u64 (k:Int)] U=some (.i .i64 ((k:Int) * 16),U):=fun U=>by
     simp only [aSlotS];rw [if_pos (by omega)]
     congr 3;unfold slotF;omega
    have hrd:=sread_eq (dat_ext hD hSM) hok hfew hby (first:=(k:Int) * 16) (by omega)
    have hnext:D.lastK (k+1)=stepC (D.lastK k) (D.one ((k:Int) * 16)):=rfl
    generalize D.one ((k:Int) * 16)=c at hrd hnext
    obtain ⟨⟨g,ep,sq,sg,p,es⟩,ob⟩:=c
    simp only [outX] at hrd
    have hAn:=retX_acc (z:=false) (E:=entE) (S:=M) (l:=es)
    generalize retX false M es=Xn at hrd hAn
    generalize retM false entE M es=M2 at hrd hAn
    have hone2:=one_of_accG hAn
    have hcp2:=cells_one hone2
    have hMM:=hAn.ext
    have c0:=at_pre hMM hb0
    have c1:=at_pre hMM hb1
    obtain ⟨q1,q2,q3,q4,q5⟩:=old_at c1
    obtain ⟨o1,o2,o3,o4,o5⟩:=old_at c0
    generalize D.lastK k=o at *
    obtain ⟨⟨og,oe,oq,os,op,oes⟩,ob2⟩:=o
    simp only [Chk.cells] at c1 hb1 q1 e5 hA
    cases ob with
    | false =>
     have hst:D.lastK (k+1)=(⟨og,oe,oq,os,op,oes⟩,ob2):=by rw [hnext];unfold stepC;rw [if_neg (by simp)]
     simp (maxSteps:=1000000) (disch:=omega) only [c17l0,e4,e0,e2,e9,e5,hkI,orc_cons,hsl,hrd,hone2,hcp2,q1,hw,go_sem]
     refine ⟨2-(k+1),?_,k+1,X,?_,?_,?_,?_,?_,?_,?_,?_⟩
     ·omega
     ·rfl
     ·omega
     ·exact ext_more (hSM.trans hMM) _
     ·rw [hst];exact (hA.extM hMM).grow _
     ·exact at_old c0
     ·rw [hst];rfl
     ·rfl
     ·rw [hst]
    | true =>
     by_cases hgt:og<g
     ·have hst:D.lastK (k+1)=(⟨g,ep,sq,sg,p,es⟩,true):=by rw [hnext];unfold stepC;rw [if_pos ⟨rfl,hgt⟩]
      simp (maxSteps:=1000000) (disch:=omega) only [c17l0,e4,e0,e2,e9,e5,hkI,orc_cons,hsl,hrd,hone2,hcp2,q1,q2,q3,q4,hgt,hw,go_sem]
      refine ⟨2-(k+1),?_,k+1,Xn,?_,?_,?_,?_,?_,?_,?_,?_⟩
      ·omega
      ·rfl
      ·omega
      ·exact ext_more (ext_set (hSM.trans hMM) (by omega) _) _
      ·rw [hst];exact ((hAn.base hSM).setB (by omega) c1 rfl _).grow _
      ·rw [at_old (by rw [at_set_ne (by omega)];exact c0)]
      ·rw [hst];rfl
      ·rfl
      ·rw [hst]
     ·have hst:D.lastK (k+1)=(⟨og,oe,oq,os,op,oes⟩,ob2):=by rw [hnext];unfold stepC;rw [if_neg (fun q=>hgt q.2)]
      simp (maxSteps:=1000000) (disch:=omega) only [c17l0,e4,e0,e2,e9,e5,hkI,orc_cons,hsl,hrd,hone2,hcp2,q1,q2,q3,q4,hgt,hw,go_sem]
      refine ⟨2-(k+1),?_,k+1,X,?_,?_,?_,?_,?_,?_,?_,?_⟩
      ·omega
      ·rfl
      ·omega
      ·exact ext_more (hSM.trans hMM) _
      ·rw [hst];exact (hA.extM hMM).grow _
      ·exact at_old c0
      ·rw [hst];rfl
      ·rfl
      ·rw [hst]
   ·have hkI:¬ (k:Int)<2:=by omega
    obtain rfl:k=2:=by omega
    obtain ⟨q1,q2,q3,q4,q5⟩:=old_at hb1
    obtain ⟨o1,o2,o3,o4,o5⟩:=old_at hb0
    generalize D.lastK 2=o at *
    obtain ⟨⟨og,oe,oq,os,op,oes⟩,ob2⟩:=o
    simp only [Chk.cells] at hb1 q1 e5 hA
    obtain ⟨rfl,rfl⟩:=Prod.mk.inj h
    simp (maxSteps:=1000000) (disch:=omega) only [c17l0,e4,e0,e2,e9,e5,hkI,hb0,hb1,q1,o1,o2,o3,o4,hone,hcp,go_sem]
    exact (hA.setB (Nat.le_refl _) hb0 rfl _).ret6 entE_flat Flat_i Flat_i Flat_i Flat_i Flat_i Flat_b
  ·cases h
 ·cases h
theorem p8:(256:Int) ^ 8=18446744073709551616:=by decide
theorem p4:(256:Int) ^ 4=4294967296:=by decide
theorem orq_add {a c:Int} (ha:0≤a) (hc:0≤c∧c<256) (h:a * 256+c≤18446744073709551615):orq (a * 256) c=a * 256+c:=by
 obtain ⟨x,rfl⟩:=Int.eq_ofNat_of_zero_le ha
 obtain ⟨y,rfl⟩:=Int.eq_ofNat_of_zero_le hc.1
 have hy:y<2 ^ 8:=by omega
 have e1:(BitVec.ofInt 64 ((x:Int) * 256)).toNat=x * 256:=by
  rw [show (x:Int) * 256=((x * 256:Nat):Int) by omega]
  simp [BitVec.toNat_ofInt];omega
 have e2:(BitVec.ofInt 64 (y:Int)).toNat=y:=by simp [BitVec.toNat_ofInt];omega
 have e3:Nat.lor (x * 256) y=x * 256+y:=by
  have:=Nat.shiftLeft_add_eq_or_of_lt hy x
  rw [Nat.shiftLeft_eq] at this
  exact this.symm
 unfold orq
 rw [e1,e2,e3]
 simp only [wrapV];omega
theorem numF_snoc:∀ (k:Nat) (n:Int),numF n (k+1)=numF (n / 256) k++[n % 256]
 | 0,n=>by
  show [(n / (256:Int) ^ 0) % 256]=[n % 256]
  rw [Int.pow_zero,Int.ediv_one]
 | k+1,n=>by
  have ih:=numF_snoc k n
  have h1:numF n (k+2)=(n / ((256:Int) ^ (k+1))) % 256 :: numF n (k+1):=rfl
  have h2:numF (n / 256) (k+1)=((n / 256) / ((256:Int) ^ k)) % 256 :: numF (n / 256) k:=rfl
  rw [h1,ih,h2,List.cons_append]
  congr 2
  have hp:(0:Int)<(256:Int) ^ k:=Int.pow_pos (by decide)
  rw [Int.ediv_ediv,if_neg (fun q=>absurd q.1 (by omega)),Int.sub_zero,Int.pow_succ,Int.mul_comm]
theorem valF_snoc (l:List Int) (c:Int):valF (l++[c])=orq (wrapV .u64 (valF l * 256)) (wrapV .u64 c):=by
 unfold valF
 rw [List.foldl_append];rfl
theorem valF_numF:∀ (k:Nat) (n:Int),0≤n→n<(256:Int) ^ k→k≤8→valF (numF n k)=n
 | 0,n,h0,h1,_=>by
  have:n=0:=by rw [Int.pow_zero] at h1;omega
  subst this;rfl
 | k+1,n,h0,h1,hk=>by
  have hq:n / 256<(256:Int) ^ k:=by
   rw [Int.pow_succ] at h1
   exact Int.ediv_lt_of_lt_mul (by decide) h1
  have ih:=valF_numF k (n / 256) (by omega) hq (by omega)
  have hb:n≤18446744073709551615:=by
   have h3:(256:Int) ^ (k+1)≤(256:Int) ^ 8:=by exact_mod_cast Nat.pow_le_pow_right (by decide:0<256) hk
   have h4:(256:Int) ^ 8=18446744073709551616:=by decide
   omega
  rw [numF_snoc,valF_snoc,ih]
  have w1:wrapV .u64 (n / 256 * 256)=n / 256 * 256:=wrap_u64 (by omega) (by omega)
  have w2:wrapV .u64 (n % 256)=n % 256:=wrap_u64 (by omega) (by omega)
  rw [w1,w2,orq_add (by omega) (by omega) (by omega)]
  omega
theorem unseal_seal (l:List Int):unsealF (sealF l)=some l:=by
 unfold unsealF sealF
 have h1:(l++tailF (morF 0 l)).length-4=l.length:=by rw [List.length_append,tail_len];omega
 rw [h1,List.take_left,List.drop_left,if_pos ⟨by rw [List.length_append,tail_len];omega,rfl⟩]
def headB (seq epoch:Int) (p:List Int):List Int:=numF (p.length:Int) 2++numF seq 8++numF (wrapV .u64 epoch) 4++p
theorem frame_eq (seq epoch:Int) (p:List Int):frameB seq epoch p=sealF (headB seq epoch p):=rfl
theorem head_len (seq epoch:Int) (p:List Int):(headB seq epoch p).length=p.length+14:=by
 unfold headB
 simp only [List.length_append,num_len];omega
theorem head_parts (seq epoch:Int) (p:List Int):(headB seq epoch p).take 2=numF (p.length:Int) 2∧((headB seq epoch p).drop 2).take 8=numF seq 8∧((headB seq epoch p).drop 10).take 4=numF (wrapV .u64 epoch) 4∧(headB seq epoch p).drop 14=p:=by
 have h1:=num_len (p.length:Int) 2
 have h2:=num_len seq 8
 have h3:=num_len (wrapV .u64 epoch) 4
 unfold headB
 generalize numF (p.length:Int) 2=a at h1
 generalize numF seq 8=b at h2
 generalize numF (wrapV .u64 epoch) 4=c at h3
 refine ⟨?_,?_,?_,?_⟩
 ·rw [List.append_assoc,List.append_assoc,←h1,List.take_left]
 ·rw [List.append_assoc,List.append_assoc,←h1,List.drop_left,←h2,List.take_left]
 ·have:10=(a++b).length:=by rw [List.length_append];omega
  rw [List.append_assoc,this,List.drop_left,←h3,List.take_left]
 ·have:14=(a++b++c).length:=by rw [List.length_append,List.length_append];omega
  rw [this,List.drop_left]
theorem bytes_take {L:List Sec} {m:Nat} (h:m≤L.length):bytesOf (L.take m)=(bytesOf L).take (m * 64):=by
 have h1:=flat_take (E:=secE) L m
 rw [enc_secs,enc_secs] at h1
 have h2:((bytesOf L).map byV).take (m * 64)=(bytesOf (L.take m)).map byV:=h1
 rw [←List.map_take] at h2
 have hinj:∀ {a b:List Int},a.map byV=b.map byV→a=b:=fun {a b} q=>by
  have:=congrArg unBys q
  rw [unBys_map,unBys_map] at this
  exact Option.some.inj this
 exact (hinj h2).symm
theorem open_make {seq epoch:Int} {p:List Int} {m:Nat} {L:List Sec} (hs:0<seq∧seq≤18446744073709551615) (he:0≤epoch∧epoch≤4294967295) (hp:p.length≤700) (hm:sizeF (p.length:Int)=(m:Int)) (hL:L.take m=secsF m (frameB seq epoch p)) :
  openF L=some ⟨seq,epoch,headB seq epoch p,m⟩:=by
 have hm64:p.length+18≤m * 64∧0<m:=by
  unfold sizeF at hm
  rw [if_neg (by omega)] at hm
  omega
 have hfl:=frameB_len seq epoch p
 have hlen:m≤L.length:=by
  have:=congrArg List.length hL
  rw [List.length_take,secsF_len] at this
  omega
 have hby:bytesOf (L.take m)=padF (frameB seq epoch p) (m * 64):=by
  rw [hL,secsF_bytes _ _ (by rw [hfl];omega)]
 obtain ⟨hp1,hp2,hp3,hp4⟩:=head_parts seq epoch p
 have hhl:=head_len seq epoch p
 cases L with
 | nil=>simp at hlen;omega
 | cons s L =>
  have hs2:s.b.take 2=numF (p.length:Int) 2:=by
   obtain ⟨k,rfl⟩:∃ k,m=k+1:=⟨m-1,by omega⟩
   have h1:bytesOf ((s :: L).take (k+1))=s.b++bytesOf (L.take k):=by simp [bytesOf]
   have h2:s.b.take 2=(bytesOf ((s :: L).take (k+1))).take 2:=by rw [h1,List.take_append_of_le_length (by rw [s.len];omega)]
   rw [h2,hby]
   unfold padF
   rw [List.take_append_of_le_length (by rw [hfl];omega),frame_eq]
   unfold sealF
   rw [List.take_append_of_le_length (by omega),hp1]
  have hv2:valF (s.b.take 2)=(p.length:Int):=by
   rw [hs2,valF_numF 2 _ (by omega) (by show (p.length:Int)<65536;omega) (by omega)]
  have hw:wrapV .i64 (p.length:Int)=(p.length:Int):=wrap_i64 (by omega) (by omega)
  simp only [openF,hv2,hw,hm]
  rw [if_neg (by rw [not_or];exact ⟨by omega,by omega⟩)]
  have h18:((p.length:Int)+18).toNat=(frameB seq epoch p).length:=by rw [hfl];omega
  unfold openL
  rw [Int.toNat_natCast,h18,hby]
  unfold padF
  rw [List.take_left,List.drop_left,frame_eq,unseal_seal]
  have hz:(List.replicate (m * 64-(sealF (headB seq epoch p)).length) (0:Int)).any notZ=false:=by
   rw [List.any_eq_false]
   intro x hx
   rw [(List.mem_replicate.1 hx).2];simp [notZ]
  simp only [hz]
  have v1:valF (((headB seq epoch p).drop 2).take 8)=seq:=by
   rw [hp2,valF_numF 8 _ (by omega) (by rw [p8];omega) (by omega)]
  have we:wrapV .u64 epoch=epoch:=wrap_u64 (by omega) (by omega)
  have v2:valF (((headB seq epoch p).drop 10).take 4)=epoch:=by
   rw [hp3,we,valF_numF 4 _ (by omega) (by rw [p4];omega) (by omega)]
  have w32:wrapV .u32 epoch=epoch:=by simp only [wrapV];omega
  rw [v1,v2,w32,if_neg (by simp),if_neg (by omega)]
theorem check_pay {n:Int} {c:Chk} (hg:c.good) (ho:c.ok n):checkF n c.gen c.epoch c.pay=(c,true):=by
 obtain ⟨g1,g2,g3,g4,g5⟩:=hg
 have hsg:=seg_pos ho.1
 have ho5:=ho.2.2.2.2
 have hsu:u64 c.seg:=⟨by omega,by omega⟩
 have hpay:c.pay=leb c.seq++(leb c.seg++lebs c.book.ns):=by
  unfold Chk.pay lebs
  simp
 have e1:getL c.pay=some (c.seq,(leb c.seq).length):=by rw [hpay];exact getL_leb g3 _
 have d1:c.pay.drop (leb c.seq).length=leb c.seg++lebs c.book.ns:=by rw [hpay,List.drop_left]
 have e2:getL (leb c.seg++lebs c.book.ns)=some (c.seg,(leb c.seg).length):=getL_leb hsu _
 have d2:c.pay.drop ((leb c.seq).length+(leb c.seg).length)=lebs c.book.ns:=by
  rw [←List.drop_drop,d1,List.drop_left]
 unfold checkF
 rw [e1]
 simp only [d1,e2,d2,read_bytes g5 ho5]
 have s1:satN c.seg=c.seg:=if_pos (by omega)
 have s2:satQ c.seg=true:=decide_eq_true (by omega)
 rw [s1,s2]
 have hc:(⟨c.gen,c.epoch,c.seq,c.seg,c.book⟩:Chk)=c:=rfl
 rw [hc,decide_eq_true ho];rfl
theorem one_put {D:Dsk} {c:Chk} {L:List Sec} {first:Int} (hg:c.good) (ho:c.ok D.st.length) (hf:slotF c.gen=first) (hgot:D.got first 16=some L) (hL:L.take c.many=c.secs):D.one first=(c,true):=by
 have hm:=Chk.many_eq hg ho
 have hpl:=Chk.pay_len hg ho
 have h1:=open_make (seq:=c.gen) (epoch:=c.epoch) (p:=c.pay) (m:=c.many) (L:=L) ⟨by have:=ho.2.1.1;omega,hg.1.2⟩ hg.2.1 (by omega) hm.1 hL
 rw [one_some hgot,h1]
 simp only
 rw [if_pos hf]
 have hp:(Rec.mk c.gen c.epoch (headB c.gen c.epoch c.pay) c.many).pay=c.pay:=(head_parts _ _ _).2.2.2
 rw [hp]
 exact check_pay hg ho
structure Dsk.calm (D:Dsk):Prop where
 pe:D.pe=[]
 left:D.left = -1
 down:D.down=false
def setsF:List Sec→Nat→List Sec→List Sec
 | st,_,[]=>st
 | st,a,s :: l=>setsF (st.set a s) (a+1) l
theorem sets_len:∀ (l:List Sec) (st:List Sec) (a:Nat),(setsF st a l).length=st.length
 | [],st,a=>rfl
 | s :: l,st,a=>by rw [setsF,sets_len l,List.length_set]
theorem sets_at:∀ (l:List Sec) (st:List Sec) (a j:Nat),a+l.length≤st.length→(setsF st a l)[j]? = if a≤j∧j<a+l.length then l[j-a]? else st[j]?
 | [],st,a,j,_=>by
  rw [setsF,List.length_nil,if_neg (by omega)]
 | s :: l,st,a,j,h=>by
  rw [List.length_cons] at h
  rw [setsF,sets_at l _ _ _ (by rw [List.length_set];omega),List.length_cons]
  by_cases h1:a+1≤j∧j<a+1+l.length
  ·rw [if_pos h1,if_pos (by omega)]
   obtain ⟨k,hk⟩:∃ k,j-a=k+1:=⟨j-a-1,by omega⟩
   rw [hk,List.getElem?_cons_succ]
   congr 1;omega
  ·rw [if_neg h1]
   by_cases h2:j=a
   ·subst h2
    rw [if_pos (by omega),Nat.sub_self,List.getElem?_set_self (by omega)];rfl
   ·rw [if_neg (by omega),List.getElem?_set_ne (by omega)]
theorem act_calm {D:Dsk} (h1:D.left = -1) (h2:D.down=false):D.act=(0,D):=by
 unfold Dsk.act actF
 rw [h1,h2]
 obtain ⟨st,pe,left,down⟩:=D
 simp only at h1 h2
 subst h1;subst h2;rfl
theorem wrs_calm {first:Nat}:∀ (l:List Sec) (k:Nat) (D:Dsk),D.left = -1→D.down=false→first+k+l.length≤D.st.length →
  Dsk.wrs first l k D=(0,{ D with st:=settleL (fun _=>true) 0 (D.pe++l.zipIdx.map fun p=>⟨((first+k+p.2:Nat):Int),p.1⟩) D.st,pe:=[] })
 | [],k,D,h1,h2,h3=>by
  simp only [Dsk.wrs,List.zipIdx_nil,List.map_nil,List.append_nil]
  unfold Dsk.sync
  rw [act_calm h1 h2]
  rw [if_pos rfl];rfl
 | s :: l,k,D,h1,h2,h3=>by
  rw [List.length_cons] at h3
  have hw:D.write (first+k) s=(0,{ D with pe:=D.pe++[⟨first+k,s⟩] }):=by
   unfold Dsk.write
   rw [if_pos ⟨by omega,by omega⟩,act_calm h1 h2,if_pos rfl]
  simp only [Dsk.wrs,hw,if_true]
  rw [wrs_calm l (k+1) { D with pe:=D.pe++[⟨first+k,s⟩] } h1 h2 (by show first+(k+1)+l.length≤D.st.length;omega)]
  simp only [List.append_assoc,List.singleton_append,List.zipIdx_cons,List.map_cons,Nat.add_zero]
  have he:l.zipIdx.map (fun p=>(⟨((first+(k+1)+p.2:Nat):Int),p.1⟩:Wr))=(l.zipIdx (0+1)).map fun p=>⟨((first+k+p.2:Nat):Int),p.1⟩:=by
   rw [List.zipIdx_succ,List.map_map]
   refine List.map_congr_left fun p _=>?_
   simp only [Function.comp,Wr.mk.injEq,and_true]
   omega
  rw [he]
  have h0:((first+k:Nat):Int)=(first:Int)+k:=by omega
  rw [h0]
theorem settle_sets:∀ (l:List Sec) (a k:Nat) (st:List Sec) (f:Nat→Int),(∀ j,f j=((a+j:Nat):Int))→settleL (fun _=>true) k (l.zipIdx.map fun p=>⟨f p.2,p.1⟩) st=setsF st a l
 | [],a,k,st,f,hf=>rfl
 | s :: l,a,k,st,f,hf=>by
  rw [List.zipIdx_cons,List.map_cons,settleL,if_pos rfl,setsF]
  have h0:(f 0).toNat=a:=by rw [hf 0];omega
  simp only [h0]
  have ih:=settle_sets l (a+1) (k+1) (st.set a s) (fun j=>f (j+1)) (fun j=>by rw [hf];omega)
  rw [←ih]
  congr 1
  rw [List.zipIdx_succ,List.map_map];rfl
theorem swrite_calm {D:Dsk} {c:Chk} (hc:D.calm) (hg:c.good) (ho:c.ok D.st.length):D.swrite c=(0,{ D with st:=setsF D.st (slotF c.gen).toNat c.secs }):=by
 have hm:=Chk.many_eq hg ho
 have hn:64≤(D.st.length:Int):=by have:=of_decide_eq_false ho.1;omega
 obtain ⟨a,ha⟩:∃ a:Nat,slotF c.gen=(a:Int):=⟨(slotF c.gen).toNat,by unfold slotF;omega⟩
 have ha16:a≤16:=by unfold slotF at ha;omega
 unfold Dsk.swrite
 rw [if_pos ho,ha,wrs_calm _ _ _ hc.left hc.down (by rw [Chk.secs_len];omega),hc.pe,List.nil_append,Int.toNat_natCast]
 rw [settle_sets c.secs a 0 D.st (fun j=>((a+0+j:Nat):Int)) (fun j=>by rw [Nat.add_zero])]
theorem got_calm {D:Dsk} {a:Nat} (hp:D.pe=[]):∀ (k:Nat),a+k≤D.st.length→D.got a k=some ((D.st.drop a).take k)
 | 0,_=>by rw [List.take_zero];rfl
 | k+1,h=>by
  simp only [Dsk.got]
  rw [got_calm hp k (by omega)]
  have hr:readAt D.st D.pe ((a:Int)+k)=(D.st[a+k]'(by omega),0):=by
   unfold readAt
   rw [if_pos ⟨by omega,by omega⟩,hp]
   have:((a:Int)+k).toNat=a+k:=by omega
   rw [this,List.getD_eq_getElem?_getD,List.getElem?_eq_getElem (by omega)];rfl
  rw [hr]
  simp only [if_true]
  have hkd:k<(D.st.drop a).length:=by rw [List.length_drop];omega
  rw [List.take_succ_eq_append_getElem hkd,List.getElem_drop]
theorem got_short {D:Dsk} {a:Nat} (h:D.st.length<a+16):D.got a 16=none:=by
 by_cases ha:D.st.length≤a
 ·refine got_none (k:=0) ?_ 16 (by omega)
  unfold readAt
  rw [if_neg (by omega)];simp
 ·refine got_none (k:=D.st.length-a) ?_ 16 (by omega)
  unfold readAt
  rw [if_neg (by omega)];simp
theorem one_same {D D':Dsk} {a:Nat} (hp:D.pe=[]) (hp':D'.pe=[]) (hl:D'.st.length=D.st.length) (h:∀ j,a≤j→j<a+16→D'.st[j]? = D.st[j]?):D'.one a=D.one a:=by
 by_cases hn:D.st.length<a+16
 ·rw [one_none (got_short hn),one_none (got_short (by omega))]
 ·have h1:=got_calm hp 16 (a:=a) (by omega)
  have h2:=got_calm hp' 16 (a:=a) (by omega)
  have he:(D'.st.drop a).take 16=(D.st.drop a).take 16:=by
   refine List.ext_getElem? fun j=>?_
   rw [List.getElem?_take,List.getElem?_take,List.getElem?_drop,List.getElem?_drop]
   split
   ·exact h _ (by omega) (by omega)
   ·rfl
  rw [he] at h2
  rw [one_some h1,one_some h2,hl]
theorem secs_take {D:Dsk} {a:Nat} {l:List Sec} {m:Nat} (hm:l.length=m) (h16:m≤16) (h:a+m≤D.st.length):(((setsF D.st a l).drop a).take 16).take m=l:=by
 rw [List.take_take,show min m 16=m by omega]
 refine List.ext_getElem? fun j=>?_
 rw [List.getElem?_take,List.getElem?_drop,sets_at _ _ _ _ (by omega)]
 by_cases hj:j<m
 ·rw [if_pos hj,if_pos (by omega)]
  congr 1;omega
 ·rw [if_neg hj,List.getElem?_eq_none (by omega)]
theorem swrite_slots {D:Dsk} {c:Chk} (hc:D.calm) (hg:c.good) (ho:c.ok D.st.length) :
  (D.swrite c).1=0∧(D.swrite c).2.calm∧(D.swrite c).2.st.length=D.st.length∧(D.swrite c).2.one (slotF c.gen)=(c,true)∧(D.swrite c).2.one (16-slotF c.gen)=D.one (16-slotF c.gen):=by
 have hm:=Chk.many_eq hg ho
 have hn:64≤(D.st.length:Int):=by have:=of_decide_eq_false ho.1;omega
 obtain ⟨a,ha⟩:∃ a:Nat,slotF c.gen=(a:Int):=⟨(slotF c.gen).toNat,by unfold slotF;omega⟩
 have ha16:a=0∨a=16:=by unfold slotF at ha;omega
 have hl:=Chk.secs_len (c:=c)
 have hln:=sets_len c.secs D.st a
 rw [swrite_calm hc hg ho,ha,Int.toNat_natCast]
 obtain ⟨D',hD'⟩:∃ D':Dsk,D' = { D with st:=setsF D.st a c.secs }:=⟨_,rfl⟩
 rw [←hD']
 have hst:D'.st=setsF D.st a c.secs:=by rw [hD']
 have hpe:D'.pe=[]:=by rw [hD'];exact hc.pe
 have hl2:D'.st.length=D.st.length:=by rw [hst];exact hln
 refine ⟨rfl,⟨hpe,by rw [hD'];exact hc.left,by rw [hD'];exact hc.down⟩,hl2,?_,?_⟩
 ·have hgot:=got_calm (D:=D') hpe 16 (a:=a) (by omega)
  have htk:=secs_take (D:=D) (a:=a) (l:=c.secs) (m:=c.many) hl (by omega) (by omega)
  rw [←hst] at htk
  exact one_put hg (by rw [hl2];exact ho) ha hgot htk
 ·have hb:(16:Int)-a=((16-a:Nat):Int):=by omega
  show D'.one (16-(a:Int))=D.one (16-(a:Int))
  rw [hb]
  refine one_same hc.pe hpe hl2 fun j h1 h2=>?_
  rw [hst,sets_at _ _ _ _ (by omega),if_neg (by omega)]
theorem swrite_bad {D:Dsk} {c:Chk} (ho:¬ c.ok D.st.length):D.swrite c=(141,D):=by
 unfold Dsk.swrite
 rw [if_neg ho]
theorem last_ab (D:Dsk):D.last=stepC (stepC (noChk,false) (D.one 0)) (D.one 16):=rfl
theorem new_calm (n:Int):(Dsk.new n).calm:=⟨rfl,rfl,rfl⟩
theorem secsF_u8:∀ (m:Nat) (b:List Int),(∀ c∈b,u8 c)→∀ s∈secsF m b,∀ c∈s.b,u8 c
 | 0,_,_,s,hs=>by cases hs
 | m+1,b,h,s,hs=>by
  rw [secsF] at hs
  rcases List.mem_cons.1 hs with rfl | hs
  ·intro c hc
   have hc:c∈padF (b.take 64) 64:=hc
   unfold padF at hc
   rcases List.mem_append.1 hc with hc | hc
   ·exact h c (List.mem_of_mem_take hc)
   ·rw [(List.mem_replicate.1 hc).2];unfold u8;omega
  ·exact secsF_u8 m _ (fun c hc=>h c (List.mem_of_mem_drop hc)) s hs
theorem numF_u8 (n:Int):∀ k,∀ c∈numF n k,u8 c
 | 0,c,h=>by cases h
 | k+1,c,h=>by
  rw [numF] at h
  rcases List.mem_cons.1 h with rfl | h
  ·unfold u8;omega
  ·exact numF_u8 n k c h
theorem tailF_u8 (s:Int):∀ c∈tailF s,u8 c:=by
 intro c hc
 unfold tailF at hc
 simp only [List.mem_cons,List.not_mem_nil,or_false] at hc
 rcases hc with rfl | rfl | rfl | rfl <;> (unfold u8;simp only [wrapV];omega)
theorem lebs_u8 {l:List Int} (h:∀ n∈l,u64 n):∀ c∈lebs l,u8 c:=by
 intro c hc
 unfold lebs at hc
 obtain ⟨n,hn,hc⟩:=List.mem_flatMap.1 hc
 exact leb_u8 (h n hn).1 c hc
theorem Chk.secs_u8 {n:Int} {c:Chk} (hg:c.good) (ho:c.ok n):∀ s∈c.secs,∀ x∈s.b,u8 x:=by
 have hsg:=seg_pos ho.1
 refine secsF_u8 _ _ fun x hx=>?_
 have hx:x∈sealF (headB c.gen c.epoch c.pay):=hx
 unfold sealF at hx
 rcases List.mem_append.1 hx with hx | hx
 ·unfold headB at hx
  rcases List.mem_append.1 hx with hx | hx
  ·rcases List.mem_append.1 hx with hx | hx
   ·rcases List.mem_append.1 hx with hx | hx
    ·exact numF_u8 _ _ _ hx
    ·exact numF_u8 _ _ _ hx
   ·exact numF_u8 _ _ _ hx
  ·unfold Chk.pay at hx
   rcases List.mem_append.1 hx with hx | hx
   ·exact lebs_u8 (by simp;exact ⟨hg.2.2.1,by omega,by omega⟩) x hx
   ·exact lebs_u8 (bns_u64 hg.2.2.2.2 ho.2.2.2.2) x hx
 ·exact tailF_u8 _ _ hx
theorem new_by (n:Int):(Dsk.new n).by_:=⟨fun s hs c hc=>by
 have:=(List.mem_replicate.1 hs).2
 subst this
 rw [(List.mem_replicate.1 hc).2];unfold u8;omega,fun w hw=>by cases hw⟩
theorem sets_mem:∀ (l st:List Sec) (a:Nat) (s:Sec),s∈setsF st a l→s∈st∨s∈l
 | [],st,a,s,h=>.inl h
 | t :: l,st,a,s,h=>by
  rw [setsF] at h
  rcases sets_mem l _ _ s h with h | h
  ·rcases List.mem_or_eq_of_mem_set h with h | h
   ·exact .inl h
   ·exact .inr (by rw [h];simp)
  ·exact .inr (by simp [h])
theorem swrite_by {D:Dsk} {c:Chk} (hc:D.calm) (hb:D.by_) (hg:c.good):(D.swrite c).2.by_:=by
 by_cases ho:c.ok D.st.length
 ·rw [swrite_calm hc hg ho]
  refine ⟨fun s hs=>?_,hb.2⟩
  rcases sets_mem _ _ _ s hs with hs | hs
  ·exact hb.1 s hs
  ·exact Chk.secs_u8 hg ho s hs
 ·rw [swrite_bad ho];exact hb
set_option maxRecDepth 100000
def aliveS:Spec:=fun args S=>match args with
 | []=>some (.b true,S)
 | _=>none
set_option maxRecDepth 10000
def Held (S M:Mem) (i ist:Nat) (D:Dsk) (F:List Nat):Prop :=
 ∃ px,DAt M i ist px D∧D.ok∧D.pe.length≤700000∧S <+: M∧∀ j,j<S.length∨j∈F→j<M.length∧¬ Ownd i ist px j
section
variable {S M:Mem} {i ist:Nat} {D:Dsk} {F:List Nat}
theorem Held.ext (h:Held S M i ist D F):S <+: M:=h.choose_spec.2.2.2.1
theorem ownd_lt {px:AV} (h:DAt M i ist px D) {j:Nat} (ho:Ownd i ist px j):j<M.length:=by
 rcases ho with rfl | rfl | r
 ·exact (List.getElem?_eq_some_iff.1 h.1).1
 ·exact (List.getElem?_eq_some_iff.1 h.2.1).1
 ·rcases h.2.2 with ⟨_,rfl⟩ | ⟨_,ip,v,rfl,h5⟩
  ·cases r
  ·have:=(List.getElem?_eq_some_iff.1 h5).1
   simp [offB] at r;omega
theorem Held.grow (h:Held S M i ist D F) (L:Mem):Held S (M++L) i ist D F:=by
 obtain ⟨px,h1,h2,h3,h4,h5⟩:=h
 exact ⟨px,h1.grow L,h2,h3,ext_more h4 L,fun j hj=>⟨by rw [List.length_append];have:=(h5 j hj).1;omega,(h5 j hj).2⟩⟩
theorem Held.push (h:Held S M i ist D F) (B:Blk) (L:Mem):Held S (M++B :: L) i ist D (M.length :: F):=by
 obtain ⟨px,h1,h2,h3,h4,h5⟩:=h
 refine ⟨px,h1.grow _,h2,h3,ext_more h4 _,fun j hj=>?_⟩
 by_cases e:j=M.length
 ·subst e
  exact ⟨by simp,fun q=>absurd (ownd_lt h1 q) (Nat.lt_irrefl _)⟩
 ·have:=h5 j (by
   rcases hj with hj | hj
   ·exact .inl hj
   ·rcases List.mem_cons.1 hj with hj | hj
    ·exact absurd hj e
    ·exact .inr hj)
  exact ⟨by rw [List.length_append];omega,this.2⟩
theorem Held.sub {F':List Nat} (h:Held S M i ist D F) (hF:∀ j∈F',j∈F):Held S M i ist D F':=by
 obtain ⟨px,h1,h2,h3,h4,h5⟩:=h
 exact ⟨px,h1,h2,h3,h4,fun j hj=>h5 j (hj.imp id (hF j))⟩
theorem Held.set (h:Held S M i ist D F) {j:Nat} {B B':Blk} (hj:j∈F) (hS:S.length≤j) (hB:M[j]? = some B):Held S (M.set j B') i ist D F:=by
 obtain ⟨px,h1,h2,h3,h4,h5⟩:=h
 have hno:=(h5 j (.inr hj)).2
 have n1:j≠i:=fun e=>hno (.inl e)
 have n2:j≠ist:=fun e=>hno (.inr (.inl e))
 refine ⟨px,⟨by rw [at_set_ne n1];exact h1.1,by rw [at_set_ne n2];exact h1.2.1,?_⟩,h2,h3,ext_set h4 hS _,fun k hk=>by rw [List.length_set];exact h5 k hk⟩
 rcases h1.2.2 with q | ⟨q,ip,v,rfl,h6⟩
 ·exact .inl q
 ·refine .inr ⟨q,ip,v,rfl,?_⟩
  rw [at_set_ne (fun e=>hno (.inr (.inr (by rw [e];simp [offB]))))];exact h6
theorem held_op {px px':AV} {M':Mem} {D':Dsk} (h1:DAt M i ist px D) (h4:S <+: M) (h5:∀ j,j<S.length∨j∈F→j<M.length∧¬ Ownd i ist px j) (h1':DAt M' i ist px' D') (hop:DOp M M' i ist px px') (hok:D'.ok) (hfew:D'.pe.length≤700000) :
  Held S M' i ist D' F∧∀ j B,j∈F→M[j]? = some B→M'[j]? = some B:=by
 refine ⟨⟨px',h1',hok,hfew,?_,fun j hj=>⟨Nat.lt_of_lt_of_le (h5 j hj).1 hop.len,fun q=>(h5 j hj).2 (hop.own j (h5 j hj).1 q)⟩⟩,fun j B hj hB=>hop.keep j B hB (h5 j (.inr hj)).2⟩
 refine List.prefix_iff_getElem?.2 fun k hk=>?_
 exact hop.keep k _ (List.prefix_iff_getElem?.1 h4 k hk) (h5 k (.inl hk)).2
theorem Held.write (h:Held S M i ist D F) {cs:List AV} {c:Chk} (hc:chkOf M cs=some c) (hg:c.good) (hpe:(D.swrite c).2.pe.length≤700000) :
  ∃ M',swriteS [.p i 0 0,.ag cs] M=some (.i .i64 (D.swrite c).1,M')∧Held S M' i ist (D.swrite c).2 F∧∀ j B,j∈F→M[j]? = some B→M'[j]? = some B:=by
 obtain ⟨px,h1,h2,h3,h4,h5⟩:=h
 obtain ⟨M',px',g1,g2,g3,g4⟩:=swrite_eq h1 h2 h3 hc hg
 obtain ⟨k1,k2⟩:=held_op h1 h4 h5 g2 g3 g4 hpe
 exact ⟨M',g1,k1,k2⟩
theorem Held.brk (h:Held S M i ist D F) {n:Int} (hn:n≤9223372036854775807):∃ M',breakS [.p i 0 0,.i .i64 n] M=some (.tu [],M')∧Held S M' i ist (D.brk n) F∧∀ j B,j∈F→M[j]? = some B→M'[j]? = some B:=by
 obtain ⟨px,h1,h2,h3,h4,h5⟩:=h
 obtain ⟨M',g1,g2,g3⟩:=break_eq h1 n
 obtain ⟨k1,k2⟩:=held_op h1 h4 h5 g2 g3 ⟨h2.wf,h2.few,by show max n (-1)≤_;omega,h2.big⟩ h3
 exact ⟨M',g1,k1,k2⟩
theorem Held.crash (h:Held S M i ist D F) {x:AV} {l:List Bool} (hl:lstV boolE M x=some l) (hoff:offB x ist=true) (h1:x.one=true):∃ M',dCrashS [.p i 0 0,x] M=some (.tu [],M')∧Held S M' i ist (D.crash l) F∧∀ j B,j∈F→M[j]? = some B→M'[j]? = some B:=by
 obtain ⟨px,g1,g2,g3,g4,g5⟩:=h
 obtain ⟨M',k1,k2,k3,k4⟩:=crash_eq g1 g2 hl hoff h1
 obtain ⟨m1,m2⟩:=held_op g1 g4 g5 k2 k3 k4 (by show (0:Nat)≤_;omega)
 exact ⟨M',k1,m1,m2⟩
theorem Held.read (h:Held S M i ist D F) (hb:D.by_):swreadS [.p i 0 0] M=some (outX M D.last):=by
 obtain ⟨px,h1,h2,h3,h4,h5⟩:=h
 exact swread_eq h1 h2 h3 hb
theorem Held.len (h:Held S M i ist D F):lenS [.p i 0 0] M=some (.i .i64 D.st.length,M):=by
 obtain ⟨px,h1,h2,h3,h4,h5⟩:=h
 exact len_eq h1
end
theorem new_held (S0 S:Mem) (h:S0 <+: S) (n:Int) (F:List Nat) (hF:∀ j∈F,j<S.length):Held S0 (S++[stBlk (List.replicate (secsN n) zSec),.cells (newHead S (secsN n)) 0 none true]) (S.length+1) S.length (Dsk.new n) F:=by
 obtain ⟨h1,h2⟩:=new_eq (S:=S) n
 refine ⟨.sn,h1,h2,by show (0:Nat)≤_;omega,ext_more h _,fun j hj=>?_⟩
 have hlt:j<S.length:=by
  rcases hj with hj | hj
  ·exact Nat.lt_of_lt_of_le hj h.length_le
  ·exact hF j hj
 refine ⟨by rw [List.length_append];omega,?_⟩
 rintro (q | q | q)
 ·omega
 ·omega
 ·cases q
def mtC (g:Int):Chk:=⟨g,1,1,0,⟨1,[]⟩⟩
def mtL (g:Int):List AV:=[.i .u64 g,.i .u32 1,.i .u64 1,.i .i64 0,.i .u64 1,.sn]
theorem mt_chk (M:Mem) (g:Int):chkOf M (mtL g)=some (mtC g):=rfl
theorem mt_good {g:Int} (h:u64 g):(mtC g).good:=⟨h,⟨(show (0:Int)≤1 by decide),(show (1:Int)≤4294967295 by decide)⟩,⟨(show (0:Int)≤1 by decide),(show (1:Int)≤18446744073709551615 by decide)⟩,
 ⟨(show (-9223372036854775808:Int)≤0 by decide),(show (0:Int)≤9223372036854775807 by decide)⟩,⟨(show (0:Int)≤1 by decide),(show (1:Int)≤18446744073709551615 by decide)⟩,(show (0:Nat)≤1000000 by decide),fun x hx=>by cases hx⟩
theorem mt_book:Bk.ok ⟨1,[]⟩:=⟨by decide,by decide,⟨by decide,fun i h=>absurd h (Nat.not_lt_zero _)⟩,fun x hx=>by cases hx⟩
theorem mt_ok {g:Int} (h:valQ g):(mtC g).ok 64:=⟨(show segBad 64 0=false by decide),h,⟨(show (1:Int)≤1 by decide),(show (1:Int)≤281474976710656 by decide)⟩,(show (1:Int)≤2147483648 by decide),mt_book⟩
def emptyS:Spec:=fun args S=>match args with
 | [.i .u64 g]=>some (.ag (mtL g),S)
 | _=>none
theorem empty_ok:SpecOK Tryz.prog 26 emptyS:=by
 intro args S x S' h
 simp only [emptyS] at h
 split at h
 ·rename_i g
  cases h
  refine fn_of_wp f26 rfl (W_sound none_ok mixed _ _ _ _ _ ?_)
  simp (maxSteps:=1000000) (disch:=omega) only [c26,go_sem]
  exact wkv_drop rfl
 ·cases h
theorem sec64:secsN 64=64:=by decide
theorem swrite_dead {D:Dsk} {c:Chk} (h1:D.left=0) (h2:D.down=false) (hp:D.pe=[]) (hg:c.good) (ho:c.ok D.st.length):D.swrite c=(72,{ D with down:=true }):=by
 have hm:=Chk.many_eq hg ho
 have hn:64≤(D.st.length:Int):=by have:=of_decide_eq_false ho.1;omega
 have ha:0≤slotF c.gen∧slotF c.gen≤16:=by unfold slotF;omega
 unfold Dsk.swrite
 rw [if_pos ho]
 have hl:=Chk.secs_len (c:=c)
 cases hs:c.secs with
 | nil=>rw [hs] at hl;simp at hl;omega
 | cons s l =>
  have hw:D.write (slotF c.gen+((0:Nat):Int)) s=(72,{ D with down:=true }):=by
   unfold Dsk.write
   rw [if_pos ⟨by omega,by omega⟩]
   have hact:D.act=(72,{ D with down:=true }):=by
    unfold Dsk.act actF
    rw [h1,h2]
    simp
   rw [hact];simp
  simp only [Dsk.wrs,hw]
  rw [if_neg (by omega)]
theorem crash_calm {D:Dsk} (hp:D.pe=[]) (l:List Bool):D.crash l = { D with left:=-1,down:=false }:=by
 unfold Dsk.crash Dsk.keep
 rw [hp]
 obtain ⟨st,pe,left,down⟩:=D
 simp only at hp
 subst hp;rfl
theorem alive_disk:∃ D1 D2:Dsk,(Dsk.new 64).swrite (mtC 1)=(0,D1)∧D1.swrite (mtC 2)=(0,D2)∧D1.pe=[]∧D2.pe=[]∧D2.last=(mtC 2,true)∧D2.by_∧(D2.brk 0).swrite (mtC 3)=(72,{ D2.brk 0 with down:=true })∧({ D2.brk 0 with down:=true }:Dsk).crash []=D2:=by
 have g:∀ n:Int,1≤n→n≤3→(mtC n).good:=fun n h1 h2=>mt_good ⟨by omega,by omega⟩
 have o:∀ n:Int,1≤n→n≤3→(mtC n).ok 64:=fun n h1 h2=>mt_ok ⟨by omega,by omega⟩
 have l0:(Dsk.new 64).st.length=64:=by show (List.replicate (secsN 64) zSec).length=64;rw [List.length_replicate,sec64]
 have o1:(mtC 1).ok (Dsk.new 64).st.length:=by rw [l0];exact o 1 (by omega) (by omega)
 obtain ⟨a1,a2,a3,a4,a5⟩:=swrite_slots (new_calm 64) (g 1 (by omega) (by omega)) o1
 have b1:=swrite_by (new_calm 64) (new_by 64) (g 1 (by omega) (by omega))
 obtain ⟨D1,hD1⟩:∃ D1,D1=((Dsk.new 64).swrite (mtC 1)).2:=⟨_,rfl⟩
 rw [←hD1] at a2 a3 a4 a5 b1
 have o2:(mtC 2).ok D1.st.length:=by rw [a3,l0];exact o 2 (by omega) (by omega)
 obtain ⟨c1,c2,c3,c4,c5⟩:=swrite_slots a2 (g 2 (by omega) (by omega)) o2
 have b2:=swrite_by a2 b1 (g 2 (by omega) (by omega))
 obtain ⟨D2,hD2⟩:∃ D2,D2=(D1.swrite (mtC 2)).2:=⟨_,rfl⟩
 rw [←hD2] at c2 c3 c4 c5 b2
 have s1:slotF (mtC 1).gen=16:=by decide
 have s2:slotF (mtC 2).gen=0:=by decide
 rw [s1] at a4
 rw [s2] at c4 c5
 have c5:D2.one 16=D1.one 16:=c5
 rw [a4] at c5
 refine ⟨D1,D2,by rw [hD1,←a1],by rw [hD2,←c1],a2.pe,c2.pe,?_,b2,?_,?_⟩
 ·rw [last_ab,c4,c5]
  have e1:stepC (noChk,false) (mtC 2,true)=(mtC 2,true):=by
   unfold stepC;rw [if_pos ⟨rfl,by decide⟩]
  have e2:stepC (mtC 2,true) (mtC 1,true)=(mtC 2,true):=by
   unfold stepC;rw [if_neg (fun q=>absurd q.2 (by decide))]
  rw [e1,e2]
 ·refine swrite_dead (by show max (0:Int) (-1)=0;omega) c2.down c2.pe (g 3 (by omega) (by omega)) ?_
  show (mtC 3).ok (D2.st.length:Int)
  rw [c3,a3,l0];exact o 3 (by omega) (by omega)
 ·rw [crash_calm (by exact c2.pe)]
  have q1:=c2.left
  have q2:=c2.down
  obtain ⟨st,pe,left,down⟩:=D2
  simp only at q1 q2
  subst q1;subst q2;rfl
theorem oAl_ok:OK Tryz.prog (lamOf Tryz.prog) (orcOf [(6,newS),(26,emptyS),(9,swriteS),(17,swreadS),(13,breakS),(15,dCrashS),(21,ssameS)]):=orc_ok (by simpa using ⟨new_ok,empty_ok,swrite_ok,swread_ok,break_ok,dcrash_ok,ssame_ok⟩)
theorem salive_ok:SpecOK Tryz.prog 5 aliveS:=by
 intro args S x S' h
 unfold aliveS at h
 split at h
 ·cases h
  obtain ⟨D1,D2,w1,w2,p1,p2,hlast,hby,w3,hcr⟩:=alive_disk
  have hg:∀ n:Int,1≤n→n≤3→(mtC n).good:=fun n h1 h2=>mt_good ⟨by omega,by omega⟩
  have h0:=new_held S S ext_refl 64 [] (fun j hj=>by cases hj)
  have hnew:newS [.i .i64 64] S=some (.p (S.length+1) 0 0,S++[stBlk (List.replicate (secsN 64) zSec),.cells (newHead S (secsN 64)) 0 none true]):=rfl
  generalize S++[stBlk (List.replicate (secsN 64) zSec),.cells (newHead S (secsN 64)) 0 none true]=M0 at hnew h0
  obtain ⟨M1,k1,h1,_⟩:=h0.write (mt_chk M0 1) (hg 1 (by omega) (by omega)) (by rw [w1];simp [p1])
  rw [w1] at k1 h1
  obtain ⟨M2,k2,h2,_⟩:=h1.write (mt_chk M1 2) (hg 2 (by omega) (by omega)) (by rw [w2];simp [p2])
  rw [w2] at k2 h2
  have k3:=h2.read hby
  rw [hlast] at k3
  have h3:=h2.push (.cells (mtL 2) 0 none true) []
  have e3:(M2++[Blk.cells (mtL 2) 0 none true])[M2.length]? = some (.cells (mtL 2) 0 none true):=by rw [at_app0];rfl
  generalize hM3:M2++[Blk.cells (mtL 2) 0 none true]=M3 at h3 e3
  obtain ⟨M4,k4,h4,fk4⟩:=h3.brk (n:=0) (by omega)
  have e4:=fk4 _ _ (by simp) e3
  obtain ⟨M5,k5,h5,fk5⟩:=h4.write (mt_chk M4 3) (hg 3 (by omega) (by omega)) (by rw [w3];show D2.pe.length≤_;rw [p2];simp)
  rw [w3] at k5 h5
  have e5:=fk5 _ _ (by simp) e4
  obtain ⟨M6,k6,h6,fk6⟩:=h5.crash (x:=.sn) (l:=[]) rfl rfl rfl
  rw [hcr] at h6
  have e6:=fk6 _ _ (by simp) e5
  have k7:=h6.read hby
  rw [hlast] at k7
  have hS6:=h6.ext
  have hsm:∀ U,ssameS [.ag (mtL 2),.ag (mtL 2)] U=some (.b true,U):=fun U=>by
   simp only [ssameS,mt_chk]
   rw [if_pos (by decide)];simp
  have hem:∀ (g:Int) U,emptyS [.i .u64 g] U=some (.ag (mtL g),U):=fun g U=>rfl
  simp only [outX,mtC,retX,retM] at k3 k7
  refine fn_of_wp f5 rfl (W_sound oAl_ok mixed _ _ _ _ _ ?_)
  simp only [mtL] at hM3 e6 k1 k2 k5 hsm hem
  simp (maxSteps:=1000000) (disch:=omega) only [c5,orc_cons,hnew,hem,k1,k2,k3,hM3,k4,k5,k6,k7,at_old e6,hsm,go_sem]
  exact wkv_dropP (ext_more hS6 _) rfl
 ·cases h
set_option maxRecDepth 100000
section
variable {H:Type} {enc:TypeId × Value→H} {W:World}
theorem wf_u8 {n:Int} (h:(Lit.int .u8 n).wf=true):u8 n:=by
 simp only [Lit.wf,IntKind.min,IntKind.max,IntKind.signed,IntKind.bits,Bool.and_eq_true] at h
 unfold u8
 simpa using h
theorem wf_u64 {n:Int} (h:(Lit.int .u64 n).wf=true):u64 n:=by
 simp only [Lit.wf,IntKind.min,IntKind.max,IntKind.signed,IntKind.bits,Bool.and_eq_true] at h
 unfold u64
 simpa using h
theorem wf_i64 {n:Int} (h:(Lit.int .i64 n).wf=true):i64 n:=by
 simp only [Lit.wf,IntKind.min,IntKind.max,IntKind.signed,IntKind.bits,Bool.and_eq_true] at h
 unfold i64
 simpa using h
theorem enc_inj {α:Type} {E:Enc α} {a b:α} (h:E.enc a=E.enc b):a=b:=by
 have h1:=E.de a
 rw [h,E.de] at h1
 injection h1 with h1;exact h1.symm
end
structure Ckr where
 gen:Int
 epoch:Int
 seq:Int
 seg:Int
 period:Int
 x:AV
def Ckr.enc (r:Ckr):List AV:=[.i .u64 r.gen,.i .u32 r.epoch,.i .u64 r.seq,.i .i64 r.seg,.i .u64 r.period,r.x]
section
variable {H:Type} {enc:TypeId × Value→H} {W:World}
abbrev entSh:List CS:=[.int .i64,.int .u8,.int .u8,.int .u8,.int .u8,.int .i64,.int .u64,.int .u64,.int .u64,.int .u64,.int .u64,.int .u64,.int .u64,.int .u64]
theorem rowEnt {cs:List Value} (h:RowIs enc Tryz.prog W entSh cs):∃ a:Ent,cs.map (absV W)=a.enc∧a.good:=by
 obtain ⟨h1,h2⟩:=h
 match cs,h1 with
 | [x0,x1,x2,x3,x4,x5,x6,x7,x8,x9,x10,x11,x12,x13],_ =>
  obtain ⟨a0,rfl,w0⟩:=h2 0 (by simp) (by simp)
  obtain ⟨a1,rfl,w1⟩:=h2 1 (by simp) (by simp)
  obtain ⟨a2,rfl,w2⟩:=h2 2 (by simp) (by simp)
  obtain ⟨a3,rfl,w3⟩:=h2 3 (by simp) (by simp)
  obtain ⟨a4,rfl,w4⟩:=h2 4 (by simp) (by simp)
  obtain ⟨a5,rfl,w5⟩:=h2 5 (by simp) (by simp)
  obtain ⟨a6,rfl,w6⟩:=h2 6 (by simp) (by simp)
  obtain ⟨a7,rfl,w7⟩:=h2 7 (by simp) (by simp)
  obtain ⟨a8,rfl,w8⟩:=h2 8 (by simp) (by simp)
  obtain ⟨a9,rfl,w9⟩:=h2 9 (by simp) (by simp)
  obtain ⟨a10,rfl,w10⟩:=h2 10 (by simp) (by simp)
  obtain ⟨a11,rfl,w11⟩:=h2 11 (by simp) (by simp)
  obtain ⟨a12,rfl,w12⟩:=h2 12 (by simp) (by simp)
  obtain ⟨a13,rfl,w13⟩:=h2 13 (by simp) (by simp)
  exact ⟨⟨⟨a0,a1,a2,a3,a4,a5,a6,a7,a8,a9,a10,a11,a12⟩,a13⟩,rfl,⟨wf_i64 w0,⟨wf_u8 w1,wf_u8 w2,wf_u8 w3,wf_u8 w4⟩,wf_i64 w5,wf_u64 w6,wf_u64 w7,wf_u64 w8,wf_u64 w9,wf_u64 w10,wf_u64 w11,wf_u64 w12⟩,wf_u64 w13⟩
theorem cellEnts {v:Value} (h:CellIs enc Tryz.prog W (.slice 126) v):∃ l:List Ent,lstV entE (absS W) (absV W v)=some l∧∀ x∈l,x.good:=by
 have s2:shapes Tryz.prog 20 126=some entSh:=by kernel_rfl
 have c2:Tryz.prog.cellsOf 126=14:=by kernel_rfl
 obtain ⟨l,hl,hf,_⟩:=lst_of (e:=Ent.enc) (sz:=14) c2 (by omega) h (fun cs fuel x ht=>let ⟨a,h1,h2⟩:=rowEnt (shapes_ok 20 fuel 126 cs x _ ht s2);⟨a,h1,rfl⟩)
  (good:=Ent.good) (fun cs fuel x a ht he=>let ⟨a',h1,h2⟩:=rowEnt (shapes_ok 20 fuel 126 cs x _ ht s2);enc_inj (E:=entE) (h1.symm.trans he) ▸ h2)
 exact ⟨l,lst_lstV (E:=entE) hl,hf⟩
theorem wf_u32 {n:Int} (h:(Lit.int .u32 n).wf=true):0≤n∧n≤4294967295:=by
 simp only [Lit.wf,IntKind.min,IntKind.max,IntKind.signed,IntKind.bits,Bool.and_eq_true] at h
 simpa using h
abbrev chkSh:List CS:=[.int .u64,.int .u32,.int .u64,.int .i64,.int .u64,.slice 126]
theorem rowChk {cs:List Value} (h:RowIs enc Tryz.prog W chkSh cs):∃ (c:Chk) (x:AV),cs.map (absV W)=c.cells x∧lstV entE (absS W) x=some c.book.entries∧u64 c.gen∧(0≤c.epoch∧c.epoch≤4294967295)∧u64 c.seq∧i64 c.seg∧u64 c.book.period∧∀ y∈c.book.entries,y.good:=by
 obtain ⟨h1,h2⟩:=h
 match cs,h1 with
 | [x0,x1,x2,x3,x4,x5],_ =>
  obtain ⟨a0,rfl,w0⟩:=h2 0 (by simp) (by simp)
  obtain ⟨a1,rfl,w1⟩:=h2 1 (by simp) (by simp)
  obtain ⟨a2,rfl,w2⟩:=h2 2 (by simp) (by simp)
  obtain ⟨a3,rfl,w3⟩:=h2 3 (by simp) (by simp)
  obtain ⟨a4,rfl,w4⟩:=h2 4 (by simp) (by simp)
  obtain ⟨l,hl,hf⟩:=cellEnts (h2 5 (by simp) (by simp))
  exact ⟨⟨a0,a1,a2,a3,⟨a4,l⟩⟩,absV W x5,rfl,hl,wf_u64 w0,wf_u32 w1,wf_u64 w2,wf_i64 w3,wf_u64 w4,hf⟩
def Ckr.good (S:Mem) (r:Ckr):Prop:=∃ es,lstV entE S r.x=some es∧u64 r.gen∧(0≤r.epoch∧r.epoch≤4294967295)∧u64 r.seq∧i64 r.seg∧u64 r.period∧∀ y∈es,y.good
end
set_option maxRecDepth 10000
theorem check_inv {n gen ep:Int} {pay:List Int} {c:Chk} (hu:∀ x∈pay,u8 x) (h:checkF n gen ep pay=(c,true)):c.gen=gen∧c.epoch=ep∧c.pay=pay∧c.ok n∧(u64 gen→0≤ep∧ep≤4294967295→c.good):=by
 unfold checkF at h
 split at h
 ·simp at h
 ·rename_i sq k hk
  split at h
  ·simp at h
  ·rename_i sg m hm
   split at h
   ·simp at h
   ·rename_i b hb
    simp only [Prod.mk.injEq,Bool.and_eq_true,decide_eq_true_eq] at h
    obtain ⟨hc,hsat,hok⟩:=h
    have hsg:sg≤9223372036854775807:=of_decide_eq_true hsat
    have hsn:satN sg=sg:=if_pos hsg
    rw [hsn] at hc hok
    obtain ⟨g1,g2,g3,_,g4⟩:=getL_some hu hk
    obtain ⟨k1,k2,k3,_,k4⟩:=getL_some (fun c hc=>hu c (List.mem_of_mem_drop hc)) hm
    obtain ⟨_,b2,b3⟩:=bytes_read (fun c hc=>hu c (List.mem_of_mem_drop hc)) hb
    subst hc
    refine ⟨rfl,rfl,?_,hok,fun q1 q2=>⟨q1,q2,g1,⟨?_,?_⟩,b2⟩⟩
    ·have hp:Chk.pay ⟨gen,ep,sq,sg,b⟩=leb sq++(leb sg++lebs b.ns):=by unfold Chk.pay lebs;simp
     have e1:pay.drop k=(pay.drop k).take m++(pay.drop k).drop m:=(List.take_append_drop m _).symm
     rw [hp,g2,k2,b3,←List.drop_drop,←e1,List.take_append_drop]
    ·have:=k1.1;show (-9223372036854775808:Int)≤sg;omega
    ·exact hsg
theorem settle_mem {p:Nat→Bool}:∀ (pe:List Wr) (k:Nat) (st:List Sec) (s:Sec),s∈settleL p k pe st→s∈st∨∃ w∈pe,s=w.sec
 | [],_,_,s,h=>.inl h
 | w :: pe,k,st,s,h=>by
  rw [settleL] at h
  rcases settle_mem pe _ _ s h with h | ⟨w',hw',h⟩
  ·split at h
   ·rcases List.mem_or_eq_of_mem_set h with h | h
    ·exact .inl h
    ·exact .inr ⟨w,by simp,h⟩
   ·exact .inl h
  ·exact .inr ⟨w',by simp [hw'],h⟩
def sgreatS:Spec:=fun args S=>match args with
 | [.ag cs]=>match chkOf S cs with
  | some c=>some (.b (decide (30<c.book.entries.length)),S)
  | none=>none
 | _=>none
theorem sgreat_ok:SpecOK Tryz.prog 8 sgreatS:=by
 intro args S x S' h
 simp only [sgreatS] at h
 split at h
 ·rename_i cs
  split at h
  ·rename_i c hc
   cases h
   obtain ⟨y,rfl,hl⟩:=chkOf_ok hc
   refine fn_of_wp f8 rfl (W_sound none_ok mixed _ _ _ _ _ ?_)
   have hll:=lst_len hl
   by_cases hg:30<c.book.entries.length
   ·have hI:(30:Int)<c.book.entries.length:=by omega
    rw [decide_eq_true hg]
    simp (maxSteps:=1000000) (disch:=omega) only [c8,hll,hI,go_sem]
    exact wkv_drop rfl
   ·have hI:¬ (30:Int)<c.book.entries.length:=by omega
    rw [decide_eq_false hg]
    simp (maxSteps:=1000000) (disch:=omega) only [c8,hll,hI,go_sem]
    exact wkv_drop rfl
  ·cases h
 ·cases h
theorem sgreat_eq {S:Mem} {c:Chk} {x:AV} (hl:lstV entE S x=some c.book.entries):sgreatS [.ag [.i .u64 c.gen,.i .u32 c.epoch,.i .u64 c.seq,.i .i64 c.seg,.i .u64 c.book.period,x]] S=some (.b (decide (30<c.book.entries.length)),S):=by
 simp only [sgreatS,chkOf_mk hl]
noncomputable def recV (n:Int) (c:Chk):Int × Int × List Int × Int:=if c.ok n then (c.gen,c.epoch,c.pay,0) else (0,0,[],141)
theorem record_val (M:Mem) {n:Int} {c:Chk} (hg:c.good) {q ep e:Int} {P:List Int} (hv:recV n c=(q,ep,P,e)):∃ X M',recordF M n c=(.tu [.ag [.i .u64 q,.i .u32 ep,X],.i .i64 e],M')∧lstV byteE M' X=some P∧M <+: M'∧X.one=true∧P.all (fun c=>decide (u8 c))=true:=by
 unfold recV at hv
 unfold recordF
 split at hv
 ·rename_i ho
  have hsg:=seg_pos ho.1
  simp only [Prod.mk.injEq] at hv
  obtain ⟨rfl,rfl,rfl,rfl⟩:=hv
  rw [if_pos ho]
  refine ⟨_,_,rfl,retX_lst,retM_ext,one_of_accG (E:=byteE) (retX_acc (S:=M)),List.all_eq_true.2 fun x hx=>decide_eq_true ?_⟩
  unfold Chk.pay at hx
  rcases List.mem_append.1 hx with hx | hx
  ·exact lebs_u8 (by simp;exact ⟨hg.2.2.1,by omega,by omega⟩) x hx
  ·exact lebs_u8 (bns_u64 hg.2.2.2.2 ho.2.2.2.2) x hx
 ·rename_i ho
  simp only [Prod.mk.injEq] at hv
  obtain ⟨rfl,rfl,rfl,rfl⟩:=hv
  rw [if_neg ho]
  exact ⟨.sn,M,rfl,rfl,ext_refl,rfl,rfl⟩
theorem Held.extM {S M M':Mem} {i ist:Nat} {D:Dsk} {F:List Nat} (h:Held S M i ist D F) (hM:M <+: M'):Held S M' i ist D F:=by
 obtain ⟨T,rfl⟩:=hM;exact h.grow T
theorem wp_ls {P:Program} {O:Orc} {S0:Mem} {rd:Bool} {e:Env} {S:Mem} {d:List Nat} {Q:Kont} (hO:OK P (lamOf P) O) (hmix:P.follows .mixedOrders=true) {l:List Nat} {a b:ICode} (h:W P O S0 rd a (keepE e l) S d (seqK (WP P S0 rd b) Q)):WP P S0 rd (.live l (.seq a b)) e S d Q :=
 wp_live (wp_seq (W_sound hO hmix _ _ _ _ _ h))
def ofB (x:BitVec 32):Int:=(x.toNat:Int)
theorem ofB_lt (x:BitVec 32):0≤ofB x∧ofB x≤4294967295:=by unfold ofB;have:=x.isLt;omega
theorem toB_of (x:BitVec 32):BitVec.ofInt 32 (ofB x)=x:=by
 unfold ofB
 apply BitVec.eq_of_toNat_eq
 rw [BitVec.toNat_ofInt]
 have:=x.isLt
 omega
theorem of_toB {n:Int} (h:0≤n∧n≤4294967295):ofB (BitVec.ofInt 32 n)=n:=by
 unfold ofB
 rw [BitVec.toNat_ofInt];omega
theorem exB {n:Int} (h:0≤n∧n≤4294967295):∃ x:BitVec 32,n=ofB x:=⟨_,(of_toB h).symm⟩
theorem xr_of (x y:BitVec 32):xr (ofB x) (ofB y)=ofB (x ^^^ y):=by
 unfold xr
 rw [toB_of,toB_of]
 have:(x ^^^ y).toNat=Nat.xor x.toNat y.toNat:=BitVec.toNat_xor x y
 rw [←this]
 have:=ofB_lt (x ^^^ y)
 show wrapV .u32 (ofB (x ^^^ y))=_
 simp only [wrapV];omega
def pB:BitVec 32:=79764919#32
def stB1 (x:BitVec 32) (t:Bool):BitVec 32:=(x <<< 1) ^^^ (if t=true then pB else 0)
theorem dbl_of (x:BitVec 32):wrapV .u32 (ofB x * 2)=ofB (x <<< 1):=by
 unfold ofB
 rw [BitVec.toNat_shiftLeft,Nat.shiftLeft_eq]
 have:=x.isLt
 simp only [wrapV];omega
theorem msb_of (x:BitVec 32):x.msb=decide (2147483648≤ofB x):=by
 rw [BitVec.msb_eq_decide]
 unfold ofB
 have:(2147483648≤x.toNat)=(2 ^ (32-1)≤x.toNat):=by rfl
 rw [decide_eq_decide]
 show 2 ^ (32-1)≤x.toNat↔(2147483648:Int)≤(x.toNat:Int)
 have:(2:Nat) ^ (32-1)=2147483648:=by decide
 rw [this];omega
theorem crcT_of (x:BitVec 32):crcT (ofB x)=ofB (stB1 x x.msb):=by
 unfold crcT stB1
 have hx:=ofB_lt x
 rw [dbl_of,msb_of]
 by_cases h:2147483648≤ofB x
 ·have h1:ofB x / 2147483648=1:=by omega
  have h2:wrapV .u32 (79764919 * 1)=ofB pB:=by decide
  rw [h1,h2,xr_of,decide_eq_true h,if_pos rfl]
 ·have h1:ofB x / 2147483648=0:=by omega
  have h2:wrapV .u32 (79764919 * 0)=ofB 0:=by decide
  rw [h1,h2,xr_of,decide_eq_false h,if_neg (by simp)]
def tN:Nat→BitVec 32→BitVec 32
 | 0,x=>x
 | n+1,x=>tN n (stB1 x x.msb)
def rN:Nat→BitVec 32→BitVec 32→BitVec 32
 | 0,x,_=>x
 | n+1,x,y=>rN n (stB1 x (x.msb != y.msb)) (y <<< 1)
theorem stB1_xor (x y:BitVec 32):stB1 (x ^^^ y) (x ^^^ y).msb=stB1 x (x.msb != y.msb) ^^^ (y <<< 1):=by
 unfold stB1
 rw [BitVec.msb_xor,BitVec.shiftLeft_xor_distrib]
 have hb:(x.msb ^^ y.msb)=(x.msb != y.msb):=by cases x.msb <;> cases y.msb <;> rfl
 rw [hb]
 ac_rfl
theorem tN_xor:∀ (n:Nat) (x y:BitVec 32),tN n (x ^^^ y)=rN n x y ^^^ (y <<< n)
 | 0,x,y=>by simp [tN,rN]
 | n+1,x,y=>by
  rw [tN,rN,stB1_xor,tN_xor n]
  congr 1
  rw [←BitVec.shiftLeft_add,Nat.add_comm]
theorem crcN_of (x:BitVec 32):∀ n,crcN n (ofB x)=ofB (tN n x):=by
 have h1:∀ (n:Nat) (x:BitVec 32),tN (n+1) x=stB1 (tN n x) (tN n x).msb:=by
  intro n
  induction n with
  | zero=>intro x;rfl
  | succ n ih=>intro x;rw [tN,ih];rfl
 intro n
 induction n with
 | zero=>rfl
 | succ n ih=>rw [crcN,ih,crcT_of,h1]
def rBit (r:Int) (t:Bool):Int:=if (decide (2147483648≤r) != t)=true then xr (r * 2 % 4294967296) 79764919 else r * 2 % 4294967296
theorem rBit_of (x:BitVec 32) (t:Bool):rBit (ofB x) t=ofB (stB1 x (x.msb != t)):=by
 have h1:ofB x * (2:Int) % (4294967296:Int)=ofB (x <<< 1):=by
  rw [←dbl_of]
  have:=ofB_lt x
  simp only [wrapV]
 have h2:(79764919:Int)=ofB pB:=by decide
 unfold rBit stB1
 rw [←msb_of,h1,h2]
 split
 ·rw [xr_of]
 ·simp
theorem rBit_u32 {r:Int} (h:0≤r∧r≤4294967295) (t:Bool):0≤rBit r t∧rBit r t≤4294967295:=by
 obtain ⟨x,rfl⟩:=exB h
 rw [rBit_of];exact ofB_lt _
def bitC (c:Int) (k:Nat):Bool:=decide (c / ((2:Int) ^ (7-k)) % 2=1)
def rByte (c:Int):Nat→Int→Int
 | 0,r=>r
 | k+1,r=>rBit (rByte c k r) (bitC c k)
theorem byte_msb {c:Int} (hc:0≤c∧c≤255):∀ k,k<8→(((BitVec.ofInt 32 (c * 16777216)) <<< k).msb)=bitC c k:=by
 obtain ⟨n,rfl⟩:=Int.eq_ofNat_of_zero_le hc.1
 have hn:n<256:=by omega
 intro k hk
 have hall:∀ n:Nat,n<256→∀ k:Nat,k<8→((BitVec.ofInt 32 ((n:Int) * 16777216)) <<< k).msb=bitC (n:Int) k:=by decide +kernel
 exact hall n hn k hk
theorem step_bits {s c:Int} (hs:0≤s∧s≤4294967295) (hc:0≤c∧c≤255):crcStep s c=rByte c 8 s:=by
 obtain ⟨x,rfl⟩:=exB hs
 have h1:wrapV .u32 c=c:=by simp only [wrapV];omega
 have h2:wrapV .u32 (c * 16777216)=c * 16777216:=by simp only [wrapV];omega
 have h3:=byte_msb hc
 obtain ⟨y,hy⟩:∃ y,y=BitVec.ofInt 32 (c * 16777216):=⟨_,rfl⟩
 have h4:c * 16777216=ofB y:=by rw [hy,of_toB (by omega)]
 rw [←hy] at h3
 unfold crcStep
 rw [h1,h2,h4,xr_of,crcN_of,tN_xor]
 have h5:y <<< 8=0#32:=by
  have hall:∀ n:Nat,n<256→(BitVec.ofInt 32 ((n:Int) * 16777216)) <<< 8=0#32:=by decide +kernel
  obtain ⟨n,rfl⟩:=Int.eq_ofNat_of_zero_le hc.1
  rw [hy];exact hall n (by omega)
 rw [h5,BitVec.xor_zero]
 have e:∀ k,k<8→(y <<< k).msb=bitC c k:=h3
 simp only [rN,rByte,rBit_of]
 have e0:=e 0 (by omega)
 have e1:=e 1 (by omega)
 have e2:=e 2 (by omega)
 have e3:=e 3 (by omega)
 have e4:=e 4 (by omega)
 have e5:=e 5 (by omega)
 have e6:=e 6 (by omega)
 have e7:=e 7 (by omega)
 rw [BitVec.shiftLeft_zero] at e0
 have s2:y <<< 1 <<< 1=y <<< 2:=(BitVec.shiftLeft_add y 1 1).symm
 have s3:y <<< 2 <<< 1=y <<< 3:=(BitVec.shiftLeft_add y 2 1).symm
 have s4:y <<< 3 <<< 1=y <<< 4:=(BitVec.shiftLeft_add y 3 1).symm
 have s5:y <<< 4 <<< 1=y <<< 5:=(BitVec.shiftLeft_add y 4 1).symm
 have s6:y <<< 5 <<< 1=y <<< 6:=(BitVec.shiftLeft_add y 5 1).symm
 have s7:y <<< 6 <<< 1=y <<< 7:=(BitVec.shiftLeft_add y 6 1).symm
 rw [s2,s3,s4,s5,s6,s7,e0,e1,e2,e3,e4,e5,e6,e7]
theorem step_u32 {s c:Int} (hs:0≤s∧s≤4294967295) (hc:0≤c∧c≤255):0≤crcStep s c∧crcStep s c≤4294967295:=by
 rw [step_bits hs hc]
 have:∀ k,0≤rByte c k s∧rByte c k s≤4294967295:=fun k=>by
  induction k with
  | zero=>exact hs
  | succ k ih=>exact rBit_u32 ih _
 exact this 8
theorem nt_of {n:Int} (h:0≤n∧n≤4294967295):nt n=4294967295-n:=by
 obtain ⟨x,rfl⟩:=exB h
 have h1:nt (ofB x)=xr 4294967295 (ofB x):=rfl
 have h2:(4294967295:Int)=ofB (BitVec.allOnes 32):=by decide
 rw [h1,h2,xr_of,BitVec.allOnes_xor]
 unfold ofB
 rw [BitVec.toNat_not]
 have:=x.isLt
 have h3:(BitVec.allOnes 32).toNat=4294967295:=by decide
 rw [h3];omega
def restF (b:List Int):Nat→Int
 | 0=>4294967295
 | n+1=>rBit (restF b n) (bitC (b.getD (n / 8) 0) (n % 8))
theorem rest_bytes {b:List Int} (hu:∀ c∈b,0≤c∧c≤255):∀ k,k≤b.length→restF b (8 * k)=(b.take k).foldl crcStep 4294967295∧(0≤restF b (8 * k)∧restF b (8 * k)≤4294967295)
 | 0,_=>⟨rfl,by show (0:Int)≤4294967295∧(4294967295:Int)≤4294967295;decide⟩
 | k+1,hk=>by
  obtain ⟨ih,hr⟩:=rest_bytes hu k (by omega)
  have hkl:k<b.length:=by omega
  have hc:=hu _ (List.getElem_mem hkl)
  have hj:∀ j,j≤8→restF b (8 * k+j)=rByte b[k] j (restF b (8 * k)):=fun j=>by
   induction j with
   | zero=>intro _;rfl
   | succ j ihj =>
    intro hj8
    rw [←Nat.add_assoc,restF,ihj (by omega),rByte]
    have e1:(8 * k+j) / 8=k:=by omega
    have e2:(8 * k+j) % 8=j:=by omega
    rw [e1,e2,List.getD_eq_getElem?_getD,List.getElem?_eq_getElem hkl];rfl
  have h8:=hj 8 (by omega)
  rw [show 8 * (k+1)=8 * k+8 by omega,h8,←step_bits hr hc,ih,List.take_succ_eq_append_getElem hkl,List.foldl_append]
  rw [ih] at hr
  exact ⟨rfl,step_u32 hr hc⟩
theorem mor_rest {b:List Int} (hu:∀ c∈b,0≤c∧c≤255):morF 0 b=4294967295-restF b (8 * b.length):=by
 obtain ⟨h1,h2⟩:=rest_bytes hu b.length (Nat.le_refl _)
 rw [List.take_length] at h1
 unfold morF
 rw [nt_of (n:=0) (by omega),show (4294967295:Int)-0=4294967295 by omega,←h1,nt_of h2]
theorem shr_u8 {c:Int} {k:Nat} (hk:k≤7):shiftV .shr .u8 c (k:Int)=some (.i .u8 (c / ((2:Int) ^ k))):=by
 simp only [shiftV,IntKind.bits]
 rw [if_neg (by omega),Int.fdiv_eq_ediv_of_nonneg _ (Int.natCast_nonneg _),Int.toNat_natCast,show min k 8=k by omega,Int.natCast_pow];rfl
def rbitS:Spec:=fun args S=>match args with
 | [x,.i .i64 n]=>match lstV byteE S x with
  | some b=>if 0≤n∧n<8 * b.length∧b.length≤1000000∧b.all (fun c=>decide (u8 c))=true then some (.b (bitC (b.getD (n.toNat / 8) 0) (n.toNat % 8)),S) else none
  | none=>none
 | _=>none
theorem rbit_ok:SpecOK Tryz.prog 104 rbitS:=by
 intro args S x S' h
 simp only [rbitS] at h
 split at h
 ·rename_i y n
  split at h
  ·rename_i b hb
   split at h
   ·rename_i hc
    obtain ⟨h0,h1,hblen,hu⟩:=hc
    cases h
    obtain ⟨m,rfl⟩:=Int.eq_ofNat_of_zero_le h0
    rw [Int.toNat_natCast]
    have hk:m / 8<b.length:=by omega
    obtain ⟨bi,o,v,cap,ex,rfl⟩:=lst_sl hb hk
    have hkI:((m / 8:Nat):Int)<b.length:=by omega
    have hcl:=lstV_cell hb rfl (fun a=>rfl) hk []
    rw [List.append_nil] at hcl
    have hc8:u8 b[m / 8]:=of_decide_eq_true (List.all_eq_true.1 hu _ (List.getElem_mem hk))
    have hgd:b.getD (m / 8) 0=b[m / 8]:=by rw [List.getD_eq_getElem?_getD,List.getElem?_eq_getElem hk];rfl
    rw [hgd]
    generalize b[m / 8]=c at hcl hc8
    have hc8':=hc8
    unfold u8 at hc8'
    have w1:binV .int true .quo (.i .i64 (m:Int)) (.i .i64 8)=some (.i .i64 ((m / 8:Nat):Int)):=by
     rw [bin_quo_pos (by omega) (by omega),wrap_i64 (by omega) (by omega)];congr 2
    have w2:binV .int true .rem (.i .i64 (m:Int)) (.i .i64 8)=some (.i .i64 ((m % 8:Nat):Int)):=by
     rw [bin_rem_pos (by omega) (by omega)];congr 2
    have w3:wrapV .i64 (7-((m % 8:Nat):Int))=((7-m % 8:Nat):Int):=by rw [wrap_i64 (by omega) (by omega)];omega
    have w4:=shr_u8 (c:=c) (k:=7-m % 8) (by omega)
    have hq:0≤c / (2:Int) ^ (7-m % 8):=Int.ediv_nonneg hc8'.1 (Int.le_of_lt (Int.pow_pos (by decide)))
    have w5:binV .int true .rem (.i .u8 (c / (2:Int) ^ (7-m % 8))) (.i .u8 2)=some (.i .u8 (c / (2:Int) ^ (7-m % 8) % 2)):=bin_rem_pos hq (by omega)
    refine fn_of_wp f104 rfl (W_sound none_ok mixed _ _ _ _ _ ?_)
    unfold bitC
    simp (maxSteps:=1000000) (disch:=omega) only [c104,w1,hkI,Int.toNat_natCast,Nat.mul_one,hcl,w2,w3,w4,w5,go_sem]
    exact wkv_same
   ·cases h
  ·cases h
 ·cases h
def rxorS:Spec:=fun args S=>match args with
 | [.i .u64 a,.i .u64 b]=>if (0≤a∧a≤4294967295)∧(0≤b∧b≤4294967295) then some (.i .u64 (xr a b),S) else none
 | _=>none
theorem xr_nat {a b:Nat} (ha:a≤4294967295) (hb:b≤4294967295):xr (a:Int) (b:Int)=((a ^^^ b:Nat):Int)∧a ^^^ b<2 ^ 32:=by
 have hlt:a ^^^ b<2 ^ 32:=Nat.xor_lt_two_pow (by omega) (by omega)
 refine ⟨?_,hlt⟩
 have e:∀ n:Nat,n≤4294967295→(BitVec.ofInt 32 (n:Int)).toNat=n:=fun n hn=>by rw [BitVec.toNat_ofInt];omega
 unfold xr
 rw [e a ha,e b hb]
 show wrapV .u32 ((a ^^^ b:Nat):Int)=_
 simp only [wrapV];omega
theorem xor_step (a b k:Nat):(a ^^^ b) % 2 ^ (k+1)=(a ^^^ b) % 2 ^ k+(if a / 2 ^ k % 2=b / 2 ^ k % 2 then 0 else 2 ^ k):=by
 have h:=Nat.testBit_xor a b k
 rw [Nat.testBit_eq_decide_div_mod_eq,Nat.testBit_eq_decide_div_mod_eq,Nat.testBit_eq_decide_div_mod_eq] at h
 rw [Nat.mod_pow_succ]
 have h0:(a ^^^ b) / 2 ^ k % 2=0∨(a ^^^ b) / 2 ^ k % 2=1:=by omega
 have h1:a / 2 ^ k % 2=0∨a / 2 ^ k % 2=1:=by omega
 have h2:b / 2 ^ k % 2=0∨b / 2 ^ k % 2=1:=by omega
 rcases h0 with h0 | h0 <;> rcases h1 with h1 | h1 <;> rcases h2 with h2 | h2 <;> simp [h0,h1,h2] at h ⊢
theorem rxor_ok:SpecOK Tryz.prog 105 rxorS:=by
 intro args S x S' h
 simp only [rxorS] at h
 split at h
 ·rename_i a0 b0
  split at h
  ·rename_i hc
   obtain ⟨⟨ha0,ha1⟩,hb0,hb1⟩:=hc
   cases h
   obtain ⟨a,rfl⟩:=Int.eq_ofNat_of_zero_le ha0
   obtain ⟨b,rfl⟩:=Int.eq_ofNat_of_zero_le hb0
   obtain ⟨hx,hlt⟩:=xr_nat (a:=a) (b:=b) (by omega) (by omega)
   rw [hx]
   refine fn_of_wp f105 rfl (W_sound none_ok mixed _ _ _ _ _ ?_)
   simp (maxSteps:=1000000) (disch:=omega) only [c105,go_sem]
   refine wp_loop (fun j e M dl=>dl=[]∧∃ k:Nat,j=32-k∧k≤32∧M=S∧e.get 7 = .i .i64 k∧e.get 6 = .i .u64 ((2 ^ k:Nat):Int)∧e.get 0 = .i .u64 ((a / 2 ^ k:Nat):Int)∧e.get 1 = .i .u64 ((b / 2 ^ k:Nat):Int)∧e.get 5 = .i .u64 (((a ^^^ b) % 2 ^ k:Nat):Int)) (j:=32)
    ⟨rfl,0,rfl,Nat.zero_le _,rfl,rfl,rfl,by rw [Nat.pow_zero,Nat.div_one];rfl,by rw [Nat.pow_zero,Nat.div_one];rfl,by rw [Nat.pow_zero,Nat.mod_one];rfl⟩ ?_
   rintro j e M d' ⟨rfl,k,rfl,hk,rfl,e7,e6,e0,e1,e5⟩
   refine W_sound none_ok mixed _ _ _ _ _ ?_
   by_cases hkm:k<32
   ·have hkI:(k:Int)<32:=by omega
    have hk6:k<1000000:=by omega
    have hp:2 ^ k≤2 ^ 31:=Nat.pow_le_pow_right (by decide) (by omega)
    have hp31:(2:Nat) ^ 31=2147483648:=by decide
    have hst:=xor_step a b k
    have hm:(a ^^^ b) % 2 ^ k<2 ^ k:=Nat.mod_lt _ (Nat.pow_pos (by decide))
    have q1:a / 2 ^ (k+1)=a / 2 ^ k / 2:=by rw [Nat.pow_succ,Nat.div_div_eq_div_mul]
    have q2:b / 2 ^ (k+1)=b / 2 ^ k / 2:=by rw [Nat.pow_succ,Nat.div_div_eq_div_mul]
    have q3:2 ^ (k+1)=2 ^ k * 2:=Nat.pow_succ 2 k
    have hda:a / 2 ^ k≤a:=Nat.div_le_self _ _
    have hdb:b / 2 ^ k≤b:=Nat.div_le_self _ _
    generalize a / 2 ^ k=ak at *
    generalize b / 2 ^ k=bk at *
    generalize 2 ^ k=p at *
    generalize (a ^^^ b) % p=o at *
    have r1:binV .int true .rem (.i .u64 (ak:Int)) (.i .u64 2)=some (.i .u64 ((ak % 2:Nat):Int)):=by rw [bin_rem_pos (by omega) (by omega)];congr 2
    have r2:binV .int true .rem (.i .u64 (bk:Int)) (.i .u64 2)=some (.i .u64 ((bk % 2:Nat):Int)):=by rw [bin_rem_pos (by omega) (by omega)];congr 2
    have r3:binV .int true .quo (.i .u64 (ak:Int)) (.i .u64 2)=some (.i .u64 ((ak / 2:Nat):Int)):=by rw [bin_quo_pos (by omega) (by omega),wrap_u64 (by omega) (by omega)];congr 2
    have r4:binV .int true .quo (.i .u64 (bk:Int)) (.i .u64 2)=some (.i .u64 ((bk / 2:Nat):Int)):=by rw [bin_quo_pos (by omega) (by omega),wrap_u64 (by omega) (by omega)];congr 2
    have r5:wrapV .u64 ((p:Int) * 2)=((p * 2:Nat):Int):=by rw [wrap_u64 (by omega) (by omega)];omega
    have r6:wrapV .u64 ((o:Int)+p)=((o+p:Nat):Int):=by rw [wrap_u64 (by omega) (by omega)];omega
    by_cases hab:ak % 2=bk % 2
    ·rw [if_pos hab] at hst
     have habI:((ak % 2:Nat):Int)=((bk % 2:Nat):Int):=by omega
     simp (maxSteps:=1000000) (disch:=omega) only [c105l0,e7,e6,e0,e1,e5,hkI,r1,r2,habI,r3,r4,r5,wrapS hk6,go_sem]
     refine ⟨32-(k+1),?_,k+1,?_,?_,?_,?_,?_,?_,?_⟩
     ·omega
     ·rfl
     ·omega
     ·rfl
     ·rw [q3]
     ·rw [q1]
     ·rw [q2]
     ·rw [hst];rfl
    ·rw [if_neg hab] at hst
     have habI:¬ ((ak % 2:Nat):Int)=((bk % 2:Nat):Int):=by omega
     simp (maxSteps:=1000000) (disch:=omega) only [c105l0,e7,e6,e0,e1,e5,hkI,r1,r2,habI,r3,r4,r5,r6,wrapS hk6,go_sem]
     refine ⟨32-(k+1),?_,k+1,?_,?_,?_,?_,?_,?_,?_⟩
     ·omega
     ·rfl
     ·omega
     ·rfl
     ·rw [q3]
     ·rw [q1]
     ·rw [q2]
     ·rw [hst]
   ·obtain rfl:k=32:=by omega
    rw [Nat.mod_eq_of_lt hlt] at e5
    have hkI:¬ ((32:Nat):Int)<32:=by omega
    simp (maxSteps:=1000000) (disch:=omega) only [c105l0,e7,e6,e0,e1,e5,hkI,go_sem]
    exact wkv_same
  ·cases h
 ·cases h
def rOfS:Spec:=fun args S=>match args with
 | [x]=>match lstV byteE S x with
  | some b=>if b.length≤100000∧b.all (fun c=>decide (u8 c))=true then some (.i .u32 (morF 0 b),S) else none
  | none=>none
 | _=>none
theorem rest_u32 (b:List Int):∀ n,0≤restF b n∧restF b n≤4294967295
 | 0=>by show (0:Int)≤4294967295∧(4294967295:Int)≤4294967295;decide
 | n+1=>rBit_u32 (rest_u32 b n) _
theorem oROf3_ok:OK Tryz.prog (lamOf Tryz.prog) (orcOf [(104,rbitS),(105,rxorS)]):=orc_ok (by simpa using ⟨rbit_ok,rxor_ok⟩)
theorem rOf_ok:SpecOK Tryz.prog 84 rOfS:=by
 intro args S x S' h
 simp only [rOfS] at h
 split at h
 ·rename_i y
  split at h
  ·rename_i b hb
   split at h
   ·rename_i hc
    obtain ⟨hlim,hu⟩:=hc
    cases h
    have hu2:∀ c∈b,0≤c∧c≤255:=fun c hc=>of_decide_eq_true (List.all_eq_true.1 hu c hc)
    rw [mor_rest hu2]
    have hbl:=lst_len hb
    have w0:wrapV .i64 (8 * (b.length:Int))=((8 * b.length:Nat):Int):=by rw [wrap_i64 (by omega) (by omega)];omega
    refine fn_of_wp f84 rfl (W_sound oROf3_ok mixed _ _ _ _ _ ?_)
    simp (maxSteps:=1000000) (disch:=omega) only [c84,go_sem]
    refine wp_loop (fun j e M dl=>dl=[]∧∃ k:Nat,j=8 * b.length-k∧k≤8 * b.length∧M=S∧e.get 0=y∧e.get 4 = .i .i64 k∧e.get 3 = .i .u64 (restF b k)) (j:=8 * b.length)
     ⟨rfl,0,rfl,Nat.zero_le _,rfl,rfl,rfl,rfl⟩ ?_
    rintro j e M d' ⟨rfl,k,rfl,hk,rfl,e0,e4,e3⟩
    refine W_sound oROf3_ok mixed _ _ _ _ _ ?_
    have hr:=rest_u32 b k
    by_cases hkm:k<8 * b.length
    ·have hkI:(k:Int)<((8 * b.length:Nat):Int):=by omega
     have hk6:k<1000000:=by omega
     have hbit:rbitS [y,.i .i64 (k:Int)] M=some (.b (bitC (b.getD (k / 8) 0) (k % 8)),M):=by
      simp only [rbitS,hb,Int.toNat_natCast]
      rw [if_pos ⟨by omega,by omega,by omega,hu⟩]
     have hs:restF b (k+1)=rBit (restF b k) (bitC (b.getD (k / 8) 0) (k % 8)):=rfl
     generalize bitC (b.getD (k / 8) 0) (k % 8)=t at hbit hs
     unfold rBit at hs
     generalize restF b k=r at *
     have m1:wrapV .u64 (r * 2)=r * 2:=wrap_u64 (by omega) (by omega)
     have m2:binV .int true .rem (.i .u64 (r * 2)) (.i .u64 4294967296)=some (.i .u64 (r * 2 % 4294967296)):=bin_rem_pos (by omega) (by omega)
     have hx:rxorS [.i .u64 (r * 2 % 4294967296),.i .u64 79764919] M=some (.i .u64 (xr (r * 2 % 4294967296) 79764919),M):=by
      simp only [rxorS]
      rw [if_pos ⟨by omega,by omega⟩]
     by_cases hg:2147483648≤r
     ·rw [decide_eq_true hg] at hs
      cases t with
      | true =>
       simp (maxSteps:=1000000) (disch:=omega) only [c84l0,e0,e4,e3,hbl,w0,hkI,hg,orc_cons,hbit,m1,m2,hx,wrapS hk6,go_sem]
       exact ⟨8 * b.length-(k+1),by omega,k+1,rfl,hkm,rfl,by rw [hs];rfl⟩
      | false =>
       simp (maxSteps:=1000000) (disch:=omega) only [c84l0,e0,e4,e3,hbl,w0,hkI,hg,orc_cons,hbit,m1,m2,hx,wrapS hk6,go_sem]
       exact ⟨8 * b.length-(k+1),by omega,k+1,rfl,hkm,rfl,by rw [hs];rfl⟩
     ·rw [decide_eq_false hg] at hs
      cases t with
      | true =>
       simp (maxSteps:=1000000) (disch:=omega) only [c84l0,e0,e4,e3,hbl,w0,hkI,hg,orc_cons,hbit,m1,m2,hx,wrapS hk6,go_sem]
       exact ⟨8 * b.length-(k+1),by omega,k+1,rfl,hkm,rfl,by rw [hs];rfl⟩
      | false =>
       simp (maxSteps:=1000000) (disch:=omega) only [c84l0,e0,e4,e3,hbl,w0,hkI,hg,orc_cons,hbit,m1,m2,hx,wrapS hk6,go_sem]
       exact ⟨8 * b.length-(k+1),by omega,k+1,rfl,hkm,rfl,by rw [hs];rfl⟩
    ·obtain rfl:k=8 * b.length:=by omega
     have hkI:¬ ((8 * b.length:Nat):Int)<((8 * b.length:Nat):Int):=by omega
     have m3:wrapV .u64 (4294967295-restF b (8 * b.length))=4294967295-restF b (8 * b.length):=wrap_u64 (by omega) (by omega)
     have m4:wrapV .u32 (4294967295-restF b (8 * b.length))=4294967295-restF b (8 * b.length):=by simp only [wrapV];omega
     simp (maxSteps:=1000000) (disch:=omega) only [c84l0,e0,e4,e3,hbl,w0,hkI,m3,m4,go_sem]
     exact wkv_same
   ·cases h
  ·cases h
 ·cases h
def rSealS:Spec:=fun args S=>match args with
 | [x]=>match lstV byteE S x with
  | some l=>if l.length≤100000∧l.all (fun c=>decide (u8 c))=true then some (retX true S (sealF l),retM true byteE S (sealF l)) else none
  | none=>none
 | _=>none
theorem oRSl_ok:OK Tryz.prog (lamOf Tryz.prog) (orcOf [(84,rOfS)]):=orc_ok (by simpa using rOf_ok)
theorem mor_u32 {b:List Int} (hu:∀ c∈b,0≤c∧c≤255):0≤morF 0 b∧morF 0 b≤4294967295:=by
 rw [mor_rest hu]
 have:=rest_u32 b (8 * b.length)
 omega
theorem rSeal_ok:SpecOK Tryz.prog 62 rSealS:=by
 intro args S x S' h
 simp only [rSealS] at h
 split at h
 ·rename_i y
  split at h
  ·rename_i l hl
   split at h
   ·rename_i hc
    obtain ⟨hlim,hu⟩:=hc
    cases h
    have hof:∀ U,rOfS [y] (S++U)=some (.i .u32 (morF 0 l),S++U):=fun U=>by
     simp only [rOfS,lstV_grow hl U]
     rw [if_pos ⟨hlim,hu⟩]
    have hof0:=hof []
    rw [List.append_nil] at hof0
    have hs:=mor_u32 (fun c hc=>of_decide_eq_true (List.all_eq_true.1 hu c hc))
    unfold sealF tailF
    generalize morF 0 l=s at hof0 hs
    have hA0:Acc true byteE S (S++[.cells [] 0 none true]) (.sl S.length 0 0 0 0 true) []:=acc_lit ext_refl
    obtain ⟨y1,M1,ha1,hA1⟩:=hA0.apps (bytes:=1) byteE_one l (by simp only [List.length_nil];omega) (by simp only [List.length_nil];omega)
    rw [List.nil_append] at hA1
    have hsrc:=src_lst (lstV_grow hl [.cells [] 0 none true])
    have hsrc:srcV (S++[.cells [] 0 none true]) 1 y=some (l.flatMap byteE.enc,l.length):=hsrc
    have ha1:appV (S++[.cells [] 0 none true]) 1 1 (.sl S.length 0 0 0 0 true) (l.flatMap byteE.enc) l.length=some (y1,M1):=ha1
    have q1:binV .int true .quo (.i .u32 s) (.i .u32 16777216)=some (.i .u32 (s / 16777216)):=by rw [bin_quo_pos (by omega) (by omega)];congr 2;simp only [wrapV];omega
    have q2:binV .int true .quo (.i .u32 s) (.i .u32 65536)=some (.i .u32 (s / 65536)):=by rw [bin_quo_pos (by omega) (by omega)];congr 2;simp only [wrapV];omega
    have q3:binV .int true .quo (.i .u32 s) (.i .u32 256)=some (.i .u32 (s / 256)):=by rw [bin_quo_pos (by omega) (by omega)];congr 2;simp only [wrapV];omega
    have q4:binV .int true .rem (.i .u32 (s / 65536)) (.i .u32 256)=some (.i .u32 (s / 65536 % 256)):=bin_rem_pos (by omega) (by omega)
    have q5:binV .int true .rem (.i .u32 (s / 256)) (.i .u32 256)=some (.i .u32 (s / 256 % 256)):=bin_rem_pos (by omega) (by omega)
    have q6:binV .int true .rem (.i .u32 s) (.i .u32 256)=some (.i .u32 (s % 256)):=bin_rem_pos (by omega) (by omega)
    have w2:wrapV .u8 (s / 65536 % 256)=wrapV .u8 (s / 65536):=by simp only [wrapV];omega
    have w3:wrapV .u8 (s / 256 % 256)=wrapV .u8 (s / 256):=by simp only [wrapV];omega
    have w4:wrapV .u8 (s % 256)=wrapV .u8 s:=by simp only [wrapV];omega
    have w1:wrapV .u8 (s / 16777216)=s / 16777216:=by simp only [wrapV];omega
    rw [w1]
    generalize wrapV .u8 (s / 65536)=c2 at *
    generalize wrapV .u8 (s / 256)=c3 at *
    generalize wrapV .u8 s=c4 at *
    obtain ⟨y2,M2,ha2,hA2⟩:=(hA1.grow [.cells [.i .u8 (s / 16777216),.i .u8 c2,.i .u8 c3,.i .u8 c4] 0 none true]).apps (bytes:=1) byteE_one [(s / 16777216),c2,c3,c4] (by simp only [List.length_cons,List.length_nil];omega) (by simp only [List.length_cons,List.length_nil];omega)
    have ha2:appV (M1++[.cells [.i .u8 (s / 16777216),.i .u8 c2,.i .u8 c3,.i .u8 c4] 0 none true]) 1 1 y1 [.i .u8 (s / 16777216),.i .u8 c2,.i .u8 c3,.i .u8 c4] 4=some (y2,M2):=ha2
    have hsrc2:srcV (M1++[.cells [.i .u8 (s / 16777216),.i .u8 c2,.i .u8 c3,.i .u8 c4] 0 none true]) 1 (.sl M1.length 0 0 4 4 true)=some ([.i .u8 (s / 16777216),.i .u8 c2,.i .u8 c3,.i .u8 c4],4):=by
     rw [src_sl,at_app0];rfl
    refine fn_of_wp f62 rfl (W_sound oRSl_ok mixed _ _ _ _ _ ?_)
    simp (maxSteps:=1000000) (disch:=omega) only [c62,orc_cons,hof0,hsrc,ha1,q1,q2,q3,q4,q5,q6,w2,w3,w4,List.replicate,hsrc2,ha2,go_sem]
    exact hA2.ret byteE_flat
   ·cases h
  ·cases h
 ·cases h
def rNumS (f:Nat):Spec:=fun args S=>match args with
 | [.i .u64 n,.i .i64 m]=>if u64 n∧0≤m∧m≤f∧m≤8 then some (retX true S (numF n m.toNat),retM true byteE S (numF n m.toNat)) else none
 | _=>none
theorem rNum_zero {n:Int}:SpecOK Tryz.prog 61 (rNumS 0):=by
 intro args S x S' h
 simp only [rNumS] at h
 split at h
 ·rename_i n mm
  split at h
  ·rename_i hc
   obtain ⟨hn,h0,hf,h8⟩:=hc
   obtain rfl:mm=0:=by omega
   cases h
   refine fn_of_wp f61 rfl (W_sound none_ok mixed _ _ _ _ _ ?_)
   have e0:(0:Int).toNat=0:=rfl
   simp (maxSteps:=1000000) (disch:=omega) only [c61,List.replicate,e0,numF,retX,retM,go_sem]
   exact wkv_same
  ·cases h
 ·cases h
theorem rNum_ok:∀ f,SpecOK Tryz.prog 61 (rNumS f)
 | 0=>rNum_zero (n:=0)
 | f+1=>by
  have hO:OK Tryz.prog (lamOf Tryz.prog) (orcOf [(61,rNumS f)]):=orc_ok (by simpa using rNum_ok f)
  intro args S x S' h
  simp only [rNumS] at h
  split at h
  ·rename_i n mm
   split at h
   ·rename_i hc
    obtain ⟨hn,h0,hf,h8⟩:=hc
    have hn':=hn
    unfold u64 at hn'
    obtain ⟨m,rfl⟩:=Int.eq_ofNat_of_zero_le h0
    rw [Int.toNat_natCast] at h
    cases h
    cases m with
    | zero =>
     refine fn_of_wp f61 rfl (W_sound hO mixed _ _ _ _ _ ?_)
     simp (maxSteps:=1000000) (disch:=omega) only [c61,List.replicate,numF,retX,retM,go_sem]
     exact wkv_same
    | succ k =>
     have hne:¬ ((k+1:Nat):Int)=0:=by omega
     have q1:binV .int true .quo (.i .u64 n) (.i .u64 256)=some (.i .u64 (n / 256)):=by rw [bin_quo_pos (by omega) (by omega),wrap_u64 (by omega) (by omega)]
     have q2:wrapV .i64 (((k+1:Nat):Int)-1)=(k:Int):=by rw [wrap_i64 (by omega) (by omega)];omega
     have q3:binV .int true .rem (.i .u64 n) (.i .u64 256)=some (.i .u64 (n % 256)):=bin_rem_pos (by omega) (by omega)
     have q4:wrapV .u8 (n % 256)=n % 256:=wrap_u8 (by omega) (by omega)
     have hcall:rNumS f [.i .u64 (n / 256),.i .i64 (k:Int)] S=some (retX true S (numF (n / 256) k),retM true byteE S (numF (n / 256) k)):=by
      simp only [rNumS]
      rw [if_pos ⟨⟨by omega,by omega⟩,by omega,by omega,by omega⟩,Int.toNat_natCast]
     have hA:=retX_acc (z:=true) (E:=byteE) (S:=S) (l:=numF (n / 256) k)
     generalize retX true S (numF (n / 256) k)=y at hcall hA
     generalize retM true byteE S (numF (n / 256) k)=M1 at hcall hA
     have hnl:=num_len (n / 256) k
     obtain ⟨y2,M2,ha,hA2⟩:=(hA.grow [.cells [.i .u8 (n % 256)] 0 none true]).app (bytes:=1) byteE_one (n % 256) (by omega) (by omega)
     have ha:appV (M1++[.cells [.i .u8 (n % 256)] 0 none true]) 1 1 y [.i .u8 (n % 256)] 1=some (y2,M2):=ha
     have hsrc:srcV (M1++[.cells [.i .u8 (n % 256)] 0 none true]) 1 (.sl M1.length 0 0 1 1 true)=some ([.i .u8 (n % 256)],1):=by
      rw [src_sl,at_app0];rfl
     refine fn_of_wp f61 rfl (W_sound hO mixed _ _ _ _ _ ?_)
     rw [numF_snoc]
     simp (maxSteps:=1000000) (disch:=omega) only [c61,hne,q1,q2,orc_cons,hcall,q3,q4,List.replicate,hsrc,ha,go_sem]
     exact hA2.ret byteE_flat
   ·cases h
  ·cases h
theorem rsize_ok:SpecOK Tryz.prog 52 fSizeS:=by
 intro args S x S' h
 simp only [fSizeS] at h
 split at h
 ·rename_i n
  cases h
  refine fn_of_wp f52 rfl (W_sound none_ok mixed _ _ _ _ _ ?_)
  unfold sizeF
  by_cases h1:n<0
  ·rw [if_pos (.inl h1)]
   simp (maxSteps:=1000000) (disch:=omega) only [c52,h1,go_sem]
   exact wkv_same
  ·by_cases h2:700<n
   ·rw [if_pos (.inr h2)]
    simp (maxSteps:=1000000) (disch:=omega) only [c52,h1,h2,go_sem]
    exact wkv_same
   ·rw [if_neg (by omega)]
    obtain ⟨m,hm⟩:∃ m:Nat,(n+81) / 64=(m:Int):=⟨((n+81) / 64).toNat,by omega⟩
    rw [hm]
    simp (maxSteps:=1000000) (disch:=omega) only [c52,h1,h2,go_sem]
    have w1:wrapV .i64 (n+18)=n+18:=wrap_i64 (by omega) (by omega)
    refine wp_loop (fun j e M dl=>dl=[]∧∃ k:Nat,j=m-k∧k≤m∧M=S∧e.get 0 = .i .i64 n∧e.get 3 = .i .i64 k) (j:=m) ⟨rfl,0,rfl,Nat.zero_le _,rfl,rfl,rfl⟩ ?_
    rintro j e M d' ⟨rfl,k,rfl,hk,rfl,e0,e3⟩
    refine W_sound none_ok mixed _ _ _ _ _ ?_
    have w2:wrapV .i64 (64 * (k:Int))=64 * (k:Int):=wrap_i64 (by omega) (by omega)
    have hk6:k<1000000:=by omega
    by_cases hkm:k<m
    ·have hle:64 * (k:Int)<n+18:=by omega
     simp (maxSteps:=1000000) (disch:=omega) only [c52l0,e0,e3,w1,w2,hle,wrapS hk6,go_sem]
     exact ⟨m-(k+1),by omega,k+1,rfl,hkm,rfl⟩
    ·have hle:¬ 64 * (k:Int)<n+18:=by omega
     obtain rfl:k=m:=by omega
     simp (maxSteps:=1000000) (disch:=omega) only [c52l0,e0,e3,w1,w2,hle,go_sem]
     exact wkv_same
 ·cases h
theorem pad_set {b:List Int} {k N:Nat} (hk:k<b.length) (hN:k<N):splice ((padF (b.take k) N).map byV) k [byV b[k]]=(padF (b.take (k+1)) N).map byV:=by
 have h1:b.take (k+1)=b.take k++[b[k]]:=List.take_succ_eq_append_getElem hk
 have hl:(b.take k).length=k:=by rw [List.length_take];omega
 unfold splice padF
 rw [h1]
 simp only [List.map_append,List.map_replicate,List.length_append,hl,List.length_map,List.length_singleton,List.map_cons,List.map_nil]
 rw [List.take_append_of_le_length (by rw [List.length_map,hl];exact Nat.le_refl _),List.take_of_length_le (by rw [List.length_map,hl];exact Nat.le_refl _),
  List.drop_append,List.drop_of_length_le (by rw [List.length_map,hl];omega),List.nil_append,List.length_map,hl,List.drop_replicate,List.append_assoc]
 congr 2
 congr 1;omega
theorem sec_pad {m:Nat} {c:List Int} (h:c.length≤m * 64):(secsF m c).flatMap secE.enc=(padF c (m * 64)).map byV:=by
 rw [enc_secs,secsF_bytes _ _ h]
theorem sec_more {m:Nat} {c:List Int} (h:c.length≤m * 64):(secsF m c++[zSec]).flatMap secE.enc=(padF c ((m+1) * 64)).map byV:=by
 rw [List.flatMap_append,sec_pad h,List.flatMap_cons,List.flatMap_nil,List.append_nil]
 have hz:secE.enc zSec=(List.replicate 64 0).map byV:=rfl
 rw [hz,←List.map_append]
 congr 1
 unfold padF
 rw [List.append_assoc,List.replicate_append_replicate]
 congr 2;omega
theorem secs_inj {l l':List Sec} (h:l.flatMap secE.enc=l'.flatMap secE.enc) (hl:l.length=l'.length):l=l':=by
 have h1:∀ {l l':List Sec},l.length=l'.length→l.flatMap secE.enc=l'.flatMap secE.enc→l=l':=by
  intro l
  induction l with
  | nil=>intro l' h _;cases l' with
   | nil=>rfl
   | cons a r=>cases h
  | cons s l ih =>
   intro l' hl h
   cases l' with
   | nil=>cases hl
   | cons t r =>
    rw [List.flatMap_cons,List.flatMap_cons] at h
    obtain ⟨h1,h2⟩:=List.append_inj h (by rw [show (secE.enc s).length=64 from s.enc_len,show (secE.enc t).length=64 from t.enc_len])
    rw [enc_inj (E:=secE) h1,ih (by simpa using hl) h2]
 exact h1 hl h
def rmakeS:Spec:=fun args S=>match args with
 | [.ag [.i .u64 seq,.i .u32 epoch,px]]=>match lstV byteE S px with
  | some p=>if p.length≤700000∧px.one=true∧u64 seq∧(0≤epoch∧epoch≤4294967295)∧p.all (fun c=>decide (u8 c))=true then
    (if 700<p.length∨seq=0 then some (.tu [.sn,.i .i64 81],S)
     else some (.tu [retX true S (secsF (sizeF p.length).toNat (frameB seq epoch p)),.i .i64 0],retM true secE S (secsF (sizeF p.length).toNat (frameB seq epoch p)))) else none
  | none=>none
 | _=>none
theorem frame_u8 {seq epoch:Int} {p:List Int} (hp:∀ c∈p,u8 c):∀ c∈headB seq epoch p,u8 c:=by
 intro x hx
 unfold headB at hx
 rcases List.mem_append.1 hx with hx | hx
 ·rcases List.mem_append.1 hx with hx | hx
  ·rcases List.mem_append.1 hx with hx | hx
   ·exact numF_u8 _ _ _ hx
   ·exact numF_u8 _ _ _ hx
  ·exact numF_u8 _ _ _ hx
 ·exact hp x hx
theorem oRMk_ok:OK Tryz.prog (lamOf Tryz.prog) (orcOf [(61,rNumS 8),(62,rSealS)]):=orc_ok (by simpa using ⟨rNum_ok 8,rSeal_ok⟩)
set_option maxHeartbeats 2000000 in
theorem rmake_ok:SpecOK Tryz.prog 31 rmakeS:=by
 intro args S x S' h
 simp only [rmakeS] at h
 split at h
 ·rename_i seq epoch px
  split at h
  ·rename_i p hp
   split at h
   ·rename_i hc
    obtain ⟨hlim,hone,hsq,hep,hu⟩:=hc
    have hcp:=cells_one hone
    have hlp:=lst_len hp
    refine fn_of_wp f31 rfl (W_sound oRMk_ok mixed _ _ _ _ _ ?_)
    split at h
    ·rename_i hbad
     cases h
     by_cases h7:700<p.length
     ·have h7I:(700:Int)<p.length:=by omega
      simp (maxSteps:=1000000) (disch:=omega) only [c31,hcp,hone,hlp,h7I,go_sem]
      exact wkv_drop rfl
     ·have h7I:¬ (700:Int)<p.length:=by omega
      have hs0:seq=0:=hbad.resolve_left h7
      simp (maxSteps:=1000000) (disch:=omega) only [c31,hcp,hone,hlp,h7I,hs0,go_sem]
      exact wkv_drop rfl
    ·rename_i hgood
     rw [not_or] at hgood
     obtain ⟨h7,hs0⟩:=hgood
     cases h
     have h7I:¬ (700:Int)<p.length:=by omega
     have hu':∀ c∈p,u8 c:=fun c hc=>of_decide_eq_true (List.all_eq_true.1 hu c hc)
     have hwl:wrapV .u64 (p.length:Int)=p.length:=wrap_u64 (by omega) (by omega)
     have hwe:wrapV .u64 epoch=epoch:=wrap_u64 (by omega) (by omega)
     obtain ⟨box,hbox⟩:∃ box:Blk,box = .cells [.i .u64 seq,.i .u32 epoch,px] 0 none true:=⟨_,rfl⟩
     have hnum:∀ (U:Mem) (a:Int) (k:Nat),u64 a→k≤8→0<k→rNumS 8 [.i .u64 a,.i .i64 (k:Int)] U=some (.sl U.length 0 0 k k false,U++[.cells ((numF a k).map byV) 0 (some 1) true]):=fun U a k ha hk h0=>by
      have hnl:=num_len a k
      have hne:numF a k≠[]:=by intro q;rw [q] at hnl;simp at hnl;omega
      simp only [rNumS]
      rw [if_pos ⟨ha,by omega,by omega,by omega⟩,Int.toNat_natCast,retX_ne hne,retM_ne hne,enc_by,hnl];rfl
     have hn1:=hnum (S++[box]) (p.length:Int) 2 ⟨by omega,by omega⟩ (by omega) (by omega)
     obtain ⟨b1,hb1⟩:∃ b1:Blk,b1 = .cells ((numF (p.length:Int) 2).map byV) 0 (some 1) true:=⟨_,rfl⟩
     rw [←hb1,List.append_assoc,List.length_append] at hn1
     have hn1:rNumS 8 [.i .u64 (p.length:Int),.i .i64 2] (S++[box])=some (.sl (S.length+1) 0 0 2 2 false,S++[box,b1]):=hn1
     have hn2:=hnum (S++[box,b1]) seq 8 hsq (by omega) (by omega)
     obtain ⟨b2,hb2⟩:∃ b2:Blk,b2 = .cells ((numF seq 8).map byV) 0 (some 1) true:=⟨_,rfl⟩
     rw [←hb2,List.append_assoc,List.length_append] at hn2
     have hn2:rNumS 8 [.i .u64 seq,.i .i64 8] (S++[box,b1])=some (.sl (S.length+2) 0 0 8 8 false,S++[box,b1,b2]):=hn2
     have hl1:=num_len (p.length:Int) 2
     have hl2:=num_len seq 8
     have hl3:=num_len epoch 4
     have hA1:Acc true byteE (S++[box]) (S++[box,b1,b2]) (.sl (S.length+1) 0 0 2 2 false) (numF (p.length:Int) 2) :=
      ⟨[b1,b2],by simp,.inr (.inr ⟨(by intro q;rw [q] at hl1;cases hl1),0,0,by rw [List.length_append,hl1];rfl,by rw [hb1,enc_by];rfl⟩)⟩
     obtain ⟨y1,M1,ha1,hA2⟩:=hA1.apps (bytes:=1) byteE_one (numF seq 8) (by omega) (by omega)
     rw [enc_by,hl2] at ha1
     have ha1:appV (S++[box,b1,b2]) 1 1 (.sl (S.length+1) 0 0 2 2 false) ((numF seq 8).map byV) 8=some (y1,M1):=ha1
     have hs1:srcV (S++[box,b1,b2]) 1 (.sl (S.length+2) 0 0 8 8 false)=some ((numF seq 8).map byV,8):=by
      have hl:lstV byteE (S++[box,b1,b2]) (.sl (S.length+2) 0 0 8 8 false)=some (numF seq 8):=lits_lst (E:=byteE) (cs:=(numF seq 8).map byV) (op:=some 1) (by rw [at_app,←hb2];rfl) (enc_by _).symm hl2
      have:=src_lst hl
      rw [enc_by,hl2] at this;exact this
     have hn3:=hnum M1 epoch 4 ⟨by omega,by omega⟩ (by omega) (by omega)
     obtain ⟨b3,hb3⟩:∃ b3:Blk,b3 = .cells ((numF epoch 4).map byV) 0 (some 1) true:=⟨_,rfl⟩
     rw [←hb3] at hn3
     have hn3:rNumS 8 [.i .u64 epoch,.i .i64 4] M1=some (.sl M1.length 0 0 4 4 false,M1++[b3]):=hn3
     obtain ⟨y2,M2,ha2,hA3⟩:=(hA2.grow [b3]).apps (bytes:=1) byteE_one (numF epoch 4) (by rw [List.length_append];omega) (by rw [List.length_append];omega)
     rw [enc_by,hl3] at ha2
     have ha2:appV (M1++[b3]) 1 1 y1 ((numF epoch 4).map byV) 4=some (y2,M2):=ha2
     have hs2:srcV (M1++[b3]) 1 (.sl M1.length 0 0 4 4 false)=some ((numF epoch 4).map byV,4):=by
      have hl:lstV byteE (M1++[b3]) (.sl M1.length 0 0 4 4 false)=some (numF epoch 4):=lits_lst (E:=byteE) (cs:=(numF epoch 4).map byV) (op:=some 1) (by rw [at_app0,←hb3];rfl) (enc_by _).symm hl3
      have:=src_lst hl
      rw [enc_by,hl3] at this;exact this
     have hx1:=hA2.ext
     have hx2:=hA3.ext
     have g0:(S++[box])[S.length]? = some box:=by rw [at_app0];rfl
     have g1:=fun U=>at_old (L:=U) (at_pre hx1 g0)
     have g10:=at_pre hx1 g0
     have g2:=at_pre hx2 g0
     have v1:=eqv_lst hA2.lst
     have v2:=eqv_lst hA3.lst
     have hpM2:lstV byteE M2 px=some p:=lst_ext hp ((ext_app _).trans hx2)
     have hs3:=src_lst hpM2
     have hs3:srcV M2 1 px=some (p.flatMap byteE.enc,p.length):=hs3
     obtain ⟨y3,M3,ha3,hA4⟩:=hA3.apps (bytes:=1) byteE_one p (by rw [List.length_append,List.length_append];omega) (by rw [List.length_append,List.length_append];omega)
     have ha3:appV M2 1 1 y2 (p.flatMap byteE.enc) p.length=some (y3,M3):=ha3
     have hhd:numF (p.length:Int) 2++numF seq 8++numF epoch 4++p=headB seq epoch p:=by unfold headB;rw [hwe]
     rw [hhd] at hA4
     have hhl:=head_len seq epoch p
     have hse:rSealS [y3] M3=some (retX true M3 (frameB seq epoch p),retM true byteE M3 (frameB seq epoch p)):=by
      simp only [rSealS,hA4.lst]
      rw [if_pos ⟨by omega,List.all_eq_true.2 fun c hc=>decide_eq_true (frame_u8 hu' c hc)⟩];rfl
     have hA5:=retX_acc (z:=true) (E:=byteE) (S:=M3) (l:=frameB seq epoch p)
     have hfl:=frameB_len seq epoch p
     obtain ⟨m,hm⟩:∃ m:Nat,sizeF p.length=(m:Int):=⟨((p.length:Int)+81).toNat / 64,by unfold sizeF;rw [if_neg (by omega)];omega⟩
     have hm64:m=(p.length+81) / 64:=by
      unfold sizeF at hm
      rw [if_neg (by omega)] at hm
      omega
     rw [hm,Int.toNat_natCast]
     generalize frameB seq epoch p=b at hse hA5 hfl
     generalize retX true M3 b=X4 at hse hA5
     generalize retM true byteE M3 b=M4 at hse hA5
     have hSM3:S <+: M3:=(ext_app _).trans hA4.ext
     have hS4:S <+: M4:=hSM3.trans hA5.ext
     have vp:=eqv_lst hp
     rw [hbox] at hn1 hn2 ha1 hs1 g1 g10 g2
     have g00:∀ U:Mem,(S++(Blk.cells [.i .u64 seq,.i .u32 epoch,px] 0 none true :: U))[S.length]? = some (.cells [.i .u64 seq,.i .u32 epoch,px] 0 none true):=fun U=>by rw [at_app0];rfl
     simp (maxSteps:=1000000) (disch:=omega) only [c31,hcp,hone,hlp,h7I,hs0,go_sem]
     refine draw_of ?_
     simp (maxSteps:=1000000) (disch:=omega) only [c31d0,orc_cons,hlp,hwl,hwe,hn1,hn2,hs1,ha1,hn3,hs2,ha2,g00,g1,g10,g2,v1,v2,vp,dNs_nil,dNs_cons,dnK_some,dnK_none,dOpt_none,dOpt_some,doK_some,doK_none,dStages_nil,dStages_cons,s1K_app,s2K_app,s3K_app,s4K_app,dEnd_app,evOne_op,evOne_gd,evG_tt,evG_tf,evG_ft,evG_ff,evG_ud,kSt_nil,kSt_cons,kNs_nil,kNs_cons,kN_zero,kN_succ,kA_some,eqK_some,eqK_none,kOpt_none,kOpt_some,kLike_nil,kLike_cons,ROp.use,IOp.use,IO'.use,X.use,dstL_none,dstL_some,List.flatMap_cons,List.flatMap_nil,eqv_m,eqv_p,eqv_i,eqv_b,eqv_sl,eqv_sn,eqv_pn,eqv_ud,eqv_u,eqv_mn,eqv_ag,eqvL_cons,eqvL_nil,eqv_tu,Bool.and_true,Bool.true_and,Bool.and_self,Nat.le_refl,Nat.reduceLeDiff,and_self,and_true,true_and,go_sem]
     have hlX:=lst_len hA5.lst
     rw [hfl] at hlX
     simp (maxSteps:=1000000) (disch:=omega) only [hs3,ha3,orc_cons,hse,List.replicate,hlX,go_sem]
     have hzz:secE.enc zSec=zSec.enc:=rfl
     refine wp_loop (fun j e M dl=>dl=[]∧∃ (k:Nat) (y:AV),j=p.length+18-k∧k≤p.length+18∧Acc true secE M4 M y (secsF ((k+63) / 64) (b.take k)) ∧
      e.get 37=X4∧e.get 38 = .i .i64 ((p.length+18:Nat):Int)∧e.get 39 = .i .i64 k∧e.get 5=y) (j:=p.length+18)
      ⟨rfl,0,.sl M4.length 0 0 0 0 true,rfl,Nat.zero_le _,acc_lit ext_refl,rfl,rfl,rfl,rfl⟩ ?_
     rintro j e M d' ⟨rfl,k,y,rfl,hk,hA,e37,e38,e39,e5⟩
     refine W_sound oRMk_ok mixed _ _ _ _ _ ?_
     have hM4M:=hA.ext
     by_cases hkm:k<p.length+18
     ·have hkb:k<b.length:=by omega
      have hkI:(k:Int)<((p.length+18:Nat):Int):=by omega
      have hk6:k<1000000:=by omega
      obtain ⟨bi,o,v,cap,ex,rfl⟩:=lst_sl hA5.lst hkb
      have hbl:((b.length:Nat):Int)=((p.length+18:Nat):Int):=by rw [hfl]
      have hcell:=lstV_cell (lst_ext hA5.lst hM4M) rfl (fun a=>rfl) hkb []
      rw [List.append_nil] at hcell
      have hr:binV .int true .rem (.i .i64 (k:Int)) (.i .i64 64)=some (.i .i64 ((k % 64:Nat):Int)):=by rw [bin_rem_pos (by omega) (by omega)];congr 2
      have hr64:((k % 64:Nat):Int)<64:=by omega
      have hkt:(b.take k).length=k:=by rw [List.length_take];omega
      have hsl:=secsF_len ((k+63) / 64) (b.take k)
      have hset:=pad_set (b:=b) (k:=k) (N:=(k / 64+1) * 64) hkb (by omega)
      have hpl:(padF (b.take k) ((k / 64+1) * 64)).length=(k / 64+1) * 64:=pad_len (by omega)
      have hfin:(secsF ((k+1+63) / 64) (b.take (k+1))).flatMap secE.enc=(padF (b.take (k+1)) ((k / 64+1) * 64)).map byV:=by
       rw [show (k+1+63) / 64=k / 64+1 by omega]
       exact sec_pad (by rw [List.length_take];omega)
      have hstore:∀ (T:Mem) (q v:Nat),T[q]? = some (.cells ((padF (b.take k) ((k / 64+1) * 64)).map byV) v (some 64) true) →
        stB (M4++T) (M4.length+q) ((M4++T)[M4.length+q]?) (k / 64 * 64+k % 64) v 1 (some [.i .u8 b[k]])=some ((M4++T).set (M4.length+q) (.cells ((padF (b.take (k+1)) ((k / 64+1) * 64)).map byV) v (some 64) true)) ∧
        Acc true secE M4 ((M4++T).set (M4.length+q) (.cells ((padF (b.take (k+1)) ((k / 64+1) * 64)).map byV) v (some 64) true)) (.sl (M4.length+q) 0 v (k / 64+1) (k / 64+1) false) (secsF ((k+1+63) / 64) (b.take (k+1))):=fun T q v hT=>by
       constructor
       ·rw [at_app,hT]
        simp only [stB]
        rw [if_pos ⟨trivial,rfl,by rw [List.length_map,hpl];omega,rfl⟩,show k / 64 * 64+k % 64=k by omega]
        have hset':splice ((padF (b.take k) ((k / 64+1) * 64)).map byV) k [.i .u8 b[k]]=_:=hset
        rw [hset']
       ·refine ⟨T.set q (.cells ((padF (b.take (k+1)) ((k / 64+1) * 64)).map byV) v (some 64) true),by rw [set_app],.inr (.inr ⟨?_,q,v,?_,?_⟩)⟩
        ·intro z
         have:=congrArg List.length z
         rw [secsF_len] at this;simp at this;omega
        ·rw [secsF_len,show (k+1+63) / 64=k / 64+1 by omega]
        ·rw [at_set hT,hfin];rfl
      generalize hck:b[k]=c at *
      by_cases h0:k % 64=0
      ·have h0I:((k % 64:Nat):Int)=0:=by omega
       have hmk:(k+63) / 64=k / 64:=by omega
       rw [hmk] at hA hsl
       obtain ⟨y2,M6,ha6,hA6⟩:=(hA.grow [.cells zSec.enc 0 none true]).app (bytes:=64) secE_one zSec (by rw [hsl];omega) (by rw [hsl];omega)
       have ha6:appV (M++[.cells zSec.enc 0 none true]) 64 64 y zSec.enc 1=some (y2,M6):=ha6
       have hsr6:srcV (M++[.cells zSec.enc 0 none true]) 64 (.sl M.length 0 0 1 1 true)=some (zSec.enc,1):=by
        rw [src_sl,at_app0];rfl
       obtain ⟨T,hT,hd⟩:=hA6
       rcases hd with ⟨z,_⟩ | ⟨z,_⟩ | ⟨_,q,v2,hy2,hTq⟩
       ·simp at z
       ·simp at z
       ·rw [sec_more (by omega)] at hTq
        have hlen2:(secsF (k / 64) (b.take k)++[zSec]).length=k / 64+1:=by rw [List.length_append,hsl];rfl
        rw [hlen2] at hy2
        obtain ⟨hst,hAn⟩:=hstore T q v2 hTq
        rw [←hT] at hst hAn
        have hw1:wrapV .i64 (((k / 64+1:Nat):Int)-1)=((k / 64:Nat):Int):=by rw [wrap_i64 (by omega) (by omega)];omega
        have hi1:((k / 64:Nat):Int)<((k / 64+1:Nat):Int):=by omega
        subst hy2
        rw [zSec_enc] at ha6 hsr6
        rw [h0,Nat.add_zero] at hst
        simp (maxSteps:=1000000) (disch:=omega) only [c31l1,e37,e38,e39,e5,hkI,hbl,Int.toNat_natCast,Nat.mul_one,hcell,hr,h0I,List.replicate,hsr6,ha6,hw1,hi1,hr64,Nat.zero_add,hst,wrapS hk6,go_sem]
        refine ⟨p.length+18-(k+1),?_,k+1,_,?_,?_,hAn,?_,?_⟩
        ·omega
        ·rfl
        ·omega
        ·rfl
        ·rfl
      ·have h0I:¬ ((k % 64:Nat):Int)=0:=by omega
       have hmk:(k+63) / 64=k / 64+1:=by omega
       rw [hmk] at hA hsl
       obtain ⟨T,hT,hd⟩:=hA
       rcases hd with ⟨z,_⟩ | ⟨z,_⟩ | ⟨_,q,v2,hy2,hTq⟩
       ·rw [z] at hsl;simp at hsl
       ·rw [z] at hsl;simp at hsl
       ·rw [sec_pad (by omega)] at hTq
        rw [hsl] at hy2
        obtain ⟨hst,hAn⟩:=hstore T q v2 hTq
        rw [←hT] at hst hAn
        have hw1:wrapV .i64 (((k / 64+1:Nat):Int)-1)=((k / 64:Nat):Int):=by rw [wrap_i64 (by omega) (by omega)];omega
        have hi1:((k / 64:Nat):Int)<((k / 64+1:Nat):Int):=by omega
        subst hy2
        simp (maxSteps:=1000000) (disch:=omega) only [c31l1,e37,e38,e39,e5,hkI,hbl,Int.toNat_natCast,Nat.mul_one,hcell,hr,h0I,hw1,hi1,hr64,Nat.zero_add,hst,wrapS hk6,go_sem]
        refine ⟨p.length+18-(k+1),?_,k+1,_,?_,?_,hAn,?_,?_⟩
        ·omega
        ·rfl
        ·omega
        ·rfl
        ·rfl
     ·obtain rfl:k=p.length+18:=by omega
      have hkI:¬ ((p.length+18:Nat):Int)<((p.length+18:Nat):Int):=by omega
      rw [List.take_of_length_le (by omega),show (p.length+18+63) / 64=m by omega] at hA
      simp (maxSteps:=1000000) (disch:=omega) only [c31l1,e37,e38,e39,e5,hkI,go_sem]
      exact (hA.base hS4).ret2 (fun n s=>s.flat n) Flat_i
   ·cases h
  ·cases h
 ·cases h
theorem eq_by:∀ (l m:List Int),l.length=m.length→eqCells (List.replicate l.length .int) (l.map byV) (m.map byV)=some (decide (l=m))
 | [],[],_=>rfl
 | [],_ :: _,h=>by cases h
 | _ :: _,[],h=>by cases h
 | a :: l,b :: m,h=>by
  have ih:=eq_by l m (by simpa using h)
  rw [List.length_cons,List.replicate_succ,List.map_cons,List.map_cons]
  simp only [eqCells,ih]
  have he:eqCell .int (byV a) (byV b)=some (decide (a=b)):=by simp only [eqCell,byV,if_true];congr 1
  rw [he]
  simp only [List.cons.injEq]
  congr 1
  by_cases h1:a=b <;> by_cases h2:l=m <;> simp [h1,h2]
theorem ne_sec (s t:Sec):eqAgV true [.int,.int,.int,.int,.int,.int,.int,.int,.int,.int,.int,.int,.int,.int,.int,.int,.int,.int,.int,.int,.int,.int,.int,.int,.int,.int,.int,.int,.int,.int,.int,.int,.int,.int,.int,.int,.int,.int,.int,.int,.int,.int,.int,.int,.int,.int,.int,.int,.int,.int,.int,.int,.int,.int,.int,.int,.int,.int,.int,.int,.int,.int,.int,.int] (.ag s.enc) (.ag t.enc)=some (.b (decide (¬ s=t))):=by
 have hl:([.int,.int,.int,.int,.int,.int,.int,.int,.int,.int,.int,.int,.int,.int,.int,.int,.int,.int,.int,.int,.int,.int,.int,.int,.int,.int,.int,.int,.int,.int,.int,.int,.int,.int,.int,.int,.int,.int,.int,.int,.int,.int,.int,.int,.int,.int,.int,.int,.int,.int,.int,.int,.int,.int,.int,.int,.int,.int,.int,.int,.int,.int,.int,.int]:List TK)=List.replicate s.b.length .int:=by rw [s.len];rfl
 have he:=eq_by s.b t.b (by rw [s.len,t.len])
 have h64:([.int,.int,.int,.int,.int,.int,.int,.int,.int,.int,.int,.int,.int,.int,.int,.int,.int,.int,.int,.int,.int,.int,.int,.int,.int,.int,.int,.int,.int,.int,.int,.int,.int,.int,.int,.int,.int,.int,.int,.int,.int,.int,.int,.int,.int,.int,.int,.int,.int,.int,.int,.int,.int,.int,.int,.int,.int,.int,.int,.int,.int,.int,.int,.int]:List TK).length=64:=rfl
 simp only [eqAgV,s.enc_len,t.enc_len,h64,and_self,if_true]
 rw [hl]
 have he':eqCells (List.replicate s.b.length .int) s.enc t.enc=some (decide (s.b=t.b)):=he
 rw [he']
 have hst:(s=t)=(s.b=t.b):=by
  rw [eq_iff_iff];exact ⟨fun q=>by rw [q],fun q=>by cases s;cases t;simp only at q;subst q;rfl⟩
 simp only [if_true,hst,decide_not]
def sameSecS:Spec:=fun args S=>match args with
 | [x,y]=>match lstV secE S x,lstV secE S y with
  | some l,some m=>if l.length≤100000 then some (.b (decide (l=m)),S) else none
  | _,_=>none
 | _=>none
theorem sameSec_ok:SpecOK Tryz.prog 53 sameSecS:=by
 intro args S x S' h
 simp only [sameSecS] at h
 split at h
 ·rename_i x y
  split at h
  ·rename_i l m hl hm
   split at h
   ·rename_i hlim
    cases h
    have hll:=lst_len hl
    have hml:=lst_len hm
    refine fn_of_wp f53 rfl (W_sound none_ok mixed _ _ _ _ _ ?_)
    by_cases hlen:l.length=m.length
    ·have hI:(l.length:Int)=m.length:=by omega
     simp (maxSteps:=1000000) (disch:=omega) only [c53,hll,hml,hI,go_sem]
     refine wp_loop (fun j e M dl=>dl=[]∧∃ k:Nat,j=m.length-k∧k≤m.length∧M=S∧l.take k=m.take k∧e.get 0=x∧e.get 1=y∧e.get 12 = .i .i64 m.length∧e.get 13 = .i .i64 k) (j:=m.length)
      ⟨rfl,0,rfl,Nat.zero_le _,rfl,rfl,rfl,rfl,rfl,rfl⟩ ?_
     rintro j e M d' ⟨rfl,k,rfl,hk,rfl,hpre,e0,e1,e12,e13⟩
     refine W_sound none_ok mixed _ _ _ _ _ ?_
     by_cases hkm:k<m.length
     ·have hkl:k<l.length:=by omega
      obtain ⟨bi,o,v,cap,ex,rfl⟩:=lst_sl hl hkl
      obtain ⟨bj,o2,v2,cap2,ex2,rfl⟩:=lst_sl hm hkm
      have hkI:(k:Int)<m.length:=by omega
      have hkI2:(k:Int)<l.length:=by omega
      have hk6:k<1000000:=by omega
      have r1:=lstV_row hl hkl []
      have r2:=lstV_row hm hkm []
      rw [List.append_nil] at r1 r2
      have r1:rowB (M[bi]?) (o+k * 64) v 64=some (l[k]).enc:=r1
      have r2:rowB (M[bj]?) (o2+k * 64) v2 64=some (m[k]).enc:=r2
      have t1:l.take (k+1)=l.take k++[l[k]]:=List.take_succ_eq_append_getElem hkl
      have t2:m.take (k+1)=m.take k++[m[k]]:=List.take_succ_eq_append_getElem hkm
      have hdiff:¬ l[k]=m[k]→decide (l=m)=false:=fun q=>decide_eq_false fun z=>q (by subst z;rfl)
      generalize l[k]=s at r1 t1 hdiff
      generalize m[k]=t at r2 t2 hdiff
      have hne:=ne_sec s t
      by_cases hst:s=t
      ·rw [decide_eq_false (fun q:¬ s=t=>q hst)] at hne
       simp (maxSteps:=1000000) (disch:=omega) only [c53l1,e0,e1,e12,e13,hkI,hkI2,hlen,Int.toNat_natCast,r1,r2,hne,wrapS hk6,go_sem]
       refine ⟨m.length-(k+1),?_,k+1,?_,?_,?_,?_⟩
       ·omega
       ·rfl
       ·omega
       ·rw [t1,t2,hpre,hst]
       ·rfl
      ·rw [decide_eq_true hst] at hne
       rw [hdiff hst]
       simp (maxSteps:=1000000) (disch:=omega) only [c53l1,e0,e1,e12,e13,hkI,hkI2,hlen,Int.toNat_natCast,r1,r2,hne,go_sem]
       exact wkv_same
     ·have hkI:¬ (k:Int)<m.length:=by omega
      rw [List.take_of_length_le (by omega),List.take_of_length_le (by omega)] at hpre
      rw [decide_eq_true hpre]
      simp (maxSteps:=1000000) (disch:=omega) only [c53l1,e0,e1,e12,e13,hkI,go_sem]
      exact wkv_same
    ·have hI:¬ (l.length:Int)=m.length:=by omega
     rw [decide_eq_false (fun q:l=m=>hlen (by rw [q]))]
     simp (maxSteps:=1000000) (disch:=omega) only [c53,hll,hml,hI,go_sem]
     exact wkv_same
   ·cases h
  ·cases h
 ·cases h
theorem val_snoc {l:List Int} {c:Int} (h0:0≤valF l) (h:valF l<(256:Int) ^ 7) (hc:u8 c):valF (l++[c])=valF l * 256+c:=by
 unfold u8 at hc
 have h7:(256:Int) ^ 7=72057594037927936:=by decide
 rw [h7] at h
 rw [valF_snoc,wrap_u64 (by omega) (by omega),wrap_u64 (by omega) (by omega),orq_add h0 (by omega) (by omega)]
theorem val_lt:∀ (k:Nat) (l:List Int),l.length=k→k≤8→(∀ c∈l,u8 c)→0≤valF l∧valF l<(256:Int) ^ k∧numF (valF l) k=l
 | 0,l,hl,_,_=>by
  obtain rfl:=List.eq_nil_of_length_eq_zero hl
  exact ⟨by decide,by decide,rfl⟩
 | k+1,l,hl,hk,hu=>by
  obtain rfl | ⟨r,c,rfl⟩:=List.eq_nil_or_concat l
  ·cases hl
  ·rw [List.concat_eq_append] at hl hu ⊢
   rw [List.length_append,List.length_singleton] at hl
   have hc:u8 c:=hu c (by simp)
   obtain ⟨h0,h1,h2⟩:=val_lt k r (by omega) (by omega) (fun x hx=>hu x (by simp [hx]))
   have h7:valF r<(256:Int) ^ 7:=Int.lt_of_lt_of_le h1 (by exact_mod_cast Nat.pow_le_pow_right (by decide:0<256) (by omega:k≤7))
   rw [val_snoc h0 h7 hc]
   have hc':=hc
   unfold u8 at hc'
   refine ⟨by omega,by rw [Int.pow_succ];omega,?_⟩
   rw [numF_snoc,show (valF r * 256+c) / 256=valF r by omega,show (valF r * 256+c) % 256=c by omega,h2]
theorem val2 {a b:Int} (ha:u8 a) (hb:u8 b):valF [a,b]=256 * a+b:=by
 have h1:valF [a]=a:=by
  have:=val_snoc (l:=[]) (c:=a) (by decide) (by decide) ha
  rw [List.nil_append] at this
  rw [this];show (0:Int) * 256+a=a;omega
 have h7:(256:Int) ^ 7=72057594037927936:=by decide
 have hlt:valF [a]<(256:Int) ^ 7:=by
  rw [h1,h7];unfold u8 at ha;omega
 have:=val_snoc (l:=[a]) (c:=b) (by rw [h1];exact ha.1) hlt hb
 rw [h1] at this
 have h2:[a]++[b]=[a,b]:=rfl
 rw [h2] at this
 rw [this];omega
def openR (L:List Sec) (sz:Nat) (n:Nat):Option Rec :=
 if 0<valF (((bytesOf L).drop 2).take 8)∧L.take n=secsF n (frameB (valF (((bytesOf L).drop 2).take 8)) (valF (((bytesOf L).drop 10).take 4)) (((bytesOf L).drop 14).take sz)) then
  some ⟨valF (((bytesOf L).drop 2).take 8),valF (((bytesOf L).drop 10).take 4),headB (valF (((bytesOf L).drop 2).take 8)) (valF (((bytesOf L).drop 10).take 4)) (((bytesOf L).drop 14).take sz),n⟩ else none
theorem take_drop_take {α:Type} {l:List α} {a b c:Nat} (h:a+b≤c):((l.take c).drop a).take b=(l.drop a).take b:=by
 rw [List.drop_take,List.take_take,Nat.min_eq_left (by omega)]
theorem open_again {s:Sec} {L:List Sec} {sz n:Nat} (hu:∀ c∈bytesOf (s :: L),u8 c) (hsz:valF (s.b.take 2)=(sz:Int)) (h7:sz≤700) (hn:sizeF (sz:Int)=(n:Int)) (hL:n≤(s :: L).length) :
  openF (s :: L)=openR (s :: L) sz n:=by
 have hn64:sz+18≤n * 64∧0<n:=by
  unfold sizeF at hn
  rw [if_neg (by omega)] at hn
  omega
 have hw:wrapV .i64 (sz:Int)=sz:=wrap_i64 (by omega) (by omega)
 obtain ⟨LL,hLL⟩:∃ LL,LL=s :: L:=⟨_,rfl⟩
 have hop:openF (s :: L)=openL LL sz n:=by
  simp only [openF,hsz,hw,hn]
  rw [if_neg (by rw [not_or];exact ⟨by omega,by omega⟩),Int.toNat_natCast,hLL]
 rw [←hLL] at hu hL ⊢
 rw [hLL,hop,←hLL]
 have hall:(bytesOf LL).length=LL.length * 64:=secs_len LL
 have hB:=bytes_take (L:=LL) (m:=n) hL
 have hbl:(bytesOf (LL.take n)).length=n * 64:=by rw [secs_len,List.length_take];omega
 have hs2:s.b.take 2=(bytesOf LL).take 2:=by
  rw [hLL]
  have:bytesOf (s :: L)=s.b++bytesOf L:=by simp [bytesOf]
  rw [this,List.take_append_of_le_length (by rw [s.len];omega)]
 have huB:∀ c∈bytesOf (LL.take n),u8 c:=fun c hc=>hu c (List.mem_of_mem_take (by rw [←hB];exact hc))
 have p2:(bytesOf LL).take 2=(bytesOf (LL.take n)).take 2:=by rw [hB,List.take_take,Nat.min_eq_left (by omega)]
 have p8:((bytesOf LL).drop 2).take 8=((bytesOf (LL.take n)).drop 2).take 8:=by rw [hB,take_drop_take (by omega)]
 have p4:((bytesOf LL).drop 10).take 4=((bytesOf (LL.take n)).drop 10).take 4:=by rw [hB,take_drop_take (by omega)]
 have pp:((bytesOf LL).drop 14).take sz=((bytesOf (LL.take n)).drop 14).take sz:=by rw [hB,take_drop_take (by omega)]
 unfold openR
 rw [p8,p4,pp]
 have hsz2:valF ((bytesOf (LL.take n)).take 2)=(sz:Int):=by rw [←p2,←hs2,hsz]
 by_cases hc:0<valF (((bytesOf (LL.take n)).drop 2).take 8)∧LL.take n=secsF n (frameB (valF (((bytesOf (LL.take n)).drop 2).take 8)) (valF (((bytesOf (LL.take n)).drop 10).take 4)) (((bytesOf (LL.take n)).drop 14).take sz))
 ·rw [if_pos hc]
  obtain ⟨hpos,heq⟩:=hc
  obtain ⟨v0,v1,_⟩:=val_lt 8 (((bytesOf (LL.take n)).drop 2).take 8) (by rw [List.length_take,List.length_drop];omega) (by omega) (fun c hc=>huB c (List.mem_of_mem_drop (List.mem_of_mem_take hc)))
  obtain ⟨w0,w1,_⟩:=val_lt 4 (((bytesOf (LL.take n)).drop 10).take 4) (by rw [List.length_take,List.length_drop];omega) (by omega) (fun c hc=>huB c (List.mem_of_mem_drop (List.mem_of_mem_take hc)))
  have hpl:(((bytesOf (LL.take n)).drop 14).take sz).length=sz:=by rw [List.length_take,List.length_drop];omega
  rw [Go.Proofs.YtkfobkfhbkicaaaGreat.p8] at v1
  rw [Go.Proofs.YtkfobkfhbkicaaaGreat.p4] at w1
  have:=open_make (seq:=valF (((bytesOf (LL.take n)).drop 2).take 8)) (epoch:=valF (((bytesOf (LL.take n)).drop 10).take 4)) (p:=((bytesOf (LL.take n)).drop 14).take sz) (m:=n) (L:=LL) ⟨hpos,by omega⟩ ⟨w0,by omega⟩ (by omega) (by rw [hpl];exact hn) heq
  rw [←this,hLL,hop,←hLL]
 ·rw [if_neg hc]
  unfold openL
  have h18:((sz:Int)+18).toNat=sz+18:=by omega
  rw [h18]
  cases hun:unsealF ((bytesOf (LL.take n)).take (sz+18)) with
  | none=>rfl
  | some body =>
   simp only
   cases hany:((bytesOf (LL.take n)).drop (sz+18)).any notZ with
   | true=>rfl
   | false =>
    rw [if_neg (by simp)]
    by_cases hq:valF ((body.drop 2).take 8)=0
    ·rw [if_pos hq]
    ·exfalso
     generalize hBB:bytesOf (LL.take n)=B at *
     have hun2:=hun
     unfold unsealF at hun2
     split at hun2
     ·rename_i hcc
      obtain ⟨hc4,htail⟩:=hcc
      have hbody:=Option.some.inj hun2
      have hl18:(B.take (sz+18)).length=sz+18:=by rw [List.length_take];omega
      rw [hl18,show sz+18-4=sz+14 by omega] at hbody htail
      rw [List.take_take,Nat.min_eq_left (by omega)] at hbody htail
      rw [hbody] at htail
      have hseal:B.take (sz+18)=sealF body:=by
       unfold sealF
       rw [htail,←hbody]
       have:B.take (sz+14)=(B.take (sz+18)).take (sz+14):=by rw [List.take_take,Nat.min_eq_left (by omega)]
       rw [this,List.take_append_drop]
      have hzero:B.drop (sz+18)=List.replicate (n * 64-(sz+18)) 0:=by
       rw [List.eq_replicate_iff]
       refine ⟨by rw [List.length_drop];omega,fun x hx=>?_⟩
       have:=List.any_eq_false.1 hany x hx
       unfold notZ at this
       simpa using this
      have b2:body.take 2=B.take 2:=by rw [←hbody,List.take_take,Nat.min_eq_left (by omega)]
      have b8:(body.drop 2).take 8=(B.drop 2).take 8:=by rw [←hbody,take_drop_take (by omega)]
      have b4:(body.drop 10).take 4=(B.drop 10).take 4:=by rw [←hbody,take_drop_take (by omega)]
      have bp:body.drop 14=(B.drop 14).take sz:=by rw [←hbody,List.drop_take,show sz+14-14=sz by omega]
      have hbl14:body.length=sz+14:=by rw [←hbody,List.length_take];omega
      have hub:∀ c∈body,u8 c:=fun c hc=>huB c (by rw [←hbody] at hc;exact List.mem_of_mem_take hc)
      obtain ⟨_,_,n2⟩:=val_lt 2 (body.take 2) (by rw [List.length_take];omega) (by omega) (fun c hc=>hub c (List.mem_of_mem_take hc))
      obtain ⟨v0,_,n8⟩:=val_lt 8 ((body.drop 2).take 8) (by rw [List.length_take,List.length_drop];omega) (by omega) (fun c hc=>hub c (List.mem_of_mem_drop (List.mem_of_mem_take hc)))
      obtain ⟨w0,w1,n4⟩:=val_lt 4 ((body.drop 10).take 4) (by rw [List.length_take,List.length_drop];omega) (by omega) (fun c hc=>hub c (List.mem_of_mem_drop (List.mem_of_mem_take hc)))
      rw [Go.Proofs.YtkfobkfhbkicaaaGreat.p4] at w1
      have hpl:(body.drop 14).length=sz:=by rw [List.length_drop];omega
      have hwe:wrapV .u64 (valF ((body.drop 10).take 4))=valF ((body.drop 10).take 4):=wrap_u64 (by omega) (by omega)
      have hhead:headB (valF ((body.drop 2).take 8)) (valF ((body.drop 10).take 4)) (body.drop 14)=body:=by
       unfold headB
       rw [hpl,hwe,←hsz2,←b2,n2,n8,n4]
       have e1:body.take 2++(body.drop 2).take 8=body.take 10:=(List.take_add (l:=body) (i:=2) (j:=8)).symm
       have e2:body.take 10++(body.drop 10).take 4=body.take 14:=(List.take_add (l:=body) (i:=10) (j:=4)).symm
       rw [e1,e2,List.take_append_drop]
      refine hc ⟨by rw [←b8];omega,?_⟩
      rw [←b8,←b4,←bp]
      have hfr:frameB (valF ((body.drop 2).take 8)) (valF ((body.drop 10).take 4)) (body.drop 14)=sealF body:=by rw [frame_eq,hhead]
      rw [hfr]
      have hsl:(sealF body).length=sz+18:=by rw [←hseal,hl18]
      refine secs_inj ?_ (by rw [secsF_len,List.length_take];omega)
      rw [enc_secs,enc_secs,secsF_bytes _ _ (by omega),hBB]
      refine congrArg (List.map byV) ?_
      unfold padF
      rw [hsl,←hseal,←hzero,List.take_append_drop]
     ·cases hun2
def recY (S:Mem):Option Rec→AV × Mem
 | none=>(noRec,S)
 | some r=>(.tu [.ag [.i .u64 r.seq,.i .u32 r.epoch,retX true S r.pay],.i .i64 r.many,.b true],retM true byteE S r.pay)
def rOpenS:Spec:=fun args S=>match args with
 | [x]=>match lstV secE S x with
  | some L=>if L.length≤2000∧openQ S 64 x=true∧(bytesOf L).all (fun c=>decide (u8 c))=true then some (recY S (openF L)) else none
  | none=>none
 | _=>none
theorem Acc.setL {α:Type} {z:Bool} {E:Enc α} {S2 M:Mem} {x:AV} {l:List α} (h:Acc z E S2 M x l) {i:Nat} (hi:i<S2.length) (B:Blk):Acc z E (S2.set i B) (M.set i B) x l:=by
 obtain ⟨T,rfl,h⟩:=h
 refine ⟨T,List.set_append_left _ _ hi,?_⟩
 rw [List.length_set];exact h
theorem Acc.retR {α:Type} {z:Bool} {E:Enc α} {S M:Mem} {a b x c d:AV} {l:List α} (hF:∀ n a,∀ c∈E.enc a,AV.Flat n c) (h:Acc z E S M x l) (ha:AV.Flat S.length a) (hb:AV.Flat S.length b) (hc:AV.Flat S.length c) (hd:AV.Flat S.length d) :
  WkV S (.tu [.ag [a,b,retX z S l],c,d]) (retM z E S l) (.tu [.ag [a,b,x],c,d]) M:=by
 obtain ⟨keep,T,rfl,h1,h2,h3,h4⟩:=h.keep hF
 have:=wkv_keep (S0:=S) (L:=T) (y:=.tu [.ag [a,b,x],c,d]) keep h1 h2
 rw [ren_tu,renL_cons,renL_cons,renL_cons,renL_nil,ren_ag,renL_cons,renL_cons,renL_cons,renL_nil,h3,h4,ha,hb,hc,hd] at this
 exact this
theorem val_take {l:List Int} {k:Nat} (hk:k<l.length) (h8:l.length≤8) (hu:∀ c∈l,u8 c):valF (l.take (k+1))=valF (l.take k) * 256+l[k]∧0≤valF (l.take k)∧valF (l.take k)<(256:Int) ^ k:=by
 obtain ⟨h0,h1,_⟩:=val_lt k (l.take k) (by rw [List.length_take];omega) (by omega) (fun c hc=>hu c (List.mem_of_mem_take hc))
 have h7:valF (l.take k)<(256:Int) ^ 7:=Int.lt_of_lt_of_le h1 (by exact_mod_cast Nat.pow_le_pow_right (by decide:0<256) (by omega:k≤7))
 rw [List.take_succ_eq_append_getElem hk,val_snoc h0 h7 (hu _ (List.getElem_mem hk))]
 exact ⟨rfl,h0,h1⟩
theorem take_two {b:List Int} (h:2≤b.length):b.take 2=[b[0]'(by omega),b[1]'(by omega)]:=by
 match b,h with
 | a :: c :: r,_=>rfl
theorem size_facts {sz ln:Nat} (h0:¬ sizeF (sz:Int)=0) (hlt:¬ (ln:Int)<sizeF (sz:Int)):∃ n:Nat,sizeF (sz:Int)=(n:Int)∧sz≤700∧(sz+18≤n * 64∧0<n)∧n≤ln:=by
 have h7:sz≤700:=by
  unfold sizeF at h0
  split at h0
  ·exact absurd rfl h0
  ·omega
 have he:sizeF (sz:Int)=((sz:Int)+81) / 64:=by unfold sizeF;rw [if_neg (by omega)]
 rw [he] at hlt ⊢
 exact ⟨(sz+81) / 64,by omega,h7,by omega,by omega⟩
theorem u32_round {w c:Int} (h0:0≤w) (h1:w<16777216) (hc:0≤c∧c≤255):binV .int true .mul (.i .u32 w) (.i .u32 256)=some (.i .u32 (w * 256))∧toIntV .u32 (.i .u8 c)=some (.i .u32 c)∧binV .int false .add (.i .u32 (w * 256)) (.i .u32 c)=some (.i .u32 (w * 256+c)):=by
 have q1:wrapV .u32 (w * 256)=w * 256:=by simp only [wrapV];omega
 have q2:wrapV .u32 c=c:=by simp only [wrapV];omega
 have q3:wrapV .u32 (w * 256+c)=w * 256+c:=by simp only [wrapV];omega
 refine ⟨by rw [bin_mul,q1],by rw [toInt_i,q2],by rw [bin_add,q3]⟩
theorem oROp_ok:OK Tryz.prog (lamOf Tryz.prog) (orcOf [(52,fSizeS),(31,rmakeS),(53,sameSecS)]):=orc_ok (by simpa using ⟨rsize_ok,rmake_ok,sameSec_ok⟩)
set_option maxHeartbeats 4000000 in
theorem ropen_ok:SpecOK Tryz.prog 24 rOpenS:=by
 intro args S x S' h
 simp only [rOpenS] at h
 split at h
 ·rename_i y
  split at h
  ·rename_i L hL
   split at h
   ·rename_i hc
    obtain ⟨hlim,hoq,hua⟩:=hc
    have hu:∀ c∈bytesOf L,u8 c:=fun c hc=>of_decide_eq_true (List.all_eq_true.1 hua c hc)
    injection h with h
    have hl0:=lst_len hL
    refine fn_of_wp f24 rfl (W_sound oROp_ok mixed _ _ _ _ _ ?_)
    obtain ⟨z3,hz3⟩:∃ z3,z3=Blk.cells [.i .u64 0,.i .u32 0,.sn] 0 none true:=⟨_,rfl⟩
    simp (maxSteps:=1000000) (disch:=omega) only [c24,List.replicate,hl0,go_sem]
    obtain ⟨Sx,hSx⟩:∃ Sx,Sx=S++[z3]:=⟨_,rfl⟩
    have hSS:S <+: Sx:=by rw [hSx];exact ext_app _
    have hz:Sx[S.length]? = some z3:=by rw [hSx,at_app0];rfl
    have hSl:Sx.length=S.length+1:=by rw [hSx,List.length_append];rfl
    have hst:S++[Blk.cells [.i .u64 0,.i .u32 0,.sn] 0 none true,.cells [] 0 none true]=Sx++[.cells [] 0 none true]:=by rw [hSx,hz3,List.append_assoc];rfl
    rw [hst]
    refine wp_loop (fun j e M dl=>dl=[]∧∃ (k:Nat) (x5:AV),j=L.length-k∧k≤L.length∧Acc true byteE Sx M x5 (bytesOf (L.take k)) ∧
     e.get 18=y∧e.get 2 = .p S.length 0 0∧e.get 0=y∧e.get 19 = .i .i64 L.length∧e.get 20 = .i .i64 k∧e.get 5=x5) (j:=L.length)
     ⟨rfl,0,.sl Sx.length 0 0 0 0 true,rfl,Nat.zero_le _,acc_lit ext_refl,rfl,rfl,rfl,rfl,rfl,by rw [hSl];rfl⟩ ?_
    rintro j e M d' ⟨rfl,k,x5,rfl,hk,hA,e18,e2,e0,e19,e20,e5⟩
    refine W_sound oROp_ok mixed _ _ _ _ _ ?_
    have hSM:=hSS.trans hA.ext
    have hzM:=at_pre hA.ext hz
    rw [hz3] at hzM
    obtain ⟨o1,o2,o3,o4,o5⟩:=old_at hzM
    by_cases hkl:k<L.length
    ·obtain ⟨bj,o,v,cap,ex,rfl⟩:=lst_sl hL hkl
     have hkI:(k:Int)<L.length:=by omega
     have hk6:k<1000000:=by omega
     have hro:=lstV_row (lst_ext hL hSM) hkl []
     rw [List.append_nil] at hro
     have hro:rowB (M[bj]?) (o+k * 64) v 64=some (L[k]).enc:=hro
     have hbs:bytesOf (L.take (k+1))=bytesOf (L.take k)++L[k].b:=by unfold bytesOf;rw [List.take_succ_eq_append_getElem hkl,List.flatMap_append];simp
     have hbl:(bytesOf (L.take k)).length≤k * 64:=by rw [secs_len,List.length_take];omega
     generalize L[k]=t at hro hbs
     have hl64:=t.enc_len
     have hone:=t.one
     have htk:=t.take64
     have hsla2:slaV 64 1 (.p M.length 0 0) none none none=some (.sl M.length 0 0 64 64 true):=by rfl
     have hsrc:srcV (M++[.cells t.enc 0 none true]) 1 (.sl M.length 0 0 64 64 true)=some (t.enc,64):=by
      rw [src_sl,at_app0]
      show srcN 64 (rowB (some (Blk.cells t.enc 0 none true)) 0 0 (64 * 1))=_
      rw [rowB_some,if_pos (by omega),List.drop_zero,Nat.mul_one,htk];rfl
     obtain ⟨y',M',ha,hA'⟩:=(hA.grow [.cells t.enc 0 none true]).apps (bytes:=1) byteE_one t.b (by rw [t.len];omega) (by rw [t.len];omega)
     have ha:appV (M++[.cells t.enc 0 none true]) 1 1 x5 t.enc 64=some (y',M'):=by
      have h1:t.b.flatMap byteE.enc=t.enc:=enc_by t.b
      rw [h1,t.len] at ha;exact ha
     rw [←hbs] at hA'
     simp (maxSteps:=1000000) (disch:=omega) only [c24l0,e18,e2,e0,e19,e20,e5,hkI,Int.toNat_natCast,hro,List.replicate,hl64,hone,htk,hsla2,hsrc,ha,wrapS hk6,go_sem]
     refine ⟨L.length-(k+1),?_,k+1,y',?_,?_,hA',?_,?_⟩
     ·omega
     ·rfl
     ·omega
     ·rfl
     ·rfl
    ·have hkI:¬ (k:Int)<L.length:=by omega
     obtain rfl:k=L.length:=by omega
     rw [List.take_of_length_le (by omega)] at hA
     have hall:(bytesOf L).length=L.length * 64:=secs_len L
     have hlx:=lst_len hA.lst
     cases hLc:L with
     | nil =>
      subst hLc
      have hcI:((bytesOf ([]:List Sec)).length:Int)<64:=by decide
      have h':(noRec,S)=(x,S'):=h
      obtain ⟨rfl,rfl⟩:=Prod.mk.inj h'
      simp (maxSteps:=1000000) (disch:=omega) only [c24l0,e18,e2,e0,e19,e20,e5,hkI,hlx,hcI,o1,o2,o3,hzM,go_sem]
      exact wkv_dropP (ext_set hSM (Nat.le_refl _) _) rfl
     | cons s R =>
      have hcI:¬ ((bytesOf L).length:Int)<64:=by rw [hall,hLc,List.length_cons];omega
      have h64:64≤(bytesOf L).length:=by omega
      obtain ⟨p0,hp0⟩:∃ a,a=(bytesOf L)[0]:=⟨_,rfl⟩
      obtain ⟨p1,hp1⟩:∃ a,a=(bytesOf L)[1]:=⟨_,rfl⟩
      have u0:u8 p0:=by rw [hp0];exact hu _ (List.getElem_mem _)
      have u1:u8 p1:=by rw [hp1];exact hu _ (List.getElem_mem _)
      obtain ⟨bi,o,v,cap,ex,hx5⟩:=lst_sl hA.lst (show 0<(bytesOf L).length by omega)
      subst hx5
      have c0:=lstV_cell hA.lst rfl (fun a=>rfl) (show 0<(bytesOf L).length by omega) []
      have c1:=lstV_cell hA.lst rfl (fun a=>rfl) (show 1<(bytesOf L).length by omega) []
      rw [List.append_nil,←hp0,Nat.add_zero] at c0
      rw [List.append_nil,←hp1] at c1
      have i0:(0:Int)<(bytesOf L).length:=by omega
      have i1:(1:Int)<(bytesOf L).length:=by omega
      have u0':=u0
      have u1':=u1
      unfold u8 at u0' u1'
      obtain ⟨sz,hsz⟩:∃ sz:Nat,256 * p0+p1=(sz:Int):=⟨(256 * p0+p1).toNat,by omega⟩
      have hs2:s.b.take 2=[p0,p1]:=by
       have h1:s.b.take 2=(bytesOf L).take 2:=by
        rw [hLc]
        have:bytesOf (s :: R)=s.b++bytesOf R:=by simp [bytesOf]
        rw [this,List.take_append_of_le_length (by rw [s.len];omega)]
       rw [h1,hp0,hp1]
       exact take_two (by omega)
      have hv2:valF (s.b.take 2)=(sz:Int):=by rw [hs2,val2 u0 u1,hsz]
      by_cases hbad:sizeF (sz:Int)=0∨(L.length:Int)<sizeF (sz:Int)
      ·have hno:openF L=none:=by
        rw [hLc] at hbad ⊢
        have hwz:wrapV .i64 (sz:Int)=sz:=wrap_i64 (by omega) (by omega)
        simp only [openF,hv2,hwz]
        rw [if_pos hbad]
       rw [hno] at h
       have h':(noRec,S)=(x,S'):=h
       obtain ⟨rfl,rfl⟩:=Prod.mk.inj h'
       by_cases hz0:sizeF (sz:Int)=0
       ·simp (maxSteps:=1000000) (disch:=omega) only [c24l0,e18,e2,e0,e19,e20,e5,hkI,hlx,hcI,i0,i1,Nat.mul_one,c0,c1,hsz,orc_cons,fSizeS,hz0,o1,o2,o3,hzM,go_sem]
        exact wkv_dropP (ext_set hSM (Nat.le_refl _) _) rfl
       ·have hlt:=hbad.resolve_left hz0
        simp (maxSteps:=1000000) (disch:=omega) only [c24l0,e18,e2,e0,e19,e20,e5,hkI,hlx,hcI,i0,i1,Nat.mul_one,c0,c1,hsz,orc_cons,fSizeS,hz0,hl0,hlt,o1,o2,o3,hzM,go_sem]
        exact wkv_dropP (ext_set hSM (Nat.le_refl _) _) rfl
      ·rw [not_or] at hbad
       obtain ⟨hz0,hlt⟩:=hbad
       obtain ⟨n,hn,hsz7,hn64,hnL⟩:=size_facts hz0 hlt
       rw [hn] at hlt hz0
       have hagain:openF L=openR L sz n:=by
        have hnL':=hnL
        rw [hLc] at hnL' ⊢ hu
        exact open_again hu hv2 hsz7 hn hnL'
       rw [hagain] at h
       unfold openR at h
       clear hp0 hp1 hs2 hv2 hagain
       generalize hBB:bytesOf L=B at *
       have hBlen:sz+18≤B.length:=by omega
       obtain ⟨p,hp⟩:∃ p,p=(B.drop 14).take sz:=⟨_,rfl⟩
       obtain ⟨l8,hl8⟩:∃ l8,l8=(B.drop 2).take 8:=⟨_,rfl⟩
       obtain ⟨l4,hl4⟩:∃ l4,l4=(B.drop 10).take 4:=⟨_,rfl⟩
       rw [←hp,←hl8,←hl4] at h
       have lp:p.length=sz:=by rw [hp,List.length_take,List.length_drop];omega
       have ll8:l8.length=8:=by rw [hl8,List.length_take,List.length_drop];omega
       have ll4:l4.length=4:=by rw [hl4,List.length_take,List.length_drop];omega
       have up:∀ c∈p,u8 c:=fun c hc=>hu c (by rw [hp] at hc;exact List.mem_of_mem_drop (List.mem_of_mem_take hc))
       have ul8:∀ c∈l8,u8 c:=fun c hc=>hu c (by rw [hl8] at hc;exact List.mem_of_mem_drop (List.mem_of_mem_take hc))
       have ul4:∀ c∈l4,u8 c:=fun c hc=>hu c (by rw [hl4] at hc;exact List.mem_of_mem_drop (List.mem_of_mem_take hc))
       have hBne:B≠[]:=by intro q;rw [q] at hBlen;simp at hBlen
       have hoB:openQ M 1 (.sl bi o v B.length cap ex)=true:=openS_Q (hA.opens hBne)
       obtain ⟨x57,hs57,hx57,_⟩:=part_lst hA.lst hoB (q:=.i64) (q':=.i64) (a:=14) (b:=14+sz) (by omega) (by omega)
       rw [show 14+sz-14=sz by omega,←hp] at hx57
       have hs57:∀ U,sliceV (M++U) 1 (.sl bi o v B.length cap ex) (some (.i .i64 14)) (some (.i .i64 ((14+sz:Nat):Int))) none=some x57:=fun U=>slice_growG hs57
       have w5:(14+(sz:Int))=((14+sz:Nat):Int):=by omega
       have hsrc57:=src_lst (lstV_grow hx57 [.cells [] 0 none true])
       have hsrc57:srcV (M++[.cells [] 0 none true]) 1 x57=some (p.flatMap byteE.enc,p.length):=hsrc57
       have hP0:Acc true byteE M (M++[.cells [] 0 none true]) (.sl M.length 0 0 0 0 true) []:=acc_lit ext_refl
       obtain ⟨y3,N,ha3,hP⟩:=hP0.apps (bytes:=1) byteE_one p (by simp only [List.length_nil];omega) (by simp only [List.length_nil];omega)
       rw [List.nil_append] at hP
       have ha3:appV (M++[.cells [] 0 none true]) 1 1 (.sl M.length 0 0 0 0 true) (p.flatMap byteE.enc) p.length=some (y3,N):=ha3
       have hMN:=hP.ext
       have hone3:=one_of_accG hP
       have hcp3:=cells_one hone3
       have hBN:=lst_ext hA.lst hMN
       have hoN:openQ N 1 (.sl bi o v B.length cap ex)=true:=by
        obtain ⟨T,hT⟩:=hMN
        rw [←hT];exact openQ_grow hoB T
       obtain ⟨x61,hs61,hx61,_⟩:=part_lst hBN hoN (q:=.i64) (q':=.i64) (a:=2) (b:=10) (by omega) (by omega)
       rw [show 10-2=8 from rfl,←hl8] at hx61
       have hs61:∀ U,sliceV (N++U) 1 (.sl bi o v B.length cap ex) (some (.i .i64 2)) (some (.i .i64 10)) none=some x61:=fun U=>slice_growG hs61
       have hlen61:=lst_len hx61
       rw [ll8] at hlen61
       obtain ⟨x76,hs76,hx76,_⟩:=part_lst hBN hoN (q:=.i64) (q':=.i64) (a:=10) (b:=14) (by omega) (by omega)
       rw [show 14-10=4 from rfl,←hl4] at hx76
       have hs76:∀ U,sliceV (N++U) 1 (.sl bi o v B.length cap ex) (some (.i .i64 10)) (some (.i .i64 14)) none=some x76:=fun U=>slice_growG hs76
       have hlen76:=lst_len hx76
       rw [ll4] at hlen76
       simp (maxSteps:=1000000) (disch:=omega) only [c24l0,e18,e2,e0,e19,e20,e5,hkI,hlx,hcI,i0,i1,Nat.mul_one,c0,c1,hsz,orc_cons,fSizeS,hn,hz0,hl0,hlt,List.replicate,w5,hs57,hsrc57,ha3,hone3,hcp3,hs61,hlen61,go_sem]
       have hSN:S <+: N:=hSM.trans hMN
       clear hs57 hsrc57 ha3 hP0 c0 c1 hx57 e18 e2 e0 e19 e20 e5
       refine wp_loop (fun j e M7 dl=>dl=[]∧∃ k:Nat,j=8-k∧k≤8∧M7=N++[.cells [.i .u64 (valF (l8.take k)),.i .u32 0,y3] 0 none true] ∧
        e.get 10 = .p N.length 0 0∧e.get 61=x61∧e.get 2 = .p S.length 0 0∧e.get 9 = .i .i64 n∧e.get 0=y∧e.get 5 = .sl bi o v B.length cap ex∧e.get 62 = .i .i64 8∧e.get 63 = .i .i64 k) (j:=8)
        ⟨rfl,0,rfl,Nat.zero_le _,rfl,rfl,rfl,rfl,rfl,rfl,rfl,rfl,rfl⟩ ?_
       rintro j e M7 d' ⟨rfl,k,rfl,hk8,rfl,e10,e61,e2,e9,e0,e5,e62,e63⟩
       refine W_sound oROp_ok mixed _ _ _ _ _ ?_
       by_cases hkm:k<8
       ·have hkl:k<l8.length:=by omega
        have hkI8:(k:Int)<8:=by omega
        have hk6:k<1000000:=by omega
        obtain ⟨hv,hv0,hv1⟩:=val_take hkl (by omega) ul8
        have hv2:valF (l8.take k)<(256:Int) ^ 7:=Int.lt_of_lt_of_le hv1 (by exact_mod_cast Nat.pow_le_pow_right (by decide:0<256) (by omega:k≤7))
        have h77:(256:Int) ^ 7=72057594037927936:=by decide
        rw [h77] at hv2
        obtain ⟨bq,oq,vq,cq,eq,rfl⟩:=lst_sl hx61 hkl
        have hc:=lstV_cell hx61 rfl (fun a=>rfl) hkl [.cells [.i .u64 (valF (l8.take k)),.i .u32 0,y3] 0 none true]
        have huc:=ul8 _ (List.getElem_mem hkl)
        unfold u8 at huc
        generalize l8[k]=c at hc hv huc
        generalize valF (l8.take k)=w at *
        rw [ll8] at e61
        clear hs61 hs76 hlen61 hlen76 hx61 hx76 hl8 hl4 hp
        simp (maxSteps:=1000000) (disch:=omega) only [c24l2,e10,e61,e2,e9,e0,e5,e62,e63,hkI8,Int.toNat_natCast,Nat.mul_one,hc,wrapS hk6,go_sem]
        exact ⟨8-(k+1),by omega,k+1,rfl,by omega,by rw [hv],by rw [ll8],rfl⟩
       ·obtain rfl:k=8:=by omega
        have hkI8:¬ ((8:Nat):Int)<8:=by omega
        rw [List.take_of_length_le (by omega)]
        obtain ⟨sq0,sq1,_⟩:=val_lt 8 l8 ll8 (by omega) ul8
        rw [Go.Proofs.YtkfobkfhbkicaaaGreat.p8] at sq1
        generalize hseq:valF l8=seq at *
        simp (maxSteps:=1000000) (disch:=omega) only [c24l2,e10,e61,e2,e9,e0,e5,e62,e63,hkI8,hs76,hlen76,go_sem]
        clear hs61 hlen61 hx61 e10 e61 e2 e9 e0 e5 e62 e63 hs76
        refine wp_loop (fun j e M7 dl=>dl=[]∧∃ k:Nat,j=4-k∧k≤4∧M7=N++[.cells [.i .u64 seq,.i .u32 (valF (l4.take k)),y3] 0 none true] ∧
         e.get 10 = .p N.length 0 0∧e.get 76=x76∧e.get 2 = .p S.length 0 0∧e.get 9 = .i .i64 n∧e.get 0=y∧e.get 77 = .i .i64 4∧e.get 78 = .i .i64 k) (j:=4)
         ⟨rfl,0,rfl,Nat.zero_le _,rfl,rfl,rfl,rfl,rfl,rfl,rfl,rfl⟩ ?_
        rintro j e M7 d' ⟨rfl,k,rfl,hk4,rfl,e10,e76,e2,e9,e0,e77,e78⟩
        by_cases hkm:k<4
        ·refine W_sound oROp_ok mixed _ _ _ _ _ ?_
         have hkl:k<l4.length:=by omega
         have hkI4:(k:Int)<4:=by omega
         have hk6:k<1000000:=by omega
         obtain ⟨hv,hv0,hv1⟩:=val_take hkl (by omega) ul4
         have hv2:valF (l4.take k)<(256:Int) ^ 3:=Int.lt_of_lt_of_le hv1 (by exact_mod_cast Nat.pow_le_pow_right (by decide:0<256) (by omega:k≤3))
         have h73:(256:Int) ^ 3=16777216:=by decide
         rw [h73] at hv2
         obtain ⟨bq,oq,vq,cq,eq,rfl⟩:=lst_sl hx76 hkl
         have hc:=lstV_cell hx76 rfl (fun a=>rfl) hkl [.cells [.i .u64 seq,.i .u32 (valF (l4.take k)),y3] 0 none true]
         have huc:=ul4 _ (List.getElem_mem hkl)
         unfold u8 at huc
         generalize l4[k]=c at hc hv huc
         generalize valF (l4.take k)=w at *
         rw [ll4] at e76
         obtain ⟨q1,q2,q3⟩:=u32_round hv0 hv2 huc
         clear hlen76 hx76 hl8 hl4 hp
         simp (maxSteps:=1000000) (disch:=omega) only [c24l3,e10,e76,e2,e9,e0,e77,e78,hkI4,Int.toNat_natCast,Nat.mul_one,hc,q1,q2,q3,wrapS hk6,go_sem]
         exact ⟨4-(k+1),by omega,k+1,rfl,by omega,by rw [hv],by rw [ll4],rfl⟩
        ·obtain rfl:k=4:=by omega
         have hkI4:¬ ((4:Nat):Int)<4:=by omega
         rw [List.take_of_length_le (by omega)]
         obtain ⟨ep0,ep1,_⟩:=val_lt 4 l4 ll4 (by omega) ul4
         rw [Go.Proofs.YtkfobkfhbkicaaaGreat.p4] at ep1
         generalize hepo:valF l4=ep at *
         obtain ⟨R,hR⟩:∃ R:Blk,R = .cells [.i .u64 seq,.i .u32 ep,y3] 0 none true:=⟨_,rfl⟩
         have hy3:=lstV_grow hP.lst [R]
         have hRat:(N++[R])[N.length]? = some R:=by rw [at_app0];rfl
         by_cases hs0:seq=0
         ·have hmk:rmakeS [.ag [.i .u64 seq,.i .u32 ep,y3]] (N++[R])=some (.tu [.sn,.i .i64 81],N++[R]):=by
           simp only [rmakeS,hy3]
           rw [if_pos ⟨by omega,hone3,⟨by omega,by omega⟩,⟨ep0,by omega⟩,List.all_eq_true.2 fun c hc=>decide_eq_true (up c hc)⟩,if_pos (.inr hs0)]
          rw [if_neg (fun q=>by have:=q.1;omega)] at h
          have h':(noRec,S)=(x,S'):=h
          obtain ⟨rfl,rfl⟩:=Prod.mk.inj h'
          refine W_sound oROp_ok mixed _ _ _ _ _ ?_
          have hzN:=at_pre hMN hzM
          rw [hR] at hmk
          obtain ⟨n1,n2,n3,n4,n5⟩:=old_at hzN
          simp (maxSteps:=1000000) (disch:=omega) only [c24l3,e10,e76,e2,e9,e0,e77,e78,hkI4,hone3,hcp3,orc_cons,hmk,n1,n2,n3,n4,go_sem]
          exact wkv_dropP (ext_more (ext_set hSN (Nat.le_refl _) _) _) rfl
         ·have hmk:rmakeS [.ag [.i .u64 seq,.i .u32 ep,y3]] (N++[R])=some (.tu [retX true (N++[R]) (secsF n (frameB seq ep p)),.i .i64 0],retM true secE (N++[R]) (secsF n (frameB seq ep p))):=by
           simp only [rmakeS,hy3]
           rw [if_pos ⟨by omega,hone3,⟨by omega,by omega⟩,⟨ep0,by omega⟩,List.all_eq_true.2 fun c hc=>decide_eq_true (up c hc)⟩,if_neg (not_or.2 ⟨by omega,hs0⟩),lp,hn,Int.toNat_natCast]
          have hA5:=retX_acc (z:=true) (E:=secE) (S:=N++[R]) (l:=secsF n (frameB seq ep p))
          generalize retX true (N++[R]) (secsF n (frameB seq ep p))=X5 at hmk hA5
          generalize retM true secE (N++[R]) (secsF n (frameB seq ep p))=M5 at hmk hA5
          have hN5:N <+: M5:=(ext_app _).trans hA5.ext
          have hL5:lstV secE M5 y=some L:=lst_ext hL (hSN.trans hN5)
          have hoq5:openQ M5 64 y=true:=by
           obtain ⟨T,hT⟩:=hSN.trans hN5
           rw [←hT];exact openQ_grow hoq T
          obtain ⟨x101,hs101,hx101,_⟩:=take_lst hL5 hoq5 (q:=.i64) (b:=n) hnL
          have hs101:sliceV M5 64 y none (some (.i .i64 (n:Int))) none=some x101:=hs101
          have hsame:sameSecS [X5,x101] M5=some (.b (decide (secsF n (frameB seq ep p)=L.take n)),M5):=by
           simp only [sameSecS,hA5.lst,hx101]
           rw [if_pos (by rw [secsF_len];omega)]
          have hR5:=at_pre hA5.ext hRat
          have hz5:=at_pre (hMN.trans hN5) hzM
          have hz53:=fun B'=>at_set (B':=B') hz5
          rw [hR] at hR5 hmk
          refine W_sound oROp_ok mixed _ _ _ _ _ ?_
          by_cases heq:L.take n=secsF n (frameB seq ep p)
          ·rw [if_pos ⟨by omega,heq⟩] at h
           rw [decide_eq_true heq.symm] at hsame
           have hpay:(Rec.mk seq ep (headB seq ep p) n).pay=p:=(head_parts _ _ _).2.2.2
           unfold recY at h
           simp only [hpay] at h
           obtain ⟨rfl,rfl⟩:=Prod.mk.inj h
           simp (maxSteps:=1000000) (disch:=omega) only [c24l3,e10,e76,e2,e9,e0,e77,e78,hkI4,hone3,hcp3,orc_cons,hmk,hs101,hsame,hR5,hz5,hz53,go_sem]
           have hSMl:S.length<M.length:=(List.getElem?_eq_some_iff.1 hzM).1
           exact (((hP.extM hN5).setL hSMl _).base (ext_set hSM (Nat.le_refl _) _)).retR byteE_flat Flat_i Flat_i Flat_i Flat_b
          ·rw [if_neg (fun q=>heq q.2)] at h
           rw [decide_eq_false (fun q=>heq q.symm)] at hsame
           have h':(noRec,S)=(x,S'):=h
           obtain ⟨rfl,rfl⟩:=Prod.mk.inj h'
           simp (maxSteps:=1000000) (disch:=omega) only [c24l3,e10,e76,e2,e9,e0,e77,e78,hkI4,hone3,hcp3,orc_cons,hmk,hs101,hsame,hR5,hz5,hz53,go_sem]
           exact wkv_dropP (ext_set (hSN.trans hN5) (Nat.le_refl _) _) rfl
   ·cases h
  ·cases h
 ·cases h
structure Rdk where
 st:List Sec
 pe:List Wr
 counted:Bool
 left:Int
 down:Bool
def Rdk.cells (R:Rdk) (sx px:AV):List AV:=[sx,px,.b R.counted,.i .i64 R.left,.b R.down]
def rdkOf (S:Mem) (cs:List AV):Option (Rdk × AV × AV):=match cs with
 | [sx,px,.b c,.i .i64 l,.b d]=>match lstV secE S sx,lstV wrE S px with
  | some st,some pe=>if st.length≤100000∧pe.length≤100000 then some (⟨st,pe,c,l,d⟩,sx,px) else none
  | _,_=>none
 | _=>none
theorem rdk_ok {S:Mem} {cs:List AV} {R:Rdk} {sx px:AV} (h:rdkOf S cs=some (R,sx,px)):cs=R.cells sx px∧lstV secE S sx=some R.st∧lstV wrE S px=some R.pe∧R.st.length≤100000∧R.pe.length≤100000:=by
 unfold rdkOf at h
 split at h
 ·split at h
  ·rename_i hs hp
   split at h
   ·rename_i hl
    cases h
    exact ⟨rfl,hs,hp,hl.1,hl.2⟩
   ·cases h
  ·cases h
 ·cases h
theorem rdk_mk {S:Mem} {R:Rdk} {sx px:AV} (hs:lstV secE S sx=some R.st) (hp:lstV wrE S px=some R.pe) (h1:R.st.length≤100000) (h2:R.pe.length≤100000):rdkOf S (R.cells sx px)=some (R,sx,px):=by
 simp only [rdkOf,Rdk.cells,hs,hp]
 rw [if_pos ⟨h1,h2⟩]
theorem lst_oneF {α:Type} {E:Enc α} {S:Mem} {x:AV} {l:List α} (h:lstV E S x=some l):x.one=true∧AV.Flat S.length x:=by
 rcases lstV_lst h with ⟨rfl,_⟩ | ⟨rfl,_⟩ | ⟨i,o,v,len,cap,ex,rfl,_,hrow⟩
 ·exact ⟨rfl,Flat_sn⟩
 ·exact ⟨rfl,fun g=>ren_se⟩
 ·refine ⟨rfl,fun g=>?_⟩
  have hi:i<S.length:=by
   rcases Nat.lt_or_ge i S.length with q | q
   ·exact q
   ·rw [rowAt_B,List.getElem?_eq_none q] at hrow
    cases hrow
  rw [ren,if_pos hi]
def Rdk.act (R:Rdk):Int × Rdk:=if R.down=true∨(R.counted=true∧R.left=0) then (72,{ R with down:=true }) else if R.counted=true then (0,{ R with left:=R.left-1 }) else (0,R)
def Rdk.brk (R:Rdk) (n:Int):Rdk:={ R with counted:=decide (0≤n),left:=n }
def Rdk.fit (R:Rdk):Prop:=R.counted=true→0≤R.left∧R.left≤9223372036854775807
instance (R:Rdk):Decidable R.fit:=by unfold Rdk.fit;infer_instance
def rActS:Spec:=fun args S=>match args with
 | [.ag cs]=>match rdkOf S cs with
  | some (R,sx,px)=>if R.fit then some (.tu [.ag (R.act.2.cells sx px),.i .i64 R.act.1],S) else none
  | none=>none
 | _=>none
theorem flat_ag5 {n:Nat} {a b c d e x:AV} (ha:AV.Flat n a) (hb:AV.Flat n b) (hc:AV.Flat n c) (hd:AV.Flat n d) (he:AV.Flat n e) (hx:AV.Flat n x):AV.flat n (.tu [.ag [a,b,c,d,e],x]):=by
 show ren n _ (.tu [.ag [a,b,c,d,e],x])=_
 rw [ren_tu,renL_cons,renL_cons,renL_nil,ren_ag,renL_cons,renL_cons,renL_cons,renL_cons,renL_cons,renL_nil,ha,hb,hc,hd,he,hx]
theorem flat_ag5' {n:Nat} {a b c d e:AV} (ha:AV.Flat n a) (hb:AV.Flat n b) (hc:AV.Flat n c) (hd:AV.Flat n d) (he:AV.Flat n e):AV.flat n (.ag [a,b,c,d,e]):=by
 show ren n _ (.ag [a,b,c,d,e])=_
 rw [ren_ag,renL_cons,renL_cons,renL_cons,renL_cons,renL_cons,renL_nil,ha,hb,hc,hd,he]
theorem ract_ok:SpecOK Tryz.prog 36 rActS:=by
 intro args S x S' h
 simp only [rActS] at h
 split at h
 ·rename_i cs
  split at h
  ·rename_i R sx px hR
   split at h
   ·rename_i hlim
    cases h
    obtain ⟨rfl,hs,hp,_,_⟩:=rdk_ok hR
    obtain ⟨st,pe,ct,left,down⟩:=R
    obtain ⟨o1,f1⟩:=lst_oneF hs
    obtain ⟨o2,f2⟩:=lst_oneF hp
    have c1:=cells_one o1
    have c2:=cells_one o2
    refine fn_of_wp f36 rfl (W_sound none_ok mixed _ _ _ _ _ ?_)
    cases down with
    | true =>
     have he:Rdk.act ⟨st,pe,ct,left,true⟩=(72,⟨st,pe,ct,left,true⟩):=by unfold Rdk.act;rw [if_pos (.inl rfl)]
     rw [he]
     simp (maxSteps:=1000000) (disch:=omega) only [c36,Rdk.cells,o1,o2,c1,c2,go_sem]
     exact wkv_drop (flat_ag5 f1 f2 Flat_b Flat_i Flat_b Flat_i)
    | false =>
     cases ct with
     | true =>
      by_cases h0:left=0
      ·have he:Rdk.act ⟨st,pe,true,left,false⟩=(72,⟨st,pe,true,left,true⟩):=by unfold Rdk.act;rw [if_pos (.inr ⟨rfl,h0⟩)]
       rw [he]
       simp (maxSteps:=1000000) (disch:=omega) only [c36,Rdk.cells,o1,o2,c1,c2,h0,go_sem]
       exact wkv_drop (flat_ag5 f1 f2 Flat_b Flat_i Flat_b Flat_i)
      ·have he:Rdk.act ⟨st,pe,true,left,false⟩=(0,⟨st,pe,true,left-1,false⟩):=by
        unfold Rdk.act
        rw [if_neg (fun q=>by rcases q with q | q;cases q;exact h0 q.2),if_pos rfl]
       have hb:=hlim rfl
       simp only at hb
       have hw:wrapV .i64 (left-1)=left-1:=wrap_i64 (by omega) (by omega)
       rw [he]
       simp (maxSteps:=1000000) (disch:=omega) only [c36,Rdk.cells,o1,o2,c1,c2,h0,hw,go_sem]
       exact wkv_drop (flat_ag5 f1 f2 Flat_b Flat_i Flat_b Flat_i)
     | false =>
      have he:Rdk.act ⟨st,pe,false,left,false⟩=(0,⟨st,pe,false,left,false⟩):=by
       unfold Rdk.act
       rw [if_neg (fun q=>by rcases q with q | q;cases q;cases q.1),if_neg (by simp)]
      rw [he]
      simp (maxSteps:=1000000) (disch:=omega) only [c36,Rdk.cells,o1,o2,c1,c2,go_sem]
      exact wkv_drop (flat_ag5 f1 f2 Flat_b Flat_i Flat_b Flat_i)
   ·cases h
  ·cases h
 ·cases h
def rBrkS:Spec:=fun args S=>match args with
 | [.ag cs,.i .i64 n]=>match rdkOf S cs with
  | some (R,sx,px)=>some (.ag ((R.brk n).cells sx px),S)
  | none=>none
 | _=>none
theorem rbrk_ok:SpecOK Tryz.prog 14 rBrkS:=by
 intro args S x S' h
 simp only [rBrkS] at h
 split at h
 ·rename_i cs n
  split at h
  ·rename_i R sx px hR
   cases h
   obtain ⟨rfl,hs,hp,_,_⟩:=rdk_ok hR
   obtain ⟨o1,f1⟩:=lst_oneF hs
   obtain ⟨o2,f2⟩:=lst_oneF hp
   have c1:=cells_one o1
   have c2:=cells_one o2
   refine fn_of_wp f14 rfl (W_sound none_ok mixed _ _ _ _ _ ?_)
   by_cases hn:0≤n
   ·have he:R.brk n = { R with counted:=true,left:=n }:=by unfold Rdk.brk;rw [decide_eq_true hn]
    rw [he]
    simp (maxSteps:=1000000) (disch:=omega) only [c14,Rdk.cells,o1,o2,c1,c2,hn,go_sem]
    exact wkv_drop (flat_ag5' f1 f2 Flat_b Flat_i Flat_b)
   ·have he:R.brk n = { R with counted:=false,left:=n }:=by unfold Rdk.brk;rw [decide_eq_false hn]
    rw [he]
    simp (maxSteps:=1000000) (disch:=omega) only [c14,Rdk.cells,o1,o2,c1,c2,hn,go_sem]
    exact wkv_drop (flat_ag5' f1 f2 Flat_b Flat_i Flat_b)
  ·cases h
 ·cases h
def rReadDS:Spec:=fun args S=>match args with
 | [.ag cs,.i .i64 k]=>match rdkOf S cs with
  | some (R,sx,px)=>some (secT (readAt R.st R.pe k),S)
  | none=>none
 | _=>none
theorem last_back (k:Int):∀ (pe:List Wr) (s:Sec) (w:Wr),lastW k (pe++[w]) s=if w.at_=k then w.sec else lastW k pe s:=fun pe s w=>by
 unfold lastW
 rw [List.foldl_append];rfl
theorem row_split {B:Option Blk} {p v n:Nat} {x:AV} {r:List AV} (h:rowB B p v (n+1)=some (x :: r)):cellB B p v=some x∧rowB B (p+1) v n=some r:=by
 cases B with
 | none=>simp [rowB] at h
 | some B =>
  cases B with
  | cells cs ver op w =>
   simp only [rowB] at h
   split at h
   ·rename_i hc
    obtain ⟨hv,hl⟩:=hc
    have h:=Option.some.inj h
    have hp:p<cs.length:=by omega
    have hd:cs.drop p=cs[p] :: cs.drop (p+1):=List.drop_eq_getElem_cons hp
    rw [hd,List.take_succ_cons] at h
    obtain ⟨e1,e2⟩:=List.cons.inj h
    subst hv
    refine ⟨?_,?_⟩
    ·rw [cellB_some,List.getElem?_eq_getElem hp,e1]
    ·rw [rowB_some,if_pos (by omega),e2]
   ·cases h
  | _=>simp [rowB] at h
theorem wr_row {S:Mem} {bi o v cap:Nat} {ex:Bool} {l:List Wr} (h:lstV wrE S (.sl bi o v l.length cap ex)=some l) {k:Nat} (hk:k<l.length) (U:Mem) :
  cellB ((S++U)[bi]?) (o+k * 65) v=some (.i .i64 (l[k]).at_)∧rowB ((S++U)[bi]?) (o+k * 65+1) v 64=some (l[k]).sec.enc:=by
 have hr:=lstV_row h hk U
 have hr:rowB ((S++U)[bi]?) (o+k * 65) v (64+1)=some (.i .i64 (l[k]).at_ :: (l[k]).sec.enc):=hr
 exact row_split hr
theorem rreadd_ok:SpecOK Tryz.prog 65 rReadDS:=by
 intro args S x S' h
 simp only [rReadDS] at h
 split at h
 ·rename_i cs k
  split at h
  ·rename_i R sx px hR
   cases h
   obtain ⟨rfl,hs,hp,hls,hlp⟩:=rdk_ok hR
   obtain ⟨o1,f1⟩:=lst_oneF hs
   obtain ⟨o2,f2⟩:=lst_oneF hp
   have c1:=cells_one o1
   have c2:=cells_one o2
   have hsl:=lst_len hs
   have hpl:=lst_len hp
   refine fn_of_wp f65 rfl (W_sound none_ok mixed _ _ _ _ _ ?_)
   unfold readAt
   by_cases hk0:k<0
   ·rw [if_neg (by omega)]
    have hzl:List.length zSec.enc=64:=zSec.enc_len
    simp (maxSteps:=1000000) (disch:=omega) only [c65,Rdk.cells,o1,o2,c1,c2,hk0,go_sem]
    simp only [secT]
    exact wkv_drop (flat_sec zSec 71)
   ·by_cases hkn:k<R.st.length
    ·rw [if_pos ⟨by omega,hkn⟩]
     obtain ⟨m,rfl⟩:=Int.eq_ofNat_of_zero_le (show 0≤k by omega)
     have hge:¬ (R.st.length:Int)≤(m:Int):=by omega
     have hm:m<R.st.length:=by omega
     have hw0:wrapV .i64 ((R.pe.length:Int)-1)=(R.pe.length:Int)-1:=wrap_i64 (by omega) (by omega)
     simp (maxSteps:=1000000) (disch:=omega) only [c65,Rdk.cells,o1,o2,c1,c2,hk0,hsl,hge,hpl,hw0,List.replicate,go_sem]
     rw [Int.toNat_natCast]
     obtain ⟨Sx,hSx⟩:∃ Sx:Mem,Sx=S++[Blk.cells [sx,px,.b R.counted,.i .i64 R.left,.b R.down] 0 none true,.cells zSec.enc 0 none true]:=⟨_,rfl⟩
     have hb0:Sx[S.length]? = some (.cells [sx,px,.b R.counted,.i .i64 R.left,.b R.down] 0 none true):=by rw [hSx,at_app0];rfl
     have hb1:Sx[S.length+1]? = some (.cells zSec.enc 0 none true):=by rw [hSx,at_app];rfl
     have hSS:S <+: Sx:=by rw [hSx];exact ext_app _
     have hSx':=hSx
     rw [zSec_enc] at hSx'
     rw [←hSx']
     obtain ⟨q1,q2,q3,q4,q5⟩:=old_at hb1
     refine wp_loop (fun j e M dl=>dl=[]∧∃ i:Nat,j=i∧i≤R.pe.length∧M=Sx∧lastW m R.pe (R.st.getD m zSec)=lastW m (R.pe.take i) (R.st.getD m zSec) ∧
      e.get 4 = .p (S.length+1) 0 0∧e.get 6 = .i .i64 ((i:Int)-1)∧e.get 2 = .p S.length 0 0∧e.get 1 = .i .i64 m) (j:=R.pe.length)
      ⟨rfl,R.pe.length,rfl,Nat.le_refl _,rfl,by rw [List.take_length],rfl,rfl,rfl,rfl⟩ ?_
     rintro i e M d' ⟨rfl,_,rfl,hi,rfl,hlast,e4,e6,e2,e1⟩
     refine W_sound none_ok mixed _ _ _ _ _ ?_
     have zl:=zSec.enc_len
     have zd:=zSec.drop64
     by_cases hi0:0<i
     ·obtain ⟨n,rfl⟩:∃ n,i=n+1:=⟨i-1,by omega⟩
      have hn:n<R.pe.length:=by omega
      obtain ⟨bi,o,v,cap,ex,rfl⟩:=lst_sl hp hn
      have hI:(((n+1:Nat):Int)-1)=(n:Int):=by omega
      rw [hI] at e6
      have hge0:(0:Int)≤(n:Int):=by omega
      have hnI:(n:Int)<R.pe.length:=by omega
      obtain ⟨r1,r2⟩:=wr_row (lst_ext hp hSS) hn []
      rw [List.append_nil] at r1 r2
      rw [List.take_succ_eq_append_getElem hn,last_back] at hlast
      generalize R.pe[n]=w at r1 r2 hlast
      have hone:=w.sec.one
      have hle:=w.sec.enc_len
      have htk:=w.sec.take64
      have hdr:=w.sec.drop64
      have hwn:wrapV .i64 ((n:Int)-1)=(n:Int)-1:=wrap_i64 (by omega) (by omega)
      by_cases hat:w.at_=(m:Int)
      ·rw [if_pos hat] at hlast
       rw [hlast]
       simp (maxSteps:=1000000) (disch:=omega) only [c65l0,e4,e6,e2,e1,hge0,hb0,hnI,Int.toNat_natCast,Nat.mul_one,r1,hat,r2,hone,hle,htk,zl,zd,List.append_nil,hb1,q3,go_sem]
       simp only [secT]
       exact wkv_dropP (ext_set hSS (by omega) _) (flat_sec _ 0)
      ·rw [if_neg hat] at hlast
       simp (maxSteps:=1000000) (disch:=omega) only [c65l0,e4,e6,e2,e1,hge0,hb0,hnI,Int.toNat_natCast,Nat.mul_one,r1,hat,hwn,go_sem]
       exact ⟨n,by omega,n,rfl,by omega,hlast,rfl⟩
     ·obtain rfl:i=0:=by omega
      have hneg:¬ (0:Int)≤((0:Nat):Int)-1:=by omega
      have hl0:lastW m (R.pe.take 0) (R.st.getD m zSec)=R.st[m]:=by rw [List.take_zero,List.getD_eq_getElem?_getD,List.getElem?_eq_getElem hm];rfl
      rw [hlast,hl0]
      obtain ⟨bi,o,v,cap,ex,rfl⟩:=lst_sl hs hm
      have hmI:(m:Int)<R.st.length:=by omega
      have r2:=lstV_row (lst_ext hs hSS) hm []
      rw [List.append_nil] at r2
      have r2:rowB (M[bi]?) (o+m * 64) v 64=some (R.st[m]).enc:=r2
      generalize R.st[m]=s at r2
      have hone:=s.one
      have hle:=s.enc_len
      have htk:=s.take64
      simp (maxSteps:=1000000) (disch:=omega) only [c65l0,e4,e6,e2,e1,hneg,hb0,hmI,Int.toNat_natCast,Nat.mul_one,r2,hone,hle,htk,zl,zd,List.append_nil,hb1,q3,go_sem]
      simp only [secT]
      exact wkv_dropP (ext_set hSS (by omega) _) (flat_sec _ 0)
    ·rw [if_neg (by omega)]
     have hge:(R.st.length:Int)≤k:=by omega
     simp (maxSteps:=1000000) (disch:=omega) only [c65,Rdk.cells,o1,o2,c1,c2,hk0,hsl,hge,go_sem]
     simp only [secT]
     exact wkv_drop (flat_sec zSec 71)
  ·cases h
 ·cases h
theorem act_fit {R:Rdk} (h:R.fit):R.act.2.fit:=by
 intro hc
 unfold Rdk.act at hc ⊢
 split
 ·rename_i q
  rw [if_pos q] at hc
  exact h hc
 ·rename_i q
  rw [if_neg q] at hc
  split
  ·rename_i q2
   obtain ⟨h1,h2⟩:=h q2
   have h0:R.left≠0:=fun z=>q (.inr ⟨q2,z⟩)
   exact ⟨by show 0≤R.left-1;omega,by show R.left-1≤_;omega⟩
  ·rename_i q2
   rw [if_neg q2] at hc
   exact h hc
theorem Acc.ret5 {α:Type} {z:Bool} {E:Enc α} {S M:Mem} {a b c d x:AV} {l:List α} (hF:∀ n a,∀ c∈E.enc a,AV.Flat n c) (h:Acc z E S M x l) (ha:AV.Flat S.length a) (hb:AV.Flat S.length b) (hc:AV.Flat S.length c) (hd:AV.Flat S.length d) :
  WkV S (.ag [retX z S l,a,b,c,d]) (retM z E S l) (.ag [x,a,b,c,d]) M:=by
 obtain ⟨keep,T,rfl,h1,h2,h3,h4⟩:=h.keep hF
 have:=wkv_keep (S0:=S) (L:=T) (y:=.ag [x,a,b,c,d]) keep h1 h2
 rw [ren_ag,renL_cons,renL_cons,renL_cons,renL_cons,renL_cons,renL_nil,h3,h4,ha,hb,hc,hd] at this
 exact this
theorem sec_flat:∀ (n:Nat) (s:Sec),∀ c∈secE.enc s,AV.Flat n c:=fun n s=>s.flat n
theorem Acc.put {Sx M:Mem} {y:AV} {s2:List Sec} (h:Acc true secE Sx M y s2) {k:Nat} (hk:k<s2.length) (ws:Sec) :
  ∃ bq v,y = .sl bq 0 v s2.length s2.length false∧∃ M',(∀ U,stB (M++U) bq ((M++U)[bq]?) (k * 64) v 64 (some ws.enc)=some (M'++U))∧Acc true secE Sx M' y (s2.set k ws)∧M'.length=M.length:=by
 obtain ⟨T,rfl,⟨h0,_⟩ | ⟨h0,_⟩ | ⟨h0,q,v,rfl,hq⟩⟩:=h
 ·rw [h0] at hk;simp at hk
 ·rw [h0] at hk;simp at hk
 ·refine ⟨Sx.length+q,v,rfl,(Sx++T).set (Sx.length+q) (.cells ((s2.set k ws).flatMap secE.enc) v (some 64) true),fun U=>?_,?_,by simp⟩
  ·have hat:(Sx++T)[Sx.length+q]? = some (.cells (s2.flatMap secE.enc) v (some 64) true):=by rw [at_app];exact hq
   rw [at_old hat]
   have h13:(s2.flatMap secE.enc).length=s2.length * 64:=enc_length s2
   simp only [stB]
   rw [if_pos ⟨trivial,ws.enc_len,by omega,ws.one⟩]
   have hfs:=flat_setE (E:=secE) hk ws
   have hsp:splice (s2.flatMap secE.enc) (k * 64) ws.enc=(s2.set k ws).flatMap secE.enc:=by
    rw [←hfs]
    unfold splice
    rw [ws.enc_len];rfl
   rw [hsp,set_old hat]
  ·refine ⟨T.set q (.cells ((s2.set k ws).flatMap secE.enc) v (some 64) true),by rw [set_app],.inr (.inr ⟨?_,q,v,by rw [List.length_set],?_⟩)⟩
   ·intro z
    have:=congrArg List.length z
    rw [List.length_set] at this
    simp at this;rw [this] at hk;simp at hk
   ·rw [at_set hq];rfl
def Rdk.settle (R:Rdk) (kl:List Bool):Rdk:={ R with st:=settleL (fun j=>kl.getD j false) 0 R.pe R.st,pe:=[] }
noncomputable def rSetS:Spec:=fun args S=>match args with
 | [.ag cs,kx]=>match rdkOf S cs,lstV boolE S kx with
  | some (R,sx,px),some kl=>open Classical in if wfP R.st.length R.pe∧kl.length≤140737488355328 then some (.ag [retX true S (R.settle kl).st,.sn,.b R.counted,.i .i64 R.left,.b R.down],retM true secE S (R.settle kl).st) else none
  | _,_=>none
 | _=>none
set_option maxHeartbeats 1000000 in
theorem rset_ok:SpecOK Tryz.prog 39 rSetS:=by
 intro args S x S' h
 simp only [rSetS] at h
 split at h
 ·rename_i cs kx
  split at h
  ·rename_i R sx px kl hR hkl
   split at h
   ·rename_i hcond
    obtain ⟨hwf,hkll⟩:=hcond
    cases h
    obtain ⟨rfl,hs,hp,hls,hlp⟩:=rdk_ok hR
    obtain ⟨o1,f1⟩:=lst_oneF hs
    obtain ⟨o2,f2⟩:=lst_oneF hp
    have c1:=cells_one o1
    have c2:=cells_one o2
    have hpl:=lst_len hp
    have hkn:=lst_len hkl
    obtain ⟨st,pe,ct,left,down⟩:=R
    simp only at hs hp hls hlp hwf hpl
    obtain ⟨Sx,hSx⟩:∃ Sx:Mem,Sx=S++[Blk.cells [sx,px,.b ct,.i .i64 left,.b down] 0 none true,.cells [.sn,.sn,.b false,.i .i64 0,.b false] 0 none true]:=⟨_,rfl⟩
    have hSS:S <+: Sx:=by rw [hSx];exact ext_app _
    have hSxl:Sx.length=S.length+2:=by rw [hSx,List.length_append];rfl
    have hb0:Sx[S.length]? = some (.cells [sx,px,.b ct,.i .i64 left,.b down] 0 none true):=by rw [hSx,at_app0];rfl
    have hb1:Sx[S.length+1]? = some (.cells [.sn,.sn,.b false,.i .i64 0,.b false] 0 none true):=by rw [hSx,at_app];rfl
    have hb0':=fun U=>at_old (L:=U) hb0
    have hA0:Acc true secE Sx (Sx++[.cells [] 0 none true]) (.sl Sx.length 0 0 0 0 true) []:=acc_lit ext_refl
    obtain ⟨y0,M0,ha0,hA1⟩:=hA0.apps (bytes:=64) secE_one st (by simp only [List.length_nil];omega) (by simp only [List.length_nil];omega)
    rw [List.nil_append] at hA1
    have ha0:appV (Sx++[.cells [] 0 none true]) 64 64 (.sl Sx.length 0 0 0 0 true) (st.flatMap secE.enc) st.length=some (y0,M0):=ha0
    have hsrc0:=src_lst (lst_ext hs (ext_more hSS [.cells [] 0 none true]))
    have hsrc0:srcV (Sx++[.cells [] 0 none true]) 64 sx=some (st.flatMap secE.enc,st.length):=hsrc0
    have hSxa:S++[Blk.cells [sx,px,.b ct,.i .i64 left,.b down] 0 none true,.cells [.sn,.sn,.b false,.i .i64 0,.b false] 0 none true,.cells [] 0 none true]=Sx++[.cells [] 0 none true]:=by rw [hSx,List.append_assoc];rfl
    rw [←hSxa,hSxl] at ha0
    rw [←hSxa] at hsrc0
    have g0:=at_pre hA1.ext hb0
    refine fn_of_wp f39 rfl (W_sound none_ok mixed _ _ _ _ _ ?_)
    simp (maxSteps:=1000000) (disch:=omega) only [c39,Rdk.cells,o1,o2,c1,c2,List.replicate,hsrc0,ha0,g0,hpl,go_sem]
    refine wp_loop (fun j e M dl=>dl=[]∧∃ (t:Nat) (s2:List Sec) (y:AV),j=pe.length-t∧t≤pe.length∧Acc true secE Sx M y s2∧s2.length=st.length∧settleL (fun j=>kl.getD j false) t (pe.drop t) s2=settleL (fun j=>kl.getD j false) 0 pe st ∧
     e.get 5=y∧e.get 1=kx∧e.get 13=px∧e.get 4 = .p (S.length+1) 0 0∧e.get 2 = .p S.length 0 0∧e.get 14 = .i .i64 pe.length∧e.get 15 = .i .i64 t) (j:=pe.length)
     ⟨rfl,0,st,y0,rfl,Nat.zero_le _,hA1,rfl,by rw [List.drop_zero],rfl,rfl,rfl,rfl,rfl,rfl,rfl⟩ ?_
    clear ha0 hsrc0 hA0 hSxa
    rintro j e M d' ⟨rfl,t,s2,y,rfl,ht,hA,hs2,hse,e5,e1,e13,e4,e2,e14,e15⟩
    refine W_sound none_ok mixed _ _ _ _ _ ?_
    have hSM:=hSS.trans hA.ext
    by_cases htl:t<pe.length
    ·obtain ⟨bi,o,v,cap,ex,rfl⟩:=lst_sl hp htl
     have htI:(t:Int)<pe.length:=by omega
     have ht6:t<1000000:=by omega
     have hro:=lstV_row (lst_ext hp hSM) htl []
     rw [List.append_nil] at hro
     have hdr:pe.drop t=pe[t] :: pe.drop (t+1):=List.drop_eq_getElem_cons htl
     rw [hdr] at hse
     have hwt:=hwf pe[t] (List.getElem_mem htl)
     have hro:rowB (M[bi]?) (o+t * 65) v 65=some (pe[t]).enc:=hro
     generalize pe[t]=w at hro hse hwt
     obtain ⟨wa,ws⟩:=w
     obtain ⟨hw0,hw1⟩:=hwt
     obtain ⟨k,rfl⟩:=Int.eq_ofNat_of_zero_le hw0
     have hk:k<s2.length:=by simp only at hw1;omega
     simp only [Wr.enc] at hro
     have hlw:=ws.enc_len
     have honew:=ws.one
     have htkw:=ws.take64
     simp only [settleL,Int.toNat_natCast] at hse
     by_cases htk:t<kl.length
     ·have htkI:(t:Int)<kl.length:=by omega
      obtain ⟨bj,oj,vj,capj,exj,rfl⟩:=lst_sl hkl htk
      have hkc:=lstV_cell (lst_ext hkl hSM) rfl (fun a=>rfl) htk [.cells (.i .i64 (k:Int) :: ws.enc) 0 none true]
      have hgd:kl.getD t false=kl[t]:=by rw [List.getD_eq_getElem?_getD,List.getElem?_eq_getElem htk];rfl
      rw [hgd] at hse
      cases hkt:kl[t] with
      | true =>
       rw [hkt] at hkc hse
       rw [if_pos rfl] at hse
       obtain ⟨bq,vq,hy,M',hst,hA',_⟩:=hA.put hk ws
       have hst1:=hst [.cells (.i .i64 (k:Int) :: ws.enc) 0 none true]
       subst hy
       have hkI:(k:Int)<s2.length:=by omega
       simp (maxSteps:=1000000) (disch:=omega) only [c39l0,e5,e1,e13,e4,e2,e14,e15,htI,Int.toNat_natCast,hro,wrapS ht6,hlw,honew,htkw,hkn,htkI,Nat.mul_one,hkc,hkI,Nat.zero_add,hst1,go_sem]
       refine ⟨pe.length-(t+1),?_,t+1,s2.set k ws,_,?_,?_,hA'.grow _,?_,hse,?_,?_⟩
       ·omega
       ·rfl
       ·omega
       ·rw [List.length_set];exact hs2
       ·rfl
       ·rfl
      | false =>
       rw [hkt] at hkc hse
       rw [if_neg (by simp)] at hse
       simp (maxSteps:=1000000) (disch:=omega) only [c39l0,e5,e1,e13,e4,e2,e14,e15,htI,Int.toNat_natCast,hro,wrapS ht6,hlw,honew,htkw,hkn,htkI,Nat.mul_one,hkc,go_sem]
       refine ⟨pe.length-(t+1),?_,t+1,s2,y,?_,?_,hA.grow _,hs2,hse,?_,?_⟩
       ·omega
       ·rfl
       ·omega
       ·rfl
       ·rfl
     ·have htkI:¬ (t:Int)<kl.length:=by omega
      have hgd:kl.getD t false=false:=by rw [List.getD_eq_getElem?_getD,List.getElem?_eq_none (by omega)];rfl
      rw [hgd,if_neg (by simp)] at hse
      simp (maxSteps:=1000000) (disch:=omega) only [c39l0,e5,e1,e13,e4,e2,e14,e15,htI,Int.toNat_natCast,hro,wrapS ht6,hlw,honew,htkw,hkn,htkI,go_sem]
      refine ⟨pe.length-(t+1),?_,t+1,s2,y,?_,?_,hA.grow _,hs2,hse,?_,?_⟩
      ·omega
      ·rfl
      ·omega
      ·rfl
      ·rfl
    ·have htI:¬ (t:Int)<pe.length:=by omega
     rw [List.drop_of_length_le (by omega)] at hse
     have hse:s2=settleL (fun j=>kl.getD j false) 0 pe st:=hse
     have hst:(Rdk.settle ⟨st,pe,ct,left,down⟩ kl).st=s2:=by rw [hse];rfl
     rw [hst]
     have oy:=one_of_accG hA
     have cy:=cells_one oy
     have g0:=at_pre hA.ext hb0
     have g1:=at_pre hA.ext hb1
     obtain ⟨n1,n2,n3,n4,n5,n6⟩:=old_at g0
     have hne:∀ B B',((M.set S.length B).set (S.length+1) B')[S.length+1]? = some B':=fun B B'=>at_set (by rw [at_set_ne (by omega)];exact g1)
     have hne2:∀ B,(M.set S.length B)[S.length+1]? = some (.cells [.sn,.sn,.b false,.i .i64 0,.b false] 0 none true):=fun B=>by rw [at_set_ne (by omega)];exact g1
     simp (maxSteps:=1000000) (disch:=omega) only [c39l0,e5,e1,e13,e4,e2,e14,e15,htI,oy,cy,g0,n3,n6,hne,hne2,go_sem]
     exact (((hA.setL (i:=S.length) (by omega) _).setL (i:=S.length+1) (by rw [List.length_set];omega) _).base (ext_set (ext_set hSS (Nat.le_refl _) _) (by omega) _)).ret5 sec_flat Flat_sn Flat_b Flat_i Flat_b
   ·cases h
  ·cases h
 ·cases h
noncomputable def rCrashDS:Spec:=fun args S=>match args with
 | [.ag cs,kx]=>match rdkOf S cs,lstV boolE S kx with
  | some (R,sx,px),some kl=>open Classical in if wfP R.st.length R.pe∧kl.length≤140737488355328 then some (.ag [retX true S (R.settle kl).st,.sn,.b false,.i .i64 0,.b false],retM true secE S (R.settle kl).st) else none
  | _,_=>none
 | _=>none
theorem oRCr_ok:OK Tryz.prog (lamOf Tryz.prog) (orcOf [(39,rSetS)]):=orc_ok (by simpa using rset_ok)
theorem rcrashd_ok:SpecOK Tryz.prog 16 rCrashDS:=by
 intro args S x S' h
 simp only [rCrashDS] at h
 split at h
 ·rename_i cs kx
  split at h
  ·rename_i R sx px kl hR hkl
   split at h
   ·rename_i hcond
    cases h
    obtain ⟨rfl,hs,hp,hls,hlp⟩:=rdk_ok hR
    obtain ⟨o1,f1⟩:=lst_oneF hs
    obtain ⟨o2,f2⟩:=lst_oneF hp
    have c1:=cells_one o1
    have c2:=cells_one o2
    obtain ⟨Sx,hSx⟩:∃ Sx:Mem,Sx=S++[Blk.cells [sx,px,.b R.counted,.i .i64 R.left,.b R.down] 0 none true,.cells [.sn,.sn,.b false,.i .i64 0,.b false] 0 none true]:=⟨_,rfl⟩
    have hSS:S <+: Sx:=by rw [hSx];exact ext_app _
    have hSxl:Sx.length=S.length+2:=by rw [hSx,List.length_append];rfl
    have hcall:rSetS [.ag (R.cells sx px),kx] Sx=some (.ag [retX true Sx (R.settle kl).st,.sn,.b R.counted,.i .i64 R.left,.b R.down],retM true secE Sx (R.settle kl).st):=by
     simp only [rSetS,rdk_mk (lst_ext hs hSS) (lst_ext hp hSS) hls hlp,lst_ext hkl hSS]
     rw [if_pos hcond]
    have hb0:Sx[S.length]? = some (.cells [sx,px,.b R.counted,.i .i64 R.left,.b R.down] 0 none true):=by rw [hSx,at_app0];rfl
    have hb1:Sx[S.length+1]? = some (.cells [.sn,.sn,.b false,.i .i64 0,.b false] 0 none true):=by rw [hSx,at_app];rfl
    generalize (R.settle kl).st=l at *
    have hA:=retX_acc (z:=true) (E:=secE) (S:=Sx) (l:=l)
    generalize retX true Sx l=y at hcall hA
    generalize retM true secE Sx l=M at hcall hA
    have oy:=one_of_accG hA
    have cy:=cells_one oy
    have g0:=at_pre hA.ext hb0
    have g1:=at_pre hA.ext hb1
    obtain ⟨n1,n2,n3,n4,n5,n6⟩:=old_at g0
    have hne:∀ B B',((M.set S.length B).set (S.length+1) B')[S.length+1]? = some B':=fun B B'=>at_set (by rw [at_set_ne (by omega)];exact g1)
    have hne2:∀ B,(M.set S.length B)[S.length+1]? = some (.cells [.sn,.sn,.b false,.i .i64 0,.b false] 0 none true):=fun B=>by rw [at_set_ne (by omega)];exact g1
    rw [hSx] at hcall
    simp only [Rdk.cells] at hcall
    refine fn_of_wp f16 rfl (W_sound oRCr_ok mixed _ _ _ _ _ ?_)
    simp (maxSteps:=1000000) (disch:=omega) only [c16,Rdk.cells,o1,o2,c1,c2,orc_cons,hcall,oy,cy,g0,n3,n6,hne,hne2,go_sem]
    exact (((hA.setL (i:=S.length) (by omega) _).setL (i:=S.length+1) (by rw [List.length_set];omega) _).base (ext_set (ext_set hSS (Nat.le_refl _) _) (by omega) _)).ret5 sec_flat Flat_sn Flat_b Flat_i Flat_b
   ·cases h
  ·cases h
 ·cases h
def rNewS:Spec:=fun args S=>match args with
 | [.i .i64 n]=>some (.ag [retX false S (List.replicate (secsN n) zSec),.sn,.b false,.i .i64 0,.b false],retM false secE S (List.replicate (secsN n) zSec))
 | _=>none
theorem rnew_ok:SpecOK Tryz.prog 7 rNewS:=by
 intro args S x S' h
 simp only [rNewS] at h
 split at h
 ·rename_i n
  cases h
  refine fn_of_wp f7 rfl (W_sound none_ok mixed _ _ _ _ _ ?_)
  simp (maxSteps:=1000000) (disch:=omega) only [c7,go_sem]
  have hN:((secsN n:Nat):Int)=max 0 (min n 512):=by unfold secsN;omega
  generalize secsN n=N at *
  refine wp_loop (fun j e M dl=>dl=[]∧∃ (k:Nat) (y:AV),j=N-k∧k≤N∧Acc false secE S M y (List.replicate k zSec)∧M[S.length]? = some (.cells [.sn,.sn,.b false,.i .i64 0,.b false] 0 none true) ∧
   M[S.length+1]? = some (.cells [y,.sn,.b false,.i .i64 0,.b false] 0 none true)∧e.get 3 = .p (S.length+1) 0 0∧e.get 2 = .p S.length 0 0∧e.get 0 = .i .i64 n∧e.get 4 = .i .i64 k) (j:=N)
   ⟨rfl,0,.sn,rfl,Nat.zero_le _,acc_nil (ext_app _),(by rw [at_app0];rfl),(by rw [at_app];rfl),rfl,rfl,rfl,rfl⟩ ?_
  rintro j e M d' ⟨rfl,k,y,rfl,hk,hA,hb0,hb1,e3,e2,e0,e4⟩
  refine W_sound none_ok mixed _ _ _ _ _ ?_
  have oy:=one_of_accG hA
  have cy:=cells_one oy
  by_cases hkN:k<N
  ·have h1:(k:Int)<n:=by omega
   have h2:(k:Int)<512:=by omega
   have hk6:k<1000000:=by omega
   have hlr:(List.replicate k zSec).length=k:=List.length_replicate
   obtain ⟨y',M',ha,hA',hkp⟩:=(hA.grow [.cells zSec.enc 0 none true]).app' (bytes:=64) secE_one zSec (by omega) (by omega)
   have ha:appV (M++[.cells zSec.enc 0 none true]) 64 64 y zSec.enc 1=some (y',M'):=ha
   have hsrc:srcV (M++[.cells zSec.enc 0 none true]) 64 (.sl M.length 0 0 1 1 true)=some (zSec.enc,1):=by
    rw [src_sl,at_app0];rfl
   have hrep:List.replicate k zSec++[zSec]=List.replicate (k+1) zSec:=by rw [List.replicate_succ']
   rw [hrep] at hA'
   have oy':=one_of_accG hA'
   have cy':=cells_one oy'
   have g0:=hkp _ _ (at_old hb0) rfl
   have g1:=hkp _ _ (at_old hb1) rfl
   obtain ⟨n1,n2,n3,n4,n5,n6⟩:=old_at g1
   rw [zSec_enc] at ha hsrc
   simp (maxSteps:=1000000) (disch:=omega) only [c7l0,e3,e2,e0,e4,h1,h2,hb1,List.replicate,hsrc,ha,oy',cy',g1,n3,wrapS hk6,go_sem]
   refine ⟨N-(k+1),?_,k+1,y',?_,?_,hA'.setB (by omega) g1 rfl _,?_,?_,?_⟩
   ·omega
   ·rfl
   ·omega
   ·rw [at_set_ne (by omega)];exact g0
   ·first | exact n3 _ | rfl
   ·rfl
  ·obtain rfl:k=N:=by omega
   obtain ⟨n1,n2,n3,n4,n5,n6⟩:=old_at hb0
   by_cases h1:(k:Int)<n
   ·have h2:¬ (k:Int)<512:=by omega
    simp (maxSteps:=1000000) (disch:=omega) only [c7l0,e3,e2,e0,e4,h1,h2,hb0,hb1,oy,cy,n3,go_sem]
    exact (hA.setB (Nat.le_refl _) hb0 rfl _).ret5 sec_flat Flat_sn Flat_b Flat_i Flat_b
   ·simp (maxSteps:=1000000) (disch:=omega) only [c7l0,e3,e2,e0,e4,h1,hb0,hb1,oy,cy,n3,go_sem]
    exact (hA.setB (Nat.le_refl _) hb0 rfl _).ret5 sec_flat Flat_sn Flat_b Flat_i Flat_b
 ·cases h
theorem wrE_one (w:Wr):(wrE.enc w).all AV.one=true:=Wr.one w
theorem wr_flat:∀ (n:Nat) (w:Wr),∀ c∈wrE.enc w,AV.Flat n c:=fun n w c hc=>by
 have hc:c∈AV.i .i64 w.at_ :: w.sec.enc:=hc
 rcases List.mem_cons.1 hc with rfl | hc
 ·exact Flat_i
 ·exact w.sec.flat n c hc
theorem Acc.retP {α:Type} {z:Bool} {E:Enc α} {S M:Mem} {s b c d x e:AV} {l:List α} (hF:∀ n a,∀ c∈E.enc a,AV.Flat n c) (h:Acc z E S M x l) (hs:AV.Flat S.length s) (hb:AV.Flat S.length b) (hc:AV.Flat S.length c) (hd:AV.Flat S.length d) (he:AV.Flat S.length e) :
  WkV S (.tu [.ag [s,retX z S l,b,c,d],e]) (retM z E S l) (.tu [.ag [s,x,b,c,d],e]) M:=by
 obtain ⟨keep,T,rfl,h1,h2,h3,h4⟩:=h.keep hF
 have:=wkv_keep (S0:=S) (L:=T) (y:=.tu [.ag [s,x,b,c,d],e]) keep h1 h2
 rw [ren_tu,renL_cons,renL_cons,renL_nil,ren_ag,renL_cons,renL_cons,renL_cons,renL_cons,renL_cons,renL_nil,h3,h4,hs,hb,hc,hd,he] at this
 exact this
theorem Acc.retQ {α:Type} {z:Bool} {E:Enc α} {S M:Mem} {a b c d x e:AV} {l:List α} (hF:∀ n a,∀ c∈E.enc a,AV.Flat n c) (h:Acc z E S M x l) (hs:AV.Flat S.length a) (hb:AV.Flat S.length b) (hc:AV.Flat S.length c) (hd:AV.Flat S.length d) (he:AV.Flat S.length e) :
  WkV S (.tu [.ag [retX z S l,a,b,c,d],e]) (retM z E S l) (.tu [.ag [x,a,b,c,d],e]) M:=by
 obtain ⟨keep,T,rfl,h1,h2,h3,h4⟩:=h.keep hF
 have:=wkv_keep (S0:=S) (L:=T) (y:=.tu [.ag [x,a,b,c,d],e]) keep h1 h2
 rw [ren_tu,renL_cons,renL_cons,renL_nil,ren_ag,renL_cons,renL_cons,renL_cons,renL_cons,renL_cons,renL_nil,h3,h4,hs,hb,hc,hd,he] at this
 exact this
def putOut (S:Mem) (R:Rdk) (sx px:AV) (k:Int) (s:Sec):AV × Mem :=
 if 0≤k∧k<R.st.length then
  (if R.act.1=0 then (.tu [.ag [sx,retX true S (R.pe++[⟨k,s⟩]),.b R.act.2.counted,.i .i64 R.act.2.left,.b R.act.2.down],.i .i64 0],retM true wrE S (R.pe++[⟨k,s⟩]))
   else (.tu [.ag (R.act.2.cells sx px),.i .i64 R.act.1],S))
 else (.tu [.ag (R.cells sx px),.i .i64 71],S)
def rPutS:Spec:=fun args S=>match args with
 | [.ag cs,.i .i64 k,.ag ss]=>match rdkOf S cs,Sec.dec ss with
  | some (R,sx,px),some s=>if R.fit then some (putOut S R sx px k s) else none
  | _,_=>none
 | _=>none
theorem oRPu_ok:OK Tryz.prog (lamOf Tryz.prog) (orcOf [(36,rActS)]):=orc_ok (by simpa using ract_ok)
set_option maxHeartbeats 1000000 in
theorem rput7_ok:SpecOK Tryz.prog 12 rPutS:=by
 intro args S x S' h
 simp only [rPutS] at h
 split at h
 ·rename_i cs k ss
  split at h
  ·rename_i R sx px s hR hsd
   split at h
   ·rename_i hlim
    injection h with h
    unfold putOut at h
    obtain rfl:=Sec.ed hsd
    obtain ⟨rfl,hs,hp,hls,hlp⟩:=rdk_ok hR
    obtain ⟨o1,f1⟩:=lst_oneF hs
    obtain ⟨o2,f2⟩:=lst_oneF hp
    have c1:=cells_one o1
    have c2:=cells_one o2
    have hsl:=lst_len hs
    have hl64:=s.enc_len
    have hone:=s.one
    have htk:=s.take64
    have hact:∀ U:Mem,S <+: U→rActS [.ag [sx,px,.b R.counted,.i .i64 R.left,.b R.down]] U=some (.tu [.ag [sx,px,.b R.act.2.counted,.i .i64 R.act.2.left,.b R.act.2.down],.i .i64 R.act.1],U):=fun U hU=>by
     have:=rdk_mk (lst_ext hs hU) (lst_ext hp hU) hls hlp
     simp only [Rdk.cells] at this
     simp only [rActS,this]
     rw [if_pos hlim];rfl
    refine fn_of_wp f12 rfl (W_sound oRPu_ok mixed _ _ _ _ _ ?_)
    by_cases hk0:k<0
    ·rw [if_neg (by omega)] at h
     obtain ⟨rfl,rfl⟩:=Prod.mk.inj h
     simp (maxSteps:=1000000) (disch:=omega) only [c12,Rdk.cells,o1,o2,c1,c2,hl64,hone,htk,hk0,go_sem]
     exact wkv_drop (flat_ag5 f1 f2 Flat_b Flat_i Flat_b Flat_i)
    ·by_cases hkn:k<R.st.length
     ·rw [if_pos ⟨by omega,hkn⟩] at h
      have hge:¬ (R.st.length:Int)≤k:=by omega
      have ha1:=hact (S++[.cells [sx,px,.b R.counted,.i .i64 R.left,.b R.down] 0 none true,.cells s.enc 0 none true,.cells [.sn,.sn,.b false,.i .i64 0,.b false] 0 none true]) (ext_app _)
      generalize hac:R.act=A at *
      obtain ⟨e,R'⟩:=A
      simp only at h ha1
      by_cases he:e=0
      ·rw [if_pos he] at h
       obtain ⟨rfl,rfl⟩:=Prod.mk.inj h
       subst he
       obtain ⟨Sx,hSx⟩:∃ Sx:Mem,Sx=S++[Blk.cells [sx,px,.b R'.counted,.i .i64 R'.left,.b R'.down] 0 none true,.cells s.enc 0 none true,.cells [.sn,.sn,.b false,.i .i64 0,.b false] 0 none true]:=⟨_,rfl⟩
       have hSS:S <+: Sx:=by rw [hSx];exact ext_app _
       have hSxl:Sx.length=S.length+3:=by rw [hSx,List.length_append];rfl
       have hb0:Sx[S.length]? = some (.cells [sx,px,.b R'.counted,.i .i64 R'.left,.b R'.down] 0 none true):=by rw [hSx,at_app0];rfl
       have hb1:Sx[S.length+1]? = some (.cells s.enc 0 none true):=by rw [hSx,at_app];rfl
       have hb2:Sx[S.length+2]? = some (.cells [.sn,.sn,.b false,.i .i64 0,.b false] 0 none true):=by rw [hSx,at_app];rfl
       have hA0:Acc true wrE Sx (Sx++[.cells [] 0 none true]) (.sl Sx.length 0 0 0 0 true) []:=acc_lit ext_refl
       obtain ⟨y1,M1,ha2,hA1⟩:=hA0.apps (bytes:=72) wrE_one R.pe (by simp only [List.length_nil];omega) (by simp only [List.length_nil];omega)
       rw [List.nil_append] at hA1
       have ha2:appV (Sx++[.cells [] 0 none true]) 65 72 (.sl Sx.length 0 0 0 0 true) (R.pe.flatMap wrE.enc) R.pe.length=some (y1,M1):=ha2
       have hsrc1:=src_lst (lst_ext hp (ext_more hSS [.cells [] 0 none true]))
       have hsrc1:srcV (Sx++[.cells [] 0 none true]) 65 px=some (R.pe.flatMap wrE.enc,R.pe.length):=hsrc1
       have hSxa:S++[Blk.cells [sx,px,.b R'.counted,.i .i64 R'.left,.b R'.down] 0 none true,.cells s.enc 0 none true,.cells [.sn,.sn,.b false,.i .i64 0,.b false] 0 none true,.cells [] 0 none true]=Sx++[.cells [] 0 none true]:=by rw [hSx,List.append_assoc];rfl
       rw [←hSxa,hSxl] at ha2
       rw [←hSxa] at hsrc1
       obtain ⟨y2,M2,ha3,hA2⟩:=(hA1.grow [.cells (.i .i64 k :: s.enc) 0 none true]).app (bytes:=72) wrE_one ⟨k,s⟩ (by omega) (by omega)
       have ha3:appV (M1++[.cells (.i .i64 k :: s.enc) 0 none true]) 65 72 y1 (.i .i64 k :: s.enc) 1=some (y2,M2):=ha3
       have hsrc2:srcV (M1++[.cells (.i .i64 k :: s.enc) 0 none true]) 65 (.sl M1.length 0 0 1 1 true)=some (.i .i64 k :: s.enc,1):=by
        rw [src_sl,at_app0]
        show srcN 1 (rowB (some (Blk.cells (.i .i64 k :: s.enc) 0 none true)) 0 0 (1 * 65))=_
        rw [rowB_some,if_pos (by rw [List.length_cons,hl64];omega),List.drop_zero,List.take_of_length_le (by rw [List.length_cons,hl64];omega)];rfl
       have oy:=one_of_accG hA2
       have cy:=cells_one oy
       have g1:=at_pre hA1.ext hb1
       have g0:=at_pre hA2.ext hb0
       have g2:=at_pre hA2.ext hb2
       obtain ⟨n1,n2,n3,n4,n5,n6⟩:=old_at g0
       have hne:∀ B B',((M2.set S.length B).set (S.length+2) B')[S.length+2]? = some B':=fun B B'=>at_set (by rw [at_set_ne (by omega)];exact g2)
       have hne2:∀ B,(M2.set S.length B)[S.length+2]? = some (.cells [.sn,.sn,.b false,.i .i64 0,.b false] 0 none true):=fun B=>by rw [at_set_ne (by omega)];exact g2
       have hl65:(AV.i .i64 k :: s.enc).length=65:=by rw [List.length_cons,hl64]
       simp (maxSteps:=1000000) (disch:=omega) only [c12,Rdk.cells,o1,o2,c1,c2,hl64,hone,htk,hk0,hsl,hge,orc_cons,ha1,List.replicate,hsrc1,ha2,g1,hsrc2,ha3,oy,cy,g0,n3,n6,hne,hne2,List.append_nil,go_sem]
       exact (((hA2.setL (i:=S.length) (by omega) _).setL (i:=S.length+2) (by rw [List.length_set];omega) _).base (ext_set (ext_set hSS (Nat.le_refl _) _) (by omega) _)).retP wr_flat f1 Flat_b Flat_i Flat_b Flat_i
      ·rw [if_neg he] at h
       obtain ⟨rfl,rfl⟩:=Prod.mk.inj h
       simp (maxSteps:=1000000) (disch:=omega) only [c12,Rdk.cells,o1,o2,c1,c2,hl64,hone,htk,hk0,hsl,hge,orc_cons,ha1,he,go_sem]
       exact wkv_drop (flat_ag5 f1 f2 Flat_b Flat_i Flat_b Flat_i)
     ·have hge:(R.st.length:Int)≤k:=by omega
      rw [if_neg (by omega)] at h
      obtain ⟨rfl,rfl⟩:=Prod.mk.inj h
      simp (maxSteps:=1000000) (disch:=omega) only [c12,Rdk.cells,o1,o2,c1,c2,hl64,hone,htk,hk0,hsl,hge,go_sem]
      exact wkv_drop (flat_ag5 f1 f2 Flat_b Flat_i Flat_b Flat_i)
   ·cases h
  ·cases h
 ·cases h
theorem rslot_ok:SpecOK Tryz.prog 32 aSlotS:=by
 intro args S x S' h
 simp only [aSlotS] at h
 split at h
 ·rename_i g
  split at h
  ·rename_i hg
   cases h
   refine fn_of_wp f32 rfl (W_sound none_ok mixed _ _ _ _ _ ?_)
   have h1:binV .int true .rem (.i .u64 g) (.i .u64 2)=some (.i .u64 (g % 2)):=bin_rem_pos hg (by omega)
   unfold slotF
   by_cases h0:g % 2=0
   ·rw [h0]
    simp (maxSteps:=1000000) (disch:=omega) only [c32,h1,h0,go_sem]
    exact wkv_same
   ·have h2:g % 2=1:=by omega
    rw [h2]
    simp (maxSteps:=1000000) (disch:=omega) only [c32,h1,h2,go_sem]
    exact wkv_same
  ·cases h
 ·cases h
noncomputable def syncOut (S:Mem) (R:Rdk) (sx px:AV):AV × Mem :=
 if R.act.1=0 then (.tu [.ag [retX true S (R.act.2.settle (List.replicate R.pe.length true)).st,.sn,.b R.act.2.counted,.i .i64 R.act.2.left,.b R.act.2.down],.i .i64 0],retM true secE S (R.act.2.settle (List.replicate R.pe.length true)).st)
 else (.tu [.ag (R.act.2.cells sx px),.i .i64 R.act.1],S)
noncomputable def rSyncS:Spec:=fun args S=>match args with
 | [.ag cs]=>match rdkOf S cs with
  | some (R,sx,px)=>open Classical in if R.fit∧wfP R.st.length R.pe then some (syncOut S R sx px) else none
  | none=>none
 | _=>none
theorem oRSy_ok:OK Tryz.prog (lamOf Tryz.prog) (orcOf [(36,rActS),(39,rSetS)]):=orc_ok (by simpa using ⟨ract_ok,rset_ok⟩)
theorem boolE_one (b:Bool):(boolE.enc b).all AV.one=true:=rfl
theorem act_same (R:Rdk):R.act.2.st=R.st∧R.act.2.pe=R.pe:=by
 unfold Rdk.act
 split
 ·exact ⟨rfl,rfl⟩
 ·split
  ·exact ⟨rfl,rfl⟩
  ·exact ⟨rfl,rfl⟩
set_option maxHeartbeats 1000000 in
theorem rsync_ok:SpecOK Tryz.prog 33 rSyncS:=by
 intro args S x S' h
 simp only [rSyncS] at h
 split at h
 ·rename_i cs
  split at h
  ·rename_i R sx px hR
   split at h
   ·rename_i hcond
    obtain ⟨hlim,hwf⟩:=hcond
    injection h with h
    unfold syncOut at h
    obtain ⟨rfl,hs,hp,hls,hlp⟩:=rdk_ok hR
    obtain ⟨o1,f1⟩:=lst_oneF hs
    obtain ⟨o2,f2⟩:=lst_oneF hp
    have c1:=cells_one o1
    have c2:=cells_one o2
    have hpl:=lst_len hp
    have hact:∀ U:Mem,S <+: U→rActS [.ag [sx,px,.b R.counted,.i .i64 R.left,.b R.down]] U=some (.tu [.ag [sx,px,.b R.act.2.counted,.i .i64 R.act.2.left,.b R.act.2.down],.i .i64 R.act.1],U):=fun U hU=>by
     have:=rdk_mk (lst_ext hs hU) (lst_ext hp hU) hls hlp
     simp only [Rdk.cells] at this
     simp only [rActS,this]
     rw [if_pos hlim];rfl
    have ha1:=hact (S++[.cells [sx,px,.b R.counted,.i .i64 R.left,.b R.down] 0 none true,.cells [.sn,.sn,.b false,.i .i64 0,.b false] 0 none true]) (ext_app _)
    obtain ⟨as1,as2⟩:=act_same R
    generalize hac:R.act=A at *
    obtain ⟨e,R'⟩:=A
    simp only at h ha1 as1 as2
    refine fn_of_wp f33 rfl (W_sound oRSy_ok mixed _ _ _ _ _ ?_)
    by_cases he:e=0
    ·rw [if_pos he] at h
     obtain ⟨rfl,rfl⟩:=Prod.mk.inj h
     subst he
     obtain ⟨Sx,hSx⟩:∃ Sx:Mem,Sx=S++[Blk.cells [sx,px,.b R'.counted,.i .i64 R'.left,.b R'.down] 0 none true,.cells [.sn,.sn,.b false,.i .i64 0,.b false] 0 none true]:=⟨_,rfl⟩
     have hSS:S <+: Sx:=by rw [hSx];exact ext_app _
     have hSxl:Sx.length=S.length+2:=by rw [hSx,List.length_append];rfl
     have hb0:Sx[S.length]? = some (.cells [sx,px,.b R'.counted,.i .i64 R'.left,.b R'.down] 0 none true):=by rw [hSx,at_app0];rfl
     have hb1:Sx[S.length+1]? = some (.cells [.sn,.sn,.b false,.i .i64 0,.b false] 0 none true):=by rw [hSx,at_app];rfl
     have hSxa:S++[Blk.cells [sx,px,.b R'.counted,.i .i64 R'.left,.b R'.down] 0 none true,.cells [.sn,.sn,.b false,.i .i64 0,.b false] 0 none true,.cells [] 0 none true]=Sx++[.cells [] 0 none true]:=by rw [hSx,List.append_assoc];rfl
     simp (maxSteps:=1000000) (disch:=omega) only [c33,Rdk.cells,o1,o2,c1,c2,orc_cons,ha1,List.replicate,hpl,go_sem]
     rw [hSxa]
     refine wp_loop (fun j e M dl=>dl=[]∧∃ (k:Nat) (y:AV),j=R.pe.length-k∧k≤R.pe.length∧Acc true boolE Sx M y (List.replicate k true)∧e.get 2 = .p (S.length+1) 0 0∧e.get 1 = .p S.length 0 0∧e.get 18 = .i .i64 R.pe.length∧e.get 19 = .i .i64 k∧e.get 5=y) (j:=R.pe.length)
      ⟨rfl,0,.sl Sx.length 0 0 0 0 true,rfl,Nat.zero_le _,acc_lit ext_refl,rfl,rfl,rfl,rfl,by rw [hSxl];rfl⟩ ?_
     rintro j e M d' ⟨rfl,k,y,rfl,hk,hA,e2,e1,e18,e19,e5⟩
     refine W_sound oRSy_ok mixed _ _ _ _ _ ?_
     have hlr:(List.replicate k true).length=k:=List.length_replicate
     by_cases hkm:k<R.pe.length
     ·have hkI:(k:Int)<R.pe.length:=by omega
      have hk6:k<1000000:=by omega
      obtain ⟨y',M',ha,hA'⟩:=(hA.grow [.cells [.b true] 0 none true]).app (bytes:=1) boolE_one true (by omega) (by omega)
      have ha:appV (M++[.cells [.b true] 0 none true]) 1 1 y [.b true] 1=some (y',M'):=ha
      have hsrc:srcV (M++[.cells [.b true] 0 none true]) 1 (.sl M.length 0 0 1 1 true)=some ([.b true],1):=by
       rw [src_sl,at_app0];rfl
      have hrep:List.replicate k true++[true]=List.replicate (k+1) true:=by rw [List.replicate_succ']
      rw [hrep] at hA'
      simp (maxSteps:=1000000) (disch:=omega) only [c33l0,e2,e1,e18,e19,e5,hkI,List.replicate,hsrc,ha,wrapS hk6,go_sem]
      refine ⟨R.pe.length-(k+1),?_,k+1,y',?_,?_,hA',?_,?_⟩
      ·omega
      ·rfl
      ·omega
      ·rfl
      ·rfl
     ·obtain rfl:k=R.pe.length:=by omega
      have hkI:¬ (R.pe.length:Int)<R.pe.length:=by omega
      have hSM:=hSS.trans hA.ext
      have g0:=at_pre hA.ext hb0
      have hcall:rSetS [.ag [sx,px,.b R'.counted,.i .i64 R'.left,.b R'.down],y] M=some (.ag [retX true M (R'.settle (List.replicate R.pe.length true)).st,.sn,.b R'.counted,.i .i64 R'.left,.b R'.down],retM true secE M (R'.settle (List.replicate R.pe.length true)).st):=by
       have:=rdk_mk (R:=R') (by rw [as1];exact lst_ext hs hSM) (by rw [as2];exact lst_ext hp hSM) (by rw [as1];exact hls) (by rw [as2];exact hlp)
       simp only [Rdk.cells] at this
       simp only [rSetS,this,hA.lst]
       rw [if_pos ⟨by rw [as1,as2];exact hwf,by omega⟩]
      generalize (R'.settle (List.replicate R.pe.length true)).st=l at *
      have hB:=retX_acc (z:=true) (E:=secE) (S:=M) (l:=l)
      generalize retX true M l=z at hcall hB
      generalize retM true secE M l=M5 at hcall hB
      have oz:=one_of_accG hB
      have cz:=cells_one oz
      have g1:=at_pre (hA.ext.trans hB.ext) hb1
      have n3:=fun B'=>at_set (B':=B') g1
      have h1M:S.length+1<M.length:=(List.getElem?_eq_some_iff.1 (at_pre hA.ext hb1)).1
      simp (maxSteps:=1000000) (disch:=omega) only [c33l0,e2,e1,e18,e19,e5,hkI,g0,orc_cons,hcall,oz,cz,g1,n3,go_sem]
      exact ((hB.setL (i:=S.length+1) h1M _).base (ext_set hSM (by omega) _)).retQ sec_flat Flat_sn Flat_b Flat_i Flat_b Flat_i
    ·rw [if_neg he] at h
     obtain ⟨rfl,rfl⟩:=Prod.mk.inj h
     simp (maxSteps:=1000000) (disch:=omega) only [c33,Rdk.cells,o1,o2,c1,c2,orc_cons,ha1,he,go_sem]
     exact wkv_drop (flat_ag5 f1 f2 Flat_b Flat_i Flat_b Flat_i)
   ·cases h
  ·cases h
 ·cases h
def Rdk.put (R:Rdk) (k:Int) (s:Sec):Int × Rdk:=if 0≤k∧k<R.st.length then (if R.act.1=0 then (0,{ R.act.2 with pe:=R.pe++[⟨k,s⟩] }) else R.act) else (71,R)
def Rdk.sync (R:Rdk):Int × Rdk:=if R.act.1=0 then (0,R.act.2.settle (List.replicate R.pe.length true)) else R.act
def Rdk.wrs (first:Int):List Sec→Nat→Rdk→Int × Rdk
 | [],_,R=>R.sync
 | s :: l,k,R=>if (R.put (first+k) s).1=0 then Rdk.wrs first l (k+1) (R.put (first+k) s).2 else R.put (first+k) s
noncomputable def Rdk.write (R:Rdk) (c:Chk):Int × Rdk:=if c.ok R.st.length then Rdk.wrs (slotF c.gen) c.secs 0 R else (141,R)
noncomputable def wOut (S:Mem) (R:Rdk) (sx px:AV) (r:Int × Rdk):AV × Mem :=
 if r.1=0 then (.tu [.ag [retX true S r.2.st,.sn,.b r.2.counted,.i .i64 r.2.left,.b r.2.down],.i .i64 0],retM true secE S r.2.st)
 else if r.2.pe.length=R.pe.length then (.tu [.ag (r.2.cells sx px),.i .i64 r.1],S)
 else (.tu [.ag [sx,retX true S r.2.pe,.b r.2.counted,.i .i64 r.2.left,.b r.2.down],.i .i64 r.1],retM true wrE S r.2.pe)
noncomputable def rWriteS:Spec:=fun args S=>match args with
 | [.ag cs,.ag ck]=>match rdkOf S cs,chkOf S ck with
  | some (R,sx,px),some c=>open Classical in if R.fit∧wfP R.st.length R.pe∧R.pe.length≤90000∧c.good then some (wOut S R sx px (R.write c)) else none
  | _,_=>none
 | _=>none
theorem wfP_snoc {n:Nat} {pe:List Wr} {k:Int} {s:Sec} (h:wfP n pe) (hk:0≤k∧k<n):wfP n (pe++[⟨k,s⟩]):=by
 intro w hw
 rcases List.mem_append.1 hw with hw | hw
 ·exact h w hw
 ·rw [List.mem_singleton.1 hw];exact hk
theorem oRWr_ok:OK Tryz.prog (lamOf Tryz.prog) (orcOf [(22,rrecordS),(31,rmakeS),(32,aSlotS),(12,rPutS),(33,rSyncS)]):=orc_ok (by simpa using ⟨rrecord_ok,rmake_ok,rslot_ok,rput7_ok,rsync_ok⟩)
set_option maxHeartbeats 2000000 in
theorem rwrite_ok:SpecOK Tryz.prog 10 rWriteS:=by
 intro args S x S' h
 simp only [rWriteS] at h
 split at h
 ·rename_i cs ck
  split at h
  ·rename_i R sx px c hR hck
   split at h
   ·rename_i hcond
    obtain ⟨hfit,hwf,hpe9,hg⟩:=hcond
    injection h with h
    obtain ⟨rfl,hs,hp,hls,hlp⟩:=rdk_ok hR
    obtain ⟨o1,f1⟩:=lst_oneF hs
    obtain ⟨o2,f2⟩:=lst_oneF hp
    have c1:=cells_one o1
    have c2:=cells_one o2
    have hsl:=lst_len hs
    obtain ⟨xe,rfl,hle⟩:=chkOf_ok hck
    obtain ⟨o3,f3⟩:=lst_oneF hle
    have c3:=cells_one o3
    obtain ⟨b0,hb0⟩:∃ b0:Blk,b0 = .cells [sx,px,.b R.counted,.i .i64 R.left,.b R.down] 0 none true:=⟨_,rfl⟩
    obtain ⟨b1,hb1⟩:∃ b1:Blk,b1 = .cells [.i .u64 c.gen,.i .u32 c.epoch,.i .u64 c.seq,.i .i64 c.seg,.i .u64 c.book.period,xe] 0 none true:=⟨_,rfl⟩
    obtain ⟨b2,hb2⟩:∃ b2:Blk,b2 = .cells [.sn,.sn,.b false,.i .i64 0,.b false] 0 none true:=⟨_,rfl⟩
    obtain ⟨Sx,hSx⟩:∃ Sx:Mem,Sx=S++[b0,b1,b2]:=⟨_,rfl⟩
    have hSS:S <+: Sx:=by rw [hSx];exact ext_app _
    have hrec:rrecordS [.i .i64 (R.st.length:Int),.ag [.i .u64 c.gen,.i .u32 c.epoch,.i .u64 c.seq,.i .i64 c.seg,.i .u64 c.book.period,xe]] Sx=some (recordF Sx R.st.length c):=by
     simp only [rrecordS,chkOf_mk (lst_ext hle hSS)]
     rw [if_pos hg]
    refine fn_of_wp f10 rfl (W_sound oRWr_ok mixed _ _ _ _ _ ?_)
    by_cases ho:c.ok R.st.length
    ·have hw:R.write c=Rdk.wrs (slotF c.gen) c.secs 0 R:=if_pos ho
     rw [hw] at h
     have hmany:=Chk.many_eq hg ho
     have hplen:=Chk.pay_len hg ho
     have hpne:=Chk.pay_ne (c:=c)
     obtain ⟨hm1,hm2,hm3,hm4⟩:=hmany
     have hg0:¬ c.gen=0:=by have:=ho.2.1.1;omega
     have hgp:0≤c.gen:=by have:=ho.2.1.1;omega
     have hn64:64≤(R.st.length:Int):=by have:=of_decide_eq_false ho.1;omega
     simp only [recordF,if_pos ho] at hrec
     rw [retX_ne hpne,retM_ne hpne,enc_by] at hrec
     obtain ⟨bp,hbp⟩:∃ bp:Blk,bp = .cells (c.pay.map byV) 0 (some 1) true:=⟨_,rfl⟩
     obtain ⟨br,hbr⟩:∃ br:Blk,br = .cells [.i .u64 c.gen,.i .u32 c.epoch,.sl (S.length+3) 0 0 c.pay.length c.pay.length false] 0 none true:=⟨_,rfl⟩
     have hSxl:Sx.length=S.length+3:=by rw [hSx,List.length_append];rfl
     rw [hSxl] at hrec
     have hrec:rrecordS [.i .i64 (R.st.length:Int),.ag [.i .u64 c.gen,.i .u32 c.epoch,.i .u64 c.seq,.i .i64 c.seg,.i .u64 c.book.period,xe]] (S++[b0,b1,b2])=some (.tu [.ag [.i .u64 c.gen,.i .u32 c.epoch,.sl (S.length+3) 0 0 c.pay.length c.pay.length false],.i .i64 0],S++[b0,b1,b2,bp]):=by
      rw [←hSx,hrec,hbp,hSx,List.append_assoc];rfl
     have hpu:c.pay.all (fun c=>decide (u8 c))=true:=by
      have hrv:recV R.st.length c=(c.gen,c.epoch,c.pay,0):=if_pos ho
      obtain ⟨_,_,_,_,_,_,v5⟩:=record_val S hg hrv
      exact v5
     obtain ⟨M0,hM0⟩:∃ M0:Mem,M0=S++[b0,b1,b2,bp,br]:=⟨_,rfl⟩
     have hM0l:M0.length=S.length+5:=by rw [hM0,List.length_append];rfl
     have hsne:c.secs≠[]:=by
      intro q
      have:=Chk.secs_len (c:=c)
      rw [q] at this;simp at this;omega
     have hmk:rmakeS [.ag [.i .u64 c.gen,.i .u32 c.epoch,.sl (S.length+3) 0 0 c.pay.length c.pay.length false]] M0=some (.tu [.sl (S.length+5) 0 0 c.many c.many false,.i .i64 0],M0++[.cells (c.secs.flatMap secE.enc) 0 (some 64) true]):=by
      have l1:lstV byteE M0 (.sl (S.length+3) 0 0 c.pay.length c.pay.length false)=some c.pay:=lits_lst (E:=byteE) (cs:=c.pay.map byV) (op:=some 1) (by rw [hM0,at_app,←hbp];rfl) (enc_by c.pay).symm rfl
      simp only [rmakeS,l1]
      have hse:secsF (sizeF (c.pay.length:Int)).toNat (frameB c.gen c.epoch c.pay)=c.secs:=rfl
      rw [if_pos ⟨by omega,rfl,hg.1,hg.2.1,hpu⟩,if_neg (not_or.2 ⟨by omega,hg0⟩),hse,retX_ne hsne,retM_ne hsne,Chk.secs_len,hM0l];rfl
     have hsl8:∀ U,aSlotS [.i .u64 c.gen] U=some (.i .i64 (slotF c.gen),U):=fun U=>by simp only [aSlotS];rw [if_pos hgp]
     have hfst:0≤slotF c.gen∧slotF c.gen≤16:=by unfold slotF;omega
     generalize slotF c.gen=first at hsl8 h hfst
     obtain ⟨bs,hbs⟩:∃ bs:Blk,bs = .cells (c.secs.flatMap secE.enc) 0 (some 64) true:=⟨_,rfl⟩
     rw [←hbs] at hmk
     have hLl:=Chk.secs_len (c:=c)
     generalize c.secs=L at h hLl hbs
     rw [hM0] at hmk
     rw [hbr] at hmk
     have hmk:rmakeS [.ag [.i .u64 c.gen,.i .u32 c.epoch,.sl (S.length+3) 0 0 c.pay.length c.pay.length false]] (S++[b0,b1,b2,bp,.cells [.i .u64 c.gen,.i .u32 c.epoch,.sl (S.length+3) 0 0 c.pay.length c.pay.length false] 0 none true])=some (.tu [.sl (S.length+5) 0 0 c.many c.many false,.i .i64 0],S++[b0,b1,b2,bp,.cells [.i .u64 c.gen,.i .u32 c.epoch,.sl (S.length+3) 0 0 c.pay.length c.pay.length false] 0 none true,bs]):=by rw [hmk,List.append_assoc];rfl
     generalize c.many=m at *
     rw [hb0,hb1,hb2] at hrec hmk
     simp (maxSteps:=1000000) (disch:=omega) only [c10,Rdk.cells,o1,o2,o3,c1,c2,c3,hsl,orc_cons,hrec,hmk,go_sem]
     have hb1':=hb1
     have hb2':=hb2
     obtain ⟨r,hr⟩:∃ r,r=Rdk.wrs first L 0 R:=⟨_,rfl⟩
     rw [←hr] at h
     have hSS6:∀ U:Mem,S <+: S++U:=fun U=>ext_app _
     refine wp_loop (fun j e M dl=>dl=[]∧∃ (k:Nat) (Rk:Rdk) (y:AV),j=m-k∧k≤m∧Rdk.wrs first (L.drop k) k Rk=r∧S <+: M∧Rk.fit∧wfP R.st.length Rk.pe∧Rk.st=R.st∧Rk.pe.length=R.pe.length+k ∧
      ((k=0∧y=px∧Rk.pe=R.pe)∨(0<k∧∃ i,y = .sl i 0 0 Rk.pe.length Rk.pe.length false∧S.length+3≤i∧M[i]? = some (.cells (Rk.pe.flatMap wrE.enc) 0 (some 65) true))) ∧
      M[S.length]? = some (.cells [sx,y,.b Rk.counted,.i .i64 Rk.left,.b Rk.down] 0 none true) ∧
      M[S.length+1]? = some (.cells [.i .u64 c.gen,.i .u32 c.epoch,.i .u64 c.seq,.i .i64 c.seg,.i .u64 c.book.period,xe] 0 none true) ∧
      M[S.length+2]? = some (.cells [.sn,.sn,.b false,.i .i64 0,.b false] 0 none true)∧M[S.length+5]? = some bs ∧
      e.get 4 = .p (S.length+2) 0 0∧e.get 2 = .p S.length 0 0∧e.get 3 = .p (S.length+1) 0 0∧e.get 31 = .sl (S.length+5) 0 0 m m false∧e.get 32 = .i .i64 m∧e.get 33 = .i .i64 k) (j:=m)
      ⟨rfl,0,R,px,rfl,Nat.zero_le _,by rw [hr];rfl,ext_app _,hfit,hwf,rfl,rfl,.inl ⟨rfl,rfl,rfl⟩,by rw [at_app0];rfl,by rw [at_app];rfl,by rw [at_app];rfl,by rw [at_app];rfl,rfl,rfl,rfl,rfl,rfl,rfl⟩ ?_
     clear hrec hmk hr hb1' hb2' hM0 hM0l hSx hSxl
     rintro j e M d' ⟨rfl,k,Rk,y,rfl,hk,hwr,hSM,hfk,hwk,hst,hpl,hyy,m0,m1,m2,m5,e4,e2,e3,e31,e32,e33⟩
     have hLM:lstV secE M (.sl (S.length+5) 0 0 m m false)=some L:=lits_lst (E:=secE) (cs:=L.flatMap secE.enc) (op:=some 64) (by rw [m5,hbs]) rfl hLl
     have hsxM:=lst_ext hs hSM
     have hyM:lstV wrE M y=some Rk.pe:=by
      rcases hyy with ⟨_,rfl,q⟩ | ⟨_,i,rfl,_,q⟩
      ·rw [q];exact lst_ext hp hSM
      ·exact lits_lst (E:=wrE) (cs:=Rk.pe.flatMap wrE.enc) (op:=some 65) q rfl rfl
     obtain ⟨oy,_⟩:=lst_oneF hyM
     have cy:=cells_one oy
     have hbadW:∀ (e:Int) (R':Rdk) (M':Mem),e≠0→R'.pe=Rk.pe→r=(e,R')→M <+: M'→∀ (Mf:Mem),(∃ B,Mf=(M'.set S.length B))∨(∃ B B',Mf=(M'.set S.length B).set (S.length+2) B')∨(∃ B',Mf=M'.set (S.length+2) B')→WkV S x S' (.tu [.ag [sx,y,.b R'.counted,.i .i64 R'.left,.b R'.down],.i .i64 e]) Mf:=by
      intro e R' M' he hpe hre hMM Mf hMf
      have hSM':=hSM.trans hMM
      have hSf:S <+: Mf:=by
       rcases hMf with ⟨B,rfl⟩ | ⟨B,B',rfl⟩ | ⟨B',rfl⟩
       ·exact ext_set hSM' (Nat.le_refl _) _
       ·exact ext_set (ext_set hSM' (Nat.le_refl _) _) (by omega) _
       ·exact ext_set hSM' (by omega) _
      rw [hre] at h
      unfold wOut at h
      rw [if_neg he] at h
      simp only [hpe,hpl] at h
      rcases hyy with ⟨rfl,rfl,q⟩ | ⟨hk0,i,rfl,hi,q⟩
      ·rw [if_pos (by omega)] at h
       obtain ⟨rfl,rfl⟩:=Prod.mk.inj h
       exact wkv_dropP hSf (flat_ag5 f1 f2 Flat_b Flat_i Flat_b Flat_i)
      ·rw [if_neg (by omega)] at h
       obtain ⟨rfl,rfl⟩:=Prod.mk.inj h
       have hMi:Mf[i]? = some (.cells (Rk.pe.flatMap wrE.enc) 0 (some 65) true):=by
        have q':=at_pre hMM q
        rcases hMf with ⟨B,rfl⟩ | ⟨B,B',rfl⟩ | ⟨B',rfl⟩
        ·rw [at_set_ne (by omega)];exact q'
        ·rw [at_set_ne (by omega),at_set_ne (by omega)];exact q'
        ·rw [at_set_ne (by omega)];exact q'
       have hne:Rk.pe≠[]:=by intro z;rw [z] at hpl;simp at hpl;omega
       have hA:Acc true wrE S Mf (.sl i 0 0 Rk.pe.length Rk.pe.length false) Rk.pe:=by
        obtain ⟨T,rfl⟩:=hSf
        obtain ⟨pp,rfl⟩:∃ pp,i=S.length+pp:=⟨i-S.length,by omega⟩
        rw [at_app] at hMi
        exact ⟨T,rfl,.inr (.inr ⟨hne,pp,0,rfl,hMi⟩)⟩
       exact hA.retP wr_flat f1 Flat_b Flat_i Flat_b Flat_i
     by_cases hkm:k<m
     ·have hkl:k<L.length:=by omega
      have hkI:(k:Int)<m:=by omega
      have hk6:k<1000000:=by omega
      have hro:=lstV_row hLM hkl []
      rw [List.append_nil] at hro
      have hro:rowB (M[S.length+5]?) (0+k * 64) 0 64=some (L[k]).enc:=hro
      rw [Nat.zero_add] at hro
      rw [List.drop_eq_getElem_cons hkl,Rdk.wrs] at hwr
      generalize L[k]=s at hro hwr
      have hl64:=s.enc_len
      have hone:=s.one
      have htk:=s.take64
      have hw1:wrapV .i64 (first+(k:Int))=first+k:=wrap_i64 (by omega) (by omega)
      have hin:0≤first+(k:Int)∧first+(k:Int)<Rk.st.length:=by rw [hst];exact ⟨by omega,by omega⟩
      have hput:rPutS [.ag [sx,y,.b Rk.counted,.i .i64 Rk.left,.b Rk.down],.i .i64 (first+k),.ag s.enc] (M++[.cells s.enc 0 none true])=some (putOut (M++[.cells s.enc 0 none true]) Rk sx y (first+k) s):=by
       have hk2:=rdk_mk (R:=Rk) (by rw [hst];exact lstV_grow hsxM [.cells s.enc 0 none true]) (lstV_grow hyM [.cells s.enc 0 none true]) (by rw [hst];exact hls) (by omega)
       simp only [Rdk.cells] at hk2
       simp only [rPutS,hk2,s.de]
       rw [if_pos hfk]
      have hpt:Rk.put (first+k) s=if Rk.act.1=0 then (0,{ Rk.act.2 with pe:=Rk.pe++[⟨first+k,s⟩] }) else Rk.act:=if_pos hin
      unfold putOut at hput
      rw [if_pos hin] at hput
      obtain ⟨as1,as2⟩:=act_same Rk
      have hfk2:=act_fit hfk
      rw [hpt] at hwr
      generalize Rk.act=A at *
      obtain ⟨e1,R1⟩:=A
      simp only at hput hwr as1 as2 hfk2
      obtain ⟨n1,n2,n3,n4,n5,n6⟩:=old_at m0
      have m1':=fun U=>at_old (L:=U) m1
      refine W_sound oRWr_ok mixed _ _ _ _ _ ?_
      by_cases he:e1=0
      ·subst he
       rw [if_pos rfl] at hput hwr
       have hwr:Rdk.wrs first (L.drop (k+1)) (k+1) { R1 with pe:=Rk.pe++[⟨first+k,s⟩] } = r:=by rw [←hwr];rfl
       have hne:Rk.pe++[(⟨first+k,s⟩:Wr)]≠[]:=by simp
       rw [retX_ne hne,retM_ne hne,List.append_assoc,List.length_append] at hput
       obtain ⟨Bp,hBp⟩:∃ Bp:Blk,Bp = .cells ((Rk.pe++[(⟨first+k,s⟩:Wr)]).flatMap wrE.enc) 0 (some 65) true:=⟨_,rfl⟩
       have hput:rPutS [.ag [sx,y,.b Rk.counted,.i .i64 Rk.left,.b Rk.down],.i .i64 (first+k),.ag s.enc] (M++[.cells s.enc 0 none true])=some (.tu [.ag [sx,.sl (M.length+1) 0 0 (Rk.pe.length+1) (Rk.pe.length+1) false,.b R1.counted,.i .i64 R1.left,.b R1.down],.i .i64 0],M++[.cells s.enc 0 none true,Bp]):=by
        rw [hput,hBp]
        simp only [List.length_append,List.length_singleton];rfl
       simp (maxSteps:=1000000) (disch:=omega) only [c10l1,e4,e2,e3,e31,e32,e33,hkI,Int.toNat_natCast,Nat.zero_add,hro,List.replicate,hl64,hone,htk,o1,c1,oy,cy,n1,n2,n3,n4,m1',orc_cons,hsl8,hw1,hput,wrapS hk6,go_sem]
       have hMS:S.length+2<M.length:=(List.getElem?_eq_some_iff.1 m2).1
       have hM5:S.length+5<M.length:=(List.getElem?_eq_some_iff.1 m5).1
       refine ⟨m-(k+1),?_,k+1,{ R1 with pe:=Rk.pe++[⟨first+k,s⟩] },.sl (M.length+1) 0 0 (Rk.pe.length+1) (Rk.pe.length+1) false,?_,?_,hwr,?_,hfk2,?_,?_,?_,.inr ⟨by omega,M.length+1,?_,by omega,?_⟩,?_,?_,?_,?_,?_⟩
       ·omega
       ·rfl
       ·omega
       ·exact ext_more (ext_set hSM (Nat.le_refl _) _) _
       ·exact wfP_snoc hwk (by rw [←hst];exact hin)
       ·show R1.st=R.st;rw [as1,hst]
       ·show (Rk.pe++[_]).length=_;rw [List.length_append,List.length_singleton,hpl];omega
       ·show _=AV.sl (M.length+1) 0 0 (Rk.pe++[_]).length (Rk.pe++[_]).length false;rw [List.length_append,List.length_singleton]
       ·have hl':(M.set S.length (.cells [sx,.sl (M.length+1) 0 0 (Rk.pe.length+1) (Rk.pe.length+1) false,.b R1.counted,.i .i64 R1.left,.b R1.down] 0 none true)).length=M.length:=List.length_set ..
        have:=at_app (S:=M.set S.length (.cells [sx,.sl (M.length+1) 0 0 (Rk.pe.length+1) (Rk.pe.length+1) false,.b R1.counted,.i .i64 R1.left,.b R1.down] 0 none true)) (L:=[Blk.cells s.enc 0 none true,Bp,Blk.cells [sx,.sl (M.length+1) 0 0 (Rk.pe.length+1) (Rk.pe.length+1) false,.b R1.counted,.i .i64 R1.left,.b R1.down] 0 none true]) (n:=1)
        rw [hl'] at this
        rw [this,hBp];rfl
       ·rfl
       ·exact at_old (by rw [at_set_ne (by omega)];exact m1)
       ·exact at_old (by rw [at_set_ne (by omega)];exact m2)
       ·exact at_old (by rw [at_set_ne (by omega)];exact m5)
       ·rfl
      ·rw [if_neg he] at hput hwr
       simp only [Rdk.cells] at hput
       rw [if_neg he] at hwr
       have n2':∀ (U:Mem) B,((M++U).set S.length B)[S.length+2]? = some (.cells [.sn,.sn,.b false,.i .i64 0,.b false] 0 none true):=fun U B=>by rw [at_set_ne (by omega)];exact at_old m2
       have n2'':∀ (U:Mem) B,(M.set S.length B++U)[S.length+2]? = some (.cells [.sn,.sn,.b false,.i .i64 0,.b false] 0 none true):=fun U B=>at_old (by rw [at_set_ne (by omega)];exact m2)
       have n7:∀ (U:Mem) B B',((M.set S.length B++U).set (S.length+2) B')[S.length+2]? = some B':=fun U B B'=>at_set (n2'' U B)
       simp (maxSteps:=1000000) (disch:=omega) only [c10l1,e4,e2,e3,e31,e32,e33,hkI,Int.toNat_natCast,Nat.zero_add,hro,List.replicate,hl64,hone,htk,o1,c1,oy,cy,n1,n2,n3,n4,m1',orc_cons,hsl8,hw1,hput,he,n2'',n7,go_sem]
       rw [←set_old m0]
       exact hbadW e1 R1 _ he as2 hwr.symm (ext_app _) _ (.inr (.inl ⟨_,_,rfl⟩))
     ·obtain rfl:k=m:=by omega
      have hkI:¬ (k:Int)<k:=by omega
      rw [List.drop_of_length_le (by omega),Rdk.wrs] at hwr
      have hk2:=rdk_mk (R:=Rk) (by rw [hst];exact hsxM) hyM (by rw [hst];exact hls) (by omega)
      simp only [Rdk.cells] at hk2
      have hsy:rSyncS [.ag [sx,y,.b Rk.counted,.i .i64 Rk.left,.b Rk.down]] M=some (syncOut M Rk sx y):=by
       simp only [rSyncS,hk2]
       rw [if_pos ⟨hfk,by rw [hst];exact hwk⟩]
      unfold Rdk.sync at hwr
      unfold syncOut at hsy
      obtain ⟨as1,as2⟩:=act_same Rk
      generalize Rk.act=A at *
      obtain ⟨e1,R1⟩:=A
      simp only at hsy hwr as1 as2
      refine W_sound oRWr_ok mixed _ _ _ _ _ ?_
      by_cases he:e1=0
      ·subst he
       rw [if_pos rfl] at hsy hwr
       rw [←hwr] at h
       unfold wOut at h
       rw [if_pos rfl] at h
       obtain ⟨rfl,rfl⟩:=Prod.mk.inj h
       have hcl:(R1.settle (List.replicate Rk.pe.length true)).counted=R1.counted∧(R1.settle (List.replicate Rk.pe.length true)).left=R1.left∧(R1.settle (List.replicate Rk.pe.length true)).down=R1.down:=⟨rfl,rfl,rfl⟩
       simp only [hcl.1,hcl.2.1,hcl.2.2]
       generalize (R1.settle (List.replicate Rk.pe.length true)).st=l at *
       have hB:=retX_acc (z:=true) (E:=secE) (S:=M) (l:=l)
       generalize retX true M l=z at hsy hB
       generalize retM true secE M l=M5 at hsy hB
       have oz:=one_of_accG hB
       have cz:=cells_one oz
       have g1:=at_pre hB.ext m2
       have n3:=fun B'=>at_set (B':=B') g1
       have h1M:S.length+2<M.length:=(List.getElem?_eq_some_iff.1 m2).1
       simp (maxSteps:=1000000) (disch:=omega) only [c10l1,e4,e2,e3,e31,e32,e33,hkI,m0,o1,c1,oy,cy,orc_cons,hsy,oz,cz,g1,n3,go_sem]
       exact ((hB.setL (i:=S.length+2) h1M _).base (ext_set hSM (by omega) _)).retQ sec_flat Flat_sn Flat_b Flat_i Flat_b Flat_i
      ·rw [if_neg he] at hsy hwr
       simp only [Rdk.cells] at hsy
       have n3:=fun B'=>at_set (B':=B') m2
       have hfin:=hbadW e1 R1 M he as2 hwr.symm (ext_refl) _ (.inr (.inr ⟨.cells [sx,y,.b R1.counted,.i .i64 R1.left,.b R1.down] 0 none true,rfl⟩))
       simp (maxSteps:=1000000) (disch:=omega) only [c10l1,e4,e2,e3,e31,e32,e33,hkI,m0,o1,c1,oy,cy,orc_cons,hsy,m2,n3,go_sem]
       exact hfin
    ·have hw:R.write c=(141,R):=if_neg ho
     rw [hw] at h
     have hout:wOut S R sx px (141,R)=(.tu [.ag (R.cells sx px),.i .i64 141],S):=by
      unfold wOut
      rw [if_neg (by show ¬ (141:Int)=0;decide),if_pos rfl]
     rw [hout] at h
     obtain ⟨rfl,rfl⟩:=Prod.mk.inj h
     simp only [recordF,if_neg ho] at hrec
     rw [hSx,hb0,hb1,hb2] at hrec
     simp (maxSteps:=1000000) (disch:=omega) only [c10,Rdk.cells,o1,o2,o3,c1,c2,c3,hsl,orc_cons,hrec,noRcd,go_sem]
     exact wkv_drop (flat_ag5 f1 f2 Flat_b Flat_i Flat_b Flat_i)
   ·cases h
  ·cases h
 ·cases h
def Rdk.dsk (R:Rdk):Dsk:=⟨R.st,R.pe,0,false⟩
noncomputable def rcheckF (n gen ep:Int) (pay:List Int):Chk × Bool:=match getL pay with
 | none=>(noChk,false)
 | some (sq,k)=>match getL (pay.drop k) with
  | none=>(noChk,false)
  | some (sg,m)=>if 1000<sg then (noChk,false) else match Bk.read (pay.drop (k+m)) with
   | none=>(⟨gen,ep,sq,sg,⟨0,[]⟩⟩,false)
   | some b=>(⟨gen,ep,sq,sg,b⟩,decide (Chk.ok n ⟨gen,ep,sq,sg,b⟩))
noncomputable def Rdk.one (R:Rdk) (gen:Int):Chk × Bool:=match R.dsk.got (slotF gen) 16 with
 | none=>(noChk,false)
 | some L=>match openF L with
  | none=>(noChk,false)
  | some r=>if r.seq % 2=gen % 2 then rcheckF R.st.length r.seq r.epoch r.pay else (noChk,false)
open Classical in
noncomputable def roneS:Spec:=fun args S=>match args with
 | [.ag cs,.i .u64 gen]=>match rdkOf S cs with
  | some (R,sx,px)=>if R.dsk.by_∧(gen=0∨gen=1) then some (outX S (R.one gen)) else none
  | none=>none
 | _=>none
theorem accQ {α:Type} {z:Bool} {E:Enc α} {S M:Mem} {x:AV} {l:List α} (h:Acc z E S M x l):openQ M E.sz x=true:=by
 by_cases hl:l=[]
 ·obtain ⟨T,rfl,⟨_,_,rfl⟩ | ⟨_,_,p,rfl,_⟩ | ⟨h0,_⟩⟩:=h
  ·rfl
  ·simp [openQ]
  ·exact absurd hl h0
 ·exact openS_Q (h.opens hl)
theorem oROne_ok:OK Tryz.prog (lamOf Tryz.prog) (orcOf [(32,aSlotS),(65,rReadDS),(24,rOpenS),(66,getS),(67,readS),(48,rsrightS)]):=orc_ok (by simpa using ⟨rslot_ok,rreadd_ok,ropen_ok,rget_ok,rread_ok,rsright_ok⟩)
set_option maxHeartbeats 2000000 in
theorem rone_ok:SpecOK Tryz.prog 41 roneS:=by
 intro args S x S' h
 simp only [roneS] at h
 split at h
 ·rename_i cs gen
  split at h
  ·rename_i R sx px hR
   split at h
   ·rename_i hc
    obtain ⟨hby,hgen⟩:=hc
    injection h with h
    obtain ⟨rfl,hs,hp,hls,hlp⟩:=rdk_ok hR
    obtain ⟨o1,f1⟩:=lst_oneF hs
    obtain ⟨o2,f2⟩:=lst_oneF hp
    have c1:=cells_one o1
    have c2:=cells_one o2
    refine fn_of_wp f41 rfl (W_sound oROne_ok mixed _ _ _ _ _ ?_)
    simp (maxSteps:=1000000) (disch:=omega) only [c41,Rdk.cells,o1,o2,c1,c2,go_sem]
    obtain ⟨z6,hz6⟩:∃ z6,z6=Blk.cells [.i .u64 0,.i .u32 0,.i .u64 0,.i .i64 0,.i .u64 0,.sn] 0 none true:=⟨_,rfl⟩
    obtain ⟨b0,hb0⟩:∃ b0,b0=Blk.cells [sx,px,.b R.counted,.i .i64 R.left,.b R.down] 0 none true:=⟨_,rfl⟩
    rw [←hz6,←hb0]
    obtain ⟨Sx,hSx⟩:∃ Sx,Sx=S++[b0,z6]:=⟨_,rfl⟩
    have hSSx:S <+: Sx:=by rw [hSx];exact ext_app _
    have hz:Sx[S.length+1]? = some z6:=by rw [hSx,at_app];rfl
    have hr:Sx[S.length]? = some b0:=by rw [hSx,at_app0];rfl
    have hSxl:Sx.length=S.length+2:=by rw [hSx,List.length_append];rfl
    rw [show S++[b0,z6,Blk.cells [] 0 none true]=Sx++[Blk.cells [] 0 none true] by rw [hSx,List.append_assoc];rfl]
    have hgI:0≤gen:=by omega
    have hsF:0≤slotF gen∧slotF gen≤16:=by unfold slotF;omega
    have hsl:∀ U,aSlotS [.i .u64 gen] U=some (.i .i64 (slotF gen),U):=fun U=>by
     simp only [aSlotS];rw [if_pos hgI]
    have hone0:R.one gen=match R.dsk.got (slotF gen) 16 with
     | none=>(noChk,false)
     | some L=>match openF L with
      | none=>(noChk,false)
      | some r=>if r.seq % 2=gen % 2 then rcheckF R.st.length r.seq r.epoch r.pay else (noChk,false):=rfl
    have hgot:∀ k:Nat,R.dsk.got (slotF gen) (k+1)=match R.dsk.got (slotF gen) k with
     | some l=>if (readAt R.st R.pe (slotF gen+k)).2=0 then some (l++[(readAt R.st R.pe (slotF gen+k)).1]) else none
     | none=>none:=fun k=>rfl
    have hgot0:R.dsk.got (slotF gen) 0=some []:=rfl
    have hgn:∀ k:Nat,(readAt R.st R.pe (slotF gen+k)).2≠0→k<16→R.dsk.got (slotF gen) 16=none:=fun k hk hlt=>got_none (D:=R.dsk) hk 16 hlt
    have hgu:=fun (L:List Sec)=>got_u8 (D:=R.dsk) hby (first:=slotF gen) (k:=16) (L:=L)
    have hgl:=fun (k:Nat) (L:List Sec)=>got_len (D:=R.dsk) (first:=slotF gen) (k:=k) (L:=L)
    generalize slotF gen=first at *
    refine wp_loop (fun j e M dl=>dl=[]∧∃ (k:Nat) (y:AV) (L:List Sec),j=16-k∧k≤16∧R.dsk.got first k=some L∧Acc true secE Sx M y L ∧
     e.get 4 = .p (S.length+1) 0 0∧e.get 2 = .p S.length 0 0∧e.get 1 = .i .u64 gen∧e.get 7 = .i .i64 k∧e.get 6=y) (j:=16)
     ⟨rfl,0,.sl (S.length+2) 0 0 0 0 true,[],rfl,Nat.zero_le _,hgot0,⟨_,rfl,.inr (.inl ⟨rfl,rfl,0,by rw [hSxl],rfl⟩)⟩,rfl,rfl,rfl,rfl,rfl⟩ ?_
    rintro j e M d' ⟨rfl,k,y,L,rfl,hk,hL,hA,e4,e2,e1,e7,e6⟩
    refine W_sound oROne_ok mixed _ _ _ _ _ ?_
    have hLl:=hgl _ _ hL
    have hzM:M[S.length+1]? = some z6:=at_pre hA.ext hz
    have hrM:M[S.length]? = some b0:=at_pre hA.ext hr
    rw [hz6] at hzM
    rw [hb0] at hrM
    obtain ⟨p1,p2,p3,p4,p5⟩:=old_at hzM
    obtain ⟨q1,q2,q3,q4,q5⟩:=old_at hrM
    have hSM:=hSSx.trans hA.ext
    by_cases hkm:k<16
    ·have hkI:(k:Int)<16:=by omega
     have hk6:k<1000000:=by omega
     have hw1:wrapV .i64 (first+(k:Int))=first+k:=wrap_i64 (by omega) (by omega)
     have hrd:rReadDS [.ag [sx,px,.b R.counted,.i .i64 R.left,.b R.down],.i .i64 (first+k)] M=some (secT (readAt R.st R.pe (first+k)),M):=by
      have hk2:=rdk_mk (R:=R) (lst_ext hs hSM) (lst_ext hp hSM) hls hlp
      simp only [Rdk.cells] at hk2
      simp only [rReadDS,hk2]
     by_cases he:(readAt R.st R.pe (first+k)).2=0
     ·have hL':R.dsk.got first (k+1)=some (L++[(readAt R.st R.pe (first+k)).1]):=by rw [hgot,hL];simp only [if_pos he]
      clear hgn hgot
      generalize readAt R.st R.pe (first+k)=r at *
      obtain ⟨t,er⟩:=r
      simp only at he
      subst he
      simp only [secT] at hrd
      simp only at hL'
      have hl64:=t.enc_len
      have hone:=t.one
      have htk:=t.take64
      obtain ⟨y',M',ha,hA'⟩:=(hA.grow [.cells t.enc 0 none true,.cells t.enc 0 none true]).app (bytes:=64) secE_one t (by omega) (by omega)
      have ha:appV (M++[.cells t.enc 0 none true,.cells t.enc 0 none true]) 64 64 y t.enc 1=some (y',M'):=ha
      have hsrc:srcV (M++[.cells t.enc 0 none true,.cells t.enc 0 none true]) 64 (.sl (M.length+1) 0 0 1 1 true)=some (t.enc,1):=by
       rw [src_sl,at_app]
       show srcN 1 (rowB (some (Blk.cells t.enc 0 none true)) 0 0 (1 * 64))=_
       rw [rowB_some,if_pos (by omega),List.drop_zero,Nat.one_mul,htk];rfl
      simp (maxSteps:=1000000) (disch:=omega) only [c41l1,e4,e2,e1,e7,e6,hkI,hw1,o1,o2,c1,c2,hrM,orc_cons,hsl,hrd,List.replicate,hl64,hone,htk,hsrc,ha,wrapS hk6,go_sem]
      refine ⟨16-(k+1),?_,k+1,y',L++[t],?_,?_,?_,?_,?_,?_⟩
      ·omega
      ·rfl
      ·omega
      ·exact hL'
      ·exact hA'
      ·rfl
      ·rfl
     ·have hno:=hgn k he hkm
      rw [hno] at hone0
      simp only at hone0
      rw [hone0] at h
      obtain ⟨rfl,rfl⟩:=Prod.mk.inj h
      clear hgn hgot
      generalize readAt R.st R.pe (first+k)=r at *
      obtain ⟨t,er⟩:=r
      simp only at he
      simp only [secT] at hrd
      have hl64:=t.enc_len
      have hone:=t.one
      have htk:=t.take64
      simp (maxSteps:=1000000) (disch:=omega) only [c41l1,e4,e2,e1,e7,e6,hkI,hw1,o1,o2,c1,c2,hrM,orc_cons,hsl,hrd,List.replicate,hl64,hone,htk,he,p1,p2,p3,p4,go_sem]
      exact wkv_dropP (ext_more (ext_set hSM (by omega) _) _) rfl
    ·obtain rfl:k=16:=by omega
     have hkI:¬ ((16:Nat):Int)<16:=by omega
     rw [hL] at hone0
     simp only at hone0
     have hoq:openQ M 64 y=true:=accQ hA
     have hu:=hgu _ hL
     have hop:rOpenS [y] M=some (recY M (openF L)):=by
      simp only [rOpenS,hA.lst]
      rw [if_pos ⟨by omega,hoq,List.all_eq_true.2 fun c hc=>decide_eq_true (hu c hc)⟩]
     clear hL hgn hgot hgl hgu hgot0
     cases hr':openF L with
     | none =>
      rw [hr'] at hone0 hop
      simp only at hone0
      rw [hone0] at h
      obtain ⟨rfl,rfl⟩:=Prod.mk.inj h
      have hop:rOpenS [y] M=some (.tu [.ag [.i .u64 0,.i .u32 0,.sn],.i .i64 0,.b false],M):=hop
      simp (maxSteps:=1000000) (disch:=omega) only [c41l1,e4,e2,e1,e7,e6,hkI,orc_cons,hop,p1,p2,p3,p4,go_sem]
      exact wkv_dropP (ext_more (ext_set hSM (by omega) _) _) rfl
     | some r =>
      rw [hr'] at hone0 hop
      simp only at hone0
      obtain ⟨g1,g2,g3,g4,g5,g6⟩:=openF_good hu hr'
      have hup:∀ c∈r.pay,u8 c:=fun c hc=>g3 c (List.mem_of_mem_drop hc)
      have hpl:r.pay.length≤714:=by show (r.body.drop 14).length≤714;rw [List.length_drop];omega
      simp only [recY] at hop
      generalize r.pay=pay at *
      have hP:=retX_acc (z:=true) (E:=byteE) (S:=M) (l:=pay)
      generalize retX true M pay=px2 at hop hP
      generalize retM true byteE M pay=M1 at hop hP
      have hSM1:=hSM.trans hP.ext
      have hz1:=at_pre hP.ext hzM
      have hr1:=at_pre hP.ext hrM
      obtain ⟨t1,t2,t3,t4,t5⟩:=old_at hz1
      have hpone:=one_of_accG hP
      have hpcp:=cells_one hpone
      have hlp1:=hP.lst
      have hoq1:openQ M1 1 px2=true:=accQ hP
      have hrem:binV .int true .rem (.i .u64 r.seq) (.i .u64 2)=some (.i .u64 (r.seq % 2)):=bin_rem_pos g1.1 (by omega)
      have hrem2:binV .int true .rem (.i .u64 gen) (.i .u64 2)=some (.i .u64 (gen % 2)):=bin_rem_pos hgI (by omega)
      by_cases hsq:r.seq % 2=gen % 2
      ·rw [if_pos hsq] at hone0
       rw [hone0] at h
       have hSl1:S.length≤S.length+1:=Nat.le_add_right _ _
       have hg1:=fun L=>getS_eq (S:=M1++L) (lstV_grow hlp1 L) (openQ_grow hoq1 L) hup (by omega)
       unfold rcheckF at h
       cases hp1:getL pay with
       | none =>
        rw [hp1] at h hg1
        simp only at h
        obtain ⟨rfl,rfl⟩:=Prod.mk.inj h
        simp (maxSteps:=1000000) (disch:=omega) only [c41l1,e4,e2,e1,e7,e6,hkI,orc_cons,hop,t1,t2,t3,t4,hpone,hpcp,hrem,hrem2,hsq,hg1,got,go_sem]
        exact wkv_dropP (ext_more (ext_set hSM1 (Nat.le_add_right _ _) _) _) rfl
       | some r1 =>
        obtain ⟨sq,k⟩:=r1
        rw [hp1] at h hg1
        simp only at h
        obtain ⟨hsqu,hkl⟩:=getL_ok hp1 hup
        obtain ⟨x2,hs2,hl2,hq2⟩:=drop_lst hlp1 hoq1 (q:=.i64) (a:=k) hkl
        have hs2:=fun L=>slice_growG (L:=L) hs2
        have hs2:∀ L,sliceV (M1++L) 1 px2 (some (.i .i64 (k:Int))) none none=some x2:=hs2
        have hu2:∀ c∈pay.drop k,u8 c:=fun c hc=>hup c (List.mem_of_mem_drop hc)
        have hg2:=fun L=>getS_eq (S:=M1++L) (lstV_grow hl2 L) (openQ_grow hq2 L) hu2 (by rw [List.length_drop];omega)
        cases hp2:getL (pay.drop k) with
        | none =>
         rw [hp2] at h hg2
         simp only at h
         obtain ⟨rfl,rfl⟩:=Prod.mk.inj h
         simp (maxSteps:=1000000) (disch:=omega) only [c41l1,e4,e2,e1,e7,e6,hkI,orc_cons,hop,t1,t2,t3,t4,hpone,hpcp,hrem,hrem2,hsq,hg1,got,hs2,hg2,go_sem]
         exact wkv_dropP (ext_more (ext_set hSM1 (Nat.le_add_right _ _) _) _) rfl
        | some r2 =>
         obtain ⟨sg,m⟩:=r2
         rw [hp2] at h hg2
         simp only at h
         obtain ⟨hsg,hm⟩:=getL_ok hp2 hu2
         rw [List.length_drop] at hm
         by_cases hbig:1000<sg
         ·rw [if_pos hbig] at h
          obtain ⟨rfl,rfl⟩:=Prod.mk.inj h
          simp (maxSteps:=1000000) (disch:=omega) only [c41l1,e4,e2,e1,e7,e6,hkI,orc_cons,hop,t1,t2,t3,t4,hpone,hpcp,hrem,hrem2,hsq,hg1,got,hs2,hg2,hbig,go_sem]
          exact wkv_dropP (ext_more (ext_set hSM1 (Nat.le_add_right _ _) _) _) rfl
         ·rw [if_neg hbig] at h
          obtain ⟨x3,hs3,hl3,hq3⟩:=drop_lst hlp1 hoq1 (q:=.i64) (a:=k+m) (by omega)
          have hs3:=fun L=>slice_growG (L:=L) hs3
          have hs3:∀ L,sliceV (M1++L) 1 px2 (some (.i .i64 ((k+m:Nat):Int))) none none=some x3:=hs3
          have hu3:∀ c∈pay.drop (k+m),u8 c:=fun c hc=>hup c (List.mem_of_mem_drop hc)
          have hr3:=fun L=>readS_eq (S:=M1++L) (lstV_grow hl3 L) (openQ_grow hq3 L) hu3 (by rw [List.length_drop];omega)
          have hw:wrapV .i64 ((k:Int)+m)=((k+m:Nat):Int):=by rw [wrap_i64 (by omega) (by omega)];omega
          have hwsg:wrapV .i64 sg=sg:=wrap_i64 (by have:=hsg.1;omega) (by omega)
          cases hp3:Bk.read (pay.drop (k+m)) with
          | none =>
           rw [hp3] at h hr3
           simp only at h hr3
           obtain ⟨rfl,rfl⟩:=Prod.mk.inj h
           simp (maxSteps:=1000000) (disch:=omega) only [c41l1,e4,e2,e1,e7,e6,hkI,orc_cons,hop,t1,t2,t3,t4,hpone,hpcp,hrem,hrem2,hsq,hg1,got,hs2,hg2,hbig,hs3,hw,hwsg,hr3,go_sem]
           exact wkv_dropP (ext_more (ext_set hSM1 hSl1 _) _) rfl
          | some b =>
           rw [hp3] at h hr3
           simp only at h hr3
           obtain ⟨hbo,hbg,_⟩:=bytes_read hu3 hp3
           obtain ⟨rfl,rfl⟩:=Prod.mk.inj h
           obtain ⟨p,es⟩:=b
           have hr4:=hr3 [.cells [.i .u64 r.seq,.i .u32 r.epoch,px2] 0 none true]
           obtain ⟨Sy,hSy⟩:∃ Sy,Sy=M1++[Blk.cells [.i .u64 r.seq,.i .u32 r.epoch,px2] 0 none true]:=⟨_,rfl⟩
           rw [←hSy] at hr4
           simp only [bookR] at hr4
           have hAo:=retX_acc (z:=false) (E:=entE) (S:=Sy) (l:=es)
           generalize retX false Sy es=X at hr4 hAo
           generalize retM false entE Sy es=M2 at hr4 hAo
           have hone2:=one_of_accG hAo
           have hcp2:=cells_one hone2
           have hM2:=hAo.ext
           have hM12:M1 <+: M2:=by rw [hSy] at hM2;exact (ext_app _).trans hM2
           have hb1:M2[M1.length]? = some (.cells [.i .u64 r.seq,.i .u32 r.epoch,px2] 0 none true):=at_pre hM2 (by rw [hSy,at_app0];rfl)
           have hz2:=at_pre hM12 hz1
           have hr2:=at_pre hM12 hr1
           obtain ⟨d1,d2,d3,d4,d5⟩:=old_at hb1
           obtain ⟨m1,m2,m3,m4,m5⟩:=old_at hz2
           have hSM2:=hSM1.trans hM12
           have hR:=fun L=>rsright_call (n:=R.st.length) (g:=r.seq) (ep:=r.epoch) (sq:=sq) (sg:=sg) (p:=p) hAo.lst hbg.fits L
           have hAS:Acc false entE S M2 X es:=(hAo.base (by rw [hSy];exact hSM1.trans (ext_app _)))
           generalize decide (Chk.ok R.st.length ⟨r.seq,r.epoch,sq,sg,⟨p,es⟩⟩)=okb at hR
           have hsl2:=lst_len hs
           obtain ⟨n1,n2,n3,n4,n5⟩:=old_at hr2
           rw [hSy] at hr4
           simp (maxSteps:=1000000) (disch:=omega) only [c41l1,e4,e2,e1,e7,e6,hkI,orc_cons,hop,t1,t2,t3,t4,hpone,hpcp,hrem,hrem2,hsq,hg1,got,hs2,hg2,hbig,hs3,hw,hwsg,hr4,hone2,hcp2,hb1,hr2,n1,d1,m1,m2,m3,m4,hsl2,hR,go_sem]
           exact ((hAS.setB hSl1 hz2 rfl _).grow _).ret6 entE_flat Flat_i Flat_i Flat_i Flat_i Flat_i Flat_b
      ·rw [if_neg hsq] at hone0
       rw [hone0] at h
       obtain ⟨rfl,rfl⟩:=Prod.mk.inj h
       simp (maxSteps:=1000000) (disch:=omega) only [c41l1,e4,e2,e1,e7,e6,hkI,orc_cons,hop,t1,t2,t3,t4,hpone,hpcp,hrem,hrem2,hsq,go_sem]
       exact wkv_dropP (ext_more (ext_set hSM1 (Nat.le_add_right _ _) _) _) rfl
   ·cases h
  ·cases h
 ·cases h
noncomputable def Rdk.last (R:Rdk):Chk × Bool :=
 if (R.one 0).2=true∧((R.one 1).2=false∨(R.one 1).1.gen<(R.one 0).1.gen) then ((R.one 0).1,true)
 else if (R.one 1).2=true then ((R.one 1).1,true) else (noChk,false)
open Classical in
noncomputable def rlastS:Spec:=fun args S=>match args with
 | [.ag cs]=>match rdkOf S cs with
  | some (R,sx,px)=>if R.dsk.by_ then some (outX S R.last) else none
  | none=>none
 | _=>none
theorem oRLs_ok:OK Tryz.prog (lamOf Tryz.prog) (orcOf [(41,roneS)]):=orc_ok (by simpa using rone_ok)
set_option maxHeartbeats 2000000 in
theorem rlast_ok:SpecOK Tryz.prog 18 rlastS:=by
 intro args S x S' h
 simp only [rlastS] at h
 split at h
 ·rename_i cs
  split at h
  ·rename_i R sx px hR
   split at h
   ·rename_i hby
    injection h with h
    obtain ⟨rfl,hs,hp,hls,hlp⟩:=rdk_ok hR
    obtain ⟨o1,f1⟩:=lst_oneF hs
    obtain ⟨o2,f2⟩:=lst_oneF hp
    have c1:=cells_one o1
    have c2:=cells_one o2
    refine fn_of_wp f18 rfl (W_sound oRLs_ok mixed _ _ _ _ _ ?_)
    obtain ⟨b0,hb0⟩:∃ b0,b0=Blk.cells [sx,px,.b R.counted,.i .i64 R.left,.b R.down] 0 none true:=⟨_,rfl⟩
    obtain ⟨z6,hz6⟩:∃ z6,z6=Blk.cells [.i .u64 0,.i .u32 0,.i .u64 0,.i .i64 0,.i .u64 0,.sn] 0 none true:=⟨_,rfl⟩
    have hcall:∀ (M:Mem) (g:Int),S <+: M→(g=0∨g=1)→roneS [.ag [sx,px,.b R.counted,.i .i64 R.left,.b R.down],.i .u64 g] M=some (outX M (R.one g)):=fun M g hSM hg=>by
     have hk2:=rdk_mk (R:=R) (lst_ext hs hSM) (lst_ext hp hSM) hls hlp
     simp only [Rdk.cells] at hk2
     simp only [roneS,hk2]
     rw [if_pos ⟨hby,hg⟩]
    obtain ⟨Sx,hSx⟩:∃ Sx,Sx=S++[b0,z6]:=⟨_,rfl⟩
    have hSSx:S <+: Sx:=by rw [hSx];exact ext_app _
    have h1:=hcall Sx 0 hSSx (.inl rfl)
    have hz:Sx[S.length+1]? = some z6:=by rw [hSx,at_app];rfl
    have hr:Sx[S.length]? = some b0:=by rw [hSx,at_app0];rfl
    unfold Rdk.last at h
    generalize R.one 0=a at h h1
    obtain ⟨⟨ag,ae,aq,as_,ap,aes⟩,ab⟩:=a
    simp only [outX] at h1
    have hA:=retX_acc (z:=false) (E:=entE) (S:=Sx) (l:=aes)
    generalize retX false Sx aes=X at h1 hA
    generalize retM false entE Sx aes=M1 at h1 hA
    have hS1:=hSSx.trans hA.ext
    have hz1:=at_pre hA.ext hz
    have hr1:=at_pre hA.ext hr
    have x1:=one_of_accG hA
    have y1:=cells_one x1
    obtain ⟨Sy,hSy⟩:∃ Sy,Sy=M1++[Blk.cells [.i .u64 ag,.i .u32 ae,.i .u64 aq,.i .i64 as_,.i .u64 ap,X] 0 none true]:=⟨_,rfl⟩
    have hSSy:S <+: Sy:=by rw [hSy];exact ext_more hS1 _
    have h2:=hcall Sy 1 hSSy (.inr rfl)
    generalize R.one 1=b at h h2
    obtain ⟨⟨bg,be,bq,bs,bp,bes⟩,bb⟩:=b
    simp only [outX] at h2
    have hB:=retX_acc (z:=false) (E:=entE) (S:=Sy) (l:=bes)
    generalize retX false Sy bes=Y at h2 hB
    generalize retM false entE Sy bes=M2 at h2 hB
    have hM12:M1 <+: M2:=by have:=hB.ext;rw [hSy] at this;exact (ext_app _).trans this
    have hS2:=hS1.trans hM12
    have hz2:=at_pre hM12 hz1
    have x2:=one_of_accG hB
    have y2:=cells_one x2
    have ha2:M2[M1.length]? = some (.cells [.i .u64 ag,.i .u32 ae,.i .u64 aq,.i .i64 as_,.i .u64 ap,X] 0 none true):=at_pre hB.ext (by rw [hSy,at_app0];rfl)
    have hAS:Acc false entE S M2 X aes:=(hA.base hSSx).extM hM12
    have hBS:Acc false entE S M2 Y bes:=hB.base hSSy
    have hSl1:S.length≤S.length+1:=Nat.le_add_right _ _
    have hAf:=fun B' U=>(hAS.setB hSl1 hz2 (by rw [hz6];rfl) B').grow U
    have hBf:=fun B' U=>(hBS.setB hSl1 hz2 (by rw [hz6];rfl) B').grow U
    have hdr:=fun B' U=>ext_more (ext_set hS2 hSl1 B') U
    rw [hSy] at h2
    rw [hSx,hb0,hz6] at h1
    rw [hz6] at hz2
    rw [hb0] at hr1
    obtain ⟨p1,p2,p3,p4,p5⟩:=old_at hz2
    obtain ⟨q1,q2,q3,q4,q5⟩:=old_at ha2
    obtain ⟨n1,n2,n3,n4,n5⟩:=old_at hr1
    cases ab with
    | true =>
     cases bb with
     | false =>
      rw [if_pos ⟨rfl,.inl rfl⟩] at h
      obtain ⟨rfl,rfl⟩:=Prod.mk.inj h
      simp (maxSteps:=1000000) (disch:=omega) only [c18,Rdk.cells,o1,o2,c1,c2,orc_cons,h1,x1,y1,hr1,n1,h2,x2,y2,p1,p2,p3,p4,q1,ha2,go_sem]
      exact (hAf _ _).ret6 entE_flat Flat_i Flat_i Flat_i Flat_i Flat_i Flat_b
     | true =>
      by_cases hgt:bg<ag
      ·rw [if_pos ⟨rfl,.inr hgt⟩] at h
       obtain ⟨rfl,rfl⟩:=Prod.mk.inj h
       simp (maxSteps:=1000000) (disch:=omega) only [c18,Rdk.cells,o1,o2,c1,c2,orc_cons,h1,x1,y1,hr1,n1,h2,x2,y2,p1,p2,p3,p4,q1,ha2,hgt,go_sem]
       exact (hAf _ _).ret6 entE_flat Flat_i Flat_i Flat_i Flat_i Flat_i Flat_b
      ·rw [if_neg (fun q=>by rcases q.2 with q | q;cases q;exact hgt q),if_pos rfl] at h
       obtain ⟨rfl,rfl⟩:=Prod.mk.inj h
       simp (maxSteps:=1000000) (disch:=omega) only [c18,Rdk.cells,o1,o2,c1,c2,orc_cons,h1,x1,y1,hr1,n1,h2,x2,y2,p1,p2,p3,p4,q1,ha2,hgt,go_sem]
       exact (hBf _ _).ret6 entE_flat Flat_i Flat_i Flat_i Flat_i Flat_i Flat_b
    | false =>
     rw [if_neg (fun q=>by cases q.1)] at h
     cases bb with
     | true =>
      rw [if_pos rfl] at h
      obtain ⟨rfl,rfl⟩:=Prod.mk.inj h
      simp (maxSteps:=1000000) (disch:=omega) only [c18,Rdk.cells,o1,o2,c1,c2,orc_cons,h1,x1,y1,hr1,n1,h2,x2,y2,p1,p2,p3,p4,q1,ha2,go_sem]
      exact (hBf _ _).ret6 entE_flat Flat_i Flat_i Flat_i Flat_i Flat_i Flat_b
     | false =>
      rw [if_neg (by simp)] at h
      obtain ⟨rfl,rfl⟩:=Prod.mk.inj h
      simp (maxSteps:=1000000) (disch:=omega) only [c18,Rdk.cells,o1,o2,c1,c2,orc_cons,h1,x1,y1,hr1,n1,h2,x2,y2,p1,p2,p3,p4,q1,ha2,go_sem]
      exact wkv_dropP (hdr _ _) rfl
   ·cases h
  ·cases h
 ·cases h
end Go.Proofs.YtkfobkfhbkicaaaGreat
