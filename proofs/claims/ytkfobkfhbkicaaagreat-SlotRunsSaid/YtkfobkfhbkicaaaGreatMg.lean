/- Proved here: what the law of this claim leans on (an evaluator of the model's code, contracts of functions). No condition. -/
import Derived.Test.YtkfobkfhbkicaaaGreatMf
import Derived.HandedShaped
set_option linter.unusedSimpArgs false
set_option linter.unusedVariables false
namespace Go.Proofs.YtkfobkfhbkicaaaGreat
set_option maxRecDepth 10000
structure Rl (D:Dsk) (R:Rdk):Prop where
 st:R.st=D.st
 pe:R.pe=D.pe
 down:R.down=D.down
 cnt:R.counted=decide (0≤D.left)
 left:0≤D.left→R.left=D.left
 lo:-1≤D.left
 hi:D.left≤9223372036854775807
theorem Rl.fit {D:Dsk} {R:Rdk} (h:Rl D R):R.fit:=fun hc=>by
 rw [h.cnt] at hc
 have hc:=of_decide_eq_true hc
 rw [h.left hc];exact ⟨hc,h.hi⟩
theorem Rl.act {D:Dsk} {R:Rdk} (h:Rl D R):R.act.1=D.act.1∧Rl D.act.2 R.act.2:=by
 obtain ⟨h1,h2,h3,h4,h5,h6,h7⟩:=h
 obtain ⟨st,pe,left,down⟩:=D
 obtain ⟨st',pe',ct,left',down'⟩:=R
 simp only at h1 h2 h3 h4 h5 h6 h7
 subst h1;subst h2;subst h3;subst h4
 unfold Rdk.act Dsk.act actF
 cases down' with
 | true =>
  simp only [true_or,if_true]
  exact ⟨trivial,rfl,rfl,rfl,rfl,h5,h6,h7⟩
 | false =>
  by_cases h0:0≤left
  ·obtain rfl:=h5 h0
   by_cases hz:left'=0
   ·subst hz
    simp
    exact ⟨rfl,rfl,rfl,by simp,fun _=>rfl,by simp,h7⟩
   ·have hp:0<left':=by omega
    have hm:¬ left' = -1:=by omega
    simp [h0,hz,hp,hm]
    exact ⟨rfl,rfl,rfl,by show true=decide (0≤left'-1);rw [decide_eq_true (by omega)],fun _=>rfl,by show -1≤left'-1;omega,by show left'-1≤_;omega⟩
  ·have hm:left = -1:=by omega
   subst hm
   simp
   exact ⟨rfl,rfl,rfl,by simp,fun q=>absurd q (by simp),by simp,h7⟩
theorem Rl.write {D:Dsk} {R:Rdk} (h:Rl D R) (k:Int) (s:Sec):(R.put k s).1=(D.write k s).1∧Rl (D.write k s).2 (R.put k s).2:=by
 unfold Rdk.put Dsk.write
 rw [h.st]
 by_cases hk:0≤k∧k<D.st.length
 ·rw [if_pos hk,if_pos hk]
  obtain ⟨a1,a2⟩:=h.act
  rw [a1]
  by_cases he:D.act.1=0
  ·rw [if_pos he,if_pos he]
   exact ⟨rfl,a2.st,by show R.pe++_=D.pe++_;rw [h.pe],a2.down,a2.cnt,a2.left,a2.lo,a2.hi⟩
  ·rw [if_neg he,if_neg he]
   exact ⟨a1,a2⟩
 ·rw [if_neg hk,if_neg hk]
  exact ⟨rfl,h⟩
theorem settle_congr {p q:Nat→Bool}:∀ (pe:List Wr) (k:Nat) (st:List Sec),(∀ j,k≤j→j<k+pe.length→p j=q j)→settleL p k pe st=settleL q k pe st
 | [],_,_,_=>rfl
 | w :: pe,k,st,h=>by
  simp only [settleL]
  rw [h k (Nat.le_refl _) (by simp),settle_congr pe (k+1) _ fun j h1 h2=>h j (by omega) (by simp only [List.length_cons];omega)]
theorem Rl.sync {D:Dsk} {R:Rdk} (h:Rl D R):R.sync.1=D.sync.1∧Rl D.sync.2 R.sync.2:=by
 unfold Rdk.sync Dsk.sync
 obtain ⟨a1,a2⟩:=h.act
 rw [a1]
 by_cases he:D.act.1=0
 ·rw [if_pos he,if_pos he]
  refine ⟨rfl,?_,rfl,a2.down,a2.cnt,a2.left,a2.lo,a2.hi⟩
  show settleL _ 0 R.act.2.pe R.act.2.st=settleL _ 0 D.act.2.pe D.act.2.st
  rw [a2.st,a2.pe]
  refine settle_congr _ _ _ fun j _ hj=>?_
  have hpe:D.act.2.pe=D.pe:=rfl
  rw [hpe] at hj
  show (List.replicate R.pe.length true).getD j false=true
  rw [h.pe,List.getD_eq_getElem?_getD,List.getElem?_replicate,if_pos (by omega)];rfl
 ·rw [if_neg he,if_neg he]
  exact ⟨a1,a2⟩
theorem Rl.wrs {first:Int}:∀ (l:List Sec) (k:Nat) {D:Dsk} {R:Rdk},Rl D R→(Rdk.wrs first l k R).1=(Dsk.wrs first l k D).1∧Rl (Dsk.wrs first l k D).2 (Rdk.wrs first l k R).2
 | [],_,_,_,h=>h.sync
 | s :: l,k,D,R,h=>by
  obtain ⟨w1,w2⟩:=h.write (first+k) s
  simp only [Rdk.wrs,Dsk.wrs]
  rw [w1]
  by_cases he:(D.write (first+k) s).1=0
  ·rw [if_pos he,if_pos he]
   exact Rl.wrs l (k+1) w2
  ·rw [if_neg he,if_neg he]
   exact ⟨w1,w2⟩
theorem Rl.swrite {D:Dsk} {R:Rdk} (h:Rl D R) (c:Chk):(R.write c).1=(D.swrite c).1∧Rl (D.swrite c).2 (R.write c).2:=by
 unfold Rdk.write Dsk.swrite
 rw [h.st]
 by_cases ho:c.ok D.st.length
 ·rw [if_pos ho,if_pos ho];exact h.wrs _ _
 ·rw [if_neg ho,if_neg ho];exact ⟨rfl,h⟩
theorem Rl.brk {D:Dsk} {R:Rdk} (h:Rl D R) {n:Int} (hn:n≤9223372036854775807):Rl (D.brk n) (R.brk n):=by
 refine ⟨h.st,h.pe,h.down,?_,?_,?_,?_⟩
 ·show decide (0≤n)=decide (0≤max n (-1))
  by_cases q:0≤n
  ·rw [decide_eq_true q,decide_eq_true (by omega)]
  ·rw [decide_eq_false q,decide_eq_false (by omega)]
 ·intro q
  have q:0≤max n (-1):=q
  show n=max n (-1);omega
 ·show -1≤max n (-1);omega
 ·show max n (-1)≤_;omega
def Rdk.crash (R:Rdk) (l:List Bool):Rdk:=⟨(R.settle l).st,[],false,0,false⟩
theorem Rl.crash {D:Dsk} {R:Rdk} (h:Rl D R) (l:List Bool):Rl (D.crash l) (R.crash l):=by
 refine ⟨?_,rfl,rfl,rfl,fun q=>absurd q ?_,?_,?_⟩
 ·show settleL _ 0 R.pe R.st=settleL _ 0 D.pe D.st
  rw [h.st,h.pe]
 ·show ¬ (0:Int)≤-1;omega
 ·show (-1:Int)≤-1;omega
 ·show (-1:Int)≤_;omega
theorem Rl.new (n:Int):Rl (Dsk.new n) ⟨List.replicate (secsN n) zSec,[],false,0,false⟩ :=
 ⟨rfl,rfl,rfl,rfl,fun q=>absurd q (by show ¬ (0:Int)≤-1;omega),by show (-1:Int)≤-1;omega,by show (-1:Int)≤_;omega⟩
structure Dk (D:Dsk) (n m:Nat):Prop where
 by_:D.by_
 len:D.st.length=n
 few:D.pe.length≤m
theorem Dk.act {D:Dsk} {n m:Nat} (h:Dk D n m):Dk D.act.2 n m:=⟨h.by_,h.len,h.few⟩
theorem Dk.write {D:Dsk} {n m:Nat} (h:Dk D n m) (k:Int) {s:Sec} (hs:∀ c∈s.b,u8 c):Dk (D.write k s).2 n (m+1):=by
 unfold Dsk.write
 split
 ·split
  ·refine ⟨⟨h.by_.1,fun w hw=>?_⟩,h.len,?_⟩
   ·rcases List.mem_append.1 hw with hw | hw
    ·exact h.by_.2 w hw
    ·rw [List.mem_singleton.1 hw];exact hs
   ·show (D.pe++[_]).length≤_
    rw [List.length_append,List.length_singleton];have:=h.few;omega
  ·exact ⟨h.act.by_,h.act.len,by have:=h.act.few;omega⟩
 ·exact ⟨h.by_,h.len,by have:=h.few;show D.pe.length≤m+1;omega⟩
theorem Dk.keep {D:Dsk} {n m:Nat} (h:Dk D n m) (p:Nat→Bool):Dk (D.keep p) n 0:=by
 refine ⟨⟨fun s hs=>?_,fun w hw=>by cases hw⟩,?_,Nat.le_refl _⟩
 ·rcases settle_mem _ _ _ _ hs with hs | ⟨w,hw,rfl⟩
  ·exact h.by_.1 s hs
  ·exact h.by_.2 w hw
 ·show (settleL _ _ _ _).length=_
  rw [settle_len,h.len]
theorem Dk.sync {D:Dsk} {n m:Nat} (h:Dk D n m):Dk D.sync.2 n m:=by
 unfold Dsk.sync
 split
 ·have:=h.act.keep fun _=>true
  exact ⟨this.by_,this.len,by show (0:Nat)≤m;omega⟩
 ·exact h.act
theorem Dk.wrs {first:Int}:∀ (l:List Sec) (k:Nat) {D:Dsk} {n m:Nat},Dk D n m→(∀ s∈l,∀ c∈s.b,u8 c)→Dk (Dsk.wrs first l k D).2 n (m+l.length)
 | [],_,_,_,_,h,_=>h.sync
 | s :: l,k,D,n,m,h,hs=>by
  have h1:=h.write (first+k) (hs s (by simp))
  simp only [Dsk.wrs]
  split
  ·have:=Dk.wrs (first:=first) l (k+1) h1 fun t ht=>hs t (by simp [ht])
   exact ⟨this.by_,this.len,by have:=this.few;simp only [List.length_cons];omega⟩
  ·exact ⟨h1.by_,h1.len,by have:=h1.few;simp only [List.length_cons];omega⟩
theorem Dk.swrite {D:Dsk} {n m:Nat} (h:Dk D n m) {c:Chk} (hg:c.good):Dk (D.swrite c).2 n (m+16):=by
 unfold Dsk.swrite
 split
 ·rename_i ho
  have hm:=(Chk.many_eq hg ho).2.2.2
  have hl:=Chk.secs_len (c:=c)
  have:=Dk.wrs (first:=slotF c.gen) c.secs 0 h (Chk.secs_u8 hg ho)
  exact ⟨this.by_,this.len,by have:=this.few;omega⟩
 ·exact ⟨h.by_,h.len,by have:=h.few;show D.pe.length≤_;omega⟩
theorem Dk.crash {D:Dsk} {n m:Nat} (h:Dk D n m) (l:List Bool):Dk (D.crash l) n (m+16):=by
 have:=h.keep fun k=>l.getD k false
 exact ⟨this.by_,this.len,by show (0:Nat)≤_;omega⟩
theorem Dk.brk {D:Dsk} {n m:Nat} (h:Dk D n m) (k:Int):Dk (D.brk k) n (m+16):=⟨h.by_,h.len,by have:=h.few;show D.pe.length≤_;omega⟩
theorem Dk.more {D:Dsk} {n m m':Nat} (h:Dk D n m) (hm:m≤m'):Dk D n m':=⟨h.by_,h.len,Nat.le_trans h.few hm⟩
theorem Dk.new (n:Int):Dk (Dsk.new n) (secsN n) 0:=⟨new_by n,by show (List.replicate _ _).length=_;rw [List.length_replicate],Nat.le_refl _⟩
theorem Rl.got {D:Dsk} {R:Rdk} (h:Rl D R) (first:Int):∀ k,R.dsk.got first k=D.got first k
 | 0=>rfl
 | k+1=>by
  simp only [Dsk.got]
  rw [h.got first k]
  show (match D.got first k with
   | some l=>if (readAt R.st R.pe (first+k)).2=0 then some (l++[(readAt R.st R.pe (first+k)).1]) else none
   | none=>none)=_
  rw [h.st,h.pe]
  rfl
theorem Rl.byR {D:Dsk} {R:Rdk} (h:Rl D R) (hb:D.by_):R.dsk.by_:=by
 unfold Dsk.by_ Rdk.dsk
 rw [h.st,h.pe];exact hb
theorem rcheck_same {n gen ep:Int} {pay:List Int} (hu:∀ x∈pay,u8 x):(rcheckF n gen ep pay).2=(checkF n gen ep pay).2∧((checkF n gen ep pay).2=true→rcheckF n gen ep pay=checkF n gen ep pay):=by
 unfold rcheckF checkF
 cases h1:getL pay with
 | none=>exact ⟨rfl,fun _=>rfl⟩
 | some r1 =>
  obtain ⟨sq,k⟩:=r1
  simp only
  cases h2:getL (pay.drop k) with
  | none=>exact ⟨rfl,fun _=>rfl⟩
  | some r2 =>
   obtain ⟨sg,m⟩:=r2
   simp only
   by_cases hb:1000<sg
   ·rw [if_pos hb]
    cases h3:Bk.read (pay.drop (k+m)) with
    | none=>exact ⟨rfl,fun q=>by cases q⟩
    | some b =>
     simp only
     have hf:(satQ sg && decide (Chk.ok n ⟨gen,ep,sq,satN sg,b⟩))=false:=by
      by_cases hs:sg≤9223372036854775807
      ·have hn:satN sg=sg:=if_pos hs
       rw [hn,decide_eq_false (fun q=>by have:=seg_pos q.1;simp only at this;omega)]
       simp
      ·have hq:satQ sg=false:=decide_eq_false hs
       rw [hq];rfl
     rw [hf]
     exact ⟨rfl,fun q=>by cases q⟩
   ·rw [if_neg hb]
    have hn:satN sg=sg:=if_pos (by omega)
    have hq:satQ sg=true:=decide_eq_true (by omega)
    rw [hn,hq]
    cases h3:Bk.read (pay.drop (k+m)) with
    | none=>exact ⟨rfl,fun q=>by cases q⟩
    | some b=>simp
theorem slot_par {a g:Int}:slotF a=slotF g↔a % 2=g % 2:=by unfold slotF;omega
theorem Rl.one {D:Dsk} {R:Rdk} (h:Rl D R) (hb:D.by_) (g:Int):(R.one g).2=(D.one (slotF g)).2∧((D.one (slotF g)).2=true→R.one g=D.one (slotF g)∧1≤(D.one (slotF g)).1.gen∧(D.one (slotF g)).1.gen % 2=g % 2):=by
 unfold Rdk.one
 rw [h.got]
 cases hL:D.got (slotF g) 16 with
 | none =>
  rw [one_none hL]
  exact ⟨rfl,fun q=>by cases q⟩
 | some L =>
  rw [one_some hL]
  simp only
  have hu:=got_u8 hb hL
  cases ho:openF L with
  | none=>exact ⟨rfl,fun q=>by cases q⟩
  | some r =>
   simp only
   obtain ⟨g1,g2,g3,g4,g5,g6⟩:=openF_good hu ho
   by_cases hp:r.seq % 2=g % 2
   ·rw [if_pos hp,if_pos (slot_par.2 hp),h.st]
    obtain ⟨c1,c2⟩:=rcheck_same (n:=D.st.length) (gen:=r.seq) (ep:=r.epoch) (pay:=r.pay) fun x hx=>g3 x (List.mem_of_mem_drop hx)
    refine ⟨c1,fun q=>⟨c2 q,?_⟩⟩
    obtain ⟨c,f,hcf⟩:∃ c f,checkF D.st.length r.seq r.epoch r.pay=(c,f):=⟨_,_,rfl⟩
    rw [hcf] at q ⊢
    obtain rfl:f=true:=q
    obtain ⟨k1,_,_,k4,_⟩:=check_inv (fun x hx=>g3 x (List.mem_of_mem_drop hx)) hcf
    show 1≤c.gen∧c.gen % 2=g % 2
    exact ⟨k4.2.1.1,by rw [k1];exact hp⟩
   ·rw [if_neg hp,if_neg (fun q=>hp (slot_par.1 q))]
    exact ⟨rfl,fun q=>by cases q⟩
theorem Rl.last {D:Dsk} {R:Rdk} (h:Rl D R) (hb:D.by_):R.last=D.last:=by
 obtain ⟨a1,a2⟩:=h.one hb 0
 obtain ⟨b1,b2⟩:=h.one hb 1
 have s0:slotF 0=0:=by decide
 have s1:slotF 1=16:=by decide
 rw [s0] at a1 a2
 rw [s1] at b1 b2
 unfold Rdk.last Dsk.last
 rw [a1,b1]
 generalize D.one 0=a at *
 generalize D.one 16=b at *
 generalize R.one 0=a' at *
 generalize R.one 1=b' at *
 obtain ⟨ca,fa⟩:=a
 obtain ⟨cb,fb⟩:=b
 simp only at *
 cases fa with
 | true =>
  obtain ⟨rfl,a3,a4⟩:=a2 rfl
  have e1:stepC (noChk,false) (ca,true)=(ca,true):=by
   unfold stepC;rw [if_pos ⟨rfl,by show (0:Int)<ca.gen;omega⟩]
  rw [e1]
  cases fb with
  | true =>
   obtain ⟨rfl,b3,b4⟩:=b2 rfl
   unfold stepC
   by_cases hgt:ca.gen<cb.gen
   ·rw [if_neg (fun q=>by
     rcases q.2 with q | q
     ·cases q
     ·simp only at q;omega),if_pos rfl,if_pos ⟨rfl,hgt⟩]
   ·rw [if_pos ⟨rfl,.inr (by show cb.gen<ca.gen;omega)⟩,if_neg (fun q=>hgt q.2)]
  | false =>
   unfold stepC
   rw [if_pos ⟨rfl,.inl rfl⟩,if_neg (fun q=>by cases q.1)]
 | false =>
  have e1:stepC (noChk,false) (ca,false)=(noChk,false):=by
   unfold stepC;rw [if_neg (fun q=>by cases q.1)]
  rw [e1,if_neg (fun q=>by cases q.1)]
  cases fb with
  | true =>
   obtain ⟨rfl,b3,b4⟩:=b2 rfl
   unfold stepC
   rw [if_pos rfl,if_pos ⟨rfl,by show (0:Int)<cb.gen;omega⟩]
  | false =>
   unfold stepC
   rw [if_neg (by simp),if_neg (fun q=>by cases q.1)]
open Go.RowKit
def InF (F:List Nat) (x:AV):Prop:=∀ i o v len cap ex,x = .sl i o v len cap ex→i∈F
theorem InF.sub {F F':List Nat} {x:AV} (h:InF F x) (hF:∀ j∈F,j∈F'):InF F' x:=fun i o v len cap ex e=>hF i (h i o v len cap ex e)
theorem lst_move {α:Type} {E:Enc α} {M M':Mem} {F:List Nat} {x:AV} {l:List α} (h:lstV E M x=some l) (hF:InF F x) (hk:∀ j B,j∈F→M[j]? = some B→M'[j]? = some B):lstV E M' x=some l:=by
 rcases lstV_lst h with ⟨rfl,rfl⟩ | ⟨rfl,rfl⟩ | ⟨i,o,v,len,cap,ex,rfl,hl,hrow⟩
 ·rfl
 ·rfl
 ·have hi:=hF _ _ _ _ _ _ rfl
  refine lst_lstV (.inr (.inr ⟨i,o,v,len,cap,ex,rfl,hl,?_⟩))
  rw [rowAt_B] at hrow ⊢
  cases hM:M[i]? with
  | none=>rw [hM] at hrow;cases hrow
  | some B=>rw [hM] at hrow;rw [hk i B hi hM];exact hrow
theorem inF_ret {α:Type} {z:Bool} {E:Enc α} {M:Mem} {l:List α} {F:List Nat} (hF:M.length∈F):InF F (retX z M l):=by
 intro i o v len cap ex e
 cases l with
 | nil=>cases z with
  | true=>simp only [retX,if_true,AV.sl.injEq] at e;rw [←e.1];exact hF
  | false=>cases e
 | cons a l=>simp only [retX,AV.sl.injEq] at e;rw [←e.1];exact hF
section
variable {S M:Mem} {j6 n m:Nat} {D:Dsk} {R:Rdk} {G:List Nat} {sx px:AV}
theorem Held.dwrite {i ist:Nat} {F:List Nat} (h:Held S M i ist D F) (hpe:D.pe.length+1≤700000) (k:Int) (s:Sec) :
  ∃ M',dWriteS [.p i 0 0,.i .i64 k,.ag s.enc] M=some (.i .i64 (D.write k s).1,M')∧Held S M' i ist (D.write k s).2 F∧∀ j B,j∈F→M[j]? = some B→M'[j]? = some B:=by
 obtain ⟨px,h1,h2,h3,h4,h5⟩:=h
 obtain ⟨M',px',g1,g2,g3,g4⟩:=write_eq h1 h2 (by omega) k s
 have hfew:(D.write k s).2.pe.length≤700000:=by
  unfold Dsk.write
  split
  ·split
   ·show (D.pe++[_]).length≤_
    rw [List.length_append,List.length_singleton];exact hpe
   ·exact h3
  ·exact h3
 obtain ⟨k1,k2⟩:=held_op h1 h4 h5 g2 g3 g4 hfew
 exact ⟨M',g1,k1,k2⟩
theorem Held.okD {i ist:Nat} {F:List Nat} (h:Held S M i ist D F):D.ok:=h.choose_spec.2.1
structure MidAt (S M:Mem) (j6:Nat) (D:Dsk) (R:Rdk) (G:List Nat) (sx px:AV):Prop where
 held:Held S M (S.length+1) S.length D (j6 :: G)
 off:j6∉G
 base:S.length≤j6
 at_:M[j6]? = some (.cells (R.cells sx px) 0 none true)
 ls:lstV secE M sx=some R.st
 lp:lstV wrE M px=some R.pe
 is_:InF G sx
 ip:InF G px
theorem MidAt.lt (h:MidAt S M j6 D R G sx px):j6<M.length:=(List.getElem?_eq_some_iff.1 h.at_).1
theorem MidAt.push (h:MidAt S M j6 D R G sx px) (B:Blk) (L:Mem):MidAt S (M++B :: L) j6 D R (M.length :: G) sx px :=
 ⟨(h.held.push B L).sub (fun j hj=>by
   rcases List.mem_cons.1 hj with rfl | hj
   ·simp
   ·rcases List.mem_cons.1 hj with rfl | hj
    ·simp
    ·simp [hj]),fun q=>by
   rcases List.mem_cons.1 q with q | q
   ·have:=h.lt;omega
   ·exact h.off q,h.base,at_old h.at_,lstV_grow h.ls _,lstV_grow h.lp _,h.is_.sub fun j hj=>by simp [hj],h.ip.sub fun j hj=>by simp [hj]⟩
theorem MidAt.grow (h:MidAt S M j6 D R G sx px) (L:Mem):MidAt S (M++L) j6 D R G sx px :=
 ⟨h.held.grow L,h.off,h.base,at_old h.at_,lstV_grow h.ls _,lstV_grow h.lp _,h.is_,h.ip⟩
theorem MidAt.extM {M':Mem} (h:MidAt S M j6 D R G sx px) (hM:M <+: M'):MidAt S M' j6 D R G sx px:=by
 obtain ⟨L,rfl⟩:=hM;exact h.grow L
theorem MidAt.op {M2:Mem} {D2:Dsk} (h:MidAt S M j6 D R G sx px) (hH:Held S M2 (S.length+1) S.length D2 (j6 :: G)) (hk:∀ j B,j∈j6 :: G→M[j]? = some B→M2[j]? = some B):MidAt S M2 j6 D2 R G sx px :=
 ⟨hH,h.off,h.base,hk _ _ (by simp) h.at_,lst_move h.ls h.is_ fun j B hj hB=>hk j B (by simp [hj]) hB,lst_move h.lp h.ip fun j B hj hB=>hk j B (by simp [hj]) hB,h.is_,h.ip⟩
theorem MidAt.turn {R':Rdk} {sx' px':AV} (h:MidAt S M j6 D R G sx px) (hs:lstV secE M sx'=some R'.st) (hp:lstV wrE M px'=some R'.pe) (is':InF G sx') (ip':InF G px') :
  MidAt S (M.set j6 (.cells (R'.cells sx' px') 0 none true)) j6 D R' G sx' px':=by
 have hk:∀ j B,j∈G→M[j]? = some B→(M.set j6 (.cells (R'.cells sx' px') 0 none true))[j]? = some B:=fun j B hj hB=>by
  rw [at_set_ne (fun e:j6=j=>h.off (by rw [e];exact hj))];exact hB
 exact ⟨h.held.set (by simp) h.base h.at_,h.off,h.base,at_set h.at_,lst_move hs is' hk,lst_move hp ip' hk,is',ip'⟩
theorem MidAt.ret {α:Type} {z:Bool} {E:Enc α} {l:List α} (h:MidAt S M j6 D R G sx px):∃ G',MidAt S (retM z E M l) j6 D R G' sx px∧(∀ j∈G,j∈G')∧InF G' (retX z M l):=by
 by_cases hm:retM z E M l=M
 ·rw [hm]
  refine ⟨G,h,fun j hj=>hj,fun i o v len cap ex e=>?_⟩
  exfalso
  cases l with
  | nil=>cases z with
   | true=>simp only [retM,if_true] at hm;exact absurd (congrArg List.length hm) (by simp)
   | false=>cases e
  | cons a l=>simp only [retM] at hm;exact absurd (congrArg List.length hm) (by simp)
 ·obtain ⟨B,hB⟩:∃ B,retM z E M l=M++[B]:=by
   cases l with
   | nil=>cases z with
    | true=>exact ⟨_,rfl⟩
    | false=>exact absurd rfl hm
   | cons a l=>exact ⟨_,rfl⟩
  rw [hB]
  exact ⟨M.length :: G,h.push B [],fun j hj=>by simp [hj],inF_ret (E:=E) (by simp)⟩
theorem MidAt.rdk (h:MidAt S M j6 D R G sx px) (h1:R.st.length≤100000) (h2:R.pe.length≤100000):rdkOf M (R.cells sx px)=some (R,sx,px):=rdk_mk h.ls h.lp h1 h2
theorem rwrs_shape {first:Int}:∀ (l:List Sec) (k:Nat) (R:Rdk),((Rdk.wrs first l k R).1=0→(Rdk.wrs first l k R).2.pe=[])∧((Rdk.wrs first l k R).1≠0→(Rdk.wrs first l k R).2.st=R.st∧∃ t,(Rdk.wrs first l k R).2.pe=R.pe++t)
 | [],k,R=>by
  simp only [Rdk.wrs]
  unfold Rdk.sync
  obtain ⟨a1,a2⟩:=act_same R
  by_cases he:R.act.1=0
  ·rw [if_pos he]
   exact ⟨fun _=>rfl,fun q=>absurd rfl q⟩
  ·rw [if_neg he]
   exact ⟨fun q=>absurd q he,fun _=>⟨a1,[],by rw [a2,List.append_nil]⟩⟩
 | s :: l,k,R=>by
  obtain ⟨a1,a2⟩:=act_same R
  have hput:((R.put (first+k) s).2.st=R.st)∧∃ t,(R.put (first+k) s).2.pe=R.pe++t:=by
   unfold Rdk.put
   split
   ·split
    ·exact ⟨a1,_,rfl⟩
    ·exact ⟨a1,[],by rw [a2,List.append_nil]⟩
   ·exact ⟨rfl,[],by rw [List.append_nil]⟩
  simp only [Rdk.wrs]
  by_cases he:(R.put (first+k) s).1=0
  ·rw [if_pos he]
   obtain ⟨b1,b2⟩:=rwrs_shape l (k+1) (R.put (first+k) s).2
   refine ⟨b1,fun q=>?_⟩
   obtain ⟨c1,t,c2⟩:=b2 q
   obtain ⟨d1,u,d2⟩:=hput
   exact ⟨by rw [c1,d1],u++t,by rw [c2,d2,List.append_assoc]⟩
  ·rw [if_neg he]
   exact ⟨fun q=>absurd q he,fun _=>hput⟩
theorem rwrite_shape (R:Rdk) (c:Chk):((R.write c).1=0→(R.write c).2.pe=[])∧((R.write c).1≠0→(R.write c).2.st=R.st∧∃ t,(R.write c).2.pe=R.pe++t):=by
 unfold Rdk.write
 split
 ·exact rwrs_shape _ _ _
 ·exact ⟨fun q=>absurd q (by show ¬ (141:Int)=0;decide),fun _=>⟨rfl,[],by rw [List.append_nil]⟩⟩
theorem inF_sn {F:List Nat}:InF F .sn:=fun i o v len cap ex e=>by cases e
theorem write_ref (h:MidAt S M j6 D R G sx px) (h1:R.st.length≤100000) (h2:R.pe.length≤90000) (hf:R.fit) (hw:wfP R.st.length R.pe) {cs:List AV} {c:Chk} (hc:chkOf M cs=some c) (hg:c.good) :
  ∃ sx' px' M3 G',rWriteS [.ag (R.cells sx px),.ag cs] M=some (.tu [.ag ((R.write c).2.cells sx' px'),.i .i64 (R.write c).1],M3)∧MidAt S M3 j6 D R G' sx px∧M <+: M3∧(∀ j∈G,j∈G') ∧
   lstV secE M3 sx'=some (R.write c).2.st∧lstV wrE M3 px'=some (R.write c).2.pe∧InF G' sx'∧InF G' px':=by
 obtain ⟨s1,s2⟩:=rwrite_shape R c
 have hcall:rWriteS [.ag (R.cells sx px),.ag cs] M=some (wOut M R sx px (R.write c)):=by
  simp only [rWriteS,h.rdk h1 (by omega),hc]
  rw [if_pos ⟨hf,hw,h2,hg⟩]
 rw [hcall]
 unfold wOut
 generalize R.write c=r at *
 by_cases he:r.1=0
 ·rw [if_pos he]
  obtain ⟨G',g1,g2,g3⟩:=h.ret (z:=true) (E:=secE) (l:=r.2.st)
  refine ⟨_,.sn,_,G',by rw [he];rfl,g1,retM_ext,g2,(retX_acc (z:=true) (E:=secE) (S:=M) (l:=r.2.st)).lst,by rw [s1 he];rfl,g3,inF_sn⟩
 ·rw [if_neg he]
  obtain ⟨t1,t,t2⟩:=s2 he
  by_cases hl:r.2.pe.length=R.pe.length
  ·rw [if_pos hl]
   have ht:t=[]:=by
    rw [t2,List.length_append] at hl
    exact List.eq_nil_of_length_eq_zero (by omega)
   refine ⟨sx,px,M,G,rfl,h,ext_refl,fun j hj=>hj,by rw [t1];exact h.ls,by rw [t2,ht,List.append_nil];exact h.lp,h.is_,h.ip⟩
  ·rw [if_neg hl]
   obtain ⟨G',g1,g2,g3⟩:=h.ret (z:=true) (E:=wrE) (l:=r.2.pe)
   refine ⟨sx,_,_,G',rfl,g1,retM_ext,g2,by rw [t1];exact g1.ls,(retX_acc (z:=true) (E:=wrE) (S:=M) (l:=r.2.pe)).lst,g1.is_,g3⟩
theorem put_ref (h:MidAt S M j6 D R G sx px) (h1:R.st.length≤100000) (h2:R.pe.length≤90000) (hf:R.fit) (k:Int) (s:Sec) :
  ∃ sx' px' M3 G',rPutS [.ag (R.cells sx px),.i .i64 k,.ag s.enc] M=some (.tu [.ag ((R.put k s).2.cells sx' px'),.i .i64 (R.put k s).1],M3)∧MidAt S M3 j6 D R G' sx px∧M <+: M3∧(∀ j∈G,j∈G') ∧
   lstV secE M3 sx'=some (R.put k s).2.st∧lstV wrE M3 px'=some (R.put k s).2.pe∧InF G' sx'∧InF G' px':=by
 have hcall:rPutS [.ag (R.cells sx px),.i .i64 k,.ag s.enc] M=some (putOut M R sx px k s):=by
  simp only [rPutS,h.rdk h1 (by omega),s.de]
  rw [if_pos hf]
 rw [hcall]
 obtain ⟨a1,a2⟩:=act_same R
 unfold putOut Rdk.put
 by_cases hk:0≤k∧k<R.st.length
 ·rw [if_pos hk,if_pos hk]
  by_cases he:R.act.1=0
  ·rw [if_pos he,if_pos he]
   obtain ⟨G',g1,g2,g3⟩:=h.ret (z:=true) (E:=wrE) (l:=R.pe++[⟨k,s⟩])
   exact ⟨sx,_,_,G',rfl,g1,retM_ext,g2,by show _=some R.act.2.st;rw [a1];exact g1.ls,(retX_acc (z:=true) (E:=wrE) (S:=M) (l:=R.pe++[⟨k,s⟩])).lst,g1.is_,g3⟩
  ·rw [if_neg he,if_neg he]
   exact ⟨sx,px,M,G,rfl,h,ext_refl,fun j hj=>hj,by rw [a1];exact h.ls,by rw [a2];exact h.lp,h.is_,h.ip⟩
 ·rw [if_neg hk,if_neg hk]
  exact ⟨sx,px,M,G,rfl,h,ext_refl,fun j hj=>hj,h.ls,h.lp,h.is_,h.ip⟩
theorem crash_ref (h:MidAt S M j6 D R G sx px) (h1:R.st.length≤100000) (h2:R.pe.length≤90000) (hw:wfP R.st.length R.pe) {kx:AV} {kl:List Bool} (hk:lstV boolE M kx=some kl) (hl:kl.length≤140737488355328) :
  ∃ sx' M3 G',rCrashDS [.ag (R.cells sx px),kx] M=some (.ag ((R.crash kl).cells sx' .sn),M3)∧MidAt S M3 j6 D R G' sx px∧M <+: M3∧(∀ j∈G,j∈G') ∧
   lstV secE M3 sx'=some (R.crash kl).st∧InF G' sx':=by
 have hcall:rCrashDS [.ag (R.cells sx px),kx] M=some (.ag [retX true M (R.settle kl).st,.sn,.b false,.i .i64 0,.b false],retM true secE M (R.settle kl).st):=by
  simp only [rCrashDS,h.rdk h1 (by omega),hk]
  rw [if_pos ⟨hw,hl⟩]
 rw [hcall]
 obtain ⟨G',g1,g2,g3⟩:=h.ret (z:=true) (E:=secE) (l:=(R.settle kl).st)
 exact ⟨_,_,G',rfl,g1,retM_ext,g2,(retX_acc (z:=true) (E:=secE) (S:=M) (l:=(R.settle kl).st)).lst,g3⟩
theorem brk_ref (h:MidAt S M j6 D R G sx px) (h1:R.st.length≤100000) (h2:R.pe.length≤90000) (k:Int):rBrkS [.ag (R.cells sx px),.i .i64 k] M=some (.ag ((R.brk k).cells sx px),M):=by
 simp only [rBrkS,h.rdk h1 (by omega)]
theorem last_ref (h:MidAt S M j6 D R G sx px) (h1:R.st.length≤100000) (h2:R.pe.length≤90000) (hr:Rl D R) (hb:D.by_):rlastS [.ag (R.cells sx px)] M=some (outX M D.last):=by
 simp only [rlastS,h.rdk h1 (by omega)]
 rw [if_pos (hr.byR hb),hr.last hb]
end
theorem one_good {D:Dsk} (hb:D.by_) {first:Int} (h:(D.one first).2=true):(D.one first).1.good:=by
 cases hL:D.got first 16 with
 | none=>rw [one_none hL] at h;cases h
 | some L =>
  rw [one_some hL] at h ⊢
  have hu:=got_u8 hb hL
  cases ho:openF L with
  | none=>rw [ho] at h;cases h
  | some r =>
   rw [ho] at h
   simp only at h ⊢
   obtain ⟨g1,g2,g3,g4,g5,g6⟩:=openF_good hu ho
   by_cases hs:slotF r.seq=first
   ·rw [if_pos hs] at h ⊢
    obtain ⟨c,f,hcf⟩:∃ c f,checkF D.st.length r.seq r.epoch r.pay=(c,f):=⟨_,_,rfl⟩
    rw [hcf] at h ⊢
    obtain rfl:f=true:=h
    obtain ⟨_,_,_,_,k5⟩:=check_inv (fun x hx=>g3 x (List.mem_of_mem_drop hx)) hcf
    exact k5 g1 g2
   ·rw [if_neg hs] at h;cases h
theorem last_few {D:Dsk} (hb:D.by_):D.last.1.book.entries.length≤1000000:=by
 have step:∀ o c:Chk × Bool,o.1.book.entries.length≤1000000→(c.2=true→c.1.good)→(stepC o c).1.book.entries.length≤1000000:=fun o c h1 h2=>by
  unfold stepC
  split
  ·rename_i q;exact (h2 q.1).2.2.2.2.2.1
  ·exact h1
 exact step _ _ (step _ _ (Nat.zero_le _) (one_good hb)) (one_good hb)
set_option maxRecDepth 100000
section
variable {H:Type} {enc:TypeId × Value→H} {P:Program} {w:World}
theorem lst_ofG {α:Type} {sz:Nat} {e:α→List AV} {et:TypeId} {v:Value} {G:List Value→Prop} (hsz:P.cellsOf et=sz) (h0:0<sz)
  (h:v = .slice none 0 0∨∃ a len cap,v = .slice (some a) len cap∧len≤cap∧cap≤maxLen∧∀ i,i<cap→∃ cs,w.cells? 0 (a.add (i * P.cellsOf et)) (P.cellsOf et)=some cs∧G cs)
  (he:∀ cs,G cs→∃ a,cs.map (absV w)=e a∧(e a).length=sz) {good:α→Prop} (hg:∀ cs a,G cs→cs.map (absV w)=e a→good a) :
  ∃ l:List α,Lst sz e (absS w) (absV w v) l∧(∀ a∈l,good a)∧l.length≤maxLen:=by
 rcases h with rfl | ⟨a,len,cap,rfl,hl,hc,hel⟩
 ·exact ⟨[],.inl ⟨rfl,rfl⟩,fun a ha=>by simp at ha,Nat.zero_le _⟩
 ·by_cases h00:len=0∧cap=0
  ·obtain ⟨rfl,rfl⟩:=h00
   exact ⟨[],.inr (.inl ⟨by unfold absV;simp,rfl⟩),fun a ha=>by simp at ha,Nat.zero_le _⟩
  ·have hcap:0<cap:=by omega
   obtain ⟨b,o,sp⟩:=a
   obtain ⟨cs0,hcs0,_⟩:=hel 0 hcap
   obtain ⟨_,hg0⟩:=cells_get hcs0
   have hx:=hg0 0 (by omega)
   have hlen0:=(cells_get hcs0).1
   rw [List.getElem?_eq_getElem (by omega)] at hx
   obtain ⟨hsp,c,et',fz,hc',_⟩:=cell_at hx
   have hadd:∀ k n,((⟨b,o,none⟩:Addr).add k).add n=⟨b,o+(k+n),none⟩:=fun k n=>by rw [add_eq,add_eq,Nat.add_assoc]
   have hspn:sp=none:=by
    cases sp with
    | none=>rfl
    | some s=>simp [Addr.add] at hsp
   subst hspn
   have hb:w.heap[b]? = some (.cells c et' fz):=by rw [hadd] at hc';exact hc'
   obtain ⟨i,hi⟩:=numOf_some hb
   have hav:absV w (.slice (some ⟨b,o,none⟩) len cap) = .sl i o 0 len cap true:=by
    unfold absV;simp only [hi];rw [if_neg h00,if_pos hl]
   have key:∀ k,∃ a:α,k<cap→(∀ j,j<sz→((c.toList.map (absV w))[o+(k * sz+j)]?)=(e a)[j]?)∧(e a).length=sz∧good a:=by
    intro k
    by_cases hk:k<cap
    ·obtain ⟨cs,hcs,ht⟩:=hel k hk
     obtain ⟨a,ha,hla⟩:=he cs ht
     obtain ⟨h1,h2⟩:=cells_get hcs
     refine ⟨a,fun _=>⟨fun j hj=>?_,hla,hg cs a ht ha⟩⟩
     have h3:=h2 j (by omega)
     rw [hsz,hadd] at h3
     have hjl:j<cs.length:=by omega
     rw [List.getElem?_eq_getElem hjl] at h3
     obtain ⟨_,c2,_,_,hc2,hv⟩:=cell_at h3
     rw [hb] at hc2
     simp only [Option.some.injEq,Obj.cells.injEq] at hc2
     obtain ⟨rfl,_⟩:=hc2
     rw [←ha,List.getElem?_map,List.getElem?_map,List.getElem?_eq_getElem hjl,Array.getElem?_toList,hv]
    ·obtain ⟨cs,hcs,ht⟩:=hel 0 hcap
     obtain ⟨a,_⟩:=he cs ht
     exact ⟨a,fun h=>absurd h hk⟩
   obtain ⟨A,hA⟩:=Classical.axiomOfChoice key
   have hrow:∀ n,n≤cap→((c.toList.map (absV w)).drop o).take (n * sz)=((List.range n).map A).flatMap e∧(n * sz≠0→o+n * sz≤c.toList.length):=by
    intro n
    induction n with
    | zero=>intro _;simp
    | succ n ih =>
     intro hn
     obtain ⟨ih,ihl⟩:=ih (by omega)
     obtain ⟨h1,h2,_⟩:=hA n (by omega)
     have hlast:=h1 (sz-1) (by omega)
     rw [List.getElem?_eq_getElem (l:=e (A n)) (by rw [h2];omega)] at hlast
     have hlt:o+(n * sz+(sz-1))<(c.toList.map (absV w)).length:=(List.getElem?_eq_some_iff.1 hlast).1
     have hmul:(n+1) * sz=n * sz+sz:=by rw [Nat.add_mul];omega
     refine ⟨?_,fun _=>by simp only [List.length_map] at hlt;rw [hmul];generalize n * sz=q at hlt ⊢;omega⟩
     rw [List.range_succ,List.map_append,List.flatMap_append,←ih,hmul,List.take_add,List.drop_drop]
     congr 1
     simp only [List.map_cons,List.map_nil,List.flatMap_cons,List.flatMap_nil,List.append_nil]
     apply List.ext_getElem?
     intro j
     by_cases hj:j<sz
     ·rw [List.getElem?_take_of_lt hj,List.getElem?_drop,←h1 j hj]
      congr 1;generalize n * sz=q;omega
     ·rw [List.getElem?_take_eq_none (by omega),List.getElem?_eq_none (by rw [h2];omega)]
   refine ⟨(List.range len).map A,.inr (.inr ⟨i,o,0,len,cap,true,hav,by simp,?_⟩),fun a ha=>?_,by simp;omega⟩
   ·rw [rowAt_B,abs_at hi]
    have hB:absB w b = .cells (c.toList.map (absV w)) 0 none false:=by unfold absB;rw [hb]
    obtain ⟨h1,h2⟩:=hrow len hl
    have hfirst:=(hA 0 hcap).1 0 (by omega)
    rw [List.getElem?_eq_getElem (l:=e (A 0)) (by rw [(hA 0 hcap).2.1];omega)] at hfirst
    have ho:o+(0 * sz+0)<(c.toList.map (absV w)).length:=(List.getElem?_eq_some_iff.1 hfirst).1
    rw [hB,rowB_some,if_pos ?_,h1]
    by_cases hz:len * sz=0
    ·rw [hz];omega
    ·have:=h2 hz;simp only [List.length_map];exact this
   ·simp only [List.mem_map,List.mem_range] at ha
    obtain ⟨k,hk,rfl⟩:=ha
    exact (hA k (by omega)).2.2
abbrev Wts (P:Program) (t:TypeId) (d:DataW H):Prop:=(d.weights P t).all (·≤reachBytes)=true
theorem each_get:∀ (ts:List TypeId) (ds:List (DataW H)) {i:Nat} {t:TypeId} {d:DataW H},(DataW.weightsEach P ts ds).all (·≤reachBytes)=true→ts[i]? = some t→ds[i]? = some d→Wts P t d
 | [],_,i,t,d,_,h,_=>by simp at h
 | t0 :: ts,[],i,t,d,_,_,h=>by simp at h
 | t0 :: ts,d0 :: ds,i,t,d,hw,ht,hd=>by
  rw [DataW.weightsEach,List.all_append,Bool.and_eq_true] at hw
  cases i with
  | zero =>
   simp only [List.getElem?_cons_zero,Option.some.injEq] at ht hd
   subst ht;subst hd
   exact hw.1
  | succ i =>
   simp only [List.getElem?_cons_succ] at ht hd
   exact each_get ts ds hw.2 ht hd
theorem all_get:∀ (ds:List (DataW H)) {t:TypeId} {d:DataW H},(DataW.weightsAll P t ds).all (·≤reachBytes)=true→d∈ds→Wts P t d
 | [],t,d,_,h=>by cases h
 | d0 :: ds,t,d,hw,h=>by
  rw [DataW.weightsAll,List.all_append,Bool.and_eq_true] at hw
  rcases List.mem_cons.1 h with rfl | h
  ·exact hw.1
  ·exact all_get ds hw.2 h
theorem slice_wG {t e:TypeId} {fuel:Nat} {v:Value} {d:DataW H} {ps:List MemPlace} (ht:P.underlying t=some (.slice e)) (h:DataW.trod enc P w 0 (fun _=>true) true fuel t [v]=some (d,ps)) (hw:Wts P t d) :
  v = .slice none 0 0∨∃ a len cap,v = .slice (some a) len cap∧len≤cap∧cap≤maxLen∧cap * P.bytesOf e≤reachBytes∧∀ i,i<cap→∃ cs,w.cells? 0 (a.add (i * P.cellsOf e)) (P.cellsOf e)=some cs∧∃ fuel d ps,DataW.trod enc P w 0 (fun _=>true) true fuel e cs=some (d,ps)∧Wts P e d:=by
 rcases DataW.trod_slice ht h with ⟨h1,_⟩ | ⟨a,len,cap,elems,rest,n,_,h1,hx,_,hl,hm,hlen,hel,hsp,_⟩
 ·left;simpa using h1
 ·right
  have hv:v = .slice (some a) len cap:=by simpa using h1
  obtain ⟨hr,hrest⟩:=hsp rfl
  have hd:d = .slice (elems.map (·.1)) (rest.map (·.1)):=(Prod.mk.inj hx).1
  subst hd
  unfold Wts at hw
  rw [DataW.weights,ht] at hw
  simp only [List.all_cons,List.all_append,Bool.and_eq_true,List.length_map] at hw
  obtain ⟨hw0,hw1,hw2⟩:=hw
  have hcap:elems.length+rest.length=cap:=by omega
  rw [hcap] at hw0
  refine ⟨a,len,cap,hv,hl,hm,of_decide_eq_true hw0,fun i hi=>?_⟩
  have key:∀ y:DataW H × List MemPlace,(w.cells? 0 (a.add (i * P.cellsOf e)) (P.cellsOf e)).bind (DataW.trod enc P w 0 (fun _=>true) true n e)=some y→Wts P e y.1→∃ cs,w.cells? 0 (a.add (i * P.cellsOf e)) (P.cellsOf e)=some cs∧∃ fuel d ps,DataW.trod enc P w 0 (fun _=>true) true fuel e cs=some (d,ps)∧Wts P e d:=by
   intro y hy hf
   obtain ⟨cs,hcs,hyy⟩:=Option.bind_eq_some_iff.1 hy
   exact ⟨cs,hcs,n,y.1,y.2,hyy,hf⟩
  by_cases hil:i<len
  ·have hE:=hel i hil
   have hlt:i<elems.length:=by omega
   rw [List.getElem?_eq_getElem hlt] at hE
   exact key _ hE (all_get _ hw1 (List.mem_map.2 ⟨_,List.getElem_mem hlt,rfl⟩))
  ·have hE:=hrest (i-len) (by omega)
   have hlt:i-len<rest.length:=by omega
   rw [List.getElem?_eq_getElem hlt,show len+(i-len)=i by omega] at hE
   exact key _ hE (all_get _ hw2 (List.mem_map.2 ⟨_,List.getElem_mem hlt,rfl⟩))
theorem field_wG {t:TypeId} {fs:Array Field} {fuel:Nat} {cs:List Value} {d:DataW H} {ps:List MemPlace} (ht:P.underlying t=some (.struct fs)) (h:DataW.trod enc P w 0 (fun _=>true) true fuel t cs=some (d,ps)) (hw:Wts P t d) {i:Nat} {f:Field} (hf:fs[i]? = some f) :
  ∃ fuel d' ps',DataW.trod enc P w 0 (fun _=>true) true fuel f.type ((cs.drop f.offset).take (P.cellsOf f.type))=some (d',ps')∧Wts P f.type d':=by
 obtain ⟨xs,n,_,hx,_,hlen,hel⟩:=DataW.trod_struct ht h
 have hd:d = .agg (xs.map (·.1)):=(Prod.mk.inj hx).1
 subst hd
 unfold Wts at hw
 rw [DataW.weights,ht] at hw
 simp only at hw
 have hE:=hel i f hf
 have hlt:i<xs.length:=by
  rw [hlen];exact (Array.getElem?_eq_some_iff.1 hf).1
 rw [List.getElem?_eq_getElem hlt] at hE
 refine ⟨n,_,_,hE,each_get _ _ hw (i:=i) ?_ ?_⟩
 ·rw [List.getElem?_map,Array.getElem?_toList,hf];rfl
 ·rw [List.getElem?_map,List.getElem?_eq_getElem hlt];rfl
end
structure Acr where
 kind:Int
 at_:Int
 c:Ckr
 s:Sec
 k:AV
def Acr.enc (r:Acr):List AV:=.i .i64 r.kind :: .i .i64 r.at_ :: (r.c.enc++(r.s.enc++[r.k]))
def acrE:Enc Acr where
 enc:=Acr.enc
 dec:=fun cs=>match cs with
  | .i .i64 kind :: .i .i64 at_ :: .i .u64 a :: .i .u32 b :: .i .u64 c :: .i .i64 d :: .i .u64 p :: x :: l=>match Sec.dec (l.take 64),l.drop 64 with
   | some s,[k]=>some ⟨kind,at_,⟨a,b,c,d,p,x⟩,s,k⟩
   | _,_=>none
  | _=>none
 sz:=73
 pos:=by decide
 len:=fun r=>by
  simp only [Acr.enc,Ckr.enc,List.length_cons,List.length_append,r.s.enc_len,List.length_nil]
 de:=fun r=>by
  obtain ⟨kind,at_,c,s,k⟩:=r
  simp only [Acr.enc,Ckr.enc,List.cons_append,List.nil_append]
  rw [List.take_left' s.enc_len,List.drop_left' s.enc_len,s.de]
 ed:=fun r a h=>by
  split at h
  ·split at h
   ·rename_i l s k hs hk
    cases h
    have:=Sec.ed hs
    simp only [Acr.enc,Ckr.enc,List.cons_append,List.nil_append]
    rw [←this,←hk,List.take_append_drop]
   ·cases h
  ·cases h
section
variable {H:Type} {enc:TypeId × Value→H} {W:World}
theorem row_by:∀ (cs:List Value),(∀ v∈cs,CellIs enc Tryz.prog W (.int .u8) v)→∃ b:List Int,cs.map (absV W)=b.map byV∧b.length=cs.length∧∀ c∈b,u8 c
 | [],_=>⟨[],rfl,rfl,fun c h=>by cases h⟩
 | v :: cs,h=>by
  obtain ⟨n,rfl,hn⟩:=h v (by simp)
  obtain ⟨b,h1,h2,h3⟩:=row_by cs fun v hv=>h v (by simp [hv])
  refine ⟨n :: b,?_,by simp [h2],fun c hc=>?_⟩
  ·rw [List.map_cons,List.map_cons,h1];rfl
  ·rcases List.mem_cons.1 hc with rfl | hc
   ·exact wf_u8 hn
   ·exact h3 c hc
theorem RowIs.left {s1 s2:List CS} {c1 c2:List Value} (h:RowIs enc Tryz.prog W (s1++s2) (c1++c2)) (hl:c1.length=s1.length):RowIs enc Tryz.prog W s1 c1∧RowIs enc Tryz.prog W s2 c2:=by
 obtain ⟨h1,h2⟩:=h
 simp only [List.length_append] at h1 h2
 refine ⟨⟨hl,fun i h h'=>?_⟩,⟨by omega,fun i h h'=>?_⟩⟩
 ·have:=h2 i (by omega) (by omega)
  rwa [List.getElem_append_left h,List.getElem_append_left h'] at this
 ·have:=h2 (s1.length+i) (by omega) (by omega)
  rw [List.getElem_append_right (by omega),List.getElem_append_right (by omega)] at this
  simpa [hl] using this
abbrev actSh:List CS:=[.int .i64,.int .i64]++(chkSh++(List.replicate 64 (.int .u8)++[.slice 4]))
theorem cellBoolsW {v:Value} (h:CellIs enc Tryz.prog W (.slice 4) v) (hn:v = .slice none 0 0∨∃ a len cap,v = .slice (some a) len cap∧len≤cap∧cap≤140737488355328):∃ l:List Bool,lstV boolE (absS W) (absV W v)=some l∧l.length≤140737488355328:=by
 have s2:shapes Tryz.prog 20 4=some [.bool]:=by kernel_rfl
 have c2:Tryz.prog.cellsOf 4=1:=by kernel_rfl
 have row:∀ cs:List Value,RowIs enc Tryz.prog W [.bool] cs→∃ a:Bool,cs.map (absV W)=[AV.b a]:=fun cs h=>by
  obtain ⟨h1,h2⟩:=h
  match cs,h1 with
  | [x],_ =>
   obtain ⟨a,rfl⟩:=h2 0 (by simp) (by simp)
   exact ⟨a,rfl⟩
 obtain ⟨l,hl,hf,_⟩:=lst_of (e:=fun n=>[AV.b n]) (sz:=1) c2 (by omega) h (fun cs fuel x ht=>let ⟨a,h1⟩:=row _ (shapes_ok 20 fuel 4 cs x _ ht s2);⟨a,h1,rfl⟩)
  (good:=fun _=>True) (fun cs fuel x a ht he=>trivial)
 refine ⟨l,lst_lstV (E:=boolE) hl,?_⟩
 rcases hl with ⟨_,rfl⟩ | ⟨_,rfl⟩ | ⟨i,o,ver,len,cap,ex,hx,hlen,_⟩
 ·simp
 ·simp
 ·rcases hn with rfl | ⟨a,len',cap',rfl,h1,h2⟩
  ·cases hx
  ·have:len=len':=by
    obtain ⟨b,o',sp⟩:=a
    by_cases h0:len'=0∧cap'=0
    ·obtain ⟨rfl,rfl⟩:=h0
     simp [absV] at hx
    ·simp only [absV,if_neg h0] at hx
     cases hno:numOf W b with
     | none=>rw [hno] at hx;cases sp <;> cases hx
     | some j =>
      rw [hno] at hx
      cases sp with
      | some _=>cases hx
      | none =>
       simp only at hx
       split at hx <;> first | (cases hx;rfl) | (cases hx;done)
   omega
structure Acr.good (S:Mem) (r:Acr):Prop where
 kind:i64 r.kind
 at_:i64 r.at_
 c:r.c.good S
 s:∀ b∈r.s.b,u8 b
 k:∃ l:List Bool,lstV boolE S r.k=some l∧l.length≤140737488355328
theorem argActs {v:Value} {base:Nat} {d:DataW H} {ps:List MemPlace} (o:Value.okWide Tryz.prog W .any base 22 v) (h:DataW.Trod enc Tryz.prog W 0 (fun _=>true) true 22 v d ps) (hw:Wts Tryz.prog 22 d) :
  ∃ l,lstV acrE (absS W) (absA W v)=some l∧∀ r∈l,r.good (absS W):=by
 have s2:shapes Tryz.prog 20 42=some actSh:=by kernel_rfl
 have c2:Tryz.prog.cellsOf 42=73:=by kernel_rfl
 have b1:Tryz.prog.bytesOf 4=1:=by kernel_rfl
 have hv:v.cells.toList=[v]∧absA W v=absV W v:=by
  cases v with
  | agg cs =>
   unfold Value.okWide at o
   rw [Tryz.underlying22] at o
   unfold Cell.okWide at o
   rw [Tryz.underlying22] at o
   unfold Cell.ok at o
   rw [Tryz.underlying22] at o
   simp at o
  | _=>exact ⟨rfl,rfl⟩
 obtain ⟨fuel,h⟩:=h
 rw [hv.1] at h
 have row:∀ cs:List Value,(∃ fuel d ps,DataW.trod enc Tryz.prog W 0 (fun _=>true) true fuel 42 cs=some (d,ps)∧Wts Tryz.prog 42 d)→∃ a:Acr,cs.map (absV W)=a.enc∧a.good (absS W):=by
  rintro cs ⟨fuel,d,ps,ht,hf⟩
  have hr:=shapes_ok 20 fuel 42 cs _ _ ht s2
  have hlen:cs.length=73:=hr.1
  obtain ⟨fs,hfs,f,hff,ho,hc,he⟩:∃ fs,Tryz.prog.underlying 42=some (.struct fs)∧∃ f:Field,fs[4]? = some f∧f.offset=72∧Tryz.prog.cellsOf f.type=1∧Tryz.prog.underlying f.type=some (.slice 4):=⟨_,Tryz.underlying42,_,rfl,rfl,by kernel_rfl,by kernel_rfl⟩
  obtain ⟨f5,d5,ps5,t5,w5⟩:=field_wG hfs ht hf hff
  rw [ho,hc] at t5
  have e1:cs=cs.take 2++((cs.drop 2).take 6++((cs.drop 8).take 64++(cs.drop 72))):=by
   rw [show cs.drop 72=(cs.drop 8).drop 64 by rw [List.drop_drop],List.take_append_drop,show cs.drop 8=(cs.drop 2).drop 6 by rw [List.drop_drop],List.take_append_drop,List.take_append_drop]
  have l1:(cs.take 2).length=2:=by rw [List.length_take];omega
  have l2:((cs.drop 2).take 6).length=6:=by rw [List.length_take,List.length_drop];omega
  have l3:((cs.drop 8).take 64).length=64:=by rw [List.length_take,List.length_drop];omega
  have l4:(cs.drop 72).length=1:=by rw [List.length_drop];omega
  have hr':RowIs enc Tryz.prog W actSh (cs.take 2++((cs.drop 2).take 6++((cs.drop 8).take 64++(cs.drop 72)))):=by rw [←e1];exact hr
  rw [e1]
  generalize cs.take 2=c1 at *
  generalize (cs.drop 2).take 6=c2 at *
  generalize (cs.drop 8).take 64=c3 at *
  generalize cs.drop 72=c4 at *
  obtain ⟨r1,hr'⟩:=hr'.left (by rw [l1];rfl)
  obtain ⟨r2,hr'⟩:=hr'.left (by rw [l2];rfl)
  obtain ⟨r3,r4⟩:=hr'.left (by rw [l3,List.length_replicate])
  obtain ⟨b,hb1,hb2,hb3⟩:=row_by (W:=W) (enc:=enc) c3 fun v hv=>by
   obtain ⟨i,hi,rfl⟩:=List.mem_iff_getElem.1 hv
   have:=r3.2 i (by rw [List.length_replicate];omega) hi
   rwa [List.getElem_replicate] at this
  obtain ⟨c,x,g1,g2,g3,g4,g5,g6,g7,g8⟩:=rowChk r2
  match c1,l1 with
  | [x0,x1],_ =>
   match c4,l4 with
   | [y],_ =>
    obtain ⟨a0,rfl,w0⟩:=r1.2 0 (by simp) (by simp)
    obtain ⟨a1,rfl,w1⟩:=r1.2 1 (by simp) (by simp)
    have hy:=r4.2 0 (by simp) (by simp)
    obtain ⟨ks,k1,k2⟩:=cellBoolsW (v:=y) hy ((slice_wG he t5 w5).imp id fun ⟨a,len,cap,e1,e2,_,e3,_⟩=>⟨a,len,cap,e1,e2,by
     rw [b1] at e3;unfold reachBytes at e3;omega⟩)
    refine ⟨⟨a0,a1,⟨c.gen,c.epoch,c.seq,c.seg,c.book.period,x⟩,⟨b,by rw [hb2,l3]⟩,absV W y⟩,?_,wf_i64 w0,wf_i64 w1,⟨c.book.entries,g2,g3,g4,g5,g6,g7,g8⟩,hb3,⟨ks,k1,k2⟩⟩
    rw [List.map_append,List.map_append,List.map_append,g1,hb1];rfl
 obtain ⟨l,hl,hf,_⟩:=lst_ofG (e:=Acr.enc) (sz:=73) c2 (by omega)
  ((slice_wG Tryz.underlying22 h hw).imp id fun ⟨a,len,cap,e1,e2,e3,_,e4⟩=>⟨a,len,cap,e1,e2,e3,e4⟩)
  (fun cs ht=>let ⟨a,h1,h2⟩:=row _ ht;⟨a,h1,acrE.len a⟩) (good:=Acr.good (absS W)) (fun cs a ht he=>let ⟨a',h1,h2⟩:=row _ ht;enc_inj (E:=acrE) (h1.symm.trans he) ▸ h2)
 rw [hv.2]
 exact ⟨l,lst_lstV (E:=acrE) hl,hf⟩
end
set_option maxRecDepth 10000
theorem acr_len (r:Acr):r.enc.length=73:=acrE.len r
theorem acr_take (r:Acr):r.enc.take 73=r.enc:=List.take_of_length_le (by rw [acr_len];exact Nat.le_refl _)
theorem acr_one (r:Acr) (h1:r.c.x.one=true) (h2:r.k.one=true):r.enc.all AV.one=true:=by
 have:=r.s.one
 simp only [Acr.enc,Ckr.enc,List.all_cons,List.all_append,List.all_nil,h1,h2,this];rfl
theorem acr_cells (r:Acr):cellB (some (.cells r.enc 0 none true)) 0 0=some (.i .i64 r.kind)∧cellB (some (.cells r.enc 0 none true)) 1 0=some (.i .i64 r.at_) ∧
  rowB (some (.cells r.enc 0 none true)) 2 0 6=some r.c.enc∧rowB (some (.cells r.enc 0 none true)) 8 0 64=some r.s.enc∧cellB (some (.cells r.enc 0 none true)) 72 0=some r.k:=by
 have hl:=acr_len r
 obtain ⟨kind,at_,c,s,k⟩:=r
 have hs:=s.enc_len
 refine ⟨rfl,rfl,?_,?_,?_⟩
 ·rw [rowB_some,if_pos (by omega)];rfl
 ·rw [rowB_some,if_pos (by omega)]
  show some ((s.enc++[k]).take 64)=some s.enc
  rw [List.take_left' hs]
 ·show (s.enc++[k])[64]? = some k
  rw [List.getElem?_append_right (by omega),hs];rfl
theorem app_keep {M:Mem} (ks:List Bool) (hl:ks.length≤140737488355328):∃ y T,appV (M++[.cells [] 0 none true]) 1 1 (.sl M.length 0 0 0 0 true) (ks.flatMap boolE.enc) ks.length=some (y,M++T)∧lstV boolE (M++T) y=some ks∧y.one=true∧∀ i,i<M.length→offB y i=true:=by
 by_cases h0:ks.length=0
 ·obtain rfl:=List.eq_nil_of_length_eq_zero h0
  refine ⟨.sl M.length 0 0 0 0 true,[.cells [] 0 none true],by simp only [appV,List.length_nil,if_true],?_,rfl,fun i hi=>by simp only [offB,decide_eq_true_eq];omega⟩
  exact lits_lst (E:=boolE) (cs:=[]) (op:=none) (by rw [at_app0];rfl) rfl rfl
 ·have hlim:(0+ks.length) * 1≤lim∧0+ks.length≤lim:=by unfold lim;omega
  have hrow:rowAt (M++[Blk.cells [] 0 none true]) M.length 0 0 (0 * 1)=some []:=by rw [rowAt_B,at_app0];simp [rowB]
  refine ⟨.sl (M.length+1) 0 0 ks.length ks.length false,[.cells [] 0 none true,.cells (ks.flatMap boolE.enc) 0 (some 1) true],?_,?_,rfl,fun i hi=>by simp only [offB,decide_eq_true_eq];omega⟩
  ·simp only [appV]
   rw [if_neg h0,if_neg (by omega),if_pos hlim,hrow]
   simp only [if_true,List.length_append,List.length_singleton,List.append_assoc,Nat.zero_add,List.nil_append];rfl
  ·exact lits_lst (E:=boolE) (cs:=ks.flatMap boolE.enc) (op:=some 1) (by rw [at_app];rfl) rfl rfl
theorem oRuns_ok:OK Tryz.prog (lamOf Tryz.prog) (orcOf [(5,aliveS),(6,newS),(7,rNewS),(8,sgreatS),(9,swriteS),(10,rWriteS),(11,dWriteS),(12,rPutS),(13,breakS),(14,rBrkS),(15,dCrashS),(16,rCrashDS),(17,swreadS),(18,rlastS),(19,ssameS)]) :=
 orc_ok (by simpa using ⟨salive_ok,new_ok,rnew_ok,sgreat_ok,swrite_ok,rwrite_ok,dwrite_ok,rput7_ok,break_ok,rbrk_ok,dcrash_ok,rcrashd_ok,swread_ok,rlast_ok,rssame_ok⟩)
set_option maxHeartbeats 4000000 in
theorem runs_ok (S:Mem) (n:Int) (x:AV) (L:List Acr) (hL:lstV acrE S x=some L) (hLg:∀ r∈L,r.good S) :
  FnOK Tryz.prog 3 [.i .i64 n,x] S (.b true) S:=by
 have hal:∀ U,aliveS [] U=some (.b true,U):=fun U=>rfl
 have hLl:=lst_len hL
 refine fn_of_wp f3 rfl (W_sound oRuns_ok mixed _ _ _ _ _ ?_)
 by_cases h1:140<n
 ·simp (maxSteps:=1000000) (disch:=omega) only [c3,orc_cons,hal,h1,go_sem]
  exact wkv_same
 ·by_cases h2:30<L.length
  ·have h2I:(30:Int)<L.length:=by omega
   simp (maxSteps:=1000000) (disch:=omega) only [c3,orc_cons,hal,h1,hLl,h2I,go_sem]
   exact wkv_same
  ·have h2I:¬ (30:Int)<L.length:=by omega
   have hnew:newS [.i .i64 n] S=some (.p (S.length+1) 0 0,S++[stBlk (List.replicate (secsN n) zSec),.cells (newHead S (secsN n)) 0 none true]):=rfl
   obtain ⟨S2,hS2⟩:∃ S2,S2=S++[stBlk (List.replicate (secsN n) zSec),Blk.cells (newHead S (secsN n)) 0 none true]:=⟨_,rfl⟩
   have hd:Held S S2 (S.length+1) S.length (Dsk.new n) []:=by rw [hS2];exact new_held S S ext_refl n [] (fun j hj=>by cases hj)
   have hN:secsN n≤140:=by unfold secsN;omega
   have hrn:rNewS [.i .i64 n] S2=some (.ag [retX false S2 (List.replicate (secsN n) zSec),.sn,.b false,.i .i64 0,.b false],retM false secE S2 (List.replicate (secsN n) zSec)):=rfl
   have hrun:∃ (M:Mem) (G:List Nat) (sx:AV) (j6:Nat),rNewS [.i .i64 n] S2=some (.ag [sx,.sn,.b false,.i .i64 0,.b false],M)∧sx.one=true∧j6=M.length ∧
     MidAt S (M++[.cells [sx,.sn,.b false,.i .i64 0,.b false] 0 none true]) j6 (Dsk.new n) ⟨List.replicate (secsN n) zSec,[],false,0,false⟩ G sx .sn:=by
    have hA:=retX_acc (z:=false) (E:=secE) (S:=S2) (l:=List.replicate (secsN n) zSec)
    have hne:retM false secE S2 (List.replicate (secsN n) zSec)=S2∧retX false S2 (List.replicate (secsN n) zSec) = .sn∨∃ B,retM false secE S2 (List.replicate (secsN n) zSec)=S2++[B]:=by
     cases List.replicate (secsN n) zSec with
     | nil=>exact .inl ⟨rfl,rfl⟩
     | cons a l=>exact .inr ⟨_,rfl⟩
    rw [hrn]
    rcases hne with ⟨e1,e2⟩ | ⟨B,e1⟩
    ·rw [e1,e2] at hA ⊢
     refine ⟨S2,[],.sn,S2.length,rfl,rfl,rfl,⟨hd.push _ [],by simp,?_,by rw [at_app0];rfl,?_,rfl,inF_sn,inF_sn⟩⟩
     ·rw [hS2,List.length_append];omega
     ·exact (hA.grow _).lst
    ·have hi:=inF_ret (z:=false) (E:=secE) (M:=S2) (l:=List.replicate (secsN n) zSec) (F:=[S2.length]) (by simp)
     rw [e1] at hA ⊢
     refine ⟨S2++[B],[S2.length],_,(S2++[B]).length,rfl,one_of_accG hA,rfl,⟨((hd.push B []).push _ []),?_,?_,by rw [at_app0];rfl,?_,rfl,hi,inF_sn⟩⟩
     ·simp
     ·rw [List.length_append,hS2,List.length_append];omega
     ·exact (hA.grow _).lst
   obtain ⟨M0,G0,sx0,j6,hrn,hone0,hj6,hmid⟩:=hrun
   have hc0:=cells_one hone0
   rw [←hS2] at hnew
   simp (maxSteps:=1000000) (disch:=omega) only [c3,orc_cons,hal,h1,hLl,h2I,hnew,hrn,hone0,hc0,go_sem]
   subst hj6
   obtain ⟨j6,hj6⟩:∃ j6,j6=M0.length:=⟨_,rfl⟩
   rw [←hj6] at hmid ⊢
   refine wp_loop (fun j e M dl=>dl=[]∧∃ (k:Nat) (D:Dsk) (R:Rdk) (G:List Nat) (sx px:AV),j=L.length-k∧k≤L.length∧MidAt S M j6 D R G sx px∧Rl D R∧Dk D (secsN n) (16 * k) ∧
    e.get 6 = .p j6 0 0∧e.get 5 = .p (S.length+1) 0 0∧e.get 28=x∧e.get 29 = .i .i64 L.length∧e.get 30 = .i .i64 k) (j:=L.length)
    ⟨rfl,0,Dsk.new n,_,G0,sx0,.sn,rfl,Nat.zero_le _,hmid,Rl.new n,Dk.new n,rfl,rfl,rfl,rfl,rfl⟩ ?_
   clear hmid hnew hrn hd hS2 hal hj6 hc0 hone0
   rintro j e M d' ⟨rfl,k,D,R,G,sx,px,rfl,hk,hM,hRl,hDk,e6,e5,e28,e29,e30⟩
   have hSM:=hM.held.ext
   by_cases hkl:k<L.length
   ·have hkI:(k:Int)<L.length:=by omega
    have hk6:k<1000000:=by omega
    obtain ⟨bi,o,v,cap,ex,rfl⟩:=lst_sl hL hkl
    have hro:=lstV_row (lst_ext hL hSM) hkl []
    rw [List.append_nil] at hro
    have hro:rowB (M[bi]?) (o+k * 73) v 73=some (L[k]).enc:=hro
    have hgd:=hLg _ (List.getElem_mem hkl)
    generalize L[k]=r at *
    obtain ⟨⟨es,hes,g1,g2,g3,g4,g5,g6⟩,hsb,ks,hks,hksl⟩:r.c.good S∧(∀ b∈r.s.b,u8 b)∧∃ l:List Bool,lstV boolE S r.k=some l∧l.length≤140737488355328:=⟨hgd.c,hgd.s,hgd.k⟩
    have hat:=hgd.at_
    have hox:r.c.x.one=true:=(lst_oneF hes).1
    have hok':r.k.one=true:=(lst_oneF hks).1
    have cox:=cells_one hox
    have cok:=cells_one hok'
    have hw73:=acr_len r
    have hwone:=acr_one r hox hok'
    have hwtk:=acr_take r
    obtain ⟨a1,a2,a3,a4,a5⟩:=acr_cells r
    obtain ⟨Bw,hBw⟩:∃ Bw:Blk,Bw = .cells r.enc 0 none true:=⟨_,rfl⟩
    rw [←hBw] at a1 a2 a3 a4 a5
    have hM1:=hM.push Bw []
    have hM1w:(M++[Bw])[M.length]? = some Bw:=by rw [at_app0];rfl
    have hesM:lstV entE (M++[Bw]) r.c.x=some es:=lst_ext hes (hM1.held.ext)
    have hgr:=sgreat_eq (c:=⟨r.c.gen,r.c.epoch,r.c.seq,r.c.seg,⟨r.c.period,es⟩⟩) hesM
    simp only at hgr
    rw [c3l0]
    refine wp_seq (W_sound oRuns_ok mixed _ _ _ _ _ ?_)
    simp (maxSteps:=1000000) (disch:=omega) only [e6,e5,e28,e29,e30,hkI,go_sem]
    refine wp_ls oRuns_ok mixed ?_
    simp (maxSteps:=1000000) (disch:=omega) only [e6,e5,e28,e29,e30,go_sem]
    refine wp_live (wp_seq (wp_block (wp_seq (W_sound oRuns_ok mixed _ _ _ _ _ ?_))))
    simp (maxSteps:=1000000) (disch:=omega) only [e6,e5,e28,e29,e30,Int.toNat_natCast,hro,List.replicate,hw73,hwone,hwtk,go_sem]
    rw [←hBw]
    by_cases hg30:30<es.length
    ·rw [decide_eq_true hg30] at hgr
     refine W_sound oRuns_ok mixed _ _ _ _ _ ?_
     simp (maxSteps:=1000000) (disch:=omega) only [a3,hM1w,Ckr.enc,cox,hox,orc_cons,hgr,go_sem]
     exact wkv_dropP (ext_more hSM _) rfl
    ·rw [decide_eq_false hg30] at hgr
     refine wp_ls oRuns_ok mixed ?_
     simp (maxSteps:=1000000) (disch:=omega) only [a3,hM1w,Ckr.enc,cox,hox,orc_cons,hgr,go_sem]
     refine wp_ls oRuns_ok mixed ?_
     simp (maxSteps:=1000000) (disch:=omega) only [e6,go_sem]
     refine wp_live (wp_seq ?_)
     clear hgr hesM hro hw73 hwone hwtk hL hLg hgd hM
     obtain ⟨c,hc⟩:∃ c:Chk,c=⟨r.c.gen,r.c.epoch,r.c.seq,r.c.seg,⟨r.c.period,es⟩⟩:=⟨_,rfl⟩
     have hcg:c.good:=by rw [hc];exact ⟨g1,g2,g3,g4,g5,by show es.length≤_;omega,g6⟩
     have hck:∀ U,S <+: U→chkOf U [.i .u64 r.c.gen,.i .u32 r.c.epoch,.i .u64 r.c.seq,.i .i64 r.c.seg,.i .u64 r.c.period,r.c.x]=some c:=fun U hU=>by rw [hc];exact chkOf_mk (lst_ext hes hU)
     obtain ⟨M1,hM1e⟩:∃ M1,M1=M++[Bw]:=⟨_,rfl⟩
     obtain ⟨iw,hiw⟩:∃ iw,iw=M.length:=⟨_,rfl⟩
     obtain ⟨G1,hG1⟩:∃ G1,G1=M.length :: G:=⟨_,rfl⟩
     have hiG:iw∈G1:=by rw [hG1,hiw];simp
     rw [←hM1e] at hM1w hM1 ⊢
     rw [←hiw] at hM1w ⊢
     rw [←hG1] at hM1
     clear hG1 hiw hM1e hSM
     have hlen:D.st.length≤140:=by rw [hDk.len];exact hN
     have hlenR:R.st.length≤100000:=by rw [hRl.st];omega
     have hpe:D.pe.length≤16 * 30:=Nat.le_trans hDk.few (by omega)
     have hpeR:R.pe.length≤90000:=by rw [hRl.pe];omega
     have hwfR:wfP R.st.length R.pe:=by rw [hRl.st,hRl.pe];exact hM1.held.okD.wf
     refine WP.mono (Q:=fun xx e' M' d'=>xx = .normal∧d'=[]∧∃ (D':Dsk) (R':Rdk) (G':List Nat) (sx' px':AV) (er:Int),MidAt S M' j6 D' R' G' sx' px'∧Rl D' R'∧Dk D' (secsN n) (16 * (k+1)) ∧
      e'.get 9 = .i .i64 er∧e'.get 10 = .i .i64 er∧e'.get 6 = .p j6 0 0∧e'.get 5 = .p (S.length+1) 0 0∧e'.get 28 = .sl bi o v L.length cap ex∧e'.get 29 = .i .i64 L.length∧e'.get 30 = .i .i64 k) ?_ ?_
     ·have hSM1:=hM1.held.ext
      by_cases k0:r.kind=0
      ·rw [k0] at a1
       have hdk2:=hDk.swrite hcg
       obtain ⟨M2,kw,hH2,hf2⟩:=hM1.held.write (hck M1 hSM1) hcg (by have:=hdk2.few;omega)
       have hM2:=hM1.op hH2 hf2
       obtain ⟨w1,hRl2⟩:=hRl.swrite c
       have hw2:=hf2 iw _ (by simp [hiG]) hM1w
       obtain ⟨sx',px',M3,G3,hcall,hM3,hM23,hG3,q1,q2,q3,q4⟩:=write_ref hM2 hlenR hpeR hRl.fit hwfR (hck M2 hM2.held.ext) hcg
       have hfin:=hM3.turn q1 q2 q3 q4
       have h62:=hM2.at_
       have h63:=hM3.at_
       obtain ⟨osx,_⟩:=lst_oneF hM2.ls
       obtain ⟨opx,_⟩:=lst_oneF hM2.lp
       obtain ⟨osx',_⟩:=lst_oneF q1
       obtain ⟨opx',_⟩:=lst_oneF q2
       have csx:=cells_one osx
       have cpx:=cells_one opx
       have csx':=cells_one osx'
       have cpx':=cells_one opx'
       rw [w1] at hcall
       generalize (D.swrite c).1=er at *
       generalize (D.swrite c).2=D2 at *
       generalize (R.write c).2=R2 at *
       simp only [Rdk.cells] at hcall h62 h63 hfin
       refine W_sound oRuns_ok mixed _ _ _ _ _ ?_
       simp (maxSteps:=1000000) (disch:=omega) only [e6,a1,hM1w,a3,Ckr.enc,cox,hox,orc_cons,kw,hw2,h62,osx,opx,csx,cpx,hcall,h63,osx',opx',csx',cpx',go_sem]
       exact ⟨D2,R2,G3,sx',px',er,hfin,hRl2,hdk2.more (by omega),rfl,rfl⟩
      ·by_cases k1:r.kind=1
       ·rw [k1] at a1
        have hdk2:=hDk.write r.at_ hsb
        obtain ⟨M2,kw,hH2,hf2⟩:=hM1.held.dwrite (by omega) r.at_ r.s
        have hM2:=hM1.op hH2 hf2
        obtain ⟨w1,hRl2⟩:=hRl.write r.at_ r.s
        have hw2:=hf2 iw _ (by simp [hiG]) hM1w
        obtain ⟨sx',px',M3,G3,hcall,hM3,hM23,hG3,q1,q2,q3,q4⟩:=put_ref hM2 hlenR hpeR hRl.fit r.at_ r.s
        have hfin:=hM3.turn q1 q2 q3 q4
        have h62:=hM2.at_
        have h63:=hM3.at_
        obtain ⟨osx,_⟩:=lst_oneF hM2.ls
        obtain ⟨opx,_⟩:=lst_oneF hM2.lp
        obtain ⟨osx',_⟩:=lst_oneF q1
        obtain ⟨opx',_⟩:=lst_oneF q2
        have csx:=cells_one osx
        have cpx:=cells_one opx
        have csx':=cells_one osx'
        have cpx':=cells_one opx'
        have hs64:=r.s.enc_len
        have hsone:=r.s.one
        have hstk:=r.s.take64
        rw [w1] at hcall
        generalize (D.write r.at_ r.s).1=er at *
        generalize (D.write r.at_ r.s).2=D2 at *
        generalize (R.put r.at_ r.s).2=R2 at *
        simp only [Rdk.cells] at hcall h62 h63 hfin
        refine W_sound oRuns_ok mixed _ _ _ _ _ ?_
        simp (maxSteps:=1000000) (disch:=omega) only [e6,a1,a2,hM1w,a4,hs64,hsone,hstk,orc_cons,kw,hw2,h62,osx,opx,csx,cpx,hcall,h63,osx',opx',csx',cpx',go_sem]
        exact ⟨D2,R2,G3,sx',px',er,hfin,hRl2,hdk2.more (by omega),rfl,rfl⟩
       ·by_cases k2:r.kind=2
        ·rw [k2] at a1
         have hdk2:=hDk.brk r.at_
         obtain ⟨M2,kw,hH2,hf2⟩:=hM1.held.brk hat.2
         have hM2:=hM1.op hH2 hf2
         have hRl2:=hRl.brk hat.2
         have hw2:=hf2 iw _ (by simp [hiG]) hM1w
         have hcall:=brk_ref hM2 hlenR hpeR r.at_
         have hfin:=hM2.turn (R':=R.brk r.at_) hM2.ls hM2.lp hM2.is_ hM2.ip
         have h62:=hM2.at_
         obtain ⟨osx,_⟩:=lst_oneF hM2.ls
         obtain ⟨opx,_⟩:=lst_oneF hM2.lp
         have csx:=cells_one osx
         have cpx:=cells_one opx
         generalize D.brk r.at_=D2 at *
         generalize R.brk r.at_=R2 at *
         simp only [Rdk.cells] at hcall h62 hfin
         refine W_sound oRuns_ok mixed _ _ _ _ _ ?_
         simp (maxSteps:=1000000) (disch:=omega) only [e6,a1,a2,hM1w,orc_cons,kw,hw2,h62,osx,opx,csx,cpx,hcall,go_sem]
         exact ⟨D2,R2,_,sx,px,0,hfin,hRl2,hdk2.more (by omega),rfl,rfl⟩
        ·by_cases k3:r.kind=3
         ·rw [k3] at a1
          obtain ⟨y,T,happ,hly,hoy,hfy⟩:=app_keep (M:=M1) ks hksl
          have hMc:=hM1.grow T
          have hSlt:S.length<M1.length:=Nat.lt_of_le_of_lt hM1.base hM1.lt
          have hdk2:=hDk.crash ks
          obtain ⟨M2,kw,hH2,hf2⟩:=hMc.held.crash hly (hfy _ hSlt) hoy
          have hM2:=hMc.op hH2 hf2
          have hRl2:=hRl.crash ks
          have hw2:=hf2 iw _ (by simp [hiG]) (at_old (L:=T) hM1w)
          have hw1:=at_old (L:=[Blk.cells [] 0 none true]) hM1w
          have hsrc:srcV (M1++[Blk.cells [] 0 none true]) 1 r.k=some (ks.flatMap boolE.enc,ks.length):=src_lst (E:=boolE) (lst_ext hks (ext_more hSM1 _))
          obtain ⟨sx',M3,G3,hcall,hM3,hM23,hG3,q1,q3⟩:=crash_ref hM2 hlenR hpeR hwfR (lst_ext hks hM2.held.ext) hksl
          have hfin:=hM3.turn (px':=.sn) q1 rfl q3 inF_sn
          have h62:=hM2.at_
          have h63:=hM3.at_
          obtain ⟨osx,_⟩:=lst_oneF hM2.ls
          obtain ⟨opx,_⟩:=lst_oneF hM2.lp
          obtain ⟨osx',_⟩:=lst_oneF q1
          have csx:=cells_one osx
          have cpx:=cells_one opx
          have csx':=cells_one osx'
          generalize D.crash ks=D2 at *
          generalize R.crash ks=R2 at *
          simp only [Rdk.cells] at hcall h62 h63 hfin
          refine W_sound oRuns_ok mixed _ _ _ _ _ ?_
          simp (maxSteps:=1000000) (disch:=omega) only [e6,a1,hM1w,hw1,a5,orc_cons,hsrc,happ,kw,hw2,h62,osx,opx,csx,cpx,hcall,h63,osx',csx',List.replicate,go_sem]
          exact ⟨D2,R2,G3,sx',.sn,0,hfin,hRl2,hdk2.more (by omega),rfl,rfl⟩
         ·refine W_sound oRuns_ok mixed _ _ _ _ _ ?_
          simp (maxSteps:=1000000) (disch:=omega) only [e6,a1,hM1w,k0,k1,k2,k3,go_sem]
          exact ⟨D,R,_,sx,px,0,hM1,hRl,hDk.more (by omega),rfl,rfl⟩
     ·rintro xx e' M' d' ⟨rfl,rfl,D',R',G',sx',px',er,hM',hRl',hDk',e9,e10,e6',e5',e28',e29',e30'⟩
      rw [seqK_normal]
      have hlen':D'.st.length≤140:=by rw [hDk'.len];exact hN
      have hlenR':R'.st.length≤100000:=by rw [hRl'.st];omega
      have hpe':D'.pe.length≤16 * 30:=Nat.le_trans hDk'.few (by omega)
      have hpeR':R'.pe.length≤90000:=by rw [hRl'.pe];omega
      have hrd:=hM'.held.read hDk'.by_
      have hfew:=last_few hDk'.by_
      obtain ⟨⟨og,oe,oq,os,op,oes⟩,ob,hout⟩:∃ c f,D'.last=(c,f):=⟨_,_,rfl⟩
      rw [hout] at hrd hfew
      simp only [outX] at hrd hfew
      have hA:=retX_acc (z:=false) (E:=entE) (S:=M') (l:=oes)
      generalize retX false M' oes=X at hrd hA
      generalize retM false entE M' oes=M2 at hrd hA
      have oneX:=one_of_accG hA
      have cpX:=cells_one oneX
      obtain ⟨B1,hB1⟩:∃ B1:Blk,B1 = .cells [.i .u64 og,.i .u32 oe,.i .u64 oq,.i .i64 os,.i .u64 op,X] 0 none true:=⟨_,rfl⟩
      have hM3:=(hM'.extM hA.ext).grow [B1]
      obtain ⟨os1,_⟩:=lst_oneF hM3.ls
      obtain ⟨op1,_⟩:=lst_oneF hM3.lp
      have cs1:=cells_one os1
      have cp1:=cells_one op1
      have hrd2:=last_ref hM3 hlenR' hpeR' hRl' hDk'.by_
      have hb1:(M2++[B1])[M2.length]? = some B1:=by rw [at_app0];rfl
      have h6:=hM3.at_
      rw [hout] at hrd2
      simp only [outX,Rdk.cells] at hrd2 h6
      have hC:=retX_acc (z:=false) (E:=entE) (S:=M2++[B1]) (l:=oes)
      have hSM3:=hM3.held.ext
      have hlX:lstV entE (M2++[B1]) X=some oes:=lstV_grow hA.lst _
      generalize retX false (M2++[B1]) oes=Y at hrd2 hC
      generalize retM false entE (M2++[B1]) oes=M4 at hrd2 hC
      have oneY:=one_of_accG hC
      have cpY:=cells_one oneY
      have hb4:=fun U=>at_old (L:=U) (at_pre hC.ext hb1)
      have hM4:=hM3.extM hC.ext
      have hsm:∀ U,ssameS [.ag [.i .u64 og,.i .u32 oe,.i .u64 oq,.i .i64 os,.i .u64 op,X],.ag [.i .u64 og,.i .u32 oe,.i .u64 oq,.i .i64 os,.i .u64 op,Y]] (M4++U)=some (.b true,M4++U):=fun U=>by
       have p1:=chkOf_mk (g:=og) (ep:=oe) (sq:=oq) (sg:=os) (p:=op) (lst_ext hlX (ext_more hC.ext U))
       have p2:=chkOf_mk (g:=og) (ep:=oe) (sq:=oq) (sg:=os) (p:=op) (lstV_grow hC.lst U)
       simp only [ssameS,p1,p2]
       rw [if_pos (by show oes.length≤_;omega)];simp
      rw [hB1] at hrd2 hb4 h6
      refine wp_live (wp_seq (W_sound oRuns_ok mixed _ _ _ _ _ ?_))
      simp (maxSteps:=1000000) (disch:=omega) only [e9,e10,e6',e5',e28',e29',e30',orc_cons,hrd,oneX,cpX,go_sem]
      refine W_sound oRuns_ok mixed _ _ _ _ _ ?_
      simp (maxSteps:=1000000) (disch:=omega) only [h6,os1,op1,cs1,cp1,orc_cons,hrd2,oneY,cpY,hb4,hsm,go_sem]
      refine W_sound oRuns_ok mixed _ _ _ _ _ ?_
      simp (maxSteps:=1000000) (disch:=omega) only [wrapS hk6,go_sem]
      refine ⟨L.length-(k+1),?_,k+1,D',R',G',sx',px',?_,?_,?_,hRl',hDk',?_⟩
      ·omega
      ·rfl
      ·omega
      ·exact hM4.grow _
      ·rfl
   ·have hkI:¬ (k:Int)<L.length:=by omega
    refine W_sound oRuns_ok mixed _ _ _ _ _ ?_
    simp (maxSteps:=1000000) (disch:=omega) only [c3l0,e6,e5,e28,e29,e30,hkI,go_sem]
    exact wkv_dropP hSM rfl
set_option maxRecDepth 100000
section
variable {H:Type} {enc:TypeId × Value→H}
theorem walkSlotRuns (W:World) (v0 v1:Value) {base:Nat} (o0:Value.okWide Tryz.prog W .any base 3 v0) (o1:Value.okWide Tryz.prog W .any base 22 v1) {d0 d1:DataW H} {p0 p1:List MemPlace}
  (h0:DataW.Trod enc Tryz.prog W 0 (fun _=>true) true 3 v0 d0 p0) (h1:DataW.Trod enc Tryz.prog W 0 (fun _=>true) true 22 v1 d1 p1) (w1:Wts Tryz.prog 22 d1) :
  Calls Tryz.prog 3 #[v0,v1] W fun e w'=>e = .returned (.bool true)∧Below W.heap.size W w':=by
 obtain ⟨n,rfl,_,_,hn⟩:=Go.ChangeShapes.open_int Tryz.underlying3 o0 h0
 obtain ⟨l,hl,hg⟩:=argActs o1 h1 w1
 refine calls_of_fnOK (S':=absS W) ?_
 show FnOK Tryz.prog _ [AV.i .i64 n,absA W v1] _ _ _
 exact runs_ok _ n _ l hl hg
end
end Go.Proofs.YtkfobkfhbkicaaaGreat
