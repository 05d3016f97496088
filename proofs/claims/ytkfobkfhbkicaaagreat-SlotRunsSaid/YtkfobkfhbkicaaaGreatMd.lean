/- Proved here: what the law of this claim leans on (an evaluator of the model's code, contracts of functions). No condition. -/
import Derived.Test.YtkfobkfhbkicaaaGreatQCode
import Derived.Test.YtkfobkfhbkicaaaGreatMc
set_option linter.unusedSimpArgs false
set_option linter.unusedVariables false
namespace Go.Proofs.YtkfobkfhbkicaaaGreat
open Go.RowKit
attribute [go_sem] Option.map_none Option.map_some decide_true decide_false iaddr_i iaddr_sl_i not_true_eq_false not_false_eq_true ne_eq forall_const false_imp_iff true_imp_iff implies_true Int.cast_ofNat_Int Int.natCast_zero Int.natCast_one Int.add_zero Int.zero_add Nat.reduceBEq Nat.reduceAdd Nat.reduceSub Nat.reduceEqDiff Nat.reduceLeDiff Nat.reduceMul Nat.reduceLT Int.reduceLT Int.reduceLE Int.reduceAdd Int.reduceSub Int.reduceMul Int.reduceNeg Int.reduceEq Int.reduceNe Int.reduceToNat reduceCtorEq
attribute [go_sem ↓] reduceIte
set_option maxRecDepth 10000
def u8 (n:Int):Prop:=0≤n∧n≤255
instance (n:Int):Decidable (u8 n):=by unfold u8;infer_instance
def u32 (n:Int):Prop:=0≤n∧n≤4294967295
instance (n:Int):Decidable (u32 n):=by unfold u32;infer_instance
def num (a b c d:Int):Int:=((a * 256+b) * 256+c) * 256+d
def b3 (n:Int):Int:=n / 16777216
def b2 (n:Int):Int:=n / 65536 % 256
def b1 (n:Int):Int:=n / 256 % 256
def b0 (n:Int):Int:=n % 256
def cl (k:Int):Int:=max 0 (min k 32)
def pw (k:Int):Int:=((2 ^ (32-k).toNat:Nat):Int)
def cutv (n k:Int):Int:=n / pw k * pw k
theorem num_b {n:Int} (h:u32 n):num (b3 n) (b2 n) (b1 n) (b0 n)=n:=by unfold num b3 b2 b1 b0 u32 at *;omega
theorem u8_b3 {n:Int} (h:u32 n):u8 (b3 n):=by unfold b3 u8 u32 at *;omega
theorem u8_b2 (n:Int):u8 (b2 n):=by unfold b2 u8;omega
theorem u8_b1 (n:Int):u8 (b1 n):=by unfold b1 u8;omega
theorem u8_b0 (n:Int):u8 (b0 n):=by unfold b0 u8;omega
theorem u32_num {a b c d:Int} (ha:u8 a) (hb:u8 b) (hc:u8 c) (hd:u8 d):u32 (num a b c d):=by unfold num u8 u32 at *;omega
theorem b_num {a b c d:Int} (ha:u8 a) (hb:u8 b) (hc:u8 c) (hd:u8 d):b3 (num a b c d)=a∧b2 (num a b c d)=b∧b1 (num a b c d)=c∧b0 (num a b c d)=d:=by
 unfold num b3 b2 b1 b0 u8 at *;omega
theorem cl_bound (k:Int):0≤cl k∧cl k≤32:=by unfold cl;omega
theorem pw_pos (k:Int):0<pw k:=by unfold pw;exact Int.natCast_pos.2 (Nat.two_pow_pos _)
theorem cutv_le {n k:Int}:cutv n k≤n:=Int.ediv_mul_le n (by have:=pw_pos k;omega)
theorem u32_cutv {n k:Int} (h:u32 n):u32 (cutv n k):=by
 have h1:cutv n k≤n:=cutv_le
 have h2:0≤n / pw k:=Int.ediv_nonneg h.1 (Int.le_of_lt (pw_pos k))
 have h3:0≤cutv n k:=Int.mul_nonneg h2 (Int.le_of_lt (pw_pos k))
 unfold u32 at *;omega
theorem or_low {a c:Int} (ha:0≤a) (ha2:a≤4294967295) (hm:a % 256=0) (hc:0≤c) (hc2:c≤255):bitsV .u32 .or a c=some (a+c):=by
 obtain ⟨x,rfl⟩:=Int.eq_ofNat_of_zero_le ha
 obtain ⟨y,rfl⟩:=Int.eq_ofNat_of_zero_le hc
 have hx:x<4294967296:=by omega
 have e1:(BitVec.ofInt IntKind.u32.bits (x:Int)).toNat=x:=by show (BitVec.ofInt 32 (x:Int)).toNat=x;simp [BitVec.toNat_ofInt];omega
 have e2:(BitVec.ofInt IntKind.u32.bits (y:Int)).toNat=y:=by show (BitVec.ofInt 32 (y:Int)).toNat=y;simp [BitVec.toNat_ofInt];omega
 have e3:Nat.lor x y=x+y:=by
  have:=Nat.shiftLeft_add_eq_or_of_lt (show y<2 ^ 8 by omega) (x / 256)
  have hs:(x / 256) <<< 8=x:=by rw [Nat.shiftLeft_eq];omega
  rw [hs] at this
  exact this.symm
 simp only [bitsV,e1,e2,e3,wrapV]
 congr 1
 omega
theorem nat_and_mask {n j:Nat} (hn:n<2 ^ 32) (hj:j≤32):n &&& (2 ^ 32-2 ^ j)=n / 2 ^ j * 2 ^ j:=by
 have h1:n / 2 ^ j * 2 ^ j=(n >>> j) <<< j:=by rw [Nat.shiftLeft_eq,Nat.shiftRight_eq_div_pow]
 rw [h1]
 apply Nat.eq_of_testBit_eq
 intro i
 have h2:2 ^ 32-2 ^ j=2 ^ 32-((2 ^ j-1)+1):=by have:=Nat.two_pow_pos j;omega
 have h3:2 ^ j-1<2 ^ 32:=by have:=Nat.pow_le_pow_right (n:=2) (by omega) hj;have:=Nat.two_pow_pos j;omega
 rw [h2,Nat.testBit_and,Nat.testBit_two_pow_sub_succ h3,Nat.testBit_two_pow_sub_one,Nat.testBit_shiftLeft,Nat.testBit_shiftRight]
 by_cases hi:i<j
 ·simp [hi];omega
 ·have hji:j≤i:=by omega
  rw [show j+(i-j)=i by omega]
  by_cases h32:i<32
  ·simp [hi,hji,h32]
  ·have:n.testBit i=false:=Nat.testBit_lt_two_pow (Nat.lt_of_lt_of_le hn (Nat.pow_le_pow_right (by omega) (by omega)))
   simp [this]
theorem and_mask {n k:Int} (h:u32 n) (h0:0≤k) (h1:k≤32):bitsV .u32 .and n (4294967296-pw k)=some (cutv n k):=by
 obtain ⟨x,rfl⟩:=Int.eq_ofNat_of_zero_le h.1
 unfold cutv pw
 generalize hj:(32-k).toNat=j
 have hj2:j≤32:=by omega
 have hp:=Nat.pow_le_pow_right (n:=2) (by omega) hj2
 have hp0:=Nat.two_pow_pos j
 have hx:x<2 ^ 32:=by have:=h.2;omega
 have e1:(BitVec.ofInt IntKind.u32.bits (x:Int)).toNat=x:=by show (BitVec.ofInt 32 (x:Int)).toNat=x;simp [BitVec.toNat_ofInt];omega
 have e2:(BitVec.ofInt IntKind.u32.bits (4294967296-((2 ^ j:Nat):Int))).toNat=2 ^ 32-2 ^ j:=by
  show (BitVec.ofInt 32 _).toNat=_
  rw [show (4294967296:Int)-((2 ^ j:Nat):Int)=((2 ^ 32-2 ^ j:Nat):Int) by omega]
  simp only [BitVec.toNat_ofInt]
  omega
 simp only [bitsV,e1,e2,wrapV]
 rw [show Nat.land x (2 ^ 32-2 ^ j)=x &&& (2 ^ 32-2 ^ j) from rfl,nat_and_mask hx hj2]
 congr 1
 have:=Nat.div_mul_le_self x (2 ^ j)
 rw [←Int.natCast_ediv,←Int.natCast_mul]
 omega
theorem shl_mask {k:Int} (h0:0≤k) (h1:k≤32):shiftV .shl .u32 4294967295 (32-k)=some (.i .u32 (4294967296-pw k)):=by
 unfold shiftV pw
 rw [if_neg (by omega)]
 have hb:IntKind.u32.bits=32:=rfl
 simp only [hb,wrapV]
 rw [Nat.min_eq_left (by omega)]
 congr 2
 generalize hj:(32-k).toNat=j
 have hp:=Nat.pow_le_pow_right (n:=2) (by omega) (show j≤32 by omega)
 have hp0:=Nat.two_pow_pos j
 omega
theorem shr_24 {n:Int} (h:0≤n):shiftV .shr .u32 n 24=some (.i .u32 (n / 16777216)):=by
 simp only [shiftV,IntKind.bits]
 rw [if_neg (by omega),Int.fdiv_eq_ediv_of_nonneg _ (Int.natCast_nonneg _)];rfl
theorem shr_16 {n:Int} (h:0≤n):shiftV .shr .u32 n 16=some (.i .u32 (n / 65536)):=by
 simp only [shiftV,IntKind.bits]
 rw [if_neg (by omega),Int.fdiv_eq_ediv_of_nonneg _ (Int.natCast_nonneg _)];rfl
theorem shr_8 {n:Int} (h:0≤n):shiftV .shr .u32 n 8=some (.i .u32 (n / 256)):=by
 simp only [shiftV,IntKind.bits]
 rw [if_neg (by omega),Int.fdiv_eq_ediv_of_nonneg _ (Int.natCast_nonneg _)];rfl
theorem shl_8 {n:Int} (h:0≤n) (h2:n≤16777215):shiftV .shl .u32 n 8=some (.i .u32 (n * 256)):=by
 simp only [shiftV,IntKind.bits,wrapV]
 rw [if_neg (by omega)]
 congr 2
 show n * 256 % 4294967296=_
 omega
theorem wrap_mod {n:Int}:wrapV .u8 n=n % 256:=rfl
theorem bin_or {cst:Bool} {a c:Int} (ha:0≤a) (ha2:a≤4294967295) (hm:a % 256=0) (hc:0≤c) (hc2:c≤255):binV .int cst .or (.i .u32 a) (.i .u32 c)=some (.i .u32 (a+c)):=by
 rw [bin_i rfl]
 simp only [intV,or_low ha ha2 hm hc hc2,Option.map_some]
theorem bin_and {cst:Bool} {n k:Int} (h:u32 n) (h0:0≤k) (h1:k≤32):binV .int cst .and (.i .u32 n) (.i .u32 (4294967296-pw k))=some (.i .u32 (cutv n k)):=by
 rw [bin_i rfl]
 simp only [intV,and_mask h h0 h1,Option.map_some]
theorem ixa_ag {l:Nat} {cs:List AV} {q:IntKind} {n:Int} (h0:0≤n) (h1:n<l):ixaV l 1 none (.ag cs) (.i q n)=cs[n.toNat]?:=by
 have hn:natV (.i q n)=some n.toNat:=natV_i h0
 simp only [ixaV,hn]
 rw [if_pos (by omega)]
 simp [partV]
def adr (n:Int):AV:=.ag [.i .u8 (b3 n),.i .u8 (b2 n),.i .u8 (b1 n),.i .u8 (b0 n)]
def net (n k:Int):AV:=.ag [.i .u8 (b3 n),.i .u8 (b2 n),.i .u8 (b1 n),.i .u8 (b0 n),.i .i64 k]
def right (n k:Int):Prop:=cl k=k∧cutv n k=n
instance (n k:Int):Decidable (right n k):=by unfold right;infer_instance
def within (n j m k:Int):Prop:=right n j∧k≤j∧right m k∧cutv n k=m
instance (n j m k:Int):Decidable (within n j m k):=by unfold within;infer_instance
theorem eq_net {a b c d x y z w j k:Int}:eqAgV false [.int,.int,.int,.int,.int] (.ag [.i .u8 a,.i .u8 b,.i .u8 c,.i .u8 d,.i .i64 j]) (.ag [.i .u8 x,.i .u8 y,.i .u8 z,.i .u8 w,.i .i64 k])=some (.b (decide (a=x∧b=y∧c=z∧d=w∧j=k))):=by
 simp [eqAgV,eqCells,eqCell,Bool.beq_eq_decide_eq]
theorem none_ok:OK Tryz.prog (lamOf Tryz.prog) (orcOf []):=orc_ok (l:=[]) (fun p hp=>by cases hp)
def u84 (a b c d:Int):Prop:=u8 a∧u8 b∧u8 c∧u8 d
instance (a b c d:Int):Decidable (u84 a b c d):=by unfold u84;infer_instance
theorem u84_b {n:Int} (h:u32 n):u84 (b3 n) (b2 n) (b1 n) (b0 n):=⟨u8_b3 h,u8_b2 n,u8_b1 n,u8_b0 n⟩
theorem u84_num {a b c d:Int} (h:u84 a b c d):u32 (num a b c d):=u32_num h.1 h.2.1 h.2.2.1 h.2.2.2
def ofS:Spec:=fun args S=>match args with
 | [.i .u32 n]=>if u32 n then some (adr n,S) else none
 | _=>none
theorem ofS_eq {n:Int} (h:u32 n) (S:Mem):ofS [.i .u32 n] S=some (adr n,S):=by simp only [ofS,if_pos h]
theorem of_ok:SpecOK Tryz.prog 122 ofS:=by
 intro args S x S' h
 simp only [ofS] at h
 split at h
 ·rename_i n
  split at h
  ·rename_i hn
   cases h
   unfold u32 at hn
   refine fn_of_wp f122 rfl (W_sound none_ok mixed _ _ _ _ _ ?_)
   simp (maxSteps:=1000000) (disch:=omega) only [c122,shr_24,shr_16,shr_8,wrap_mod,go_sem]
   rw [show adr n=AV.ag [AV.i IntKind.u8 (n / 16777216 % 256),AV.i IntKind.u8 (n / 65536 % 256),AV.i IntKind.u8 (n / 256 % 256),AV.i IntKind.u8 (n % 256)] by rw [show n / 16777216 % 256=n / 16777216 by omega];rfl]
   exact wkv_drop rfl
  ·cases h
 ·cases h
theorem rof_ok:SpecOK Tryz.prog 113 ofS:=by
 intro args S x S' h
 simp only [ofS] at h
 split at h
 ·rename_i n
  split at h
  ·rename_i hn
   cases h
   unfold u32 at hn
   refine fn_of_wp f113 rfl (W_sound none_ok mixed _ _ _ _ _ ?_)
   simp (maxSteps:=1000000) (disch:=omega) only [c113,go_sem]
   exact wkv_drop rfl
  ·cases h
 ·cases h
def numS:Spec:=fun args S=>match args with
 | [.ag [.i .u8 a,.i .u8 b,.i .u8 c,.i .u8 d]]=>if u84 a b c d then some (.i .u32 (num a b c d),S) else none
 | _=>none
theorem numS_eq {a b c d:Int} (h:u84 a b c d) (S:Mem):numS [.ag [.i .u8 a,.i .u8 b,.i .u8 c,.i .u8 d]] S=some (.i .u32 (num a b c d),S):=by simp only [numS,if_pos h]
theorem num_ok:SpecOK Tryz.prog 101 numS:=by
 intro args S x S' h
 simp only [numS] at h
 split at h
 ·rename_i a b c d
  split at h
  ·rename_i hn
   cases h
   obtain ⟨ha,hb,hc,hd⟩:=hn
   unfold u8 at ha hb hc hd
   refine fn_of_wp f101 rfl (W_sound none_ok mixed _ _ _ _ _ ?_)
   simp (maxSteps:=1000000) (disch:=omega) only [c101,go_sem]
   refine wp_unroll none_ok mixed 5 ?_
   simp (maxSteps:=1000000) (disch:=omega) only [c101l0,shl_8,bin_or,ixa_ag,go_sem]
   exact wkv_drop rfl
  ·cases h
 ·cases h
theorem rnum_ok:SpecOK Tryz.prog 100 numS:=by
 intro args S x S' h
 simp only [numS] at h
 split at h
 ·rename_i a b c d
  split at h
  ·rename_i hn
   cases h
   obtain ⟨ha,hb,hc,hd⟩:=hn
   unfold u8 at ha hb hc hd
   refine fn_of_wp f100 rfl (W_sound none_ok mixed _ _ _ _ _ ?_)
   simp (maxSteps:=1000000) (disch:=omega) only [c100,go_sem]
   rw [show num a b c d=a * 16777216+b * 65536+c * 256+d by unfold num;omega]
   exact wkv_drop rfl
  ·cases h
 ·cases h
def maskS:Spec:=fun args S=>match args with
 | [.i .i64 k]=>some (.i .u32 (4294967296-pw (cl k)),S)
 | _=>none
theorem mask_ok:SpecOK Tryz.prog 128 maskS:=by
 intro args S x S' h
 simp only [maskS] at h
 split at h
 ·rename_i k
  cases h
  refine fn_of_wp f128 rfl (W_sound none_ok mixed _ _ _ _ _ ?_)
  have hk:=cl_bound k
  simp (maxSteps:=1000000) (disch:=omega) only [c128,show max 0 (min k 32)=cl k from rfl,shl_mask (cl_bound k).1 (cl_bound k).2,go_sem]
  exact wkv_same
 ·cases h
def clS:Spec:=fun args S=>match args with
 | [.i .i64 k]=>some (.i .i64 (cl k),S)
 | _=>none
theorem bounded_ok:SpecOK Tryz.prog 125 clS:=by
 intro args S x S' h
 simp only [clS] at h
 split at h
 ·rename_i k
  cases h
  refine fn_of_wp f125 rfl (W_sound none_ok mixed _ _ _ _ _ ?_)
  simp (maxSteps:=1000000) (disch:=omega) only [c125,go_sem]
  refine ⟨fun h=>?_,fun h=>⟨fun h2=>?_,fun h2=>?_⟩⟩ <;> refine wkv_eq wkv_same ?_ rfl <;> congr 1 <;> unfold cl <;> omega
 ·cases h
theorem maskS_eq {k:Int} (S:Mem):maskS [.i .i64 k] S=some (.i .u32 (4294967296-pw (cl k)),S):=rfl
theorem clS_eq {k:Int} (S:Mem):clS [.i .i64 k] S=some (.i .i64 (cl k),S):=rfl
def cutS:Spec:=fun args S=>match args with
 | [.ag [.i .u8 a,.i .u8 b,.i .u8 c,.i .u8 d],.i .i64 k]=>if u84 a b c d then some (net (cutv (num a b c d) (cl k)) (cl k),S) else none
 | _=>none
theorem cutS_eq {a b c d k:Int} (h:u84 a b c d) (S:Mem):cutS [.ag [.i .u8 a,.i .u8 b,.i .u8 c,.i .u8 d],.i .i64 k] S=some (net (cutv (num a b c d) (cl k)) (cl k),S):=by simp only [cutS,if_pos h]
theorem o17_ok:OK Tryz.prog (lamOf Tryz.prog) (orcOf [(101,numS),(128,maskS),(122,ofS)]):=orc_ok (by simpa using ⟨num_ok,mask_ok,of_ok⟩)
theorem cut_ok:SpecOK Tryz.prog 123 cutS:=by
 intro args S x S' h
 simp only [cutS] at h
 split at h
 ·rename_i a b c d k
  split at h
  ·rename_i hn
   cases h
   have hk:=cl_bound k
   have h32:=u84_num hn
   refine fn_of_wp f123 rfl (W_sound o17_ok mixed _ _ _ _ _ ?_)
   simp (maxSteps:=1000000) (disch:=omega) only [c123,orc_cons,numS_eq hn,maskS_eq,bin_and h32 hk.1 hk.2,ofS_eq (u32_cutv h32),show max 0 (min k 32)=cl k from rfl,adr,go_sem]
   exact wkv_drop rfl
  ·cases h
 ·cases h
def p2 (t:Int):Int:=((2 ^ t.toNat:Nat):Int)
theorem p2_zero:p2 0=1:=rfl
theorem p2_succ {t:Int} (h:0≤t):p2 (t+1)=p2 t * 2:=by
 unfold p2
 rw [show (t+1).toNat=t.toNat+1 by omega,Nat.pow_succ]
 omega
theorem p2_pos (t:Int):0<p2 t:=by unfold p2;exact Int.natCast_pos.2 (Nat.two_pow_pos _)
theorem pw_p2 (k:Int):pw k=p2 (32-k):=rfl
theorem div_p2 {n t:Int} (h:0≤t):n / p2 t / 2=n / p2 (t+1):=by
 rw [p2_succ h,Int.ediv_ediv_of_nonneg (Int.le_of_lt (p2_pos t))]
theorem p2_mono {s t:Int} (h:s≤t):p2 s≤p2 t:=by
 unfold p2
 exact_mod_cast Nat.pow_le_pow_right (by omega) (by omega)
theorem mul_p2_le {n s t:Int} (h:u32 n) (hs:s≤t):0≤n / p2 t * p2 s∧n / p2 t * p2 s≤n:=by
 have h1:0≤n / p2 t:=Int.ediv_nonneg h.1 (Int.le_of_lt (p2_pos t))
 have h2:=Int.ediv_mul_le n (show p2 t≠0 by have:=p2_pos t;omega)
 have h3:=Int.mul_le_mul_of_nonneg_left (p2_mono hs) h1
 exact ⟨Int.mul_nonneg h1 (Int.le_of_lt (p2_pos s)),Int.le_trans h3 h2⟩
theorem o16_ok:OK Tryz.prog (lamOf Tryz.prog) (orcOf [(100,numS),(125,clS),(113,ofS)]):=orc_ok (by simpa using ⟨rnum_ok,bounded_ok,rof_ok⟩)
theorem rcut_ok:SpecOK Tryz.prog 126 cutS:=by
 intro args S x S' h
 simp only [cutS] at h
 split at h
 ·rename_i a b c d k
  split at h
  ·rename_i hn
   cases h
   have hk:=cl_bound k
   have h32:=u84_num hn
   refine fn_of_wp f126 rfl (W_sound o16_ok mixed _ _ _ _ _ ?_)
   simp (maxSteps:=1000000) (disch:=omega) only [c126,orc_cons,numS_eq hn,clS_eq,go_sem]
   generalize hN:num a b c d=N at *
   generalize hK:cl k=K at *
   refine wp_loop (fun j e M dl=>dl=[]∧∃ i:Int,K≤i∧i≤32∧j=(32-i).toNat∧M=S++[Blk.cells [AV.i IntKind.u8 a,AV.i IntKind.u8 b,AV.i IntKind.u8 c,AV.i IntKind.u8 d] 0 none true,
    Blk.cells [AV.i IntKind.u8 0,AV.i IntKind.u8 0,AV.i IntKind.u8 0,AV.i IntKind.u8 0,AV.i IntKind.i64 0] 0 none true] ∧
    e.get 4 = .p (S.length+1) 0 0∧e.get 6 = .i .i64 K∧e.get 7 = .i .i64 i∧e.get 5 = .i .u32 (N / p2 (i-K))) (j:=(32-K).toNat)
    ⟨rfl,K,Int.le_refl _,hk.2,rfl,rfl,rfl,rfl,rfl,by rw [Int.sub_self,p2_zero,Int.ediv_one];rfl⟩ ?_
   rintro j e M d' ⟨rfl,i,hi1,hi2,rfl,rfl,h4,h6,h7,h5⟩
   refine W_sound o16_ok mixed _ _ _ _ _ ?_
   have hq:=mul_p2_le (s:=0) h32 (show (0:Int)≤i-K by omega)
   rw [p2_zero,Int.mul_one] at hq
   unfold u32 at h32
   by_cases hi:i<32
   ·simp (maxSteps:=1000000) (disch:=omega) only [c126l0,h4,h5,h6,h7,hi,go_sem]
    exact ⟨(32-(i+1)).toNat,by omega,i+1,by omega,by omega,rfl,rfl,by rw [show i+1-K=(i-K)+1 by omega,←div_p2 (by omega)]⟩
   ·obtain rfl:i=32:=by omega
    simp (maxSteps:=1000000) (disch:=omega) only [c126l0,h4,h5,h6,h7,go_sem]
    refine wp_loop (fun j e M dl=>dl=[]∧∃ i:Int,K≤i∧i≤32∧j=(32-i).toNat∧M=S++[Blk.cells [AV.i IntKind.u8 a,AV.i IntKind.u8 b,AV.i IntKind.u8 c,AV.i IntKind.u8 d] 0 none true,
     Blk.cells [AV.i IntKind.u8 0,AV.i IntKind.u8 0,AV.i IntKind.u8 0,AV.i IntKind.u8 0,AV.i IntKind.i64 0] 0 none true] ∧
     e.get 4 = .p (S.length+1) 0 0∧e.get 6 = .i .i64 K∧e.get 8 = .i .i64 i∧e.get 5 = .i .u32 (N / p2 (32-K) * p2 (i-K))) (j:=(32-K).toNat)
     ⟨rfl,K,Int.le_refl _,hk.2,rfl,rfl,rfl,rfl,rfl,by rw [Int.sub_self,p2_zero,Int.mul_one];rfl⟩ ?_
    rintro j e M d' ⟨rfl,i,hi1,hi2,rfl,rfl,h4,h6,h8,h5⟩
    refine W_sound o16_ok mixed _ _ _ _ _ ?_
    have hn2:u32 N:=h32
    have hq:=mul_p2_le hn2 (show i-K≤32-K by omega)
    by_cases hi:i<32
    ·have hq2:=mul_p2_le hn2 (show i-K+1≤32-K by omega)
     rw [p2_succ (by omega),←Int.mul_assoc] at hq2
     simp (maxSteps:=1000000) (disch:=omega) only [c126l1,h4,h5,h6,h8,hi,go_sem]
     exact ⟨(32-(i+1)).toNat,by omega,i+1,by omega,by omega,rfl,rfl,by rw [show i+1-K=(i-K)+1 by omega,p2_succ (by omega),Int.mul_assoc]⟩
    ·obtain rfl:i=32:=by omega
     have hr:u32 (N / p2 (32-K) * p2 (32-K)):=by unfold u32;omega
     simp (maxSteps:=1000000) (disch:=omega) only [c126l1,h4,h5,h6,h8,orc_cons,ofS_eq hr,adr,net,go_sem]
     unfold cutv
     rw [pw_p2]
     exact wkv_drop rfl
  ·cases h
 ·cases h
theorem cl_id {k:Int} (h0:0≤k) (h1:k≤32):cl k=k:=by unfold cl;omega
theorem adr_eq {n a b c d:Int} (hn:u32 n) (h:u84 a b c d):(b3 n=a∧b2 n=b∧b1 n=c∧b0 n=d)↔n=num a b c d:=by
 obtain ⟨q1,q2,q3,q4⟩:=b_num h.1 h.2.1 h.2.2.1 h.2.2.2
 constructor
 ·rintro ⟨rfl,rfl,rfl,rfl⟩;exact (num_b hn).symm
 ·rintro rfl;exact ⟨q1,q2,q3,q4⟩
theorem net_eq {a b c d k:Int} (h:u84 a b c d) (h0:0≤k) (h1:k≤32):(b3 (cutv (num a b c d) (cl k))=a∧b2 (cutv (num a b c d) (cl k))=b∧b1 (cutv (num a b c d) (cl k))=c∧b0 (cutv (num a b c d) (cl k))=d∧cl k=k)↔right (num a b c d) k:=by
 rw [cl_id h0 h1]
 have:=adr_eq (u32_cutv (k:=k) (u84_num h)) h
 unfold right
 rw [cl_id h0 h1]
 constructor
 ·rintro ⟨q1,q2,q3,q4,_⟩;exact ⟨rfl,this.1 ⟨q1,q2,q3,q4⟩⟩
 ·rintro ⟨_,q⟩
  obtain ⟨q1,q2,q3,q4⟩:=this.2 q
  exact ⟨q1,q2,q3,q4,rfl⟩
theorem wkv_b {S L:Mem} {p q:Prop} [Decidable p] [Decidable q] (h:p↔q):WkV S (.b (decide p)) S (.b (decide q)) (S++L):=by
 rw [show decide p=decide q by rw [decide_eq_decide];exact h]
 exact wkv_drop rfl
theorem wkv_f {S L:Mem} {p:Prop} [Decidable p] (h:¬ p):WkV S (.b (decide p)) S (.b false) (S++L):=by
 rw [show decide p=false by simpa using h]
 exact wkv_drop rfl
theorem right_bound {n k:Int} (h:right n k):0≤k∧k≤32:=by
 have:=cl_bound k;rw [h.1] at this;exact this
def rightS:Spec:=fun args S=>match args with
 | [.ag [.i .u8 a,.i .u8 b,.i .u8 c,.i .u8 d,.i .i64 k]]=>if u84 a b c d then some (.b (decide (right (num a b c d) k)),S) else none
 | _=>none
theorem rightS_eq {a b c d k:Int} (h:u84 a b c d) (S:Mem):rightS [.ag [.i .u8 a,.i .u8 b,.i .u8 c,.i .u8 d,.i .i64 k]] S=some (.b (decide (right (num a b c d) k)),S):=by simp only [rightS,if_pos h]
theorem o18_ok:OK Tryz.prog (lamOf Tryz.prog) (orcOf [(123,cutS)]):=orc_ok (by simpa using cut_ok)
theorem o19_ok:OK Tryz.prog (lamOf Tryz.prog) (orcOf [(126,cutS),(125,clS)]):=orc_ok (by simpa using ⟨rcut_ok,bounded_ok⟩)
theorem right_ok:SpecOK Tryz.prog 116 rightS:=by
 intro args S x S' h
 simp only [rightS] at h
 split at h
 ·rename_i a b c d k
  split at h
  ·rename_i hn
   cases h
   refine fn_of_wp f116 rfl (W_sound o18_ok mixed _ _ _ _ _ ?_)
   simp (maxSteps:=1000000) (disch:=omega) only [c116,orc_cons,cutS_eq hn,net,eq_net,go_sem]
   refine ⟨fun h0=>⟨fun h1=>wkv_b (net_eq hn h0 h1).symm,fun h1=>wkv_f fun hr=>?_⟩,fun h0=>wkv_f fun hr=>?_⟩
   ·exact h1 (right_bound hr).2
   ·exact h0 (right_bound hr).1
  ·cases h
 ·cases h
theorem rright_ok:SpecOK Tryz.prog 118 rightS:=by
 intro args S x S' h
 simp only [rightS] at h
 split at h
 ·rename_i a b c d k
  split at h
  ·rename_i hn
   cases h
   refine fn_of_wp f118 rfl (W_sound o19_ok mixed _ _ _ _ _ ?_)
   simp (maxSteps:=1000000) (disch:=omega) only [c118,orc_cons,cutS_eq hn,clS_eq,net,eq_net,go_sem]
   refine ⟨fun h0=>?_,fun h0=>wkv_f fun hr=>h0 hr.1⟩
   have hk:=cl_bound k
   rw [h0] at hk
   exact wkv_b (net_eq hn hk.1 hk.2).symm
  ·cases h
 ·cases h
def idx {α:Type} (p:α→Bool) (l:List α):Int:=match l.findIdx? p with
 | some k=>k
 | none=>-1
theorem idx_ge {α:Type} (p:α→Bool) (l:List α):(0≤idx p l)=(l.any p=true):=by
 unfold idx
 cases h:l.findIdx? p with
 | some k =>
  have:=List.findIdx?_eq_some_iff_getElem.1 h
  obtain ⟨hk,hp,_⟩:=this
  simp only [eq_iff_iff]
  exact ⟨fun _=>List.any_eq_true.2 ⟨l[k],List.getElem_mem hk,hp⟩,fun _=>by omega⟩
 | none =>
  have:=List.findIdx?_eq_none_iff.1 h
  simp only [eq_iff_iff]
  refine ⟨fun h=>by omega,fun h=>?_⟩
  obtain ⟨x,hx,hp⟩:=List.any_eq_true.1 h
  rw [this x hx] at hp;cases hp
theorem idx_at {α:Type} {p:α→Bool} {l:List α} {k:Nat} (hk:k<l.length) (hp:p l[k]=true) (hn:∀ j (h:j<k),p (l[j]'(by omega))=false):idx p l=k:=by
 unfold idx
 rw [List.findIdx?_eq_some_iff_getElem.2 ⟨hk,hp,fun j hj=>by simpa using hn j hj⟩]
theorem idx_none {α:Type} {p:α→Bool} {l:List α} (h:∀ j (hj:j<l.length),p l[j]=false):idx p l = -1:=by
 unfold idx
 rw [List.findIdx?_eq_none_iff.2 fun x hx=>by obtain ⟨j,hj,rfl⟩:=List.getElem_of_mem hx;exact h j hj]
def aboveS:Spec:=fun args S=>match args with
 | [.i .u64 n]=>some (.b (decide (281474976710656<n)),S)
 | _=>none
def belowS:Spec:=fun args S=>match args with
 | [.i .u64 n]=>some (.b (decide (n<1500)),S)
 | _=>none
theorem above_ok:SpecOK Tryz.prog 114 aboveS:=by
 intro args S x S' h
 simp only [aboveS] at h
 split at h
 ·cases h
  refine fn_of_wp f114 rfl (W_sound none_ok mixed _ _ _ _ _ ?_)
  simp (maxSteps:=1000000) (disch:=omega) only [c114,go_sem]
  exact wkv_same
 ·cases h
theorem below_ok:SpecOK Tryz.prog 115 belowS:=by
 intro args S x S' h
 simp only [belowS] at h
 split at h
 ·cases h
  refine fn_of_wp f115 rfl (W_sound none_ok mixed _ _ _ _ _ ?_)
  simp (maxSteps:=1000000) (disch:=omega) only [c115,go_sem]
  exact wkv_same
 ·cases h
def predU (f:AV):Option (Int→Bool):=match f with
 | .f (.func g) [] []=>if g=114 then some (fun n=>decide (281474976710656<n)) else if g=115 then some (fun n=>decide (n<1500)) else none
 | _=>none
theorem oU_ok:OK Tryz.prog (lamOf Tryz.prog) (orcOf [(114,aboveS),(115,belowS)]):=orc_ok (by simpa using ⟨above_ok,below_ok⟩)
theorem predU_call {f:AV} {p:Int→Bool} (h:predU f=some p):∃ g,f = .f (.func g) [] []∧∀ n S,(orcOf [(114,aboveS),(115,belowS)]).fn g [.i .u64 n] S=some (.b (p n),S):=by
 unfold predU at h
 split at h
 ·rename_i g
  split at h
  ·rename_i hg;subst hg;injection h with h;subst h;exact ⟨_,rfl,fun n S=>rfl⟩
  ·split at h
   ·rename_i hg;subst hg;injection h with h;subst h;exact ⟨_,rfl,fun n S=>rfl⟩
   ·cases h
 ·cases h
def idxUS:Spec:=fun args S=>match args with
 | [x,f]=>match lstV (intE .u64) S x,predU f with
  | some l,some p=>if l.length≤1000000 then some (.i .i64 (idx p l),S) else none
  | _,_=>none
 | _=>none
theorem idxU_ok:SpecOK Tryz.prog 124 idxUS:=by
 intro args S x S' h
 simp only [idxUS] at h
 split at h
 ·rename_i s f
  split at h
  ·rename_i l p hl hp
   split at h
   ·rename_i hlim
    cases h
    obtain ⟨g,rfl,hg⟩:=predU_call hp
    refine fn_of_wp f124 rfl (W_sound oU_ok mixed _ _ _ _ _ ?_)
    simp (maxSteps:=1000000) (disch:=omega) only [c124,lst_len hl,go_sem]
    refine wp_loop (fun j e M dl=>dl=[]∧∃ k:Nat,j=l.length-k∧k≤l.length∧M=S∧(∀ i (hi:i<k) (hl:i<l.length),p l[i]=false) ∧
     e.get 0=s∧e.get 1 = .f (.func g) [] []∧e.get 7 = .i .i64 l.length∧e.get 8 = .i .i64 k) (j:=l.length) ⟨rfl,0,rfl,Nat.zero_le _,rfl,fun i hi=>absurd hi (Nat.not_lt_zero _),rfl,rfl,rfl,rfl⟩ ?_
    rintro j e M d' ⟨rfl,k,rfl,hk,rfl,hn,h0,h1,h7,h8⟩
    refine W_sound oU_ok mixed _ _ _ _ _ ?_
    by_cases hkl:k<l.length
    ·obtain ⟨bi,o,v,cap,ex,rfl⟩:=lst_sl hl hkl
     have hc:=lstV_cell hl rfl (fun a=>rfl) hkl []
     rw [List.append_nil] at hc
     have hkI:(k:Int)<l.length:=by omega
     simp (maxSteps:=1000000) (disch:=omega) only [c124l0,h0,h1,h7,h8,hkI,Int.toNat_natCast,Nat.mul_one,hc,hg,go_sem]
     cases hpk:p l[k] with
     | true =>
      refine ⟨fun _=>?_,fun h=>by cases h⟩
      rw [idx_at hkl hpk fun j hj=>hn j hj (by omega)]
      exact wkv_same
     | false =>
      refine ⟨(fun h=>by cases h),fun _=>⟨l.length-(k+1),by omega,k+1,rfl,hkl,fun i hi hil=>?_,rfl⟩⟩
      by_cases hik:i=k
      ·subst hik;exact hpk
      ·exact hn i (by omega) hil
    ·have hkI:¬ (k:Int)<l.length:=by omega
     simp (maxSteps:=1000000) (disch:=omega) only [c124l0,h0,h1,h7,h8,hkI,go_sem]
     rw [idx_none fun j hj=>hn j (by omega) hj]
     exact wkv_same
   ·cases h
  ·cases h
 ·cases h
def hasUS:Spec:=fun args S=>match args with
 | [x,f]=>match lstV (intE .u64) S x,predU f with
  | some l,some p=>if l.length≤1000000 then some (.b (l.any p),S) else none
  | _,_=>none
 | _=>none
theorem oI_ok:OK Tryz.prog (lamOf Tryz.prog) (orcOf [(124,idxUS)]):=orc_ok (by simpa using idxU_ok)
theorem hasU_ok:SpecOK Tryz.prog 117 hasUS:=by
 intro args S x S' h
 simp only [hasUS] at h
 split at h
 ·rename_i s f
  split at h
  ·rename_i l p hl hp
   split at h
   ·rename_i hlim
    cases h
    have hi:idxUS [s,f] S=some (.i .i64 (idx p l),S):=by simp only [idxUS,hl,hp,if_pos hlim]
    refine fn_of_wp f117 rfl (W_sound oI_ok mixed _ _ _ _ _ ?_)
    simp (maxSteps:=1000000) (disch:=omega) only [c117,orc_cons,hi,go_sem]
    refine wkv_eq wkv_same ?_ rfl
    congr 1
    have:=idx_ge p l
    cases h:l.any p
    ·rw [h] at this;simp [this]
    ·rw [h] at this;simp [this]
   ·cases h
  ·cases h
 ·cases h
structure Pol where
 sub:Int
 a:Int
 b:Int
 c:Int
 d:Int
 bits:Int
 rate:Int
 burst:Int
 srate:Int
 sburst:Int
 quota:Int
 lease:Int
 quantum:Int
 deriving DecidableEq
def Pol.enc (p:Pol):List AV:=[.i .i64 p.sub,.i .u8 p.a,.i .u8 p.b,.i .u8 p.c,.i .u8 p.d,.i .i64 p.bits,.i .u64 p.rate,.i .u64 p.burst,.i .u64 p.srate,.i .u64 p.sburst,.i .u64 p.quota,.i .u64 p.lease,.i .u64 p.quantum]
def Pol.fits (p:Pol):Prop:=u84 p.a p.b p.c p.d
instance (p:Pol):Decidable p.fits:=by unfold Pol.fits;infer_instance
def Pol.nums (p:Pol):List Int:=[p.lease,p.quantum,p.rate,p.burst,p.srate,p.sburst,p.quota]
def Pol.right (p:Pol):Prop:=1≤p.sub∧p.sub≤255∧Go.Proofs.YtkfobkfhbkicaaaGreat.right (num p.a p.b p.c p.d) p.bits∧(∀ n∈p.nums,n≤281474976710656)∧1500≤p.lease∧1500≤p.quantum
instance (p:Pol):Decidable p.right:=by unfold Pol.right;infer_instance
def polS:Spec:=fun args S=>match args with
 | [.ag [.i .i64 sub,.i .u8 a,.i .u8 b,.i .u8 c,.i .u8 d,.i .i64 bits,.i .u64 rate,.i .u64 burst,.i .u64 srate,.i .u64 sburst,.i .u64 quota,.i .u64 lease,.i .u64 quantum]] =>
  if u84 a b c d then some (.b (decide (Pol.right ⟨sub,a,b,c,d,bits,rate,burst,srate,sburst,quota,lease,quantum⟩)),S) else none
 | _=>none
theorem polS_eq {p:Pol} (h:p.fits) (S:Mem):polS [.ag p.enc] S=some (.b (decide p.right),S):=by
 have h:u84 p.a p.b p.c p.d:=h
 simp only [polS,Pol.enc,if_pos h]
theorem lstU_sl {S:Mem} {i o v len cap:Nat} {ex:Bool}:lstV (intE .u64) S (.sl i o v len cap ex)=match rowB (S[i]?) o v len with
  | some xs=>decL (intE .u64) len xs
  | none=>none:=by
 simp only [lstV,show (intE .u64).sz=1 from rfl,Nat.mul_one,rowAt_B]
 first | done | (cases rowB (S[i]?) o v len <;> rfl)
theorem decU_nil {xs:List AV}:decL (intE .u64) 0 xs=some []:=rfl
theorem decU_cons {n:Nat} {a:Int} {r:List AV}:decL (intE .u64) (n+1) (.i .u64 a :: r)=(decL (intE .u64) n r).map (a :: ·):=by
 have h1:(AV.i .u64 a :: r).take (intE .u64).sz=[.i .u64 a]:=rfl
 have h2:(AV.i .u64 a :: r).drop (intE .u64).sz=r:=rfl
 have h3:(intE .u64).dec [.i .u64 a]=some a:=rfl
 simp only [decL,h1,h2,h3]
 cases decL (intE .u64) n r <;> rfl
theorem decU7 {a b c d e f g:Int}:decL (intE .u64) 7 [.i .u64 a,.i .u64 b,.i .u64 c,.i .u64 d,.i .u64 e,.i .u64 f,.i .u64 g]=some [a,b,c,d,e,f,g]:=by
 simp only [decU_cons,decU_nil,Option.map_some]
theorem decU2 {a b:Int}:decL (intE .u64) 2 [.i .u64 a,.i .u64 b]=some [a,b]:=by
 simp only [decU_cons,decU_nil,Option.map_some]
theorem predU1:predU (.f (.func 114) [] [])=some (fun n=>decide (281474976710656<n)):=rfl
theorem predU2:predU (.f (.func 115) [] [])=some (fun n=>decide (n<1500)):=rfl
theorem oP_ok:OK Tryz.prog (lamOf Tryz.prog) (orcOf [(116,rightS),(117,hasUS)]):=orc_ok (by simpa using ⟨right_ok,hasU_ok⟩)
theorem pol_ok:SpecOK Tryz.prog 95 polS:=by
 intro args S x S' h
 simp only [polS] at h
 split at h
 ·rename_i sub a b c d bits rate burst srate sburst quota lease quantum
  split at h
  ·rename_i hn
   cases h
   refine fn_of_wp f95 rfl (W_sound oP_ok mixed _ _ _ _ _ ?_)
   simp (maxSteps:=1000000) (disch:=omega) only [c95,orc_cons,rightS_eq hn,List.replicate_succ,List.replicate_zero,hasUS,lstU_sl,decU7,decU2,predU1,predU2,un_not_b,go_sem]
   refine ⟨fun h1=>⟨fun h2=>⟨fun h3=>wkv_f fun q=>(by simpa using h3:¬ Go.Proofs.YtkfobkfhbkicaaaGreat.right (num a b c d) bits) q.2.2.1,fun h3=>⟨fun h4=>wkv_f fun q=>?_,fun h4=>?_⟩⟩,fun h2=>wkv_f fun q=>?_⟩,fun h1=>wkv_f fun q=>?_⟩
   ·obtain ⟨n,hn1,hn2⟩:=List.any_eq_true.1 h4
    have h5:=q.2.2.2.1 n hn1
    have h6:=of_decide_eq_true hn2
    omega
   ·have h5:∀ n∈[lease,quantum,rate,burst,srate,sburst,quota],n≤281474976710656:=fun n hm=>by
     have:=List.any_eq_false.1 h4 n hm
     simpa using this
    have h6:decide (Pol.right ⟨sub,a,b,c,d,bits,rate,burst,srate,sburst,quota,lease,quantum⟩) = !([lease,quantum].any fun n=>decide (n<1500)):=by
     rw [Bool.eq_iff_iff,decide_eq_true_iff]
     simp only [List.any_cons,List.any_nil,Bool.or_false,Bool.not_eq_true',Bool.or_eq_false_iff,decide_eq_false_iff_not]
     constructor
     ·intro q;have q1:=q.2.2.2.2.1;have q2:=q.2.2.2.2.2;simp only at q1 q2;omega
     ·intro q;exact ⟨by simp only;omega,by simp only;omega,by simpa using h3,h5,by simp only;omega,by simp only;omega⟩
    rw [h6]
    exact wkv_drop rfl
   ·have:=q.2.1;simp only at this;omega
   ·have:=q.1;simp only at this;omega
  ·cases h
 ·cases h
theorem oR_ok:OK Tryz.prog (lamOf Tryz.prog) (orcOf [(118,rightS)]):=orc_ok (by simpa using rright_ok)
theorem rpol_ok:SpecOK Tryz.prog 99 polS:=by
 intro args S x S' h
 simp only [polS] at h
 split at h
 ·rename_i sub a b c d bits rate burst srate sburst quota lease quantum
  split at h
  ·rename_i hn
   cases h
   have key:∀ P:Prop,(Pol.right ⟨sub,a,b,c,d,bits,rate,burst,srate,sburst,quota,lease,quantum⟩↔(1≤sub∧sub≤255∧Go.Proofs.YtkfobkfhbkicaaaGreat.right (num a b c d) bits∧(lease≤281474976710656∧quantum≤281474976710656∧rate≤281474976710656∧burst≤281474976710656∧srate≤281474976710656∧sburst≤281474976710656∧quota≤281474976710656)∧1500≤lease∧1500≤quantum)):=fun _=>by
    simp only [Pol.right,Pol.nums,List.forall_mem_cons,List.not_mem_nil,false_imp_iff,implies_true,and_true]
   have key:=key True
   refine fn_of_wp f99 rfl (W_sound oR_ok mixed _ _ _ _ _ ?_)
   simp (maxSteps:=1000000) (disch:=omega) only [c99,orc_cons,rightS_eq hn,List.replicate_succ,List.replicate_zero,go_sem]
   refine ⟨fun h1=>⟨fun h2=>⟨fun h3=>wkv_f fun q=>(by simpa using h3:¬ Go.Proofs.YtkfobkfhbkicaaaGreat.right (num a b c d) bits) q.2.2.1,fun h3=>?_⟩,fun h2=>wkv_f fun q=>by have:=(key.1 q).2.1;omega⟩,fun h1=>wkv_f fun q=>by have:=(key.1 q).1;omega⟩
   refine wp_unroll oR_ok mixed 8 ?_
   simp (maxSteps:=1000000) (disch:=omega) only [c99l0,ixa_ag,go_sem]
   refine ⟨fun h=>wkv_f fun q=>by have:=(key.1 q).2.2.2.1;omega,fun r1=>?_⟩
   refine ⟨fun h=>wkv_f fun q=>by have:=(key.1 q).2.2.2.1;omega,fun r2=>?_⟩
   refine ⟨fun h=>wkv_f fun q=>by have:=(key.1 q).2.2.2.1;omega,fun r3=>?_⟩
   refine ⟨fun h=>wkv_f fun q=>by have:=(key.1 q).2.2.2.1;omega,fun r4=>?_⟩
   refine ⟨fun h=>wkv_f fun q=>by have:=(key.1 q).2.2.2.1;omega,fun r5=>?_⟩
   refine ⟨fun h=>wkv_f fun q=>by have:=(key.1 q).2.2.2.1;omega,fun r6=>?_⟩
   refine ⟨fun h=>wkv_f fun q=>by have:=(key.1 q).2.2.2.1;omega,fun r7=>?_⟩
   refine ⟨fun l1=>wkv_b ⟨fun q=>(key.1 q).2.2.2.2.2,fun l2=>key.2 ⟨by omega,by omega,Decidable.not_not.1 h3,by omega,l1,l2⟩⟩,fun l1=>wkv_f fun q=>l1 (key.1 q).2.2.2.2.1⟩
  ·cases h
 ·cases h
def polE:Enc Pol where
 enc:=Pol.enc
 dec r:=match r with
  | [.i .i64 sub,.i .u8 a,.i .u8 b,.i .u8 c,.i .u8 d,.i .i64 bits,.i .u64 rate,.i .u64 burst,.i .u64 srate,.i .u64 sburst,.i .u64 quota,.i .u64 lease,.i .u64 quantum]=>some ⟨sub,a,b,c,d,bits,rate,burst,srate,sburst,quota,lease,quantum⟩
  | _=>none
 sz:=13
 pos:=by decide
 len _:=rfl
 de _:=rfl
 ed r a h:=by
  split at h
  ·injection h with h;subst h;rfl
  ·cases h
def Pol.net (p:Pol):Int × Int × Int × Int × Int:=(p.a,p.b,p.c,p.d,p.bits)
def okTo (l:List Pol) (k:Nat):Prop:=∀ i (h:i<l.length),i<k→(l[i].right∧∀ j (hj:j<i),(l[j]'(by omega)).sub<l[i].sub∧(l[j]'(by omega)).net≠l[i].net)
def Pols (l:List Pol):Prop:=l.length≤8∧okTo l l.length
noncomputable instance (l:List Pol):Decidable (Pols l):=Classical.propDecidable _
noncomputable def allE (l:List Pol):Int:=if Pols l then 0 else 111
theorem okTo_zero (l:List Pol):okTo l 0:=fun i h hk=>absurd hk (Nat.not_lt_zero _)
theorem okTo_succ {l:List Pol} {k:Nat} (hk:k<l.length) (h:okTo l k) (hr:l[k].right) (hj:∀ j (hj:j<k),(l[j]'(by omega)).sub<l[k].sub∧(l[j]'(by omega)).net≠l[k].net):okTo l (k+1):=fun i hi hik=>by
 by_cases e:i=k
 ·subst e;exact ⟨hr,hj⟩
 ·exact h i hi (by omega)
theorem okTo_at {l:List Pol} (h:okTo l l.length) {k:Nat} (hk:k<l.length):l[k].right∧∀ j (hj:j<k),(l[j]'(by omega)).sub<l[k].sub∧(l[j]'(by omega)).net≠l[k].net:=h k hk hk
theorem okTo_rise {l:List Pol} {k:Nat} (hk:k<l.length) (h:okTo l k) (h1:∀ h0:0<k,(l[k-1]'(by omega)).sub<l[k].sub):∀ j (hj:j<k),(l[j]'(by omega)).sub<l[k].sub:=fun j hj=>by
 have h2:=h1 (by omega)
 by_cases e:j=k-1
 ·subst e;exact h2
 ·have:=((h (k-1) (by omega) (by omega)).2 j (by omega)).1
  omega
noncomputable def allS:Spec:=fun args S=>match args with
 | [x]=>match lstV polE S x with
  | some l=>if l.all (fun p=>decide p.fits)=true∧(l=[]∨openS S 13 x=true) then some (.i .i64 (allE l),S) else none
  | none=>none
 | _=>none
theorem oA_ok:OK Tryz.prog (lamOf Tryz.prog) (orcOf [(99,polS)]):=orc_ok (by simpa using rpol_ok)
theorem rall_ok:SpecOK Tryz.prog 98 allS:=by
 intro args S x S' h
 simp only [allS] at h
 split at h
 ·rename_i s
  split at h
  ·rename_i l hl
   split at h
   ·rename_i hc
    cases h
    obtain ⟨hfit,hop⟩:=hc
    have hfit:∀ k (hk:k<l.length),l[k].fits:=fun k hk=>of_decide_eq_true (List.all_eq_true.1 hfit _ (List.getElem_mem hk))
    refine fn_of_wp f98 rfl (W_sound oA_ok mixed _ _ _ _ _ ?_)
    simp (maxSteps:=1000000) (disch:=omega) only [c98,lst_len hl,go_sem]
    refine ⟨fun h8=>?_,fun h8=>?_⟩
    ·rw [show allE l=111 by unfold allE;rw [if_neg fun q=>by have:=q.1;omega]]
     exact wkv_same
    ·refine wp_loop (fun j e M dl=>dl=[]∧∃ k:Nat,j=l.length-k∧k≤l.length∧M=S∧okTo l k∧e.get 0=s∧e.get 9 = .i .i64 l.length∧e.get 10 = .i .i64 k) (j:=l.length) ⟨rfl,0,rfl,Nat.zero_le _,rfl,okTo_zero l,rfl,rfl,rfl⟩ ?_
     rintro j e M d' ⟨rfl,k,rfl,hk,rfl,hok,h0,h9,h10⟩
     refine W_sound oA_ok mixed _ _ _ _ _ ?_
     by_cases hkl:k<l.length
     ·obtain ⟨bi,o,v,cap,ex,rfl⟩:=lst_sl hl hkl
      have hrow:=lstV_row hl hkl []
      rw [List.append_nil] at hrow
      have hrow:rowB (M[bi]?) (o+k * 13) v 13=some l[k].enc:=hrow
      have hkI:(k:Int)<l.length:=by omega
      have hop:=hop.resolve_left (fun q=>by subst q;simp at hkl)
      have hkc:k≤cap:=Nat.le_trans hk (openS_le hop)
      simp (maxSteps:=1000000) (disch:=omega) only [c98l2,h0,h9,h10,hkI,Int.toNat_natCast,hrow,orc_cons,polS_eq (hfit k hkl),Option.map_none,Option.map_some,slice_hi hkc hop,go_sem]
      refine ⟨fun hr=>?_,fun hr=>?_⟩
      ·rw [show allE l=111 by unfold allE;rw [if_neg fun q=>hr (okTo_at q.2 hkl).1]]
       exact wkv_same
      ·have fk:cellB (M[bi]?) (o+k * 13+0) v=some (.i .i64 l[k].sub):=by have:=lstV_field hl hkl (f:=0) (x:=.i .i64 l[k].sub) rfl [];rwa [List.append_nil] at this
       have nk:rowB (M[bi]?) (o+k * 13+1) v 5=some [.i .u8 l[k].a,.i .u8 l[k].b,.i .u8 l[k].c,.i .u8 l[k].d,.i .i64 l[k].bits]:=by have:=lstV_part hl hkl (f:=1) (n:=5) (by decide) [];rwa [List.append_nil] at this
       refine wp_loop (fun jj e N dl=>dl=[]∧∃ j:Nat,jj=k-j∧j≤k∧N=M∧(∀ j' (hj:j'<j) (hj2:j'<l.length),l[j'].sub<l[k].sub∧l[j'].net≠l[k].net) ∧
        e.get 0 = .sl bi o v l.length cap ex∧e.get 3 = .i .i64 k∧e.get 9 = .i .i64 l.length∧e.get 10 = .i .i64 k∧e.get 22 = .i .i64 k∧e.get 23 = .i .i64 j) (j:=k)
        ⟨rfl,0,rfl,Nat.zero_le _,rfl,fun j' hj=>absurd hj (Nat.not_lt_zero _),rfl,rfl,rfl,rfl,rfl,rfl⟩ ?_
       rintro jj e N d' ⟨rfl,j,rfl,hj,rfl,hlow,h0,h3,h9,h10,h22,h23⟩
       refine W_sound oA_ok mixed _ _ _ _ _ ?_
       by_cases hjk:j<k
       ·have hjl:j<l.length:=by omega
        have fj:cellB (N[bi]?) (o+j * 13+0) v=some (.i .i64 l[j].sub):=by have:=lstV_field hl hjl (f:=0) (x:=.i .i64 l[j].sub) rfl [];rwa [List.append_nil] at this
        have nj:rowB (N[bi]?) (o+j * 13+1) v 5=some [.i .u8 l[j].a,.i .u8 l[j].b,.i .u8 l[j].c,.i .u8 l[j].d,.i .i64 l[j].bits]:=by have:=lstV_part hl hjl (f:=1) (n:=5) (by decide) [];rwa [List.append_nil] at this
        have hjI:(j:Int)<k:=by omega
        rw [Nat.add_zero] at fk fj
        simp (maxSteps:=1000000) (disch:=omega) only [c98l1,h0,h3,h9,h10,h22,h23,hjI,Int.toNat_natCast,fk,fj,nk,nj,Nat.add_zero,eq_net,go_sem]
        have bad:(l[k].sub≤l[j].sub∨l[j].net=l[k].net)→allE l=111:=fun hb=>by
         unfold allE
         rw [if_neg fun q=>?_]
         have:=(okTo_at q.2 hkl).2 j hjk
         rcases hb with hb | hb
         ·omega
         ·exact this.2 hb
        refine ⟨fun hs=>⟨fun hn=>?_,fun hn=>?_⟩,fun hs=>?_⟩
        ·rw [bad (.inr (by unfold Pol.net;rw [hn.1,hn.2.1,hn.2.2.1,hn.2.2.2.1,hn.2.2.2.2]))]
         exact wkv_same
        ·refine ⟨k-(j+1),by omega,j+1,rfl,hjk,fun j' hj' hj2=>?_,rfl⟩
         by_cases e:j'=j
         ·subst e
          exact ⟨by omega,fun q=>hn (by simpa [Pol.net] using q)⟩
         ·exact hlow j' (by omega) hj2
        ·rw [bad (.inl hs)]
         exact wkv_same
       ·have hjI:¬ (j:Int)<k:=by omega
        simp (maxSteps:=1000000) (disch:=omega) only [c98l1,h0,h3,h9,h10,h22,h23,hjI,go_sem]
        exact ⟨l.length-(k+1),by omega,k+1,rfl,hkl,okTo_succ hkl hok (Decidable.not_not.1 hr) fun j' hj'=>hlow j' (by omega) (by omega),rfl⟩
     ·have hkI:¬ (k:Int)<l.length:=by omega
      simp (maxSteps:=1000000) (disch:=omega) only [c98l2,h0,h9,h10,hkI,go_sem]
      rw [show allE l=0 by unfold allE;rw [if_pos ⟨by omega,by rwa [show k=l.length by omega] at hok⟩]]
      exact wkv_same
   ·cases h
  ·cases h
 ·cases h
def netL (n:Int × Int × Int × Int × Int):List AV:=[.i .u8 n.1,.i .u8 n.2.1,.i .u8 n.2.2.1,.i .u8 n.2.2.2.1,.i .i64 n.2.2.2.2]
def netK:List TK:=[.int,.int,.int,.int,.int]
theorem eq_netL {a b:Int × Int × Int × Int × Int}:eqCells netK (netL a) (netL b)=some (decide (a=b)):=by
 obtain ⟨a1,a2,a3,a4,a5⟩:=a
 obtain ⟨b1,b2,b3,b4,b5⟩:=b
 simp [eqCells,eqCell,netK,netL,Bool.beq_eq_decide_eq]
theorem key_netL {a:Int × Int × Int × Int × Int}:keyC true netK (.ag (netL a))=some (netL a):=by
 simp [keyC,netK,netL]
def ents (b:Nat):List (Int × Int × Int × Int × Int)→List (AV × AV × Nat)
 | []=>[]
 | n :: r=>(.ag (netL n),.i .i64 1,b) :: ents (b+1) r
theorem ents_length:∀ (b:Nat) (l:List (Int × Int × Int × Int × Int)),(ents b l).length=l.length
 | _,[]=>rfl
 | b,n :: r=>by simp [ents,ents_length (b+1) r]
theorem ents_append:∀ (b:Nat) (l:List (Int × Int × Int × Int × Int)) (n:Int × Int × Int × Int × Int),ents b (l++[n])=ents b l++[(.ag (netL n),.i .i64 1,b+l.length)]
 | b,[],n=>by simp [ents]
 | b,m :: r,n=>by
  simp only [List.cons_append,ents,ents_append (b+1) r n,List.length_cons]
  rw [show b+1+r.length=b+(r.length+1) by omega]
theorem ents_at:∀ (b:Nat) (l:List (Int × Int × Int × Int × Int)) (j:Nat) (hj:j<l.length),(ents b l)[j]? = some (.ag (netL l[j]),.i .i64 1,b+j)
 | b,n :: r,0,_=>rfl
 | b,n :: r,j+1,h=>by
  simp only [ents,List.getElem?_cons_succ,ents_at (b+1) r j (by simpa using h),List.getElem_cons_succ]
  rw [show b+1+j=b+(j+1) by omega]
theorem find_none:∀ (b i:Nat) (l:List (Int × Int × Int × Int × Int)) (n:Int × Int × Int × Int × Int),n∉l→findK true netK (netL n) (ents b l) i=some none
 | b,i,[],n,_=>rfl
 | b,i,m :: r,n,h=>by
  simp only [List.mem_cons,not_or] at h
  simp only [ents,findK,key_netL,eq_netL,decide_eq_false h.1]
  exact find_none (b+1) (i+1) r n h.2
theorem find_some:∀ (b i:Nat) (l:List (Int × Int × Int × Int × Int)) (n:Int × Int × Int × Int × Int),n∈l→∃ j,j<l.length∧l[j]? = some n∧findK true netK (netL n) (ents b l) i=some (some (i+j))
 | b,i,m :: r,n,h=>by
  by_cases e:n=m
  ·subst e
   exact ⟨0,by simp,rfl,by simp only [ents,findK,key_netL,eq_netL,decide_true];rfl⟩
  ·obtain ⟨j,h1,h2,h3⟩:=find_some (b+1) (i+1) r n (by simpa [e] using h)
   refine ⟨j+1,by simpa using h1,by simpa using h2,?_⟩
   simp only [ents,findK,key_netL,eq_netL,decide_eq_false e]
   rw [h3,show i+1+j=i+(j+1) by omega]
abbrev Net5:=Int × Int × Int × Int × Int
def lookM (B:Option Blk) (n:Net5) (z:AV):Option AV:=match B with
 | some (.map es _)=>match findK true netK (netL n) es 0 with
  | some r=>some (valAt es z r)
  | none=>none
 | _=>none
theorem mlook_eq {S:Mem} {i:Nat} {z:AV} {a b c d e:Int}:mlookV S true [.int,.int,.int,.int,.int] z false (.m i) (.ag [.i .u8 a,.i .u8 b,.i .u8 c,.i .u8 d,.i .i64 e])=lookM (S[i]?) (a,b,c,d,e) z:=by
 have hk:keyC true [.int,.int,.int,.int,.int] (.ag [.i .u8 a,.i .u8 b,.i .u8 c,.i .u8 d,.i .i64 e])=some (netL (a,b,c,d,e)):=rfl
 simp only [mlookV,hk,mapOf,lookM]
 cases S[i]? with
 | none=>rfl
 | some B=>cases B <;> first | rfl | (simp only [netK];cases findK true [.int,.int,.int,.int,.int] (netL (a,b,c,d,e)) _ 0 <;> rfl)
def entM (B:Option Blk) (n:Net5) (z:AV) (i:Nat) (S:Mem):Option (AV × Mem):=match B with
 | some (.map es cl)=>match findK true netK (netL n) es 0 with
  | some (some j)=>match es[j]? with
   | some e=>some (.tu [e.2.1,.i .i64 e.2.2],S.set i (.map (es.set j (.ag (netL n),e.2.1,e.2.2)) cl))
   | none=>none
  | some none=>some (.tu [z,.i .i64 cl],S.set i (.map (es++[(.ag (netL n),z,cl)]) (cl+1)))
  | none=>none
 | _=>none
theorem mentry_eq {S:Mem} {i:Nat} {z:AV} {a b c d e:Int}:mentryV S true [.int,.int,.int,.int,.int] z (.m i) (.ag [.i .u8 a,.i .u8 b,.i .u8 c,.i .u8 d,.i .i64 e])=entM (S[i]?) (a,b,c,d,e) z i S:=by
 have hk:keyC true [.int,.int,.int,.int,.int] (.ag [.i .u8 a,.i .u8 b,.i .u8 c,.i .u8 d,.i .i64 e])=some (netL (a,b,c,d,e)):=rfl
 simp only [mentryV,hk,entM]
 rfl
def stoM (B:Option Blk) (born:Int) (v:AV) (i:Nat) (S:Mem):Option Mem:=match B with
 | some (.map es cl)=>match es.findIdx? (fun e=>((e.2.2:Nat):Int) == born) with
  | some j=>match es[j]? with
   | some e=>some (S.set i (.map (es.set j (e.1,v,e.2.2)) cl))
   | none=>none
  | none=>none
 | _=>none
theorem mstore_eq {S:Mem} {i:Nat} {q:IntKind} {born:Int} {v:AV}:mstoreV S (.m i) (.i q born) v=stoM (S[i]?) born v i S:=rfl
theorem lookM_none {es:List (AV × AV × Nat)} {cl:Nat} {n:Net5} {z:AV} (h:findK true netK (netL n) es 0=some none):lookM (some (.map es cl)) n z=some z:=by
 simp only [lookM,h,valAt]
theorem lookM_some {es:List (AV × AV × Nat)} {cl j:Nat} {n:Net5} {z v k:AV} {b:Nat} (h:findK true netK (netL n) es 0=some (some j)) (he:es[j]? = some (k,v,b)):lookM (some (.map es cl)) n z=some v:=by
 simp only [lookM,h,valAt,he]
theorem entM_none {es:List (AV × AV × Nat)} {cl i:Nat} {n:Net5} {z:AV} {S:Mem} (h:findK true netK (netL n) es 0=some none):entM (some (.map es cl)) n z i S=some (.tu [z,.i .i64 cl],S.set i (.map (es++[(.ag (netL n),z,cl)]) (cl+1))):=by
 simp only [entM,h]
theorem entM_some {es:List (AV × AV × Nat)} {cl i j b:Nat} {n:Net5} {z v k:AV} {S:Mem} (h:findK true netK (netL n) es 0=some (some j)) (he:es[j]? = some (k,v,b)) :
  entM (some (.map es cl)) n z i S=some (.tu [v,.i .i64 b],S.set i (.map (es.set j (.ag (netL n),v,b)) cl)):=by
 simp only [entM,h,he]
theorem born_new:∀ (b:Nat) (l:List Net5) (k:AV) (v:AV),(ents b l++[(k,v,b+l.length)]).findIdx? (fun e=>((e.2.2:Nat):Int) == ((b+l.length:Nat):Int))=some l.length
 | b,[],k,v=>by simp [ents,List.findIdx?_cons]
 | b,n :: r,k,v=>by
  have:=born_new (b+1) r k v
  rw [show b+1+r.length=b+(n :: r).length by simp;omega] at this
  simp only [ents,List.cons_append,List.findIdx?_cons,this]
  have hne:(((b:Nat):Int) == ((b+(n :: r).length:Nat):Int))=false:=by rw [beq_eq_false_iff_ne];simp;omega
  rw [hne];rfl
theorem stoM_new {L:List Net5} {n:Net5} {cl i k:Nat} {z v:AV} {S:Mem} (hk:L.length=k):stoM (some (.map (ents 0 L++[(.ag (netL n),z,k)]) cl)) (k:Int) v i S=some (S.set i (.map (ents 0 L++[(.ag (netL n),v,k)]) cl)):=by
 subst hk
 have h1:=born_new 0 L (.ag (netL n)) z
 simp only [Nat.zero_add] at h1
 have hl:(ents 0 L).length=L.length:=ents_length 0 L
 have h2:(ents 0 L++[(AV.ag (netL n),z,L.length)])[L.length]? = some (AV.ag (netL n),z,L.length):=by
  rw [List.getElem?_append_right (by omega),hl];simp
 have h3:(ents 0 L++[(AV.ag (netL n),z,L.length)]).set L.length (AV.ag (netL n),v,L.length)=ents 0 L++[(AV.ag (netL n),v,L.length)]:=by
  rw [List.set_append,if_neg (by omega),hl];simp
 simp only [stoM,h1,h2,h3]
theorem stoM_old {L:List Net5} {n:Net5} {cl i j:Nat} {z v:AV} {S:Mem} (hj:j<L.length):stoM (some (.map ((ents 0 L).set j (.ag (netL n),z,j)) cl)) (j:Int) v i S=some (S.set i (.map ((ents 0 L).set j (.ag (netL n),v,j)) cl)):=by
 have hl:(ents 0 L).length=L.length:=ents_length 0 L
 have h1:((ents 0 L).set j (AV.ag (netL n),z,j)).findIdx? (fun e=>((e.2.2:Nat):Int) == (j:Int))=some j:=by
  rw [List.findIdx?_eq_some_iff_getElem]
  refine ⟨by simpa [hl] using hj,by simp,fun i hi=>?_⟩
  have h2:=ents_at 0 L i (by omega)
  rw [Nat.zero_add] at h2
  obtain ⟨h3,h4⟩:=List.getElem?_eq_some_iff.1 h2
  rw [List.getElem_set_ne (by omega),h4]
  simp;omega
 have h2:((ents 0 L).set j (AV.ag (netL n),z,j))[j]? = some (AV.ag (netL n),z,j):=by simp [hl,hj]
 simp only [stoM,h1,h2,List.set_set]
theorem ents_new {L:List Net5} {n:Net5} {k:Nat} (hk:L.length=k):ents 0 L++[(.ag (netL n),.i .i64 1,k)]=ents 0 (L++[n]):=by
 rw [ents_append,Nat.zero_add,hk]
theorem look_new {L:List Net5} {n:Net5} {cl:Nat} {z:AV} (hn:n∈L):lookM (some (.map (ents 0 L) cl)) n z=some (.i .i64 1):=by
 obtain ⟨j,h1,h2,h3⟩:=find_some 0 0 L n hn
 rw [Nat.zero_add] at h3
 exact lookM_some h3 (ents_at 0 L j h1)
def nets (l:List Pol) (k:Nat):List Net5:=(l.take k).map Pol.net
theorem find_new:∀ (b i:Nat) (l:List Net5) (n:Net5) (z:AV) (c:Nat),n∉l→findK true netK (netL n) (ents b l++[(.ag (netL n),z,c)]) i=some (some (i+l.length))
 | b,i,[],n,z,c,_=>by simp only [ents,List.nil_append,findK,key_netL,eq_netL,decide_true];rfl
 | b,i,m :: r,n,z,c,h=>by
  simp only [List.mem_cons,not_or] at h
  simp only [ents,List.cons_append,findK,key_netL,eq_netL,decide_eq_false h.1]
  rw [find_new (b+1) (i+1) r n z c h.2,List.length_cons,show i+1+r.length=i+(r.length+1) by omega]
theorem look_app {L:List Net5} {n:Net5} {z v:AV} {c cl:Nat} (hn:n∉L):lookM (some (.map (ents 0 L++[(.ag (netL n),v,c)]) cl)) n z=some v:=by
 have h:=find_new 0 0 L n v c hn
 rw [Nat.zero_add] at h
 refine lookM_some h (k:=.ag (netL n)) (b:=c) ?_
 have hl:(ents 0 L).length=L.length:=ents_length 0 L
 rw [List.getElem?_append_right (by omega),hl];simp
theorem d0_new {O:Orc} {e:Env} {S:Mem} {i b:Nat} {a1 a2 a3 a4 a5:Int} {L:List Net5} {cl:Nat} (h3:e.get 3 = .m i) (h5:e.get 5 = .p b 0 0) (hb:rowB (S[b]?) 1 0 5=some [.i .u8 a1,.i .u8 a2,.i .u8 a3,.i .u8 a4,.i .i64 a5])
  (hS:S[i]? = some (.map (ents 0 L) cl)) (hcl:L.length=cl) (hn:(a1,a2,a3,a4,a5)∉L) (hib:i≠b) :
  ∃ e',evDraw O c69d0 [] e S=some (e',S.set i (.map (ents 0 (L++[(a1,a2,a3,a4,a5)])) (cl+1)))∧∀ t,t<17→e'.get t=e.get t:=by
 have hf:=find_none 0 0 L _ hn
 have hlt:i<S.length:=(List.getElem?_eq_some_iff.1 hS).1
 have hS2:∀ B:Blk,(S.set i B)[i]? = some B:=fun B=>at_set hS
 have hB2:∀ B:Blk,(S.set i B)[b]? = S[b]?:=fun B=>at_set_ne hib
 refine ⟨(23,.i .i64 cl) :: (22,.tu [.i .i64 0,.i .i64 cl]) :: (21,.i .i64 1) :: (20,.i .i64 0) :: (19,.ag [.i .u8 a1,.i .u8 a2,.i .u8 a3,.i .u8 a4,.i .i64 a5]) :: (18,.p b 1 0) :: (17,.m i) :: e,?_,?_⟩
 ·simp only [evDraw,c69d0,evStages,evNs,evOpt,evOne,wantV_none,evOp,evIO,X.ev,h3,h5,get_put,faddr_p,ld_row,hb,agV_some,mlook_eq,hS,lookM_none hf,mentry_eq,entM_none hf,bin_add,Nat.zero_add,↓reduceIte,Nat.reduceEqDiff,ext_tu,List.getElem?_cons_succ,List.getElem?_cons_zero,mstore_eq,hS2,stoM_new hcl,ents_new hcl,List.set_set,Int.zero_add,wrap_i64 (n:=1) (by omega) (by omega),keepE_nil,List.nil_append,chkStages,List.all_cons,List.all_nil,chkN,Nat.reduceAdd,Nat.le_refl,hB2,chkOpt,IOp.use,ROp.use,IO'.use,X.use,likeOn_cons,likeOn_nil,List.append_nil,dstL_none,dstL_some,look_app hn,eqv_m,eqv_p,eqv_i,eqv_ag,eqvL_cons,eqvL_nil,eqv_tu,Bool.and_true,putE,get_ite,Nat.reduceLeDiff,List.cons_append]
 ·intro t ht
  simp only [get_ite]
  rw [if_neg (by omega),if_neg (by omega),if_neg (by omega),if_neg (by omega),if_neg (by omega),if_neg (by omega),if_neg (by omega)]
theorem d0_old {O:Orc} {e:Env} {S:Mem} {i b:Nat} {a1 a2 a3 a4 a5:Int} {L:List Net5} {cl:Nat} (h3:e.get 3 = .m i) (h5:e.get 5 = .p b 0 0) (hb:rowB (S[b]?) 1 0 5=some [.i .u8 a1,.i .u8 a2,.i .u8 a3,.i .u8 a4,.i .i64 a5])
  (hS:S[i]? = some (.map (ents 0 L) cl)) (hn:(a1,a2,a3,a4,a5)∈L) (hib:i≠b) :
  ∃ e' es,evDraw O c69d0 [] e S=some (e',S.set i (.map es cl))∧(∀ t,t<17→e'.get t=e.get t)∧lookM (some (.map es cl)) (a1,a2,a3,a4,a5) (.i .i64 0)=some (.i .i64 2):=by
 obtain ⟨j,hj,hj2,hf⟩:=find_some 0 0 L _ hn
 rw [Nat.zero_add] at hf
 have hj3:L[j]=(a1,a2,a3,a4,a5):=by rw [List.getElem?_eq_getElem hj] at hj2;injection hj2
 have hat:=ents_at 0 L j hj
 rw [hj3,Nat.zero_add] at hat
 have hS2:∀ B:Blk,(S.set i B)[i]? = some B:=fun B=>at_set hS
 have hB2:∀ B:Blk,(S.set i B)[b]? = S[b]?:=fun B=>at_set_ne hib
 have hset:(ents 0 L).set j (.ag (netL (a1,a2,a3,a4,a5)),.i .i64 1,j)=ents 0 L:=by
  obtain ⟨h1,h2⟩:=List.getElem?_eq_some_iff.1 hat
  rw [←h2,List.set_getElem_self]
 have hfin:findK true netK (netL (a1,a2,a3,a4,a5)) ((ents 0 L).set j (.ag (netL (a1,a2,a3,a4,a5)),.i .i64 2,j)) 0=some (some j):=by
  have key:∀ (b i j:Nat) (L:List Net5) (n:Net5) (v:AV) (c:Nat),findK true netK (netL n) (ents b L) i=some (some (i+j))→L[j]? = some n→findK true netK (netL n) ((ents b L).set j (.ag (netL n),v,c)) i=some (some (i+j)):=by
   intro b i j L n v c
   induction L generalizing b i j with
   | nil=>intro _ h;simp at h
   | cons m r ih =>
    intro h1 h2
    simp only [ents,findK,key_netL,eq_netL] at h1
    cases j with
    | zero =>
     simp only [ents,List.set_cons_zero,findK,key_netL,eq_netL,decide_true]
     rfl
    | succ j =>
     by_cases e:n=m
     ·subst e;simp at h1
     ·simp only [decide_eq_false e] at h1
      simp only [ents,List.set_cons_succ,findK,key_netL,eq_netL,decide_eq_false e]
      rw [show i+(j+1)=i+1+j by omega] at h1 ⊢
      exact ih _ _ _ h1 (by simpa using h2)
  have:=key 0 0 j L (a1,a2,a3,a4,a5) (.i .i64 2) j (by rw [Nat.zero_add];exact hf) hj2
  rwa [Nat.zero_add] at this
 have hl1:=lookM_some (cl:=cl) (z:=.i .i64 0) hf hat
 have hst:=stoM_old (n:=(a1,a2,a3,a4,a5)) (cl:=cl) (i:=i) (z:=.i .i64 1) (v:=.i .i64 2) (S:=S.set i (.map (ents 0 L) cl)) hj
 rw [hset] at hst
 refine ⟨(23,.i .i64 j) :: (22,.tu [.i .i64 1,.i .i64 j]) :: (21,.i .i64 2) :: (20,.i .i64 1) :: (19,.ag [.i .u8 a1,.i .u8 a2,.i .u8 a3,.i .u8 a4,.i .i64 a5]) :: (18,.p b 1 0) :: (17,.m i) :: e,(ents 0 L).set j (.ag (netL (a1,a2,a3,a4,a5)),.i .i64 2,j),?_,?_,?_⟩
 ·simp only [evDraw,c69d0,evStages,evNs,evOpt,evOne,wantV_none,evOp,evIO,X.ev,h3,h5,get_put,faddr_p,ld_row,hb,agV_some,mlook_eq,hS,hl1,mentry_eq,entM_some hf hat,hset,bin_add,Nat.zero_add,↓reduceIte,Nat.reduceEqDiff,ext_tu,List.getElem?_cons_succ,List.getElem?_cons_zero,mstore_eq,hS2,hst,List.set_set,Int.reduceAdd,wrap_i64 (n:=2) (by omega) (by omega),keepE_nil,List.nil_append,chkStages,List.all_cons,List.all_nil,chkN,Nat.reduceAdd,Nat.le_refl,hB2,chkOpt,IOp.use,ROp.use,IO'.use,X.use,likeOn_cons,likeOn_nil,List.append_nil,dstL_none,dstL_some,eqv_m,eqv_p,eqv_i,eqv_ag,eqvL_cons,eqvL_nil,eqv_tu,Bool.and_true,putE,get_ite,Nat.reduceLeDiff,List.cons_append]
 ·intro t ht
  simp only [get_ite]
  rw [if_neg (by omega),if_neg (by omega),if_neg (by omega),if_neg (by omega),if_neg (by omega),if_neg (by omega),if_neg (by omega)]
 ·refine lookM_some hfin (k:=.ag (netL (a1,a2,a3,a4,a5))) (b:=j) ?_
  have hl:(ents 0 L).length=L.length:=ents_length 0 L
  simp [hl,hj]
noncomputable def allPS:Spec:=fun args S=>match args with
 | [x]=>match lstV polE S x with
  | some l=>if l.all (fun p=>decide p.fits)=true then some (.i .i64 (allE l),S) else none
  | none=>none
 | _=>none
theorem oQ_ok:OK Tryz.prog (lamOf Tryz.prog) (orcOf [(95,polS)]):=orc_ok (by simpa using pol_ok)
theorem all_ok:SpecOK Tryz.prog 69 allPS:=by
 intro args S x S' h
 simp only [allPS] at h
 split at h
 ·rename_i s
  split at h
  ·rename_i l hl
   split at h
   ·rename_i hfit
    cases h
    have hfit:∀ k (hk:k<l.length),l[k].fits:=fun k hk=>of_decide_eq_true (List.all_eq_true.1 hfit _ (List.getElem_mem hk))
    refine fn_of_wp f69 rfl (W_sound oQ_ok mixed _ _ _ _ _ ?_)
    simp (maxSteps:=1000000) (disch:=omega) only [c69,lst_len hl,go_sem]
    refine ⟨fun h8=>?_,fun h8=>?_⟩
    ·rw [show allE l=111 by unfold allE;rw [if_neg fun q=>by have:=q.1;omega]]
     exact wkv_same
    ·refine wp_loop (fun j e M dl=>dl=[]∧∃ (k:Nat) (T:Mem),j=l.length-k∧k≤l.length∧M=S++(.map (ents 0 (nets l k)) k :: T)∧okTo l k∧e.get 0=s∧e.get 3 = .m S.length∧e.get 10=s∧e.get 11 = .i .i64 l.length∧e.get 12 = .i .i64 k) (j:=l.length) ?_ ?_
     ·exact ⟨rfl,0,[],rfl,Nat.zero_le _,rfl,okTo_zero l,rfl,rfl,rfl,rfl,rfl⟩
     rintro j e M d' ⟨rfl,k,T,rfl,hk,rfl,hok,h0,h3,h10,h11,h12⟩
     by_cases hkl:k<l.length
     ·obtain ⟨bi,o,v,cap,ex,rfl⟩:=lst_sl hl hkl
      have hrow:=lstV_row hl hkl
      have hrow:∀ L,rowB ((S++L)[bi]?) (o+k * 13) v 13=some l[k].enc:=hrow
      have hkI:(k:Int)<l.length:=by omega
      have hlk:(nets l k).length=k:=by unfold nets;rw [List.length_map,List.length_take];omega
      refine wp_seq (W_sound oQ_ok mixed _ _ _ _ _ ?_)
      simp (maxSteps:=1000000) (disch:=omega) only [h11,h12,hkI,go_sem]
      refine wp_live (wp_seq (W_sound oQ_ok mixed _ _ _ _ _ ?_))
      simp (maxSteps:=1000000) (disch:=omega) only [go_sem]
      refine wp_live (wp_seq (wp_block (wp_seq (W_sound oQ_ok mixed _ _ _ _ _ ?_))))
      simp (maxSteps:=1000000) (disch:=omega) only [h0,h3,h10,h11,h12,hkI,Int.toNat_natCast,hrow,Pol.enc,go_sem]
      have hnet:rowB (((S++(.map (ents 0 (nets l k)) k :: (T++[.cells l[k].enc 0 none true])):Mem))[S.length+(T.length+1)]?) 1 0 5=some [.i .u8 l[k].a,.i .u8 l[k].b,.i .u8 l[k].c,.i .u8 l[k].d,.i .i64 l[k].bits]:=by rw [at_app,List.getElem?_cons_succ,at_app0];rfl
      have hmap:(S++(.map (ents 0 (nets l k)) k :: (T++[.cells l[k].enc 0 none true])):Mem)[S.length]? = some (.map (ents 0 (nets l k)) k):=by rw [at_app0];rfl
      have hN:nets l (k+1)=nets l k++[l[k].net]:=by unfold nets;rw [List.take_succ_eq_append_getElem hkl,List.map_append];rfl
      have bad:(¬ l[k].right∨l[k].net∈nets l k∨∃ h0:0<k,l[k].sub≤(l[k-1]'(by omega)).sub)→allE l=111:=fun hb=>by
       unfold allE
       rw [if_neg fun q=>?_]
       have q2:=okTo_at q.2 hkl
       rcases hb with hb | hb | ⟨h0,hb⟩
       ·exact hb q2.1
       ·unfold nets at hb
        obtain ⟨p,hp,hpn⟩:=List.mem_map.1 hb
        obtain ⟨j,hj,rfl⟩:=List.getElem_of_mem hp
        rw [List.getElem_take] at hpn
        exact (q2.2 j (by rw [List.length_take] at hj;omega)).2 hpn
       ·have:=(q2.2 (k-1) (by omega)).1;omega
      have fk:∀ L,cellB ((S++L)[bi]?) (o+(k-1) * 13+0) v=some (.i .i64 (l[k-1]'(by omega)).sub):=lstV_field hl (show k-1<l.length by omega) (f:=0) (x:=.i .i64 (l[k-1]'(by omega)).sub) rfl
      simp only [Nat.add_zero] at fk
      have hk1:0<k→wrapV .i64 ((k:Int)-1)=((k-1:Nat):Int):=fun h=>by rw [wrap_i64 (by omega) (by omega)];omega
      have hia:0<k→iaddrV none 13 (.sl bi o v l.length cap ex) (.i .i64 ((k-1:Nat):Int))=some (.p bi (o+(k-1) * 13) v):=fun h=>iaddr_sl (by omega)
      have hu:u84 l[k].a l[k].b l[k].c l[k].d:=hfit k hkl
      have hpos:(0<(k:Int))=(0<k):=by simp
      by_cases hm:l[k].net∈nets l k
      ·obtain ⟨e',es,hev,hge,hlo⟩:=d0_old (O:=orcOf [(95,polS)]) (e:=keepE [(4,AV.i .i64 k),(5,AV.p (List.length S+(T.length+1)) 0 0),(16,AV.ag l[k].enc),(15,AV.p bi (o+k * 13) v),(14,AV.i .i64 k),(3,AV.m (List.length S)),(0,AV.sl bi o v l.length cap ex),(10,AV.sl bi o v l.length cap ex),(11,AV.i .i64 l.length),(12,AV.i .i64 k)] [3,0,10,11,12,5,4]) rfl rfl hnet hmap hm (by omega)
       refine wp_live (wp_seq (wp_draw oQ_ok mixed hev ?_))
       have g0:=hge 0 (by omega);have g3:=hge 3 (by omega);have g4:=hge 4 (by omega);have g5:=hge 5 (by omega);have g10:=hge 10 (by omega);have g11:=hge 11 (by omega);have g12:=hge 12 (by omega)
       simp (maxSteps:=1000000) (disch:=omega) only [go_sem] at g0 g3 g4 g5 g10 g11 g12
       refine W_sound oQ_ok mixed _ _ _ _ _ ?_
       rw [bad (.inr (.inl hm))]
       simp (maxSteps:=1000000) (disch:=omega) only [g0,g3,g4,g5,g10,g11,g12,Pol.enc,orc_cons,polS,hu,mlook_eq,hlo,go_sem]
       exact ⟨fun _=>wkv_drop rfl,fun _=>wkv_drop rfl⟩
      ·obtain ⟨e',hev,hge⟩:=d0_new (O:=orcOf [(95,polS)]) (e:=keepE [(4,AV.i .i64 k),(5,AV.p (List.length S+(T.length+1)) 0 0),(16,AV.ag l[k].enc),(15,AV.p bi (o+k * 13) v),(14,AV.i .i64 k),(3,AV.m (List.length S)),(0,AV.sl bi o v l.length cap ex),(10,AV.sl bi o v l.length cap ex),(11,AV.i .i64 l.length),(12,AV.i .i64 k)] [3,0,10,11,12,5,4]) rfl rfl hnet hmap hlk hm (by omega)
       refine wp_live (wp_seq (wp_draw oQ_ok mixed hev ?_))
       have g0:=hge 0 (by omega);have g3:=hge 3 (by omega);have g4:=hge 4 (by omega);have g5:=hge 5 (by omega);have g10:=hge 10 (by omega);have g11:=hge 11 (by omega);have g12:=hge 12 (by omega)
       simp (maxSteps:=1000000) (disch:=omega) only [go_sem] at g0 g3 g4 g5 g10 g11 g12
       have hlo:lookM (some (.map (ents 0 (nets l k++[(l[k].a,l[k].b,l[k].c,l[k].d,l[k].bits)])) (k+1))) (l[k].a,l[k].b,l[k].c,l[k].d,l[k].bits) (.i .i64 0)=some (.i .i64 1):=look_new (by simp)
       have hw:wrapV .i64 ((k:Int)+1)=((k+1:Nat):Int):=by rw [wrap_i64 (by omega) (by omega)];omega
       have fin:l[k].right→(∀ h0:0<k,(l[k-1]'(by omega)).sub<l[k].sub)→okTo l (k+1):=fun hr hs=>by
        refine okTo_succ hkl hok hr fun j hj=>⟨okTo_rise hkl hok hs j hj,fun hne=>hm ?_⟩
        unfold nets
        exact List.mem_map.2 ⟨l[j]'(by omega),by rw [List.mem_take_iff_getElem];exact ⟨j,by omega,rfl⟩,hne⟩
       refine W_sound oQ_ok mixed _ _ _ _ _ ?_
       by_cases h0k:0<k
       ·simp (maxSteps:=1000000) (disch:=omega) only [g0,g3,g4,g5,g10,g11,g12,Pol.enc,orc_cons,polS,hu,mlook_eq,hlo,h0k,hpos,hk1,hia,fk,go_sem]
        refine ⟨fun hr=>⟨fun hs=>?_,fun hs=>W_sound oQ_ok mixed _ _ _ _ _ ?_⟩,fun hr=>?_⟩
        ·rw [bad (.inr (.inr ⟨h0k,hs⟩))];exact wkv_drop rfl
        ·simp (maxSteps:=1000000) (disch:=omega) only [hw,go_sem]
         exact ⟨l.length-(k+1),by omega,k+1,_,rfl,by omega,(by rw [hN];rfl),fin (Decidable.not_not.1 hr) (fun _=>by omega),rfl⟩
        ·rw [bad (.inl (fun q=>hr q))];exact wkv_drop rfl
       ·simp (maxSteps:=1000000) (disch:=omega) only [g0,g3,g4,g5,g10,g11,g12,Pol.enc,orc_cons,polS,hu,mlook_eq,hlo,h0k,hpos,go_sem]
        refine ⟨fun hr=>W_sound oQ_ok mixed _ _ _ _ _ ?_,fun hr=>?_⟩
        ·simp (maxSteps:=1000000) (disch:=omega) only [hw,go_sem]
         exact ⟨l.length-(k+1),by omega,k+1,_,rfl,by omega,(by rw [hN];rfl),fin (Decidable.not_not.1 hr) (fun h=>absurd h h0k),rfl⟩
        ·rw [bad (.inl (fun q=>hr q))];exact wkv_drop rfl
     ·have hkI:¬ (k:Int)<l.length:=by omega
      refine W_sound oQ_ok mixed _ _ _ _ _ ?_
      simp (maxSteps:=1000000) (disch:=omega) only [c69l2,h0,h3,h10,h11,h12,hkI,go_sem]
      rw [show allE l=0 by unfold allE;rw [if_pos ⟨by omega,by rwa [show k=l.length by omega] at hok⟩]]
      exact wkv_drop rfl
   ·cases h
  ·cases h
 ·cases h
structure Ent where
 pol:Pol
 granted:Int
 deriving DecidableEq
def Ent.enc (x:Ent):List AV:=[.i .i64 x.pol.sub,.i .u8 x.pol.a,.i .u8 x.pol.b,.i .u8 x.pol.c,.i .u8 x.pol.d,.i .i64 x.pol.bits,.i .u64 x.pol.rate,.i .u64 x.pol.burst,.i .u64 x.pol.srate,.i .u64 x.pol.sburst,.i .u64 x.pol.quota,.i .u64 x.pol.lease,.i .u64 x.pol.quantum,.i .u64 x.granted]
def entE:Enc Ent where
 enc:=Ent.enc
 dec r:=match r with
  | [.i .i64 sub,.i .u8 a,.i .u8 b,.i .u8 c,.i .u8 d,.i .i64 bits,.i .u64 rate,.i .u64 burst,.i .u64 srate,.i .u64 sburst,.i .u64 quota,.i .u64 lease,.i .u64 quantum,.i .u64 granted]=>some ⟨⟨sub,a,b,c,d,bits,rate,burst,srate,sburst,quota,lease,quantum⟩,granted⟩
  | _=>none
 sz:=14
 pos:=by decide
 len _:=rfl
 de _:=rfl
 ed r a h:=by
  split at h
  ·injection h with h;subst h;rfl
  ·cases h
theorem entE_one (a:Ent):(entE.enc a).all AV.one=true:=rfl
theorem entE_flat:∀ (n:Nat) (a:Ent),∀ c∈entE.enc a,AV.Flat n c:=by
 intro n a
 simp only [entE,Ent.enc,List.forall_mem_cons,List.not_mem_nil,false_imp_iff,implies_true,and_true,Flat_i,and_self]
theorem polE_one (a:Pol):(polE.enc a).all AV.one=true:=rfl
theorem polE_flat:∀ (n:Nat) (a:Pol),∀ c∈polE.enc a,AV.Flat n c:=by
 intro n a
 simp only [polE,Pol.enc,List.forall_mem_cons,List.not_mem_nil,false_imp_iff,implies_true,and_true,Flat_i,and_self]
theorem ne_ent {a b:Ent}:eqAgV true [.int,.int,.int,.int,.int,.int,.int,.int,.int,.int,.int,.int,.int,.int] (.ag (entE.enc a)) (.ag (entE.enc b))=some (.b (decide (¬ a=b))):=by
 obtain ⟨⟨a1,a2,a3,a4,a5,a6,a7,a8,a9,a10,a11,a12,a13⟩,a14⟩:=a
 obtain ⟨⟨b1,b2,b3,b4,b5,b6,b7,b8,b9,b10,b11,b12,b13⟩,b14⟩:=b
 simp [eqAgV,eqCells,eqCell,entE,Ent.enc,Bool.beq_eq_decide_eq,and_assoc]
def moreS:Spec:=fun args S=>match args with
 | [.ag cs]=>match entE.dec cs with
  | some x=>some (.b (decide (281474976710656<x.granted)),S)
  | none=>none
 | _=>none
theorem more_ok:SpecOK Tryz.prog 72 moreS:=by
 intro args S x S' h
 simp only [moreS] at h
 split at h
 ·split at h
  ·rename_i cs x hx
   cases h
   obtain rfl:=entE.ed _ _ hx
   refine fn_of_wp f72 rfl (W_sound none_ok mixed _ _ _ _ _ ?_)
   simp (maxSteps:=1000000) (disch:=omega) only [c72,entE,Ent.enc,go_sem]
   exact wkv_drop rfl
  ·cases h
 ·cases h
def eqlES:Spec:=fun args S=>match args with
 | [x,y]=>match lstV entE S x,lstV entE S y with
  | some l,some m=>if l.length≤1000000 then some (.b (decide (l=m)),S) else none
  | _,_=>none
 | _=>none
theorem eqlE_ok:SpecOK Tryz.prog 73 eqlES:=by
 intro args S x S' h
 simp only [eqlES] at h
 split at h
 ·rename_i s t
  split at h
  ·rename_i l m hl hm
   split at h
   ·rename_i hlim
    cases h
    refine fn_of_wp f73 rfl (W_sound none_ok mixed _ _ _ _ _ ?_)
    simp (maxSteps:=1000000) (disch:=omega) only [c73,lst_len hl,lst_len hm,go_sem]
    refine ⟨fun hne=>wkv_fP ext_refl fun q=>hne (by rw [q]),fun he=>?_⟩
    have he:l.length=m.length:=by omega
    refine wp_loop (fun j e M dl=>dl=[]∧∃ k:Nat,j=l.length-k∧k≤l.length∧M=S∧(∀ i (hi:i<k) (h1:i<l.length) (h2:i<m.length),l[i]=m[i]) ∧
     e.get 0=s∧e.get 1=t∧e.get 12 = .i .i64 l.length∧e.get 13 = .i .i64 k) (j:=l.length) ⟨rfl,0,rfl,Nat.zero_le _,rfl,fun i hi=>absurd hi (Nat.not_lt_zero _),rfl,rfl,rfl,rfl⟩ ?_
    rintro j e M d' ⟨rfl,k,rfl,hk,rfl,hn,h0,h1,h12,h13⟩
    refine W_sound none_ok mixed _ _ _ _ _ ?_
    by_cases hkl:k<l.length
    ·obtain ⟨bi,o,v,cap,ex,rfl⟩:=lst_sl hl hkl
     obtain ⟨bj,o2,v2,cap2,ex2,rfl⟩:=lst_sl hm (show k<m.length by omega)
     have hkI:(k:Int)<l.length:=by omega
     have hkm:k<m.length:=by omega
     have ha:=lstV_row hl hkl []
     have hb:=lstV_row hm (show k<m.length by omega) []
     rw [List.append_nil] at ha hb
     have ha:rowB (M[bi]?) (o+k * 14) v 14=some (entE.enc l[k]):=ha
     have hb:rowB (M[bj]?) (o2+k * 14) v2 14=some (entE.enc (m[k]'(by omega))):=hb
     simp (maxSteps:=1000000) (disch:=omega) only [c73l1,h0,h1,h12,h13,hkI,Int.toNat_natCast,ha,hb,ne_ent,go_sem]
     refine ⟨fun hd=>wkv_fP ext_refl fun q=>hd (by subst q;rfl),fun hd=>⟨l.length-(k+1),by omega,k+1,rfl,hkl,fun i hi h1 h2=>?_,rfl⟩⟩
     by_cases hik:i=k
     ·subst hik;exact Decidable.not_not.1 hd
     ·exact hn i (by omega) h1 h2
    ·have hkI:¬ (k:Int)<l.length:=by omega
     simp (maxSteps:=1000000) (disch:=omega) only [c73l1,h0,h1,h12,h13,hkI,go_sem]
     exact wkv_tP ext_refl (List.ext_getElem he fun i h1 h2=>hn i (by omega) h1 h2)
   ·cases h
  ·cases h
 ·cases h
theorem eqlE_eq {S:Mem} {x y:AV} {l m} (hl:lstV entE S x=some l) (hm:lstV entE S y=some m) (hn:l.length≤1000000):eqlES [x,y] S=some (.b (decide (l=m)),S):=by
 simp only [eqlES,hl,hm,if_pos hn]
def polsOf (l:List Ent):List Pol:=l.map Ent.pol
def policiesS:Spec:=fun args S=>match args with
 | [x]=>match lstV entE S x with
  | some l=>if l.length≤1000000 then some (retX false S (polsOf l),retM false polE S (polsOf l)) else none
  | none=>none
 | _=>none
theorem policies_ok:SpecOK Tryz.prog 70 policiesS:=by
 intro args S x S' h
 simp only [policiesS] at h
 split at h
 ·rename_i s
  split at h
  ·rename_i l hl
   split at h
   ·rename_i hlim
    cases h
    refine fn_of_wp f70 rfl (W_sound none_ok mixed _ _ _ _ _ ?_)
    simp (maxSteps:=1000000) (disch:=omega) only [c70,lst_len hl,go_sem]
    refine wp_loop (fun j e M dl=>dl=[]∧∃ (k:Nat) (x:AV),j=l.length-k∧k≤l.length∧Acc false polE S M x (polsOf (l.take k)) ∧
     e.get 6=s∧e.get 7 = .i .i64 l.length∧e.get 8 = .i .i64 k∧e.get 3=x) (j:=l.length) ⟨rfl,0,.sn,rfl,Nat.zero_le _,acc_nil ext_refl,rfl,rfl,rfl,rfl⟩ ?_
    rintro j e M d' ⟨rfl,k,x,rfl,hk,hx,h6,h7,h8,h3⟩
    refine W_sound none_ok mixed _ _ _ _ _ ?_
    by_cases hkl:k<l.length
    ·obtain ⟨bi,o,v,cap,ex,rfl⟩:=lst_sl hl hkl
     have hM:=lst_ext hl hx.ext
     have hr:∀ L,rowB ((M++L)[bi]?) (o+k * 14) v 14=some (entE.enc l[k]):=lstV_row hM hkl
     have hr0:=hr []
     rw [List.append_nil] at hr0
     have hkI:(k:Int)<l.length:=by omega
     have hw:wrapV .i64 ((k:Int)+1)=((k+1:Nat):Int):=by rw [wrap_i64 (by omega) (by omega)];omega
     have hlen:(polsOf (l.take k)).length=k:=by unfold polsOf;rw [List.length_map,List.length_take];omega
     obtain ⟨x',M',ha,hx'⟩:=Acc.app (bytes:=80) polE_one (hx.grow [.cells (entE.enc l[k]) 0 none true,.cells (polE.enc l[k].pol) 0 none true]) l[k].pol (by rw [hlen];omega) (by rw [hlen];omega)
     simp only [entE,polE,Ent.enc,Pol.enc] at hr0 ha
     simp (maxSteps:=1000000) (disch:=omega) only [c70l0,h3,h6,h7,h8,hkI,Int.toNat_natCast,hr0,src_sl,srcN_some,ha,hw,List.replicate,go_sem]
     refine ⟨l.length-(k+1),by omega,k+1,x',rfl,hkl,?_,rfl,rfl⟩
     rw [show polsOf (l.take (k+1))=polsOf (l.take k)++[l[k].pol] by unfold polsOf;rw [List.take_succ_eq_append_getElem hkl,List.map_append];rfl]
     exact hx'
    ·have hkI:¬ (k:Int)<l.length:=by omega
     simp (maxSteps:=1000000) (disch:=omega) only [c70l0,h3,h6,h7,h8,hkI,go_sem]
     rw [List.take_of_length_le (by omega)] at hx
     exact hx.ret polE_flat
   ·cases h
  ·cases h
 ·cases h
theorem policies_eq {S:Mem} {x:AV} {l:List Ent} (hl:lstV entE S x=some l) (h:l.length≤1000000):policiesS [x] S=some (retX false S (polsOf l),retM false polE S (polsOf l)):=by
 simp only [policiesS,hl,if_pos h]
structure Bk where
 period:Int
 entries:List Ent
 deriving DecidableEq
def Bk.ok (b:Bk):Prop:=1≤b.period∧b.period≤281474976710656∧Pols (polsOf b.entries)∧∀ x∈b.entries,x.granted≤281474976710656
noncomputable instance (b:Bk):Decidable b.ok:=Classical.propDecidable _
def Bk.fits (b:Bk):Prop:=b.entries.length≤1000000∧∀ x∈b.entries,x.pol.fits
instance (b:Bk):Decidable b.fits:=by unfold Bk.fits;infer_instance
def bookOf (S:Mem) (cs:List AV):Option Bk:=match cs with
 | [.i .u64 p,x]=>match lstV entE S x with
  | some l=>some ⟨p,l⟩
  | none=>none
 | _=>none
theorem bookOf_ok {S:Mem} {cs:List AV} {b:Bk} (h:bookOf S cs=some b):∃ x,cs=[.i .u64 b.period,x]∧lstV entE S x=some b.entries:=by
 unfold bookOf at h
 split at h
 ·split at h
  ·rename_i hl;cases h;exact ⟨_,rfl,hl⟩
  ·cases h
 ·cases h
theorem bookOf_mk {S:Mem} {x:AV} {p:Int} {l:List Ent} (h:lstV entE S x=some l):bookOf S [.i .u64 p,x]=some ⟨p,l⟩:=by
 simp only [bookOf,h]
noncomputable def brightS:Spec:=fun args S=>match args with
 | [.ag cs]=>match bookOf S cs with
  | some b=>if b.fits then some (.b (decide b.ok),S) else none
  | none=>none
 | _=>none
theorem allPS_eq {S:Mem} {x:AV} {l:List Pol} (hl:lstV polE S x=some l) (hf:∀ p∈l,p.fits):allPS [x] S=some (.i .i64 (allE l),S):=by
 have:l.all (fun p=>decide p.fits)=true:=List.all_eq_true.2 fun p hp=>decide_eq_true (hf p hp)
 simp only [allPS,hl,if_pos this]
theorem allE_zero {l:List Pol}:(allE l=0)=Pols l:=by
 unfold allE;split
 ·simpa
 ·simpa
noncomputable def Bk.fin (o:Option Bk):Option Bk:=match o with
 | some b=>if b.ok then some b else none
 | none=>none
def bookR (z:Bool) (S:Mem) (b:Bk) (err:Int):AV × Mem:=(.tu [.ag [.i .u64 b.period,retX z S b.entries],.i .i64 err],retM z entE S b.entries)
theorem bright_eq {S:Mem} {cs:List AV} {b:Bk} (h:bookOf S cs=some b) (hf:b.fits):brightS [.ag cs] S=some (.b (decide b.ok),S):=by
 simp only [brightS,h,if_pos hf]
def bsameS:Spec:=fun args S=>match args with
 | [.ag c1,.ag c2]=>match bookOf S c1,bookOf S c2 with
  | some a,some b=>if a.entries.length≤1000000 then some (.b (decide (a=b)),S) else none
  | _,_=>none
 | _=>none
theorem oBs_ok:OK Tryz.prog (lamOf Tryz.prog) (orcOf [(73,eqlES)]):=orc_ok (by simpa using eqlE_ok)
theorem bsame_ok:SpecOK Tryz.prog 47 bsameS:=by
 intro args S x S' h
 simp only [bsameS] at h
 split at h
 ·rename_i c1 c2
  split at h
  ·rename_i a b ha hb
   split at h
   ·rename_i hf
    cases h
    obtain ⟨s1,rfl,hl1⟩:=bookOf_ok ha
    obtain ⟨s2,rfl,hl2⟩:=bookOf_ok hb
    have e1:=fun L=>eqlE_eq (lstV_grow hl1 L) (lstV_grow hl2 L) hf
    refine fn_of_wp f47 rfl (W_sound oBs_ok mixed _ _ _ _ _ ?_)
    simp (maxSteps:=1000000) (disch:=omega) only [c47,orc_cons,e1,go_sem]
    obtain ⟨p1,l1⟩:=a
    obtain ⟨p2,l2⟩:=b
    simp only [Bk.mk.injEq]
    exact ⟨fun h1=>wkv_b ⟨fun q=>q.2,fun q=>⟨h1,q⟩⟩,fun h1=>wkv_f fun q=>h1 q.1⟩
   ·cases h
  ·cases h
 ·cases h
theorem rbsame_ok:SpecOK Tryz.prog 42 bsameS:=by
 intro args S x S' h
 simp only [bsameS] at h
 split at h
 ·rename_i c1 c2
  split at h
  ·rename_i a b ha hb
   split at h
   ·rename_i hf
    cases h
    obtain ⟨s1,rfl,hl1⟩:=bookOf_ok ha
    obtain ⟨s2,rfl,hl2⟩:=bookOf_ok hb
    obtain ⟨p1,l⟩:=a
    obtain ⟨p2,m⟩:=b
    simp only at hl1 hl2 hf
    simp only [Bk.mk.injEq]
    refine fn_of_wp f42 rfl (W_sound none_ok mixed _ _ _ _ _ ?_)
    simp (maxSteps:=1000000) (disch:=omega) only [c42,lst_len hl1,lst_len hl2,go_sem]
    refine ⟨fun h1=>⟨fun hne=>wkv_f fun q=>hne (by rw [q.2]),fun he=>?_⟩,fun h1=>wkv_f fun q=>h1 q.1⟩
    have he:l.length=m.length:=by omega
    have h1:=Decidable.not_not.1 h1
    refine wp_loop (fun j e M dl=>dl=[]∧∃ k:Nat,j=l.length-k∧k≤l.length∧M=S++[.cells [.i .u64 p1,s1] 0 none true,.cells [.i .u64 p2,s2] 0 none true]∧(∀ i (hi:i<k) (h1:i<l.length) (h2:i<m.length),l[i]=m[i]) ∧
     e.get 2 = .p S.length 0 0∧e.get 3 = .p (S.length+1) 0 0∧e.get 22 = .i .i64 l.length∧e.get 23 = .i .i64 k) (j:=l.length) ⟨rfl,0,rfl,Nat.zero_le _,rfl,fun i hi=>absurd hi (Nat.not_lt_zero _),rfl,rfl,rfl,rfl⟩ ?_
    rintro j e M d' ⟨rfl,k,rfl,hk,rfl,hn,h2,h3,h22,h23⟩
    refine W_sound none_ok mixed _ _ _ _ _ ?_
    by_cases hkl:k<l.length
    ·obtain ⟨bi,o,v,cap,ex,rfl⟩:=lst_sl hl1 hkl
     obtain ⟨bj,o2,v2,cap2,ex2,rfl⟩:=lst_sl hl2 (show k<m.length by omega)
     have hkI:(k:Int)<l.length:=by omega
     have hkm:k<m.length:=by omega
     have ha:∀ L,rowB ((S++L)[bi]?) (o+k * 14) v 14=some (entE.enc l[k]):=lstV_row hl1 hkl
     have hb:∀ L,rowB ((S++L)[bj]?) (o2+k * 14) v2 14=some (entE.enc m[k]):=lstV_row hl2 hkm
     simp (maxSteps:=1000000) (disch:=omega) only [c42l1,h2,h3,h22,h23,hkI,Int.toNat_natCast,ha,hb,ne_ent,go_sem]
     refine ⟨fun hd=>wkv_f fun q=>hd (by have:=q.2;subst this;rfl),fun hd=>⟨l.length-(k+1),by omega,k+1,rfl,hkl,fun i hi g1 g2=>?_,rfl⟩⟩
     by_cases hik:i=k
     ·subst hik;exact Decidable.not_not.1 hd
     ·exact hn i (by omega) g1 g2
    ·have hkI:¬ (k:Int)<l.length:=by omega
     simp (maxSteps:=1000000) (disch:=omega) only [c42l1,h2,h3,h22,h23,hkI,go_sem]
     exact wkv_tP (ext_app _) ⟨h1,List.ext_getElem he fun i g1 g2=>hn i (by omega) g1 g2⟩
   ·cases h
  ·cases h
 ·cases h
theorem bsame_eq {S:Mem} {c1 c2:List AV} {a b:Bk} (ha:bookOf S c1=some a) (hb:bookOf S c2=some b) (hf:a.entries.length≤1000000):bsameS [.ag c1,.ag c2] S=some (.b (decide (a=b)),S):=by
 simp only [bsameS,ha,hb,if_pos hf]
theorem allS_eq {S:Mem} {x:AV} {l:List Pol} (hl:lstV polE S x=some l) (hf:∀ p∈l,p.fits) (ho:l=[]∨openS S 13 x=true):allS [x] S=some (.i .i64 (allE l),S):=by
 have:l.all (fun p=>decide p.fits)=true:=List.all_eq_true.2 fun p hp=>decide_eq_true (hf p hp)
 simp only [allS,hl,if_pos (And.intro this ho)]
theorem oRr_ok:OK Tryz.prog (lamOf Tryz.prog) (orcOf [(98,allS)]):=orc_ok (by simpa using rall_ok)
theorem rbright_ok:SpecOK Tryz.prog 75 brightS:=by
 intro args S x S' h
 simp only [brightS] at h
 split at h
 ·rename_i cs
  split at h
  ·rename_i b hb
   split at h
   ·rename_i hf
    cases h
    obtain ⟨s,rfl,hl⟩:=bookOf_ok hb
    obtain ⟨p,l⟩:=b
    simp only at hl
    have hlim:=hf.1
    simp only at hlim
    refine fn_of_wp f75 rfl (W_sound oRr_ok mixed _ _ _ _ _ ?_)
    simp (maxSteps:=1000000) (disch:=omega) only [c75,lst_len hl,go_sem]
    refine ⟨fun h1=>⟨fun h2=>⟨fun h3=>?_,fun h3=>?_⟩,fun h2=>?_⟩,fun h1=>?_⟩
    ·refine wkv_f fun q=>?_
     have:=q.2.2.1.1;unfold polsOf at this;simp at this;omega
    rotate_left
    ·exact wkv_f fun q=>by have:=q.2.1;simp only at this;omega
    ·exact wkv_f fun q=>by have:=q.1;simp only at this;omega
    have h0:Acc true polE S (S++[.cells [.i .u64 p,s] 0 none true,.cells [] 0 none true]) (.sl (S.length+1) 0 0 0 0 true) []:=by
     have:=acc_lit (E:=polE) (M:=S++[.cells [.i .u64 p,s] 0 none true]) (ext_app (S:=S) _)
     simpa using this
    refine wp_loop (fun j e M dl=>dl=[]∧∃ (k:Nat) (x:AV),j=l.length-k∧k≤l.length∧Acc true polE S M x (polsOf (l.take k))∧(∀ i (hi:i<k) (h1:i<l.length),l[i].granted≤281474976710656) ∧
     e.get 22=s∧e.get 23 = .i .i64 l.length∧e.get 24 = .i .i64 k∧e.get 3=x) (j:=l.length) ⟨rfl,0,_,rfl,Nat.zero_le _,h0,fun i hi=>absurd hi (Nat.not_lt_zero _),rfl,rfl,rfl,rfl⟩ ?_
    rintro j e M d' ⟨rfl,k,x,rfl,hk,hx,hn,h22,h23,h24,h3⟩
    refine W_sound oRr_ok mixed _ _ _ _ _ ?_
    have hM:=lst_ext hl hx.ext
    by_cases hkl:k<l.length
    ·obtain ⟨bi,o,v,cap,ex,rfl⟩:=lst_sl hl hkl
     have hr:∀ L,rowB ((M++L)[bi]?) (o+k * 14) v 14=some (entE.enc l[k]):=lstV_row hM hkl
     have hr0:=hr []
     rw [List.append_nil] at hr0
     have hkI:(k:Int)<l.length:=by omega
     have hw:wrapV .i64 ((k:Int)+1)=((k+1:Nat):Int):=by rw [wrap_i64 (by omega) (by omega)];omega
     have hlen:(polsOf (l.take k)).length=k:=by unfold polsOf;rw [List.length_map,List.length_take];omega
     obtain ⟨x',M',ha,hx'⟩:=Acc.app (bytes:=80) polE_one (hx.grow [.cells (entE.enc l[k]) 0 none true,.cells (polE.enc l[k].pol) 0 none true]) l[k].pol (by rw [hlen];omega) (by rw [hlen];omega)
     simp only [entE,polE,Ent.enc,Pol.enc] at hr0 ha
     simp (maxSteps:=1000000) (disch:=omega) only [c75l0,h3,h22,h23,h24,hkI,Int.toNat_natCast,hr0,src_sl,srcN_some,ha,hw,List.replicate,go_sem]
     refine ⟨fun hg=>?_,fun hg=>⟨l.length-(k+1),by omega,k+1,x',rfl,hkl,?_,fun i hi g1=>?_,rfl,rfl⟩⟩
     ·refine wkv_fP (ext_more hx.ext _) fun q=>?_
      have:=q.2.2.2 l[k] (List.getElem_mem hkl);omega
     ·rw [show polsOf (l.take (k+1))=polsOf (l.take k)++[l[k].pol] by unfold polsOf;rw [List.take_succ_eq_append_getElem hkl,List.map_append];rfl]
      exact hx'
     ·by_cases hik:i=k
      ·subst hik;omega
      ·exact hn i (by omega) g1
    ·have hkI:¬ (k:Int)<l.length:=by omega
     rw [List.take_of_length_le (by omega)] at hx
     have ha:=allS_eq hx.lst (fun q hq=>by obtain ⟨y,hy,rfl⟩:=List.mem_map.1 hq;exact hf.2 y hy) (by
      by_cases e:polsOf l=[]
      ·exact .inl e
      ·exact .inr (hx.opens e))
     simp (maxSteps:=1000000) (disch:=omega) only [c75l0,h3,h22,h23,h24,hkI,orc_cons,ha,go_sem]
     refine wkv_bP hx.ext ?_
     rw [allE_zero]
     refine ⟨fun q=>q.2.2.1,fun q=>⟨by show (1:Int)≤p;omega,by show p≤_;omega,q,fun y hy=>?_⟩⟩
     obtain ⟨i,hi,rfl⟩:=List.getElem_of_mem hy
     exact hn i (by have:i<l.length:=hi;omega) hi
   ·cases h
  ·cases h
 ·cases h
def i64 (n:Int):Prop:=-9223372036854775808≤n∧n≤9223372036854775807
def u64 (n:Int):Prop:=0≤n∧n≤18446744073709551615
instance (n:Int):Decidable (i64 n):=by unfold i64;infer_instance
instance (n:Int):Decidable (u64 n):=by unfold u64;infer_instance
def leb (n:Int):List Int:=if n<128 then [n] else (128+n % 128) :: leb (n / 128)
 termination_by n.toNat
 decreasing_by omega
theorem leb_lt {n:Int} (h:n<128):leb n=[n]:=by rw [leb,if_pos h]
theorem leb_ge {n:Int} (h:¬ n<128):leb n=(128+n % 128) :: leb (n / 128):=by rw [leb,if_neg h]
theorem leb_ne (n:Int):leb n≠[]:=by
 by_cases h:n<128
 ·rw [leb_lt h];simp
 ·rw [leb_ge h];simp
theorem leb_len:∀ (k:Nat) (n:Int),n<128 * ((128 ^ k:Nat):Int)→(leb n).length≤k+1
 | 0,n,h=>by rw [leb_lt (by simpa using h)];simp
 | k+1,n,h=>by
  by_cases h1:n<128
  ·rw [leb_lt h1];simp
  ·rw [leb_ge h1,List.length_cons]
   have:n / 128<128 * ((128 ^ k:Nat):Int):=by rw [Nat.pow_succ] at h;omega
   have:=leb_len k _ this
   omega
theorem leb_len10 {n:Int} (h:u64 n):(leb n).length≤10:=leb_len 9 n (by have:=h.2;show n<128 * 9223372036854775808;omega)
theorem leb_u8 {n:Int} (h:0≤n):∀ b∈leb n,u8 b:=by
 by_cases h1:n<128
 ·rw [leb_lt h1];intro b hb;simp at hb;subst hb;unfold u8;omega
 ·rw [leb_ge h1]
  intro b hb
  rcases List.mem_cons.1 hb with rfl | hb
  ·unfold u8;omega
  ·exact leb_u8 (n:=n / 128) (by omega) b hb
 termination_by n.toNat
 decreasing_by omega
def lebs (l:List Int):List Int:=l.flatMap leb
theorem or128 {cst:Bool} {a:Int} (h0:0≤a) (h1:a≤255):binV .int cst .or (.i .u8 a) (.i .u8 128)=some (.i .u8 (128+a % 128)):=by
 rw [bin_i rfl]
 obtain ⟨x,rfl⟩:=Int.eq_ofNat_of_zero_le h0
 have hx:x<256:=by omega
 have e1:(BitVec.ofInt IntKind.u8.bits (x:Int)).toNat=x:=by show (BitVec.ofInt 8 (x:Int)).toNat=x;simp [BitVec.toNat_ofInt];omega
 have e2:(BitVec.ofInt IntKind.u8.bits 128).toNat=128:=rfl
 have e3:Nat.lor x 128=128+x % 128:=by
  have:∀ y:Fin 256,Nat.lor y.val 128=128+y.val % 128:=by decide
  exact this ⟨x,hx⟩
 simp only [intV,bitsV,e1,e2,e3,wrapV,Option.map_some]
 congr 2;omega
theorem shr_7 {n:Int}:shiftV .shr .u64 n 7=some (.i .u64 (n / 128)):=by
 simp only [shiftV,IntKind.bits]
 rw [if_neg (by omega),Int.fdiv_eq_ediv_of_nonneg _ (Int.natCast_nonneg _)];rfl
theorem wkv_head {S T:Mem} {cs:List AV} {op:Option Nat} {r ex:Bool} {l c:Nat} (hf:∀ x∈cs,AV.Flat S.length x):WkV S (.sl S.length 0 0 l c ex) (S++[.cells cs 0 op r]) (.sl S.length 0 0 l c ex) (S++(.cells cs 0 op r :: T)):=by
 have:=wkv_keep (S0:=S) (L:=.cells cs 0 op r :: T) (y:=.sl S.length 0 0 l c ex) [0] (by simp [Blk.plain]) (by simp)
 have h1:ren S.length (gKeep S.length (.cells cs 0 op r :: T) [0]) (.sl S.length 0 0 l c ex) = .sl S.length 0 0 l c ex:=by
  rw [ren_sl0,gKeep_at0]
  simp [gQ_some,ver_cells,renS_some]
 have h2:keepB S.length (.cells cs 0 op r :: T) [0]=[.cells cs 0 op r]:=by
  simp only [keepB_eq,List.map_cons,List.map_nil,List.getD_cons_zero,renB_cells,renL_eq]
  congr 2
  exact (List.map_congr_left (g:=id) fun c hc=>hf _ hc _).trans (List.map_id _)
 rwa [h1,h2] at this
def b8 (l:List Int):List AV:=l.map (.i .u8)
def buf (l:List Int):List AV:=b8 l++List.replicate (10-l.length) (.i .u8 0)
theorem b8_enc (l:List Int):l.flatMap (intE .u8).enc=b8 l:=by
 induction l with
 | nil=>rfl
 | cons a l ih=>rw [List.flatMap_cons,ih];rfl
theorem b8_len (l:List Int):(b8 l).length=l.length:=by unfold b8;simp
theorem buf_flat (l:List Int) (n:Nat):∀ x∈buf l,AV.Flat n x:=by
 intro x hx
 unfold buf b8 at hx
 rcases List.mem_append.1 hx with h | h
 ·obtain ⟨a,_,rfl⟩:=List.mem_map.1 h;exact Flat_i
 ·rw [(List.mem_replicate.1 h).2];exact Flat_i
theorem natV_0:natV (.i .i64 0)=some 0:=(rfl)
theorem natV_10:natV (.i .i64 10)=some 10:=(rfl)
theorem buf_app {S T:Mem} {l:List Int} {c:Int} (h:l.length<10):appV (S++(.cells (buf l) 0 none true :: T)) 1 1 (.sl S.length 0 0 l.length 10 true) [.i .u8 c] 1=some (.sl S.length 0 0 (l.length+1) 10 true,S++(.cells (buf (l++[c])) 0 none true :: T)):=by
 have hl:(buf l).length=10:=by unfold buf;rw [List.length_append,b8_len,List.length_replicate];omega
 simp only [appV]
 rw [if_neg (by omega),if_pos (by omega),at_app0,List.getElem?_cons_zero]
 simp only
 rw [if_pos ⟨trivial,by rw [hl];omega,rfl⟩,set_app0,List.set_cons_zero]
 have:splice (buf l) (0+l.length * 1) [.i .u8 c]=buf (l++[c]):=by
  unfold buf
  rw [splice,Nat.zero_add,Nat.mul_one,List.take_append_of_le_length (by rw [b8_len];omega),List.take_of_length_le (by rw [b8_len];omega)]
  rw [List.drop_append,List.drop_of_length_le (by rw [b8_len];simp),List.nil_append,b8_len,List.drop_replicate]
  unfold b8
  rw [List.map_append,List.append_assoc]
  congr 3
  simp only [List.length_append,List.length_singleton]
  omega
 rw [this]
def putS:Spec:=fun args S=>match args with
 | [.i .u64 n]=>if u64 n then some (.sl S.length 0 0 (leb n).length 10 true,S++[.cells (buf (leb n)) 0 none true]) else none
 | _=>none
theorem put_ok:SpecOK Tryz.prog 80 putS:=by
 intro args S x S' h
 simp only [putS] at h
 split at h
 ·rename_i n
  split at h
  ·rename_i hn
   cases h
   refine fn_of_wp f80 rfl (W_sound none_ok mixed _ _ _ _ _ ?_)
   simp (maxSteps:=1000000) (disch:=omega) only [c80,natV_0,natV_10,go_sem]
   refine wp_loop (fun j e M dl=>dl=[]∧∃ (pre:List Int) (m:Int) (T:Mem),j=m.toNat∧leb n=pre++leb m∧0≤m∧m * ((128 ^ pre.length:Nat):Int)≤18446744073709551615∧pre.length≤9 ∧
    M=S++(.cells (buf pre) 0 none true :: T)∧e.get 0 = .i .u64 m∧e.get 3 = .sl S.length 0 0 pre.length 10 true) (j:=n.toNat)
    ⟨rfl,[],n,[],rfl,rfl,hn.1,by have:=hn.2;simpa using this,by simp,rfl,rfl,rfl⟩ ?_
   rintro j e M d' ⟨rfl,pre,m,T,rfl,hleb,hm0,hm1,hp,rfl,h0,h3⟩
   refine W_sound none_ok mixed _ _ _ _ _ ?_
   by_cases h128:m<128
   ·have hc:¬ (128:Int)≤m:=by omega
    have ha:=fun T c=>buf_app (S:=S) (T:=T) (l:=pre) (c:=c) (by omega)
    have hw:wrapV .u8 m=m:=wrap_u8 hm0 (by omega)
    simp (maxSteps:=1000000) (disch:=omega) only [c80l0,h0,h3,hc,hw,src_sl,srcN_some,ha,List.replicate,go_sem]
    rw [hleb,leb_lt h128,List.length_append]
    exact wkv_head (buf_flat _ _)
   ·have hc:(128:Int)≤m:=by omega
    have hp9:pre.length<9:=by
     rcases Nat.lt_or_ge pre.length 9 with h | h
     ·exact h
     ·rw [show pre.length=9 by omega] at hm1
      have:m * 9223372036854775808≤18446744073709551615:=hm1
      omega
    have ha:=fun T c=>buf_app (S:=S) (T:=T) (l:=pre) (c:=c) (by omega)
    have hw:wrapV .u8 m=m % 256:=rfl
    have ho:∀ cst,binV .int cst .or (.i .u8 (m % 256)) (.i .u8 128)=some (.i .u8 (128+m % 128)):=fun cst=>by rw [or128 (by omega) (by omega)];congr 3;omega
    simp (maxSteps:=1000000) (disch:=omega) only [c80l0,h0,h3,hc,hw,ho,shr_7,src_sl,srcN_some,ha,List.replicate,go_sem]
    refine ⟨(m / 128).toNat,by omega,pre++[128+m % 128],m / 128,_,rfl,?_,by omega,?_,by simp;omega,rfl,rfl,by simp⟩
    ·rw [hleb,leb_ge h128,List.append_assoc];rfl
    ·rw [List.length_append,List.length_singleton,Nat.pow_succ]
     have h1:m / 128 * 128≤m:=by omega
     have h2:(m / 128) * ((128 ^ pre.length * 128:Nat):Int)=(m / 128 * 128) * ((128 ^ pre.length:Nat):Int):=by
      rw [Int.natCast_mul,Int.mul_assoc,Int.mul_comm (((128 ^ pre.length:Nat):Int)) _];rfl
     rw [h2]
     exact Int.le_trans (Int.mul_le_mul_of_nonneg_right h1 (Int.natCast_nonneg _)) hm1
  ·cases h
 ·cases h
theorem put_eq {n:Int} (h:u64 n) (S:Mem):putS [.i .u64 n] S=some (.sl S.length 0 0 (leb n).length 10 true,S++[.cells (buf (leb n)) 0 none true]):=by
 simp only [putS,if_pos h]
def byteE:Enc Int:=intE .u8
theorem byteE_one (a:Int):(byteE.enc a).all AV.one=true:=rfl
theorem byteE_flat:∀ (n:Nat) (a:Int),∀ c∈byteE.enc a,AV.Flat n c:=by
 intro n a c hc
 have:c = .i .u8 a:=by simpa [byteE,intE] using hc
 rw [this];exact Flat_i
def numE:Enc Int:=intE .u64
theorem numE_one (a:Int):(numE.enc a).all AV.one=true:=rfl
def lebsS (z:Bool):Spec:=fun args S=>match args with
 | [x]=>match lstV numE S x with
  | some l=>if l.length≤1000000∧l.all (fun n=>decide (u64 n))=true then some (retX z S (lebs l),retM z byteE S (lebs l)) else none
  | none=>none
 | _=>none
theorem lebs_len {l:List Int} (h:∀ n∈l,u64 n):(lebs l).length≤10 * l.length:=by
 induction l with
 | nil=>simp [lebs]
 | cons a l ih =>
  have h1:=leb_len10 (h a (by simp))
  have h2:=ih fun n hn=>h n (by simp [hn])
  unfold lebs at h2 ⊢
  rw [List.flatMap_cons,List.length_append,List.length_cons];omega
theorem oNu_ok:OK Tryz.prog (lamOf Tryz.prog) (orcOf [(80,putS)]):=orc_ok (by simpa using put_ok)
theorem lebs_ok:SpecOK Tryz.prog 56 (lebsS false):=by
 intro args S x S' h
 simp only [lebsS] at h
 split at h
 ·rename_i s
  split at h
  ·rename_i l hl
   split at h
   ·rename_i hc
    cases h
    obtain ⟨hlim,hu⟩:=hc
    have hu:∀ n∈l,u64 n:=fun n hn=>of_decide_eq_true (List.all_eq_true.1 hu n hn)
    refine fn_of_wp f56 rfl (W_sound oNu_ok mixed _ _ _ _ _ ?_)
    simp (maxSteps:=1000000) (disch:=omega) only [c56,lst_len hl,go_sem]
    refine wp_loop (fun j e M dl=>dl=[]∧∃ (k:Nat) (x:AV),j=l.length-k∧k≤l.length∧Acc false byteE S M x (lebs (l.take k)) ∧
     e.get 6=s∧e.get 7 = .i .i64 l.length∧e.get 8 = .i .i64 k∧e.get 3=x) (j:=l.length) ⟨rfl,0,.sn,rfl,Nat.zero_le _,acc_nil ext_refl,rfl,rfl,rfl,rfl⟩ ?_
    rintro j e M d' ⟨rfl,k,x,rfl,hk,hx,h6,h7,h8,h3⟩
    refine W_sound oNu_ok mixed _ _ _ _ _ ?_
    by_cases hkl:k<l.length
    ·obtain ⟨bi,o,v,cap,ex,rfl⟩:=lst_sl hl hkl
     have hM:=lst_ext hl hx.ext
     have hc:∀ L,cellB ((M++L)[bi]?) (o+k) v=some (.i .u64 l[k]):=lstV_cell hM rfl (fun a=>rfl) hkl
     have hc0:=hc []
     rw [List.append_nil] at hc0
     have hkI:(k:Int)<l.length:=by omega
     have hw:wrapV .i64 ((k:Int)+1)=((k+1:Nat):Int):=by rw [wrap_i64 (by omega) (by omega)];omega
     have hlk:=hu _ (List.getElem_mem hkl)
     have h10:=leb_len10 hlk
     have hlen:(lebs (l.take k)).length≤10 * k:=by
      have:=lebs_len (l:=l.take k) fun n hn=>hu n (List.mem_of_mem_take hn)
      rw [List.length_take] at this;omega
     obtain ⟨x',M',ha,hx'⟩:=Acc.apps (bytes:=1) byteE_one (hx.grow [.cells (buf (leb l[k])) 0 none true]) (leb l[k]) (by omega) (by omega)
     rw [show (leb l[k]).flatMap byteE.enc=b8 (leb l[k]) from b8_enc _] at ha
     have ha:appV (M++[.cells (buf (leb l[k])) 0 none true]) 1 1 x (b8 (leb l[k])) (leb l[k]).length=some (x',M'):=ha
     have hb:rowB (some (.cells (buf (leb l[k])) 0 none true)) 0 0 (leb l[k]).length=some (b8 (leb l[k])):=by
      rw [rowB_some,if_pos (by unfold buf;rw [List.length_append,b8_len];omega),List.drop_zero]
      unfold buf
      rw [List.take_append_of_le_length (by rw [b8_len];omega),List.take_of_length_le (by rw [b8_len];omega)]
     simp (maxSteps:=1000000) (disch:=omega) only [c56l0,h3,h6,h7,h8,hkI,Int.toNat_natCast,Nat.mul_one,hc0,orc_cons,put_eq hlk,src_sl,hb,srcN_some,ha,hw,go_sem]
     refine ⟨l.length-(k+1),by omega,k+1,x',rfl,hkl,?_,rfl,rfl⟩
     rw [show lebs (l.take (k+1))=lebs (l.take k)++leb l[k] by unfold lebs;rw [List.take_succ_eq_append_getElem hkl,List.flatMap_append];simp]
     exact hx'
    ·have hkI:¬ (k:Int)<l.length:=by omega
     simp (maxSteps:=1000000) (disch:=omega) only [c56l0,h3,h6,h7,h8,hkI,go_sem]
     rw [List.take_of_length_le (by omega)] at hx
     exact hx.ret byteE_flat
   ·cases h
  ·cases h
 ·cases h
theorem lebs_eq {z:Bool} {S:Mem} {x:AV} {l:List Int} (hl:lstV numE S x=some l) (hn:l.length≤1000000) (hu:∀ n∈l,u64 n):lebsS z [x] S=some (retX z S (lebs l),retM z byteE S (lebs l)):=by
 simp only [lebsS,hl,if_pos (And.intro hn (List.all_eq_true.2 fun n h=>decide_eq_true (hu n h)))]
def rputS (f:Nat):Spec:=fun args S=>match args with
 | [.i .u64 n]=>if 0<f∧n<((128 ^ f:Nat):Int)∧u64 n then
   (if n<128 then some (.sl S.length 0 0 1 1 true,S++[.cells [.i .u8 n] 0 none true]) else some (retX true S (leb n),retM true byteE S (leb n)))
  else none
 | _=>none
theorem rput_ok:∀ f,SpecOK Tryz.prog 77 (rputS f)
 | 0=>by
  intro args S x S' h
  simp only [rputS] at h
  split at h
  ·split at h
   ·rename_i hc;exact absurd hc.1 (by omega)
   ·cases h
  ·cases h
 | f+1=>by
  have hO:OK Tryz.prog (lamOf Tryz.prog) (orcOf [(77,rputS f)]):=orc_ok (by simpa using rput_ok f)
  intro args S x S' h
  simp only [rputS] at h
  split at h
  ·rename_i n
   split at h
   ·rename_i hc
    obtain ⟨_,hn1,hn⟩:=hc
    have hn0:=hn.1
    refine fn_of_wp f77 rfl (W_sound hO mixed _ _ _ _ _ ?_)
    by_cases h128:n<128
    ·rw [if_pos h128] at h
     cases h
     have hw:wrapV .u8 n=n:=wrap_u8 hn0 (by omega)
     simp (maxSteps:=1000000) (disch:=omega) only [c77,h128,hw,List.replicate,go_sem]
     exact wkv_same
    ·rw [if_neg h128] at h
     cases h
     have hw1:wrapV .u64 (128+n % 128)=128+n % 128:=wrap_u64 (by omega) (by omega)
     have hw2:wrapV .u8 (128+n % 128)=128+n % 128:=wrap_u8 (by omega) (by omega)
     have hw3:wrapV .u64 (n / 128)=n / 128:=wrap_u64 (by omega) (by have:=hn.2;omega)
     have hcall:∃ x2 M2,rputS f [.i .u64 (n / 128)] (S++[.cells [.i .u8 (128+n % 128)] 0 none true])=some (x2,M2)∧lstV byteE M2 x2=some (leb (n / 128))∧∃ U,M2=S++[.cells [.i .u8 (128+n % 128)] 0 none true]++U:=by
      have hf0:0<f:=by
       rcases Nat.eq_zero_or_pos f with h | h
       ·subst h;simp at hn1;omega
       ·exact h
      have hc:0<f∧n / 128<((128 ^ f:Nat):Int)∧u64 (n / 128):=⟨hf0,by rw [Nat.pow_succ] at hn1;omega,by have:=hn.2;unfold u64;omega⟩
      simp only [rputS]
      rw [if_pos hc]
      by_cases h2:n / 128<128
      ·rw [if_pos h2,leb_lt h2]
       refine ⟨_,_,rfl,?_,_,rfl⟩
       exact own_lst (ownV_mk (E:=byteE) (l:=[n / 128]) (by rw [at_app0];rfl))
      ·rw [if_neg h2]
       refine ⟨_,_,rfl,retX_lst,?_⟩
       obtain ⟨U,hU⟩:=retM_ext (z:=true) (E:=byteE) (S:=S++[.cells [.i .u8 (128+n % 128)] 0 none true]) (l:=leb (n / 128))
       exact ⟨U,hU.symm⟩
     obtain ⟨x2,M2,hcall,hx2,U,rfl⟩:=hcall
     have h10:=leb_len10 hn
     rw [leb_ge h128,List.length_cons] at h10
     have hacc:=accL_lit (E:=byteE) (S:=S) (M:=S) (l:=[128+n % 128]) ext_refl
     obtain ⟨x3,M3,U3,ha,hM3,_,hx3⟩:=hacc.apps (bytes:=1) byteE_one U (leb (n / 128)) (by simp only [List.length_singleton];omega) (by simp only [List.length_singleton];omega)
     have hsrc:srcV (S++[.cells [.i .u8 (128+n % 128)] 0 none true]++U) 1 x2=some ((leb (n / 128)).flatMap byteE.enc,(leb (n / 128)).length):=by
      rcases lstV_lst hx2 with ⟨_,h⟩ | ⟨_,h⟩ | ⟨i,o,v,len,cap,ex,rfl,rfl,hrow⟩
      ·exact absurd h (leb_ne _)
      ·exact absurd h (leb_ne _)
      ·have hrow:rowB ((S++[.cells [.i .u8 (128+n % 128)] 0 none true]++U)[i]?) o v ((leb (n / 128)).length * 1)=some ((leb (n / 128)).flatMap byteE.enc):=by rw [←rowAt_B];exact hrow
       rw [src_sl,hrow,srcN_some]
     have ha:appV (S++[.cells [.i .u8 (128+n % 128)] 0 none true]++U) 1 1 (.sl S.length 0 0 1 1 true) ((leb (n / 128)).flatMap byteE.enc) (leb (n / 128)).length=some (x3,M3++(U++U3)):=ha
     simp only [List.append_assoc,List.cons_append,List.nil_append] at hcall hsrc ha
     simp (maxSteps:=1000000) (disch:=omega) only [c77,h128,hw1,hw2,hw3,orc_cons,hcall,hsrc,ha,List.replicate,go_sem]
     rw [leb_ge h128]
     exact (hx3 (leb_ne _) true).ret byteE_flat
   ·cases h
  ·cases h
theorem rput_len {n:Int} (S:Mem) (hn:u64 n):∃ x M,rputS 10 [.i .u64 n] S=some (x,M)∧lstV byteE M x=some (leb n)∧S <+: M:=by
 have hc:0<10∧n<((128 ^ 10:Nat):Int)∧u64 n:=⟨by omega,by have:=hn.2;show n<1180591620717411303424;omega,hn⟩
 simp only [rputS]
 rw [if_pos hc]
 by_cases h2:n<128
 ·rw [if_pos h2,leb_lt h2]
  exact ⟨_,_,rfl,own_lst (ownV_mk (E:=byteE) (l:=[n]) (by rw [at_app0];rfl)),ext_app _⟩
 ·rw [if_neg h2]
  exact ⟨_,_,rfl,retX_lst,retM_ext⟩
theorem src_lst {α:Type} {E:Enc α} {S:Mem} {x:AV} {l:List α} (h:lstV E S x=some l):srcV S E.sz x=some (l.flatMap E.enc,l.length):=by
 rcases lstV_lst h with ⟨rfl,rfl⟩ | ⟨rfl,rfl⟩ | ⟨i,o,v,len,cap,ex,rfl,rfl,hrow⟩
 ·rfl
 ·rfl
 ·have hrow:rowB (S[i]?) o v (l.length * E.sz)=some (l.flatMap E.enc):=by rw [←rowAt_B];exact hrow
  rw [src_sl,hrow,srcN_some]
theorem oRn_ok:OK Tryz.prog (lamOf Tryz.prog) (orcOf [(77,rputS 10)]):=orc_ok (by simpa using rput_ok 10)
theorem rlebs_ok:SpecOK Tryz.prog 50 (lebsS true):=by
 intro args S x S' h
 simp only [lebsS] at h
 split at h
 ·rename_i s
  split at h
  ·rename_i l hl
   split at h
   ·rename_i hc
    cases h
    obtain ⟨hlim,hu⟩:=hc
    have hu:∀ n∈l,u64 n:=fun n hn=>of_decide_eq_true (List.all_eq_true.1 hu n hn)
    refine fn_of_wp f50 rfl (W_sound oRn_ok mixed _ _ _ _ _ ?_)
    simp (maxSteps:=1000000) (disch:=omega) only [c50,lst_len hl,go_sem]
    refine wp_loop (fun j e M dl=>dl=[]∧∃ (k:Nat) (x:AV),j=l.length-k∧k≤l.length∧Acc true byteE S M x (lebs (l.take k)) ∧
     e.get 7=s∧e.get 8 = .i .i64 l.length∧e.get 9 = .i .i64 k∧e.get 3=x) (j:=l.length) ⟨rfl,0,_,rfl,Nat.zero_le _,acc_lit ext_refl,rfl,rfl,rfl,rfl⟩ ?_
    rintro j e M d' ⟨rfl,k,x,rfl,hk,hx,h7,h8,h9,h3⟩
    refine W_sound oRn_ok mixed _ _ _ _ _ ?_
    by_cases hkl:k<l.length
    ·obtain ⟨bi,o,v,cap,ex,rfl⟩:=lst_sl hl hkl
     have hM:=lst_ext hl hx.ext
     have hc:∀ L,cellB ((M++L)[bi]?) (o+k) v=some (.i .u64 l[k]):=lstV_cell hM rfl (fun a=>rfl) hkl
     have hc0:=hc []
     rw [List.append_nil] at hc0
     have hkI:(k:Int)<l.length:=by omega
     have hw:wrapV .i64 ((k:Int)+1)=((k+1:Nat):Int):=by rw [wrap_i64 (by omega) (by omega)];omega
     have hlk:=hu _ (List.getElem_mem hkl)
     have h10:=leb_len10 hlk
     have hlen:(lebs (l.take k)).length≤10 * k:=by
      have:=lebs_len (l:=l.take k) fun n hn=>hu n (List.mem_of_mem_take hn)
      rw [List.length_take] at this;omega
     obtain ⟨x2,M2,hp,hx2,hM2⟩:=rput_len M hlk
     obtain ⟨x',M',ha,hx'⟩:=Acc.apps (bytes:=1) byteE_one (hx.extM hM2) (leb l[k]) (by omega) (by omega)
     have hs:srcV M2 1 x2=_:=src_lst hx2
     have ha:appV M2 1 1 x _ _=_:=ha
     simp (maxSteps:=1000000) (disch:=omega) only [c50l0,h3,h7,h8,h9,hkI,Int.toNat_natCast,Nat.mul_one,hc0,orc_cons,hp,hs,ha,hw,go_sem]
     refine ⟨l.length-(k+1),by omega,k+1,x',rfl,hkl,?_,rfl,rfl⟩
     rw [show lebs (l.take (k+1))=lebs (l.take k)++leb l[k] by unfold lebs;rw [List.take_succ_eq_append_getElem hkl,List.flatMap_append];simp]
     exact hx'
    ·have hkI:¬ (k:Int)<l.length:=by omega
     simp (maxSteps:=1000000) (disch:=omega) only [c50l0,h3,h7,h8,h9,hkI,go_sem]
     rw [List.take_of_length_le (by omega)] at hx
     exact hx.ret byteE_flat
   ·cases h
  ·cases h
 ·cases h
def Pol.good (p:Pol):Prop:=i64 p.sub∧u84 p.a p.b p.c p.d∧i64 p.bits∧u64 p.rate∧u64 p.burst∧u64 p.srate∧u64 p.sburst∧u64 p.quota∧u64 p.lease∧u64 p.quantum
instance (p:Pol):Decidable p.good:=by unfold Pol.good;infer_instance
def Ent.good (x:Ent):Prop:=x.pol.good∧u64 x.granted
instance (x:Ent):Decidable x.good:=by unfold Ent.good;infer_instance
theorem Pol.good.fits {p:Pol} (h:p.good):p.fits:=h.2.1
def Bk.good (b:Bk):Prop:=u64 b.period∧b.entries.length≤1000000∧∀ x∈b.entries,x.good
instance (b:Bk):Decidable b.good:=by unfold Bk.good;infer_instance
theorem Bk.good.fits {b:Bk} (h:b.good):b.fits:=⟨h.2.1,fun x hx=>(h.2.2 x hx).1.fits⟩
def Pol.ns (p:Pol):List Int:=[p.sub,num p.a p.b p.c p.d,p.bits,p.rate,p.burst,p.srate,p.sburst,p.quota,p.lease,p.quantum]
theorem ns_u64 {p:Pol} (h:p.good) (hr:p.right):∀ n∈p.ns,u64 n:=by
 obtain ⟨_,⟨ha,hb,hc,hd⟩,_,h3,h4,h5,h6,h7,h8,h9⟩:=h
 have hn:=u32_num ha hb hc hd
 have hb2:=hr.2.2.1.1
 have hb3:=cl_bound p.bits
 have h1:=hr.1
 have h2:=hr.2.1
 intro n hn
 simp only [Pol.ns,List.mem_cons,List.not_mem_nil,or_false] at hn
 rcases hn with rfl | rfl | rfl | rfl | rfl | rfl | rfl | rfl | rfl | rfl <;> first | assumption | (unfold u64 u32 at *;omega)
def numsS:Spec:=fun args S=>match args with
 | [.ag cs]=>match polE.dec cs with
  | some p=>if p.good then (if p.right then some (.sl S.length 0 0 10 10 true,S++[.cells (p.ns.map (.i .u64)) 0 none true]) else some (.sn,S)) else none
  | none=>none
 | _=>none
theorem oPn_ok:OK Tryz.prog (lamOf Tryz.prog) (orcOf [(95,polS),(101,numS)]):=orc_ok (by simpa using ⟨pol_ok,num_ok⟩)
theorem polS_dec {p:Pol} (h:p.fits) (S:Mem):polS [.ag [.i .i64 p.sub,.i .u8 p.a,.i .u8 p.b,.i .u8 p.c,.i .u8 p.d,.i .i64 p.bits,.i .u64 p.rate,.i .u64 p.burst,.i .u64 p.srate,.i .u64 p.sburst,.i .u64 p.quota,.i .u64 p.lease,.i .u64 p.quantum]] S=some (.b (decide p.right),S):=polS_eq h S
theorem nums_ok:SpecOK Tryz.prog 78 numsS:=by
 intro args S x S' h
 simp only [numsS] at h
 split at h
 ·rename_i cs
  split at h
  ·rename_i p hp
   split at h
   ·rename_i hg
    obtain rfl:=polE.ed _ _ hp
    refine fn_of_wp f78 rfl (W_sound oPn_ok mixed _ _ _ _ _ ?_)
    have hq:=polS_dec hg.fits
    have hn:=numS_eq hg.fits
    have hu:=u84_num hg.fits
    split at h
    ·rename_i hr
     cases h
     have hb:=hr.2.2.1.1
     have hb3:=cl_bound p.bits
     have w1:wrapV .u64 p.sub=p.sub:=wrap_u64 (by have:=hr.1;omega) (by have:=hr.2.1;omega)
     have w2:wrapV .u64 p.bits=p.bits:=wrap_u64 (by omega) (by omega)
     have w3:wrapV .u64 (num p.a p.b p.c p.d)=num p.a p.b p.c p.d:=wrap_u64 (by unfold u32 at hu;omega) (by unfold u32 at hu;omega)
     have hd:decide p.right=true:=decide_eq_true hr
     simp (maxSteps:=1000000) (disch:=omega) only [c78,polE,Pol.enc,orc_cons,hq,hd,hn,w1,w2,w3,List.replicate,go_sem]
     exact wkv_at (p:=1) rfl (by intro x hx;obtain ⟨a,_,rfl⟩:=List.mem_map.1 hx;exact Flat_i)
    ·rename_i hr
     cases h
     have hd:decide p.right=false:=decide_eq_false hr
     simp (maxSteps:=1000000) (disch:=omega) only [c78,polE,Pol.enc,orc_cons,hq,hd,go_sem]
     exact wkv_drop rfl
   ·cases h
  ·cases h
 ·cases h
theorem nsV {p:Pol} {S:Mem} (hg:p.good) (hr:p.right):numsS [.ag p.enc] S=some (.sl S.length 0 0 10 10 true,S++[.cells (p.ns.map (.i .u64)) 0 none true]):=by
 have:polE.dec p.enc=some p:=polE.de p
 simp only [numsS,this,if_pos hg,if_pos hr]
def rnumsS:Spec:=fun args S=>match args with
 | [.ag cs]=>match polE.dec cs with
  | some p=>if p.good then (if p.right then some (retX true S p.ns,retM true numE S p.ns) else some (.sn,S)) else none
  | none=>none
 | _=>none
theorem numE_flat:∀ (n:Nat) (a:Int),∀ c∈numE.enc a,AV.Flat n c:=by
 intro n a c hc
 have:c = .i .u64 a:=by simpa [numE,intE] using hc
 rw [this];exact Flat_i
theorem oRp_ok:OK Tryz.prog (lamOf Tryz.prog) (orcOf [(99,polS),(100,numS)]):=orc_ok (by simpa using ⟨rpol_ok,rnum_ok⟩)
theorem rnums_ok:SpecOK Tryz.prog 76 rnumsS:=by
 intro args S x S' h
 simp only [rnumsS] at h
 split at h
 ·rename_i cs
  split at h
  ·rename_i p hp
   split at h
   ·rename_i hg
    obtain rfl:=polE.ed _ _ hp
    refine fn_of_wp f76 rfl (W_sound oRp_ok mixed _ _ _ _ _ ?_)
    have hq:=polS_dec hg.fits
    have hn:=numS_eq hg.fits
    have hu:=u84_num hg.fits
    split at h
    ·rename_i hr
     cases h
     have hb:=hr.2.2.1.1
     have hb3:=cl_bound p.bits
     have w1:wrapV .u64 p.sub=p.sub:=wrap_u64 (by have:=hr.1;omega) (by have:=hr.2.1;omega)
     have w2:wrapV .u64 p.bits=p.bits:=wrap_u64 (by omega) (by omega)
     have w3:wrapV .u64 (num p.a p.b p.c p.d)=num p.a p.b p.c p.d:=wrap_u64 (by unfold u32 at hu;omega) (by unfold u32 at hu;omega)
     have hd:decide p.right=true:=decide_eq_true hr
     simp (maxSteps:=1000000) (disch:=omega) only [c76,polE,Pol.enc,orc_cons,hq,hd,hn,w1,w2,w3,src_sl,srcN_some,app_ex,appN_some,List.replicate,go_sem]
     have hacc:Acc true numE S (S++[.cells (polE.enc p) 0 none true,.cells [.i .u64 p.sub,.i .u64 (num p.a p.b p.c p.d),.i .u64 p.bits] 0 none true,.cells [.i .u64 p.rate,.i .u64 p.burst,.i .u64 p.srate,.i .u64 p.sburst,.i .u64 p.quota,.i .u64 p.lease,.i .u64 p.quantum] 0 none true,.cells (p.ns.map (.i .u64)) 0 (some 1) true]) (.sl (S.length+3) 0 0 10 10 false) p.ns :=
      ⟨_,rfl,.inr (.inr ⟨by simp [Pol.ns],3,0,rfl,rfl⟩)⟩
     exact hacc.ret numE_flat
    ·rename_i hr
     cases h
     have hd:decide p.right=false:=decide_eq_false hr
     simp (maxSteps:=1000000) (disch:=omega) only [c76,polE,Pol.enc,orc_cons,hq,hd,go_sem]
     exact wkv_drop rfl
   ·cases h
  ·cases h
 ·cases h
theorem rnsV {p:Pol} {S:Mem} (hg:p.good) (hr:p.right):rnumsS [.ag p.enc] S=some (retX true S p.ns,retM true numE S p.ns):=by
 have:polE.dec p.enc=some p:=polE.de p
 simp only [rnumsS,this,if_pos hg,if_pos hr]
def entNs (l:List Ent):List Int:=l.flatMap fun x=>x.pol.ns++[x.granted]
def Bk.ns (b:Bk):List Int:=b.period :: entNs b.entries
theorem entNs_len (l:List Ent):(entNs l).length=11 * l.length:=by
 unfold entNs
 induction l with
 | nil=>rfl
 | cons a l ih=>rw [List.flatMap_cons,List.length_append,ih,List.length_append];simp [Pol.ns];omega
theorem bns_u64 {b:Bk} (hg:b.good) (ho:b.ok):∀ n∈b.ns,u64 n:=by
 intro n hn
 rcases List.mem_cons.1 hn with rfl | hn
 ·exact hg.1
 ·obtain ⟨x,hx,hn⟩:=List.mem_flatMap.1 hn
  rcases List.mem_append.1 hn with hn | hn
  ·refine ns_u64 (hg.2.2 x hx).1 ?_ n hn
   obtain ⟨i,hi,rfl⟩:=List.getElem_of_mem hx
   have:=(ho.2.2.1.2 i (by unfold polsOf;simpa using hi) (by unfold polsOf;simpa using hi)).1
   unfold polsOf at this;simpa using this
  ·simp at hn;subst hn;exact (hg.2.2 x hx).2
theorem ok_right {b:Bk} (ho:b.ok) {k:Nat} (hk:k<b.entries.length):b.entries[k].pol.right:=by
 have:=(ho.2.2.1.2 k (by unfold polsOf;simpa using hk) (by unfold polsOf;simpa using hk)).1
 unfold polsOf at this;simpa using this
noncomputable def bytesS:Spec:=fun args S=>match args with
 | [.ag cb]=>match bookOf S cb with
  | some b=>if b.good then (if b.ok then some (.tu [retX true S (lebs b.ns),.i .i64 0],retM true byteE S (lebs b.ns)) else some (.tu [.sn,.i .i64 131],S)) else none
  | none=>none
 | _=>none
theorem lebs_ne {b:Bk}:lebs b.ns≠[]:=by
 unfold Bk.ns lebs
 rw [List.flatMap_cons]
 intro h
 exact leb_ne _ (List.append_eq_nil_iff.1 h).1
theorem u64E (l:List Int):l.flatMap numE.enc=l.map (.i .u64):=by
 induction l with
 | nil=>rfl
 | cons a l ih=>rw [List.flatMap_cons,ih];rfl
def len2 (n:Nat):Nat:=if n=0 then 0 else Nat.log2 n+1
theorem log2_div {n:Nat}:∀ k:Nat,0<n / 2 ^ k→Nat.log2 n=k+Nat.log2 (n / 2 ^ k)
 | 0,_=>by simp
 | k+1,h=>by
  have h1:n / 2 ^ (k+1)=n / 2 ^ k / 2:=by rw [Nat.pow_succ,Nat.div_div_eq_div_mul]
  have h2:0<n / 2 ^ k / 2:=by rw [←h1];exact h
  rw [log2_div k (by omega),h1]
  have h3:Nat.log2 (n / 2 ^ k)=Nat.log2 (n / 2 ^ k / 2)+1:=by rw [Nat.log2_def,if_pos (by omega)]
  omega
theorem len2_div {n k:Nat} (h:0<n / 2 ^ k):len2 n=k+len2 (n / 2 ^ k):=by
 unfold len2
 have hn:n≠0:=by intro e;subst e;simp at h
 rw [if_neg hn,if_neg (by omega),log2_div k h];omega
theorem len2_lt {n k:Nat} (h:n<2 ^ k):len2 n≤k:=by
 unfold len2
 split
 ·omega
 ·rename_i hn
  have:=(Nat.log2_lt hn).2 h
  omega
theorem len2_pos {n:Nat} (h:0<n):0<len2 n:=by unfold len2;rw [if_neg (by omega)];omega
theorem size_leb {n:Int} (h:0≤n):((leb n).length:Int)=max 1 (((len2 n.toNat:Nat)+6) / 7:Int):=by
 by_cases h1:n<128
 ·rw [leb_lt h1]
  have:=len2_lt (n:=n.toNat) (k:=7) (by omega)
  simp only [List.length_singleton]
  omega
 ·have ih:=size_leb (n:=n / 128) (by omega)
  rw [leb_ge h1,List.length_cons]
  have hd:n.toNat / 2 ^ 7=(n / 128).toNat:=by omega
  have h2:=len2_div (n:=n.toNat) (k:=7) (by omega)
  rw [hd] at h2
  have h3:=len2_pos (n:=(n / 128).toNat) (by omega)
  omega
 termination_by n.toNat
 decreasing_by omega
def unleb:List Int→Option (Int × Nat)
 | []=>none
 | c :: r=>if c<128 then some (c,1) else match unleb r with
  | some (m,k)=>if m=0 then none else some (c % 128+128 * m,k+1)
  | none=>none
def getL (b:List Int):Option (Int × Nat):=match unleb (b.take 10) with
 | some (n,k)=>if n≤18446744073709551615 then some (n,k) else none
 | none=>none
theorem unleb_pos:∀ (b:List Int) (n:Int) (k:Nat),unleb b=some (n,k)→0<k∧k≤b.length
 | [],n,k,h=>by simp [unleb] at h
 | c :: r,n,k,h=>by
  simp only [unleb] at h
  split at h
  ·cases h;simp
  ·split at h
   ·rename_i m j hm
    have:=unleb_pos r m j hm
    split at h
    ·cases h
    ·cases h;simp;omega
   ·cases h
theorem leb_unleb:∀ (b:List Int) (n:Int) (k:Nat),(∀ c∈b,u8 c)→unleb b=some (n,k)→0≤n∧leb n=b.take k∧k=(leb n).length
 | [],n,k,_,h=>by simp [unleb] at h
 | c :: r,n,k,hu,h=>by
  have hc:=hu c (by simp)
  unfold u8 at hc
  simp only [unleb] at h
  split at h
  ·rename_i h1
   cases h
   rw [leb_lt h1];simp;omega
  ·rename_i h1
   split at h
   ·rename_i m j hm
    obtain ⟨g0,g1,g2⟩:=leb_unleb r m j (fun x hx=>hu x (by simp [hx])) hm
    split at h
    ·cases h
    ·rename_i hm0
     cases h
     have h128:¬ c % 128+128 * m<128:=by omega
     have e1:128+(c % 128+128 * m) % 128=c:=by omega
     have e2:(c % 128+128 * m) / 128=m:=by omega
     rw [leb_ge h128,e1,e2,g1]
     refine ⟨by omega,by rw [List.take_succ_cons],?_⟩
     rw [List.length_cons,←g1,←g2]
   ·cases h
theorem unleb_leb {n:Int} (h:0≤n) (r:List Int):unleb (leb n++r)=some (n,(leb n).length):=by
 by_cases h1:n<128
 ·rw [leb_lt h1];simp [unleb,h1]
 ·rw [leb_ge h1,List.cons_append,unleb,if_neg (by omega),unleb_leb (n:=n / 128) (by omega) r]
  simp only
  rw [if_neg (by omega),List.length_cons]
  congr 2;omega
 termination_by n.toNat
 decreasing_by omega
theorem unleb_take {n:Int} (h:0≤n) (b:List Int) (j:Nat) (hj:(leb n).length≤j) (hb:leb n <+: b):unleb (b.take j)=some (n,(leb n).length):=by
 obtain ⟨r,rfl⟩:=hb
 rw [List.take_append,List.take_of_length_le hj]
 exact unleb_leb h _
theorem getL_leb {n:Int} (h:u64 n) (r:List Int):getL (leb n++r)=some (n,(leb n).length):=by
 unfold getL
 rw [unleb_take h.1 _ 10 (leb_len10 h) (List.prefix_append _ _)]
 simp only
 rw [if_pos h.2]
theorem getL_some {b:List Int} {n:Int} {k:Nat} (hu:∀ c∈b,u8 c) (h:getL b=some (n,k)):u64 n∧leb n=b.take k∧k=(leb n).length∧0<k∧k≤b.length:=by
 unfold getL at h
 split at h
 ·rename_i m j hm
  split at h
  ·rename_i hle
   cases h
   obtain ⟨g0,g1,g2⟩:=leb_unleb _ _ _ (fun c hc=>hu c (List.mem_of_mem_take hc)) hm
   obtain ⟨g3,g4⟩:=unleb_pos _ _ _ hm
   rw [List.length_take] at g4
   exact ⟨⟨g0,hle⟩,by rw [g1,List.take_take,Nat.min_eq_left (by omega)],g2,g3,by omega⟩
  ·cases h
 ·cases h
def vals:List Int→Int
 | []=>0
 | c :: r=>c % 128+128 * vals r
theorem vals_bound:∀ (l:List Int),0≤vals l∧vals l<((128 ^ l.length:Nat):Int)
 | []=>by simp [vals]
 | c :: r=>by
  have:=vals_bound r
  simp only [vals,List.length_cons,Nat.pow_succ]
  omega
theorem vals_snoc:∀ (l:List Int) (c:Int),vals (l++[c])=vals l+((128 ^ l.length:Nat):Int) * (c % 128)
 | [],c=>by simp [vals]
 | a :: r,c=>by
  simp only [List.cons_append,vals,vals_snoc r c,List.length_cons,Nat.pow_succ]
  have:(((128 ^ r.length * 128:Nat):Int)) * (c % 128)=128 * (((128 ^ r.length:Nat):Int) * (c % 128)):=by
   rw [Int.natCast_mul,Int.mul_comm (((128 ^ r.length:Nat)):Int) _,Int.mul_assoc];rfl
  omega
theorem unleb_more:∀ (p r:List Int),(∀ c∈p,128≤c)→unleb (p++r)=match unleb r with
  | some (m,k)=>if m=0∧p≠[] then none else some (vals p+((128 ^ p.length:Nat):Int) * m,k+p.length)
  | none=>none
 | [],r,_=>by
  simp only [List.nil_append]
  cases unleb r with
  | none=>rfl
  | some q=>obtain ⟨m,k⟩:=q;simp [vals]
 | a :: p,r,h=>by
  have ha:=h a (by simp)
  have ih:=unleb_more p r fun c hc=>h c (by simp [hc])
  rw [List.cons_append,unleb,if_neg (by omega),ih]
  cases unleb r with
  | none=>rfl
  | some q =>
   obtain ⟨m,k⟩:=q
   simp only
   by_cases hm:m=0
   ·subst hm
    by_cases hp:p=[]
    ·subst hp;simp [vals]
    ·simp [hp]
   ·rw [if_neg (by simp [hm]),if_neg (by simp [hm])]
    simp only
    have hb:=vals_bound p
    have hpos:0<((128 ^ p.length:Nat):Int):=by exact_mod_cast Nat.pow_pos (by omega)
    have hne:vals p+((128 ^ p.length:Nat):Int) * m≠0:=by
     intro e
     rcases Int.lt_or_gt_of_ne hm with h1 | h1
     ·have:=Int.mul_le_mul_of_nonneg_left (show m≤-1 by omega) (Int.le_of_lt hpos);omega
     ·have:=Int.mul_le_mul_of_nonneg_left (show 1≤m by omega) (Int.le_of_lt hpos);omega
    rw [if_neg hne]
    congr 2
    ·simp only [vals,List.length_cons,Nat.pow_succ]
     have:(((128 ^ p.length * 128:Nat):Int)) * m=128 * (((128 ^ p.length:Nat):Int) * m):=by
      rw [Int.natCast_mul,Int.mul_comm (((128 ^ p.length:Nat)):Int) _,Int.mul_assoc];rfl
     omega
theorem unleb_none (p:List Int) (h:∀ c∈p,128≤c):unleb p=none:=by
 have:=unleb_more p [] h
 rw [List.append_nil] at this
 rw [this];rfl
def allF:Nat→List Int→Option (List Int)
 | 0,b=>if b=[] then some [] else none
 | f+1,b=>if b=[] then some [] else match getL b with
  | some (n,k)=>(allF f (b.drop k)).map (n :: ·)
  | none=>none
def unlebs (b:List Int):Option (List Int):=match allF b.length b with
 | some l=>if l.length≤128 then some l else none
 | none=>none
theorem allF_lebs:∀ (l:List Int) (f:Nat),(∀ n∈l,u64 n)→(lebs l).length≤f→allF f (lebs l)=some l
 | [],f,_,_=>by cases f <;> rfl
 | n :: l,f,h,hf=>by
  have hn:=h n (by simp)
  have he:lebs (n :: l)=leb n++lebs l:=by unfold lebs;rw [List.flatMap_cons]
  have hne:lebs (n :: l)≠[]:=by rw [he];intro e;exact leb_ne _ (List.append_eq_nil_iff.1 e).1
  have hpos:0<(leb n).length:=List.length_pos_iff.2 (leb_ne n)
  rw [he,List.length_append] at hf
  cases f with
  | zero=>omega
  | succ f =>
   simp only [allF]
   rw [if_neg hne,he,getL_leb hn]
   simp only
   rw [List.drop_left,allF_lebs l f (fun m hm=>h m (by simp [hm])) (by omega)]
   rfl
theorem unlebs_lebs {l:List Int} (h:∀ n∈l,u64 n) (hl:l.length≤128):unlebs (lebs l)=some l:=by
 unfold unlebs
 rw [allF_lebs l _ h (Nat.le_refl _)]
 simp only
 rw [if_pos hl]
theorem lebs_allF:∀ (f:Nat) (b l:List Int),(∀ c∈b,u8 c)→allF f b=some l→lebs l=b∧∀ n∈l,u64 n
 | 0,b,l,_,h=>by
  simp only [allF] at h
  split at h
  ·rename_i hb;cases h;exact ⟨by rw [hb];rfl,by simp⟩
  ·cases h
 | f+1,b,l,hu,h=>by
  simp only [allF] at h
  split at h
  ·rename_i hb;cases h;exact ⟨by rw [hb];rfl,by simp⟩
  ·split at h
   ·rename_i n k hg
    obtain ⟨r,hr,rfl⟩:=Option.map_eq_some_iff.1 h
    obtain ⟨g1,g2,g3,_,_⟩:=getL_some hu hg
    obtain ⟨h1,h2⟩:=lebs_allF f _ r (fun c hc=>hu c (List.mem_of_mem_drop hc)) hr
    refine ⟨?_,fun m hm=>?_⟩
    ·unfold lebs at h1 ⊢
     rw [List.flatMap_cons,h1,g2,List.take_append_drop]
    ·rcases List.mem_cons.1 hm with rfl | hm
     ·exact g1
     ·exact h2 m hm
   ·cases h
theorem lebs_unlebs {b l:List Int} (hu:∀ c∈b,u8 c) (h:unlebs b=some l):lebs l=b∧(∀ n∈l,u64 n)∧l.length≤128:=by
 unfold unlebs at h
 split at h
 ·rename_i l' hl
  split at h
  ·rename_i hc
   cases h
   obtain ⟨h1,h2⟩:=lebs_allF _ _ _ hu hl
   exact ⟨h1,h2,hc⟩
  ·cases h
 ·cases h
theorem allF_fuel:∀ (f g:Nat) (b:List Int),(∀ c∈b,u8 c)→b.length≤f→b.length≤g→allF f b=allF g b
 | 0,0,b,_,_,_=>rfl
 | 0,g+1,b,_,h,_=>by
  obtain rfl:b=[]:=List.eq_nil_of_length_eq_zero (by omega)
  rfl
 | f+1,0,b,_,_,h=>by
  obtain rfl:b=[]:=List.eq_nil_of_length_eq_zero (by omega)
  rfl
 | f+1,g+1,b,hu,hf,hg=>by
  simp only [allF]
  split
  ·rfl
  ·cases hgl:getL b with
   | none=>rfl
   | some q =>
    obtain ⟨n,k⟩:=q
    obtain ⟨_,_,_,h1,h2⟩:=getL_some hu hgl
    simp only
    rw [allF_fuel f g (b.drop k) (fun c hc=>hu c (List.mem_of_mem_drop hc)) (by rw [List.length_drop];omega) (by rw [List.length_drop];omega)]
section
variable {α:Type} {E:Enc α} {S M:Mem}
def openQ (S:Mem) (size:Nat):AV→Bool
 | .sl i _ _ len cap ex=>decide (len≤cap) && (ex || (match S[i]? with | some B=>B.opn == some size | none=>false))
 | _=>true
theorem openS_Q {size:Nat} {x:AV} (h:openS S size x=true):openQ S size x=true:=by
 unfold openS at h
 unfold openQ
 split
 ·simp only [Bool.and_eq_true,decide_eq_true_eq] at h ⊢
  exact ⟨h.1.2,h.2⟩
 ·rfl
theorem openQ_grow {size:Nat} {x:AV} (h:openQ S size x=true) (T:Mem):openQ (S++T) size x=true:=by
 unfold openQ at h ⊢
 split
 ·rename_i i _ _ len cap ex
  simp only [Bool.and_eq_true,decide_eq_true_eq,Bool.or_eq_true] at h ⊢
  refine ⟨h.1,h.2.imp id fun h2=>?_⟩
  split at h2
  ·rename_i B hB
   rw [at_old hB];exact h2
  ·cases h2
 ·rfl
theorem openQ_ext {size:Nat} {x:AV} (h:openQ S size x=true) (hM:S <+: M):openQ M size x=true:=by
 obtain ⟨T,rfl⟩:=hM
 exact openQ_grow h T
theorem slice_lst {x:AV} {l:List α} (h:lstV E S x=some l) (ho:openQ S E.sz x=true) {lo hi:Option AV} {a b:Nat} (hb:∀ cap,l.length≤cap→bnds l.length cap lo hi none=some (a,b,cap)) (hab:a≤b) (hbl:b≤l.length) :
  ∃ x',sliceV S E.sz x lo hi none=some x'∧lstV E S x'=some ((l.drop a).take (b-a))∧openQ S E.sz x'=true:=by
 rcases lstV_lst h with ⟨rfl,rfl⟩ | ⟨rfl,rfl⟩ | ⟨i,o,v,len,cap,ex,rfl,rfl,hr⟩
 ·have:=hb 0 (Nat.le_refl _)
  exact ⟨.sn,by simp only [sliceV];rw [show bnds 0 0 lo hi none=_ from this],by simp [lstV],rfl⟩
 ·have:=hb 0 (Nat.le_refl _)
  exact ⟨.se,by simp only [sliceV,Option.isSome_none];rw [show bnds 0 0 lo hi none=_ from this];simp,by simp [lstV],rfl⟩
 ·simp only [openQ,Bool.and_eq_true,decide_eq_true_eq,Bool.or_eq_true] at ho
  obtain ⟨hlc,ho⟩:=ho
  have hle:a * E.sz+(b-a) * E.sz≤l.length * E.sz:=by rw [←Nat.add_mul];exact Nat.mul_le_mul_right _ (by omega)
  have hr2:=row_part hr hle
  rw [flat_drop,flat_take] at hr2
  have hlen:((l.drop a).take (b-a)).length=b-a:=by rw [List.length_take,List.length_drop];omega
  have hnil:a=cap→(l.drop a).take (b-a)=[]:=fun e=>List.eq_nil_of_length_eq_zero (by omega)
  have hrow0:∀ o',o'=o→a=cap→rowAt S i o' v ((b-a) * E.sz)=some (((l.drop a).take (b-a)).flatMap E.enc):=fun o' e1 e2=>by
   subst e1
   rw [hnil e2,show (b-a) * E.sz=0 by rw [show b-a=0 by omega,Nat.zero_mul]]
   have:=row_part hr (k:=0) (m:=0) (by omega)
   rw [Nat.add_zero] at this
   rw [this];simp
  simp only [sliceV,hb cap hlc,Option.isSome_none,Bool.or_false]
  cases ex with
  | true =>
   simp only [if_true]
   refine ⟨_,rfl,?_,?_⟩
   ·unfold cutAt
    refine lst_lstV (.inr (.inr ⟨_,_,_,_,_,_,rfl,hlen,?_⟩))
    split
    ·rename_i e;exact hrow0 _ rfl e.symm
    ·exact hr2
   ·simp [openQ];omega
  | false =>
   simp only [Bool.false_eq_true,if_false,false_or] at ho ⊢
   by_cases e:a=cap
   ·rw [if_pos e]
    exact ⟨.se,rfl,by rw [hnil e];rfl,rfl⟩
   ·rw [if_neg e]
    split at ho
    ·rename_i B hB
     have hop:B.opn=some E.sz:=by simpa using ho
     simp only [hB,if_pos hop]
     refine ⟨_,rfl,lst_lstV (.inr (.inr ⟨_,_,_,_,_,_,rfl,hlen,hr2⟩)),?_⟩
     simp only [openQ,hB,hop,beq_self_eq_true,Bool.or_true,Bool.and_true,decide_eq_true_eq];omega
    ·cases ho
theorem bnds_hi {q:IntKind} {len cap b:Nat} (h:b≤cap):bnds len cap none (some (.i q (b:Int))) none=some (0,b,cap):=by
 simp [bnds,bndV,natV,h]
theorem bnds_lo {q:IntKind} {len cap a:Nat} (h:a≤len) (h2:len≤cap):bnds len cap (some (.i q (a:Int))) none none=some (a,len,cap):=by
 simp [bnds,bndV,natV,h,h2]
theorem bnds_both {q q':IntKind} {len cap a b:Nat} (h:a≤b) (h2:b≤cap):bnds len cap (some (.i q (a:Int))) (some (.i q' (b:Int))) none=some (a,b,cap):=by
 simp [bnds,bndV,natV,h,h2]
theorem take_lst {x:AV} {l:List α} (h:lstV E S x=some l) (ho:openQ S E.sz x=true) {q:IntKind} {b:Nat} (hb:b≤l.length):∃ x',sliceV S E.sz x none (some (.i q (b:Int))) none=some x'∧lstV E S x'=some (l.take b)∧openQ S E.sz x'=true:=by
 have:=slice_lst h ho (lo:=none) (hi:=some (.i q (b:Int))) (a:=0) (b:=b) (fun cap hc=>bnds_hi (by omega)) (Nat.zero_le _) hb
 simpa using this
theorem drop_lst {x:AV} {l:List α} (h:lstV E S x=some l) (ho:openQ S E.sz x=true) {q:IntKind} {a:Nat} (ha:a≤l.length):∃ x',sliceV S E.sz x (some (.i q (a:Int))) none none=some x'∧lstV E S x'=some (l.drop a)∧openQ S E.sz x'=true:=by
 have:=slice_lst h ho (lo:=some (.i q (a:Int))) (hi:=none) (a:=a) (b:=l.length) (fun cap hc=>bnds_lo ha hc) ha (Nat.le_refl _)
 rwa [List.take_of_length_le (by rw [List.length_drop];omega)] at this
theorem part_lst {x:AV} {l:List α} (h:lstV E S x=some l) (ho:openQ S E.sz x=true) {q q':IntKind} {a b:Nat} (hab:a≤b) (hb:b≤l.length):∃ x',sliceV S E.sz x (some (.i q (a:Int))) (some (.i q' (b:Int))) none=some x'∧lstV E S x'=some ((l.drop a).take (b-a))∧openQ S E.sz x'=true :=
 slice_lst h ho (fun cap hc=>bnds_both hab (by omega)) hab hb
end
theorem ixs_tab {L:List UInt8} (hL:∀ m:Fin 256,L[m.val]? = some (UInt8.ofNat (len2 m.val))) {q:IntKind} {m:Int} (h0:0≤m) (h1:m<256):ixsV (.s L) (.i q m)=some (.i .u8 (len2 m.toNat)):=by
 obtain ⟨x,rfl⟩:=Int.eq_ofNat_of_zero_le h0
 have hx:x<256:=by omega
 have h8:len2 x≤8:=len2_lt (k:=8) (by omega)
 have hL:=hL ⟨x,hx⟩
 simp only at hL
 simp only [ixsV,natV_nat,hL,Int.toNat_natCast]
 congr 2
 simp [UInt8.toNat_ofNat];omega
theorem shr_64 {n k:Int} {p:Int} (hk:0≤k) (h64:k<64) (hp:((2 ^ k.toNat:Nat):Int)=p):shiftV .shr .u64 n k=some (.i .u64 (n / p)):=by
 simp only [shiftV,IntKind.bits]
 rw [if_neg (by omega),Nat.min_eq_left (by omega),Int.fdiv_eq_ediv_of_nonneg _ (Int.natCast_nonneg _),hp]
theorem shr_32 {n:Int}:shiftV .shr .u64 n 32=some (.i .u64 (n / 4294967296)):=shr_64 (by omega) (by omega) rfl
theorem shr_16' {n:Int}:shiftV .shr .u64 n 16=some (.i .u64 (n / 65536)):=shr_64 (by omega) (by omega) rfl
theorem shr_8' {n:Int}:shiftV .shr .u64 n 8=some (.i .u64 (n / 256)):=shr_64 (by omega) (by omega) rfl
def len64S:Spec:=fun args S=>match args with
 | [.i .u64 n]=>if u64 n then some (.i .i64 (len2 n.toNat),S) else none
 | _=>none
theorem len2_step {n d:Int} {k:Nat} (hd:d=((2 ^ k:Nat):Int)) (h0:d≤n):len2 n.toNat=k+len2 (n / d).toNat:=by
 have hd0:0<d:=by rw [hd];exact_mod_cast Nat.two_pow_pos k
 obtain ⟨x,rfl⟩:=Int.eq_ofNat_of_zero_le (show 0≤n by omega)
 subst hd
 have e:(((x:Int) / ((2 ^ k:Nat):Int)).toNat)=x / 2 ^ k:=by rw [←Int.natCast_ediv,Int.toNat_natCast]
 rw [e,Int.toNat_natCast]
 refine len2_div ?_
 exact Nat.div_pos (by exact_mod_cast h0) (Nat.two_pow_pos k)
set_option maxHeartbeats 2000000 in
theorem len64_ok:SpecOK Tryz.prog 127 len64S:=by
 intro args S x S' h
 simp only [len64S] at h
 split at h
 ·rename_i n
  split at h
  ·rename_i hn
   cases h
   obtain ⟨h0,h1⟩:=hn
   refine fn_of_wp f127 rfl (W_sound none_ok mixed _ _ _ _ _ ?_)
   by_cases c1:(4294967296:Int)≤n
   ·skip
    by_cases c2:(65536:Int)≤n / 4294967296
    ·skip
     by_cases c3:(256:Int)≤n / 4294967296 / 65536
     ·skip
      have h8:=len2_lt (n:=(n / 4294967296 / 65536 / 256).toNat) (k:=8) (by omega)
      have hst:len2 n.toNat=56+len2 (n / 4294967296 / 65536 / 256).toNat:=by rw [len2_step (n:=n) (d:=4294967296) (k:=32) rfl c1,len2_step (n:=n / 4294967296) (d:=65536) (k:=16) rfl c2,len2_step (n:=n / 4294967296 / 65536) (d:=256) (k:=8) rfl c3];omega
      have hw:wrapV .u8 (n / 4294967296 / 65536 / 256)=n / 4294967296 / 65536 / 256:=wrap_u8 (by omega) (by omega)
      simp (maxSteps:=1000000) (disch:=omega) only [c127,c1,c2,c3,shr_32,shr_16',shr_8',hw,wrap_i64,go_sem]
      rw [ixs_tab (by decide) (by omega) (by omega)]
      simp (maxSteps:=1000000) (disch:=omega) only [wrap_i64,go_sem]
      rw [show (((56:Int)+(len2 (n / 4294967296 / 65536 / 256).toNat:Nat)):Int)=(len2 n.toNat:Nat) by omega]
      exact wkv_same
     ·skip
      have h8:=len2_lt (n:=(n / 4294967296 / 65536).toNat) (k:=8) (by omega)
      have hst:len2 n.toNat=48+len2 (n / 4294967296 / 65536).toNat:=by rw [len2_step (n:=n) (d:=4294967296) (k:=32) rfl c1,len2_step (n:=n / 4294967296) (d:=65536) (k:=16) rfl c2];omega
      have hw:wrapV .u8 (n / 4294967296 / 65536)=n / 4294967296 / 65536:=wrap_u8 (by omega) (by omega)
      simp (maxSteps:=1000000) (disch:=omega) only [c127,c1,c2,c3,shr_32,shr_16',shr_8',hw,wrap_i64,go_sem]
      rw [ixs_tab (by decide) (by omega) (by omega)]
      simp (maxSteps:=1000000) (disch:=omega) only [wrap_i64,go_sem]
      rw [show (((48:Int)+(len2 (n / 4294967296 / 65536).toNat:Nat)):Int)=(len2 n.toNat:Nat) by omega]
      exact wkv_same
    ·skip
     by_cases c3:(256:Int)≤n / 4294967296
     ·skip
      have h8:=len2_lt (n:=(n / 4294967296 / 256).toNat) (k:=8) (by omega)
      have hst:len2 n.toNat=40+len2 (n / 4294967296 / 256).toNat:=by rw [len2_step (n:=n) (d:=4294967296) (k:=32) rfl c1,len2_step (n:=n / 4294967296) (d:=256) (k:=8) rfl c3];omega
      have hw:wrapV .u8 (n / 4294967296 / 256)=n / 4294967296 / 256:=wrap_u8 (by omega) (by omega)
      simp (maxSteps:=1000000) (disch:=omega) only [c127,c1,c2,c3,shr_32,shr_16',shr_8',hw,wrap_i64,go_sem]
      rw [ixs_tab (by decide) (by omega) (by omega)]
      simp (maxSteps:=1000000) (disch:=omega) only [wrap_i64,go_sem]
      rw [show (((40:Int)+(len2 (n / 4294967296 / 256).toNat:Nat)):Int)=(len2 n.toNat:Nat) by omega]
      exact wkv_same
     ·skip
      have h8:=len2_lt (n:=(n / 4294967296).toNat) (k:=8) (by omega)
      have hst:len2 n.toNat=32+len2 (n / 4294967296).toNat:=by rw [len2_step (n:=n) (d:=4294967296) (k:=32) rfl c1]
      have hw:wrapV .u8 (n / 4294967296)=n / 4294967296:=wrap_u8 (by omega) (by omega)
      simp (maxSteps:=1000000) (disch:=omega) only [c127,c1,c2,c3,shr_32,shr_16',shr_8',hw,wrap_i64,go_sem]
      rw [ixs_tab (by decide) (by omega) (by omega)]
      simp (maxSteps:=1000000) (disch:=omega) only [wrap_i64,go_sem]
      rw [show (((32:Int)+(len2 (n / 4294967296).toNat:Nat)):Int)=(len2 n.toNat:Nat) by omega]
      exact wkv_same
   ·skip
    by_cases c2:(65536:Int)≤n
    ·skip
     by_cases c3:(256:Int)≤n / 65536
     ·skip
      have h8:=len2_lt (n:=(n / 65536 / 256).toNat) (k:=8) (by omega)
      have hst:len2 n.toNat=24+len2 (n / 65536 / 256).toNat:=by rw [len2_step (n:=n) (d:=65536) (k:=16) rfl c2,len2_step (n:=n / 65536) (d:=256) (k:=8) rfl c3];omega
      have hw:wrapV .u8 (n / 65536 / 256)=n / 65536 / 256:=wrap_u8 (by omega) (by omega)
      simp (maxSteps:=1000000) (disch:=omega) only [c127,c1,c2,c3,shr_32,shr_16',shr_8',hw,wrap_i64,go_sem]
      rw [ixs_tab (by decide) (by omega) (by omega)]
      simp (maxSteps:=1000000) (disch:=omega) only [wrap_i64,go_sem]
      rw [show (((24:Int)+(len2 (n / 65536 / 256).toNat:Nat)):Int)=(len2 n.toNat:Nat) by omega]
      exact wkv_same
     ·skip
      have h8:=len2_lt (n:=(n / 65536).toNat) (k:=8) (by omega)
      have hst:len2 n.toNat=16+len2 (n / 65536).toNat:=by rw [len2_step (n:=n) (d:=65536) (k:=16) rfl c2]
      have hw:wrapV .u8 (n / 65536)=n / 65536:=wrap_u8 (by omega) (by omega)
      simp (maxSteps:=1000000) (disch:=omega) only [c127,c1,c2,c3,shr_32,shr_16',shr_8',hw,wrap_i64,go_sem]
      rw [ixs_tab (by decide) (by omega) (by omega)]
      simp (maxSteps:=1000000) (disch:=omega) only [wrap_i64,go_sem]
      rw [show (((16:Int)+(len2 (n / 65536).toNat:Nat)):Int)=(len2 n.toNat:Nat) by omega]
      exact wkv_same
    ·skip
     by_cases c3:(256:Int)≤n
     ·skip
      have h8:=len2_lt (n:=(n / 256).toNat) (k:=8) (by omega)
      have hst:len2 n.toNat=8+len2 (n / 256).toNat:=by rw [len2_step (n:=n) (d:=256) (k:=8) rfl c3]
      have hw:wrapV .u8 (n / 256)=n / 256:=wrap_u8 (by omega) (by omega)
      simp (maxSteps:=1000000) (disch:=omega) only [c127,c1,c2,c3,shr_32,shr_16',shr_8',hw,wrap_i64,go_sem]
      rw [ixs_tab (by decide) (by omega) (by omega)]
      simp (maxSteps:=1000000) (disch:=omega) only [wrap_i64,go_sem]
      rw [show (((8:Int)+(len2 (n / 256).toNat:Nat)):Int)=(len2 n.toNat:Nat) by omega]
      exact wkv_same
     ·skip
      have h8:=len2_lt (n:=(n).toNat) (k:=8) (by omega)
      have hst:len2 n.toNat=0+len2 (n).toNat:=by rw [Nat.zero_add]
      have hw:wrapV .u8 (n)=n:=wrap_u8 (by omega) (by omega)
      simp (maxSteps:=1000000) (disch:=omega) only [c127,c1,c2,c3,shr_32,shr_16',shr_8',hw,wrap_i64,go_sem]
      rw [ixs_tab (by decide) (by omega) (by omega)]
      simp (maxSteps:=1000000) (disch:=omega) only [wrap_i64,go_sem]
      rw [hst,Nat.zero_add]
      exact wkv_same
  ·cases h
 ·cases h
theorem oLog_ok:OK Tryz.prog (lamOf Tryz.prog) (orcOf [(127,len64S)]):=orc_ok (by simpa using len64_ok)
theorem len64_eq {n:Int} (h:u64 n) (S:Mem):len64S [.i .u64 n] S=some (.i .i64 (len2 n.toNat),S):=by simp only [len64S,if_pos h]
theorem log_ok:SpecOK Tryz.prog 120 len64S:=by
 intro args S x S' h
 simp only [len64S] at h
 split at h
 ·rename_i n
  split at h
  ·rename_i hn
   cases h
   refine fn_of_wp f120 rfl (W_sound oLog_ok mixed _ _ _ _ _ ?_)
   simp (maxSteps:=1000000) (disch:=omega) only [c120,orc_cons,len64_eq hn,go_sem]
   exact wkv_same
  ·cases h
 ·cases h
def sizeS:Spec:=fun args S=>match args with
 | [.i .u64 n]=>if u64 n then some (.i .i64 (leb n).length,S) else none
 | _=>none
theorem size_eq {n:Int} (h:u64 n) (S:Mem):sizeS [.i .u64 n] S=some (.i .i64 (leb n).length,S):=by simp only [sizeS,if_pos h]
theorem len2_64 {n:Int} (h:u64 n):len2 n.toNat≤64:=len2_lt (by have:=h.1;have:=h.2;omega)
theorem oSz_ok:OK Tryz.prog (lamOf Tryz.prog) (orcOf [(120,len64S)]):=orc_ok (by simpa using log_ok)
theorem size_ok:SpecOK Tryz.prog 109 sizeS:=by
 intro args S x S' h
 simp only [sizeS] at h
 split at h
 ·rename_i n
  split at h
  ·rename_i hn
   cases h
   have h64:=len2_64 hn
   have hsz:=size_leb hn.1
   refine fn_of_wp f109 rfl (W_sound oSz_ok mixed _ _ _ _ _ ?_)
   simp (maxSteps:=1000000) (disch:=omega) only [c109,orc_cons,len64_eq hn,wrap_i64,bin_quo_pos,go_sem]
   rw [hsz,show ((len2 n.toNat:Nat):Int)+7-1=((len2 n.toNat:Nat):Int)+6 by omega]
   exact wkv_same
  ·cases h
 ·cases h
theorem and_127 {cst:Bool} {a:Int} (h:u8 a):binV .int cst .and (.i .u8 a) (.i .u8 127)=some (.i .u8 (a % 128)):=by
 obtain ⟨h0,h1⟩:=h
 rw [bin_i rfl]
 obtain ⟨x,rfl⟩:=Int.eq_ofNat_of_zero_le h0
 have hx:x<256:=by omega
 have e1:(BitVec.ofInt IntKind.u8.bits (x:Int)).toNat=x:=by show (BitVec.ofInt 8 (x:Int)).toNat=x;simp [BitVec.toNat_ofInt];omega
 have e2:(BitVec.ofInt IntKind.u8.bits 127).toNat=127:=rfl
 have e3:Nat.land x 127=x % 128:=by
  have:∀ y:Fin 256,Nat.land y.val 127=y.val % 128:=by decide
  exact this ⟨x,hx⟩
 simp only [intV,bitsV,e1,e2,e3,wrapV,Option.map_some]
 congr 2;omega
theorem and_128 {cst:Bool} {a:Int} (h:u8 a):binV .int cst .and (.i .u8 a) (.i .u8 128)=some (.i .u8 (if a<128 then 0 else 128)):=by
 obtain ⟨h0,h1⟩:=h
 rw [bin_i rfl]
 obtain ⟨x,rfl⟩:=Int.eq_ofNat_of_zero_le h0
 have hx:x<256:=by omega
 have e1:(BitVec.ofInt IntKind.u8.bits (x:Int)).toNat=x:=by show (BitVec.ofInt 8 (x:Int)).toNat=x;simp [BitVec.toNat_ofInt];omega
 have e2:(BitVec.ofInt IntKind.u8.bits 128).toNat=128:=rfl
 have e3:Nat.land x 128=if x<128 then 0 else 128:=by
  have:∀ y:Fin 256,Nat.land y.val 128=if y.val<128 then 0 else 128:=by decide
  exact this ⟨x,hx⟩
 simp only [intV,bitsV,e1,e2,e3,wrapV,Option.map_some]
 congr 2
 split <;> split <;> omega
theorem p7 (k:Nat):2 ^ (7 * k)=128 ^ k:=by rw [Nat.pow_mul]
theorem shl_7k {v:Int} {k:Nat} (hk:k≤9):shiftV .shl .u64 v (7 * (k:Int))=some (.i .u64 (wrapV .u64 (v * ((128 ^ k:Nat):Int)))):=by
 simp only [shiftV,IntKind.bits]
 rw [if_neg (by omega),show min (7 * (k:Int)).toNat 64=7 * k by omega,p7]
theorem shr_7k {v:Int} {k:Nat} (hk:k≤9):shiftV .shr .u64 v (7 * (k:Int))=some (.i .u64 (v / ((128 ^ k:Nat):Int))):=by
 simp only [shiftV,IntKind.bits]
 rw [if_neg (by omega),show min (7 * (k:Int)).toNat 64=7 * k by omega,p7,Int.fdiv_eq_ediv_of_nonneg _ (Int.natCast_nonneg _)]
theorem or_7k {cst:Bool} {a v:Int} {k:Nat} (ha:0≤a) (ha2:a<((128 ^ k:Nat):Int)) (hv:0≤v) (h:a+v * ((128 ^ k:Nat):Int)≤18446744073709551615):binV .int cst .or (.i .u64 a) (.i .u64 (v * ((128 ^ k:Nat):Int)))=some (.i .u64 (a+v * ((128 ^ k:Nat):Int))):=by
 rw [bin_i rfl]
 obtain ⟨x,rfl⟩:=Int.eq_ofNat_of_zero_le ha
 obtain ⟨y,rfl⟩:=Int.eq_ofNat_of_zero_le hv
 have hxp:x<128 ^ k:=by exact_mod_cast ha2
 have hs:x+y * 128 ^ k≤18446744073709551615:=by
  have:((x+y * 128 ^ k:Nat):Int)≤18446744073709551615:=by rw [Int.natCast_add,Int.natCast_mul];exact h
  omega
 rw [←Int.natCast_mul,←Int.natCast_add]
 generalize hz:y * 128 ^ k=z at hs
 have e1:(BitVec.ofInt IntKind.u64.bits (x:Int)).toNat=x:=by show (BitVec.ofInt 64 (x:Int)).toNat=x;simp [BitVec.toNat_ofInt];omega
 have e2:(BitVec.ofInt IntKind.u64.bits (z:Int)).toNat=z:=by show (BitVec.ofInt 64 (z:Int)).toNat=z;simp [BitVec.toNat_ofInt];omega
 have e3:Nat.lor x z=x+z:=by
  have hz2:z=y <<< (7 * k):=by rw [Nat.shiftLeft_eq,p7,hz]
  have:=Nat.shiftLeft_add_eq_or_of_lt (b:=x) (i:=7 * k) (by rw [p7];exact hxp) y
  rw [←hz2] at this
  show x ||| z=x+z
  rw [Nat.or_comm,←this,Nat.add_comm]
 simp only [intV,bitsV,e1,e2,e3,wrapV,Option.map_some]
 congr 2;omega
def got:Option (Int × Nat)→AV
 | some (n,k)=>.tu [.i .u64 n,.i .i64 (k:Int),.i .i64 0]
 | none=>.tu [.i .u64 0,.i .i64 0,.i .i64 21]
def getS:Spec:=fun args S=>match args with
 | [x]=>match lstV byteE S x with
  | some b=>if openQ S 1 x=true∧b.all (fun c=>decide (u8 c))=true∧b.length≤1000000 then some (got (getL b),S) else none
  | none=>none
 | _=>none
theorem getS_eq {S:Mem} {x:AV} {b:List Int} (hl:lstV byteE S x=some b) (ho:openQ S 1 x=true) (hu:∀ c∈b,u8 c) (hlen:b.length≤1000000):getS [x] S=some (got (getL b),S):=by
 simp only [getS,hl,if_pos (And.intro ho (And.intro (List.all_eq_true.2 fun c h=>decide_eq_true (hu c h)) hlen))]
theorem got_flat (o:Option (Int × Nat)) (n:Nat):(got o).flat n:=by
 cases o <;> rfl
theorem unleb_head {c:Int} {r:List Int} {m:Int} {k:Nat} (hc:u8 c) (hr:∀ x∈r,u8 x) (h:unleb (c :: r)=some (m,k)):c % 128≤m:=by
 have hc:=hc
 unfold u8 at hc
 simp only [unleb] at h
 split at h
 ·cases h;omega
 ·split at h
  ·rename_i m' j hm
   obtain ⟨g0,_,_⟩:=leb_unleb r m' j hr hm
   split at h
   ·cases h
   ·cases h;omega
  ·cases h
theorem getL_over {b:List Int} {k:Nat} (hk:k<(b.take 10).length) (hu:∀ c∈b,u8 c) (hp:∀ c∈(b.take 10).take k,128≤c) (hv:18446744073709551615<((b.take 10)[k] % 128) * ((128 ^ k:Nat):Int)):getL b=none:=by
 have hu10:∀ c∈b.take 10,u8 c:=fun c h=>hu c (List.mem_of_mem_take h)
 unfold getL
 generalize b.take 10=l at hk hp hv hu10
 have hsplit:l=l.take k++l[k] :: l.drop (k+1):=by rw [←List.drop_eq_getElem_cons hk,List.take_append_drop]
 have hm:=unleb_more (l.take k) (l[k] :: l.drop (k+1)) hp
 rw [←hsplit] at hm
 rw [hm]
 cases hq:unleb (l[k] :: l.drop (k+1)) with
 | none=>rfl
 | some q =>
  obtain ⟨m,j⟩:=q
  have h1:=unleb_head (hu10 _ (List.getElem_mem hk)) (fun x hx=>hu10 x (List.mem_of_mem_drop hx)) hq
  simp only
  split
  ·rename_i he
   split at he
   ·cases he
   ·injection he with he;injection he with h2 h3
    have hlk:(l.take k).length=k:=by rw [List.length_take];omega
    rw [hlk] at h2
    have hb:=vals_bound (l.take k)
    have:(l[k] % 128) * ((128 ^ k:Nat):Int)≤m * ((128 ^ k:Nat):Int):=Int.mul_le_mul_of_nonneg_right h1 (Int.natCast_nonneg _)
    rw [Int.mul_comm m] at this
    rw [if_neg (by omega)]
  ·rfl
theorem getL_last {b:List Int} {k:Nat} (hk:k<(b.take 10).length) (hu:∀ c∈b,u8 c) (hp:∀ c∈(b.take 10).take k,128≤c) (hc:(b.take 10)[k]<128) (hn:vals ((b.take 10).take k)+(b.take 10)[k] * ((128 ^ k:Nat):Int)≤18446744073709551615) :
  getL b=if (leb (vals ((b.take 10).take k)+(b.take 10)[k] * ((128 ^ k:Nat):Int))).length=k+1 then some (vals ((b.take 10).take k)+(b.take 10)[k] * ((128 ^ k:Nat):Int),k+1) else none:=by
 have hu10:∀ c∈b.take 10,u8 c:=fun c h=>hu c (List.mem_of_mem_take h)
 unfold getL
 generalize b.take 10=l at hk hp hc hn hu10
 have hsplit:l=l.take k++l[k] :: l.drop (k+1):=by rw [←List.drop_eq_getElem_cons hk,List.take_append_drop]
 have hm:=unleb_more (l.take k) (l[k] :: l.drop (k+1)) hp
 rw [←hsplit] at hm
 have h1:unleb (l[k] :: l.drop (k+1))=some (l[k],1):=by simp [unleb,hc]
 have hlk:(l.take k).length=k:=by rw [List.length_take];omega
 have huk:=hu10 _ (List.getElem_mem hk)
 unfold u8 at huk
 rw [h1] at hm
 simp only at hm
 by_cases h0:l[k]=0∧l.take k≠[]
 ·rw [if_pos h0] at hm
  rw [hm,if_neg]
  rw [h0.1,Int.zero_mul,Int.add_zero]
  intro he
  have hb:=vals_bound (l.take k)
  have hk0:0<k:=by
   rcases Nat.eq_zero_or_pos k with h | h
   ·subst h;exact absurd (List.take_zero ..) h0.2
   ·exact h
  have:=leb_len (k-1) (vals (l.take k)) (by
   have e:128 * ((128 ^ (k-1):Nat):Int)=((128 ^ k:Nat):Int):=by
    conv=>rhs;rw [show k=(k-1)+1 by omega,Nat.pow_succ]
    rw [Int.natCast_mul,Int.mul_comm];rfl
   rw [e,←hlk]
   rw [hlk] at hb ⊢
   exact hb.2)
  omega
 ·rw [if_neg h0,hlk,Int.mul_comm,Nat.add_comm 1 k] at hm
  rw [hm]
  obtain ⟨_,_,h3⟩:=leb_unleb _ _ _ hu10 hm
  simp only
  rw [if_pos hn,if_pos h3.symm]
theorem getL_none {b:List Int} (hp:∀ c∈b.take 10,128≤c):getL b=none:=by
 unfold getL
 rw [unleb_none _ hp]
theorem sum7 {n v:Int} {k:Nat} (hk:k≤9) (hn:n<((128 ^ k:Nat):Int)) (hv:v * ((128 ^ k:Nat):Int)≤18446744073709551615):n+v * ((128 ^ k:Nat):Int)≤18446744073709551615:=by
 have:k=0∨k=1∨k=2∨k=3∨k=4∨k=5∨k=6∨k=7∨k=8∨k=9:=by omega
 rcases this with rfl | rfl | rfl | rfl | rfl | rfl | rfl | rfl | rfl | rfl
 all_goals simp only [Nat.reducePow] at hn hv ⊢
 all_goals omega
theorem get_round {c n:Int} {k:Nat} (hu:u8 c) (hk:k≤9) (hn0:0≤n) (hn:n<((128 ^ k:Nat):Int)) :
  (∀ cst,binV .int cst .mul (.i .i64 7) (.i .i64 (k:Int))=some (.i .i64 (7 * (k:Int))))∧(∀ cst,binV .int cst .add (.i .i64 (k:Int)) (.i .i64 1)=some (.i .i64 ((k+1:Nat):Int)))∧toIntV .u64 (.i .u8 (c % 128))=some (.i .u64 (c % 128)) ∧
  ((∃ q z,(∀ cst,binV .int cst .shl (.i .u64 (c % 128)) (.i .i64 (7 * (k:Int)))=some (.i .u64 q))∧(∀ cst,binV .int cst .shr (.i .u64 q) (.i .i64 (7 * (k:Int)))=some (.i .u64 z))∧z≠c % 128∧18446744073709551615<c % 128 * ((128 ^ k:Nat):Int)) ∨
   (∃ q,(∀ cst,binV .int cst .shl (.i .u64 (c % 128)) (.i .i64 (7 * (k:Int)))=some (.i .u64 q))∧(∀ cst,binV .int cst .shr (.i .u64 q) (.i .i64 (7 * (k:Int)))=some (.i .u64 (c % 128)))∧(∀ cst,binV .int cst .or (.i .u64 n) (.i .u64 q)=some (.i .u64 (n+q))) ∧
    q=c % 128 * ((128 ^ k:Nat):Int)∧0≤q∧n+q≤18446744073709551615)):=by
 unfold u8 at hu
 have hc128:0≤c % 128:=by omega
 have hpow:0<((128 ^ k:Nat):Int):=by exact_mod_cast Nat.pow_pos (by omega)
 have hprod:0≤c % 128 * ((128 ^ k:Nat):Int):=Int.mul_nonneg hc128 (by omega)
 refine ⟨fun cst=>by rw [bin_mul,wrap_i64 (by omega) (by omega)],fun cst=>by rw [bin_add,wrap_i64 (by omega) (by omega)];rfl,by rw [toInt_i,wrap_u64 (by omega) (by omega)],?_⟩
 by_cases hov:18446744073709551615<c % 128 * ((128 ^ k:Nat):Int)
 ·left
  refine ⟨_,_,fun cst=>by rw [bin_shl,shl_7k hk],fun cst=>by rw [bin_shr,shr_7k hk],?_,hov⟩
  have hwl:wrapV .u64 (c % 128 * ((128 ^ k:Nat):Int))≤18446744073709551615:=by simp only [wrapV];omega
  intro he
  have:=Int.ediv_mul_le (wrapV .u64 (c % 128 * ((128 ^ k:Nat):Int))) (show ((128 ^ k:Nat):Int)≠0 by omega)
  rw [he] at this;omega
 ·right
  have hs:=sum7 (v:=c % 128) hk hn (by omega)
  refine ⟨_,fun cst=>by rw [bin_shl,shl_7k hk,wrap_u64 hprod (by omega)],fun cst=>by rw [bin_shr,shr_7k hk,Int.mul_ediv_cancel _ (by omega)],fun cst=>or_7k hn0 hn hc128 hs,rfl,hprod,hs⟩
theorem oGet_ok:OK Tryz.prog (lamOf Tryz.prog) (orcOf [(109,sizeS)]):=orc_ok (by simpa using size_ok)
theorem get_ok:SpecOK Tryz.prog 89 getS:=by
 intro args S x S' h
 simp only [getS] at h
 split at h
 ·rename_i s
  split at h
  ·rename_i b hl
   split at h
   ·rename_i hc
    cases h
    obtain ⟨ho,hu,hlen⟩:=hc
    have hu:∀ c∈b,u8 c:=fun c hc=>of_decide_eq_true (List.all_eq_true.1 hu c hc)
    obtain ⟨t,ht,hlt,_⟩:=take_lst hl ho (q:=.i64) (b:=min b.length 10) (Nat.min_le_left _ _)
    have ht:sliceV S 1 s none (some (.i .i64 (min (b.length:Int) 10))) none=some t:=by
     rw [show min (b.length:Int) 10=((min b.length 10:Nat):Int) by omega];exact ht
    have hlt:lstV byteE S t=some (b.take 10):=by
     rw [hlt];congr 1
     rcases Nat.le_total b.length 10 with h | h
     ·rw [Nat.min_eq_left h,List.take_length,List.take_of_length_le h]
     ·rw [Nat.min_eq_right h]
    refine fn_of_wp f89 rfl (W_sound oGet_ok mixed _ _ _ _ _ ?_)
    simp (maxSteps:=1000000) (disch:=omega) only [c89,lst_len hl,ht,lst_len hlt,go_sem]
    have h10:(b.take 10).length≤10:=by rw [List.length_take];omega
    refine wp_loop (fun j e M dl=>dl=[]∧M=S∧∃ (k:Nat),j=(b.take 10).length-k∧k≤(b.take 10).length∧(∀ c∈(b.take 10).take k,128≤c)∧vals ((b.take 10).take k)≤18446744073709551615 ∧
     e.get 13=t∧e.get 14 = .i .i64 (b.take 10).length∧e.get 15 = .i .i64 k∧e.get 5 = .i .u64 (vals ((b.take 10).take k))) (j:=(b.take 10).length)
     ⟨rfl,rfl,0,rfl,Nat.zero_le _,by simp,by simp [vals],rfl,rfl,rfl,rfl⟩ ?_
    rintro j e M d' ⟨rfl,rfl,k,rfl,hk,hp,hvl,h13,h14,h15,h5⟩
    refine W_sound oGet_ok mixed _ _ _ _ _ ?_
    by_cases hkl:k<(b.take 10).length
    ·obtain ⟨bi,o,v,cap,ex,rfl⟩:=lst_sl hlt hkl
     have hc0:=lstV_cell hlt rfl (fun a=>rfl) hkl []
     rw [List.append_nil] at hc0
     have hkI:(k:Int)<(b.take 10).length:=by omega
     have hk9:k≤9:=by omega
     have huk:u8 (b.take 10)[k]:=hu _ (List.mem_of_mem_take (List.getElem_mem hkl))
     have hover:=getL_over hkl hu hp
     have hlast:=getL_last hkl hu hp
     have hsnoc:=vals_snoc ((b.take 10).take k) (b.take 10)[k]
     rw [show (b.take 10).take k++[(b.take 10)[k]]=(b.take 10).take (k+1) from (List.take_succ_eq_append_getElem hkl).symm,show ((b.take 10).take k).length=k by rw [List.length_take];omega] at hsnoc
     have hb:=vals_bound ((b.take 10).take k)
     rw [show ((b.take 10).take k).length=k by rw [List.length_take];omega] at hb
     have hp1:(b.take 10)[k]≥128→∀ c∈(b.take 10).take (k+1),128≤c:=fun h c hc=>by
      rw [List.take_succ_eq_append_getElem hkl] at hc
      rcases List.mem_append.1 hc with hc | hc
      ·exact hp c hc
      ·rw [List.mem_singleton.1 hc];exact h
     generalize hcv:(b.take 10)[k]=c at hc0 huk hover hlast hsnoc hp1
     generalize hvv:vals ((b.take 10).take k)=n at hvl h5 hlast hsnoc hb
     rw [Int.mul_comm _ (c % 128)] at hsnoc
     obtain ⟨hm7,ha1,ht8,hR⟩:=get_round huk hk9 hb.1 hb.2
     have hc128:c<128→c % 128=c:=fun h=>by unfold u8 at huk;omega
     rcases hR with ⟨q,z,hshl,hshr,hne,hq⟩ | ⟨q,hshl,hshr,hor,hq,hq0,hsum⟩
     ·have hover:=hover hq
      clear hlast hsnoc hb hq hvl hp1 hc128
      simp (maxSteps:=1000000) (disch:=omega) only [c89l0,h13,h14,h15,h5,hkI,Int.toNat_natCast,Nat.mul_one,hc0,and_127 huk,ht8,hm7,hshl,hshr,hne,go_sem]
      rw [hover]
      exact wkv_same
     ·rw [←hq] at hsnoc
      have hlast:c<128→getL b=if (leb (n+q)).length=k+1 then some (n+q,k+1) else none:=fun h1=>by
       have e:c * ((128 ^ k:Nat):Int)=q:=by rw [hq,hc128 h1]
       have:=hlast h1 (by rw [e];exact hsum)
       rwa [e] at this
      have hsz:=size_eq (n:=n+q) ⟨by omega,hsum⟩
      clear hover hq hb
      by_cases h128:c<128
      ·have hlast:=hlast h128
       clear hsnoc hp1 hc128 hq0 hsum
       by_cases hs:(leb (n+q)).length=k+1
       ·rw [if_pos hs] at hlast
        rw [hs] at hsz
        clear hs
        simp (maxSteps:=1000000) (disch:=omega) only [c89l0,h13,h14,h15,h5,hkI,Int.toNat_natCast,Nat.mul_one,hc0,and_127 huk,and_128 huk,h128,ht8,hm7,hshl,hshr,hor,orc_cons,hsz,ha1,go_sem]
        rw [hlast]
        exact wkv_same
       ·rw [if_neg hs] at hlast
        have hsI:¬ ((leb (n+q)).length:Int)=((k+1:Nat):Int):=fun h=>hs (Int.ofNat_inj.1 h)
        clear hs
        simp (maxSteps:=1000000) (disch:=omega) only [c89l0,h13,h14,h15,h5,hkI,Int.toNat_natCast,Nat.mul_one,hc0,and_127 huk,and_128 huk,h128,ht8,hm7,hshl,hshr,hor,orc_cons,hsz,ha1,hsI,go_sem]
        rw [hlast]
        exact wkv_same
      ·clear hlast hsz hc128
       simp (maxSteps:=1000000) (disch:=omega) only [c89l0,h13,h14,h15,h5,hkI,Int.toNat_natCast,Nat.mul_one,hc0,and_127 huk,and_128 huk,h128,ht8,hm7,hshl,hshr,hor,ha1,go_sem]
       refine ⟨(b.take 10).length-(k+1),by omega,k+1,rfl,hkl,hp1 (by omega),by rw [hsnoc];exact hsum,rfl,?_⟩
       rw [hsnoc]
    ·have hkI:¬ (k:Int)<(b.take 10).length:=by omega
     simp (maxSteps:=1000000) (disch:=omega) only [c89l0,h13,h14,h15,h5,hkI,go_sem]
     rw [List.take_of_length_le (by omega)] at hp
     rw [getL_none hp]
     exact wkv_same
   ·cases h
  ·cases h
 ·cases h
def strB (l:List Int):List UInt8:=l.map fun n=>UInt8.ofNat n.toNat
theorem bytesV_B (l:List Int):bytesV (l.flatMap byteE.enc)=some (strB l):=by
 induction l with
 | nil=>rfl
 | cons a l ih =>
  rw [List.flatMap_cons]
  show bytesV (.i .u8 a :: l.flatMap byteE.enc)=_
  simp only [bytesV,ih];rfl
theorem toStr_B {S:Mem} {x:AV} {l:List Int} (h:lstV byteE S x=some l):toStrV S x=some (.s (strB l)):=by
 rcases lstV_lst h with ⟨rfl,rfl⟩ | ⟨rfl,rfl⟩ | ⟨i,o,v,len,cap,ex,rfl,rfl,hrow⟩
 ·rfl
 ·rfl
 ·have hrow:rowAt S i o v l.length=some (l.flatMap byteE.enc):=by rw [show l.length=l.length * byteE.sz from (Nat.mul_one _).symm];exact hrow
  simp only [toStrV,hrow,bytesV_B]
theorem ofNat_inj8 {a b:Nat} (ha:a<256) (hb:b<256) (h:UInt8.ofNat a=UInt8.ofNat b):a=b:=by
 have:=congrArg UInt8.toNat h
 simp [UInt8.toNat_ofNat] at this
 omega
theorem strB_inj:∀ {l m:List Int},(∀ c∈l,u8 c)→(∀ c∈m,u8 c)→strB l=strB m→l=m
 | [],[],_,_,_=>rfl
 | [],_ :: _,_,_,h=>by simp [strB] at h
 | _ :: _,[],_,_,h=>by simp [strB] at h
 | a :: l,b :: m,h1,h2,h=>by
  simp only [strB,List.map_cons,List.cons.injEq] at h
  have ha:=h1 a (by simp)
  have hb:=h2 b (by simp)
  unfold u8 at ha hb
  have e:=ofNat_inj8 (by omega) (by omega) h.1
  rw [show a=b by omega,strB_inj (fun c hc=>h1 c (by simp [hc])) (fun c hc=>h2 c (by simp [hc])) h.2]
def cutN (n:Int):Int:=n % 18446744073709551616
theorem cutN_u64 (n:Int):u64 (cutN n):=by unfold u64 cutN;omega
theorem cutN_step {v c:Int}:cutN (c % 128+128 * v)=wrapV .u64 (wrapV .u64 (cutN v * 128)+c % 128):=by
 unfold cutN;simp only [wrapV];omega
theorem getL_cut {b:List Int} {k:Nat} (hk:k<(b.take 10).length) (hu:∀ c∈b,u8 c) (hp:∀ c∈(b.take 10).take k,128≤c) (hc:(b.take 10)[k]<128) :
  getL b=if leb (cutN (vals (b.take (k+1))))=b.take (k+1) then some (cutN (vals (b.take (k+1))),k+1) else none:=by
 have hu10:∀ c∈b.take 10,u8 c:=fun c h=>hu c (List.mem_of_mem_take h)
 have h10:(b.take 10).length≤10:=by rw [List.length_take];omega
 have htt:(b.take 10).take (k+1)=b.take (k+1):=by rw [List.take_take,Nat.min_eq_left (by omega)]
 have hlen:(b.take (k+1)).length=k+1:=by
  rw [←htt,List.length_take];omega
 split
 ·rename_i h
  unfold getL
  have h1:=unleb_take (n:=cutN (vals (b.take (k+1)))) (cutN_u64 _).1 b 10 (by rw [h,hlen];omega) (by rw [h];exact List.take_prefix ..)
  rw [h1]
  simp only
  rw [if_pos (cutN_u64 _).2,h,hlen]
 ·rename_i h
  cases hg:getL b with
  | none=>rfl
  | some q =>
   obtain ⟨m,j⟩:=q
   obtain ⟨g1,g2,g3,_⟩:=getL_some hu hg
   unfold getL at hg
   have hsplit:b.take 10=(b.take 10).take k++(b.take 10)[k] :: (b.take 10).drop (k+1):=by rw [←List.drop_eq_getElem_cons hk,List.take_append_drop]
   have hm:=unleb_more ((b.take 10).take k) ((b.take 10)[k] :: (b.take 10).drop (k+1)) hp
   rw [←hsplit] at hm
   have h1:unleb ((b.take 10)[k] :: (b.take 10).drop (k+1))=some ((b.take 10)[k],1):=by rw [unleb,if_pos hc]
   have hlk:((b.take 10).take k).length=k:=by rw [List.length_take];omega
   have huk:=hu10 _ (List.getElem_mem hk)
   unfold u8 at huk
   rw [h1] at hm
   simp only at hm
   have hs:=vals_snoc ((b.take 10).take k) (b.take 10)[k]
   rw [show (b.take 10).take k++[(b.take 10)[k]]=(b.take 10).take (k+1) from (List.take_succ_eq_append_getElem hk).symm,hlk,htt,show (b.take 10)[k] % 128=(b.take 10)[k] by omega] at hs
   rw [hlk,←hs] at hm
   rw [hm] at hg
   by_cases h0:(b.take 10)[k]=0∧(b.take 10).take k≠[]
   ·rw [if_pos h0] at hg;cases hg
   ·rw [if_neg h0] at hg
    simp only at hg
    split at hg
    ·simp only [Option.some.injEq,Prod.mk.injEq] at hg
     obtain ⟨h2,h3⟩:=hg
     exfalso;apply h
     have hcut:cutN m=m:=by unfold cutN;have:=g1.1;have:=g1.2;omega
     rw [h2,hcut,g2,←h3,Nat.add_comm]
    ·cases hg
theorem oRGet_ok:OK Tryz.prog (lamOf Tryz.prog) (orcOf [(77,rputS 10)]):=orc_ok (by simpa using rput_ok 10)
theorem rget_ok:SpecOK Tryz.prog 66 getS:=by
 intro args S x S' h
 simp only [getS] at h
 split at h
 ·rename_i s
  split at h
  ·rename_i b hl
   split at h
   ·rename_i hc
    cases h
    obtain ⟨ho,hu,hlen⟩:=hc
    have hu:∀ c∈b,u8 c:=fun c hc=>of_decide_eq_true (List.all_eq_true.1 hu c hc)
    have h10:(b.take 10).length≤10:=by rw [List.length_take];omega
    have hl10:(b.take 10).length≤b.length:=by rw [List.length_take];omega
    refine fn_of_wp f66 rfl (W_sound oRGet_ok mixed _ _ _ _ _ ?_)
    simp (maxSteps:=1000000) (disch:=omega) only [c66,go_sem]
    refine wp_loop (fun j e M dl=>dl=[]∧M=S∧∃ (k:Nat),j=(b.take 10).length-k∧k≤(b.take 10).length∧(∀ c∈(b.take 10).take k,128≤c)∧e.get 0=s∧e.get 5 = .i .i64 k) (j:=(b.take 10).length)
     ⟨rfl,rfl,0,rfl,Nat.zero_le _,by simp,rfl,rfl⟩ ?_
    rintro j e M d' ⟨rfl,rfl,k,rfl,hk,hp,h0,h5⟩
    refine W_sound oRGet_ok mixed _ _ _ _ _ ?_
    by_cases hkl:k<(b.take 10).length
    ·have hkb:k<b.length:=by omega
     obtain ⟨bi,o,v,cap,ex,rfl⟩:=lst_sl hl hkb
     have hcell:=fun (j:Nat) (hj:j<b.length)=>lstV_cell hl rfl (fun a=>rfl) hj []
     simp only [List.append_nil] at hcell
     have hc0:=hcell k hkb
     have hkI:(k:Int)<b.length:=by omega
     have hk10:(k:Int)<10:=by omega
     have hgk:(b.take 10)[k]=b[k]:=List.getElem_take
     have huk:=hu _ (List.getElem_mem hkb)
     have hwk:wrapV .i64 ((k:Int)+1)=((k+1:Nat):Int):=by rw [wrap_i64 (by omega) (by omega)];omega
     have hcut:=getL_cut hkl hu hp
     have hp1:b[k]≥128→∀ c∈(b.take 10).take (k+1),128≤c:=fun h c hc=>by
      rw [List.take_succ_eq_append_getElem hkl] at hc
      rcases List.mem_append.1 hc with hc | hc
      ·exact hp c hc
      ·rw [List.mem_singleton.1 hc,hgk];exact h
     by_cases h128:b[k]<128
     ·have hnc:¬ (128:Int)≤b[k]:=by omega
      have hcut:=hcut (by rw [hgk];exact h128)
      simp (maxSteps:=1000000) (disch:=omega) only [c66l2,h0,h5,hkI,hk10,Int.toNat_natCast,Nat.mul_one,hc0,hnc,go_sem]
      clear hp1 hp hc0
      have hlen:(b.take (k+1)).length=k+1:=by rw [List.length_take];omega
      refine wp_loop (fun j e M' dl=>dl=[]∧M'=M∧∃ (i:Nat),j=i∧i≤k+1∧e.get 0 = .sl bi o v b.length cap ex∧e.get 5 = .i .i64 k∧e.get 7 = .i .i64 ((i:Int)-1)∧e.get 6 = .i .u64 (cutN (vals ((b.take (k+1)).drop i)))) (j:=k+1)
       ⟨rfl,rfl,k+1,rfl,Nat.le_refl _,rfl,rfl,by rw [show (((k+1:Nat):Int)-1)=k by omega];rfl,by rw [List.drop_of_length_le (by omega)];rfl⟩ ?_
      rintro i e M' d' ⟨rfl,rfl,_,rfl,hi,h0,h5,h7,h6⟩
      refine W_sound oRGet_ok mixed _ _ _ _ _ ?_
      rcases Nat.eq_zero_or_pos i with hi0 | hi0
      ·subst hi0
       rw [List.drop_zero] at h6
       have hjI:¬ (0:Int)≤((0:Nat):Int)-1:=by omega
       obtain ⟨t,ht,hlt,_⟩:=take_lst hl ho (q:=.i64) (b:=k+1) (by omega)
       obtain ⟨X,M2,hX,hXl,hSM⟩:=rput_len M' (cutN_u64 (vals (b.take (k+1))))
       have hs1:=toStr_B hlt
       have hs2:=toStr_B hXl
       have hub:∀ c∈b.take (k+1),u8 c:=fun c hc=>hu c (List.mem_of_mem_take hc)
       have huL:=leb_u8 (cutN_u64 (vals (b.take (k+1)))).1
       generalize cutN (vals (b.take (k+1)))=n at *
       have ht:sliceV M' 1 (.sl bi o v b.length cap ex) none (some (.i .i64 ((k+1:Nat):Int))) none=some t:=ht
       by_cases hq:leb n=b.take (k+1)
       ·have hqs:¬ strB (leb n)≠strB (b.take (k+1)):=fun h=>h (by rw [hq])
        simp (maxSteps:=1000000) (disch:=omega) only [c66l0,h0,h5,h7,h6,hjI,hwk,ht,hs1,orc_cons,hX,hs2,hqs,go_sem]
        rw [hcut,if_pos hq]
        exact ⟨hSM,wkv_dropP hSM (got_flat _ _)⟩
       ·have hqs:strB (leb n)≠strB (b.take (k+1)):=fun h=>hq (strB_inj huL hub h)
        simp (maxSteps:=1000000) (disch:=omega) only [c66l0,h0,h5,h7,h6,hjI,hwk,ht,hs1,orc_cons,hX,hs2,hqs,go_sem]
        rw [hcut,if_neg hq]
        exact ⟨hSM,wkv_dropP hSM (got_flat _ _)⟩
      ·have hjI:(0:Int)≤(i:Int)-1:=by omega
       obtain ⟨j,rfl⟩:∃ j,i=j+1:=⟨i-1,by omega⟩
       have hj1:((j+1:Nat):Int)-1=(j:Int):=by omega
       rw [hj1] at h7 hjI
       have hjb:j<b.length:=by omega
       have hjI2:(j:Int)<b.length:=by omega
       have hcj:=hcell j hjb
       have huj:=hu _ (List.getElem_mem hjb)
       unfold u8 at huj
       have hrem:∀ cst,binV .int cst .rem (.i .u8 b[j]) (.i .u8 128)=some (.i .u8 (b[j] % 128)):=fun cst=>bin_rem_pos huj.1 (by omega)
       have hwj:wrapV .i64 ((j:Int)-1)=(j:Int)-1:=wrap_i64 (by omega) (by omega)
       have hstep:=cutN_step (v:=vals ((b.take (k+1)).drop (j+1))) (c:=b[j])
       rw [show b[j] % 128+128 * vals ((b.take (k+1)).drop (j+1))=vals ((b.take (k+1)).drop j) by rw [List.drop_eq_getElem_cons (show j<(b.take (k+1)).length by omega),List.getElem_take];rfl] at hstep
       simp (maxSteps:=1000000) (disch:=omega) only [c66l0,h0,h5,h7,h6,hjI,hjI2,Int.toNat_natCast,Nat.mul_one,hcj,hrem,hwj,go_sem]
       exact ⟨j,by omega,j,rfl,by omega,rfl,by rw [hstep]⟩
     ·have hc:(128:Int)≤b[k]:=by omega
      simp (maxSteps:=1000000) (disch:=omega) only [c66l2,h0,h5,hkI,hk10,Int.toNat_natCast,Nat.mul_one,hc0,hc,hwk,go_sem]
      exact ⟨(b.take 10).length-(k+1),by omega,k+1,rfl,hkl,hp1 (by omega),rfl⟩
    ·have hnone:getL b=none:=getL_none (by rw [List.take_of_length_le (by omega)] at hp;exact hp)
     by_cases hkI:(k:Int)<b.length
     ·have hk10:¬ (k:Int)<10:=by rw [List.length_take] at hkl;omega
      simp (maxSteps:=1000000) (disch:=omega) only [c66l2,h0,h5,lst_len hl,hkI,hk10,go_sem]
      rw [hnone]
      exact wkv_same
     ·simp (maxSteps:=1000000) (disch:=omega) only [c66l2,h0,h5,lst_len hl,hkI,go_sem]
      rw [hnone]
      exact wkv_same
   ·cases h
  ·cases h
 ·cases h
def goOn (pre r:List Int):Option (List Int):=match allF r.length r with
 | some l=>if (pre++l).length≤128 then some (pre++l) else none
 | none=>none
theorem goOn_start (b:List Int):goOn [] b=unlebs b:=rfl
theorem goOn_nil (pre:List Int) (h:pre.length≤128):goOn pre []=some pre:=by
 simp [goOn,allF,h]
theorem allF_cons {r:List Int} (h:r≠[]):allF r.length r=match getL r with
  | some (n,k)=>(allF (r.length-1) (r.drop k)).map (n :: ·)
  | none=>none:=by
 obtain ⟨f,hf⟩:∃ f,r.length=f+1:=⟨r.length-1,by have:=List.length_pos_iff.2 h;omega⟩
 rw [hf,allF,if_neg h,Nat.add_sub_cancel]
 first | done | (cases getL r <;> rfl)
theorem goOn_none {pre r:List Int} (h:r≠[]) (hg:getL r=none):goOn pre r=none:=by
 simp only [goOn,allF_cons h,hg]
theorem goOn_some {pre r:List Int} {n:Int} {k:Nat} (h:r≠[]) (hu:∀ c∈r,u8 c) (hg:getL r=some (n,k)):goOn pre r=goOn (pre++[n]) (r.drop k):=by
 obtain ⟨_,_,_,h1,h2⟩:=getL_some hu hg
 simp only [goOn,allF_cons h,hg]
 rw [allF_fuel (r.length-1) (r.drop k).length (r.drop k) (fun c hc=>hu c (List.mem_of_mem_drop hc)) (by rw [List.length_drop];omega) (Nat.le_refl _)]
 cases allF (r.drop k).length (r.drop k) with
 | none=>rfl
 | some l=>simp
theorem goOn_full {pre r:List Int} (h:r≠[]) (hp:128≤pre.length):goOn pre r=none:=by
 simp only [goOn,allF_cons h]
 cases getL r with
 | none=>rfl
 | some q =>
  obtain ⟨n,k⟩:=q
  simp only
  cases allF (r.length-1) (r.drop k) with
  | none=>rfl
  | some l =>
   simp only [Option.map_some]
   rw [if_neg (by simp;omega)]
def lallS (z:Bool):Spec:=fun args S=>match args with
 | [x]=>match lstV byteE S x with
  | some b=>if openQ S 1 x=true∧b.all (fun c=>decide (u8 c))=true∧b.length≤1000000 then match unlebs b with
    | some l=>some (.tu [retX z S l,.i .i64 0],retM z numE S l)
    | none=>some (.tu [.sn,.i .i64 21],S)
   else none
  | none=>none
 | _=>none
theorem lallS_eq {z:Bool} {S:Mem} {x:AV} {b:List Int} (hl:lstV byteE S x=some b) (ho:openQ S 1 x=true) (hu:∀ c∈b,u8 c) (hlen:b.length≤1000000):lallS z [x] S=match unlebs b with
    | some l=>some (.tu [retX z S l,.i .i64 0],retM z numE S l)
    | none=>some (.tu [.sn,.i .i64 21],S):=by
 simp only [lallS,hl,if_pos (And.intro ho (And.intro (List.all_eq_true.2 fun c h=>decide_eq_true (hu c h)) hlen))]
theorem numL_flat:∀ (n:Nat) (a:Int),∀ c∈numE.enc a,AV.Flat n c:=by
 intro n a c hc
 have:c = .i .u64 a:=by simpa [numE,intE] using hc
 rw [this];exact Flat_i
theorem oLAll_ok:OK Tryz.prog (lamOf Tryz.prog) (orcOf [(89,getS)]):=orc_ok (by simpa using get_ok)
theorem lall_ok:SpecOK Tryz.prog 110 (lallS false):=by
 intro args S x S' h
 simp only [lallS] at h
 split at h
 ·rename_i s
  split at h
  ·rename_i b hl
   split at h
   ·rename_i hc
    obtain ⟨ho,hu,hlen⟩:=hc
    have hu:∀ c∈b,u8 c:=fun c hc=>of_decide_eq_true (List.all_eq_true.1 hu c hc)
    refine fn_of_wp f110 rfl (W_sound oLAll_ok mixed _ _ _ _ _ ?_)
    simp (maxSteps:=1000000) (disch:=omega) only [c110,go_sem]
    refine wp_loop (fun j e M dl=>dl=[]∧∃ (pre r:List Int) (t y:AV),j=r.length∧r.length≤b.length∧pre.length≤128∧unlebs b=goOn pre r∧(∀ c∈r,u8 c)∧lstV byteE S t=some r∧openQ S 1 t=true∧Acc false numE S M y pre ∧
     e.get 0=t∧e.get 4=y) (j:=b.length) ⟨rfl,[],b,s,.sn,rfl,Nat.le_refl _,by simp,(goOn_start b).symm,hu,hl,ho,acc_nil ext_refl,rfl,rfl⟩ ?_
    rintro j e M d' ⟨rfl,pre,r,t,y,rfl,hrb,hp,hgo,hur,ht,hot,hy,h0,h4⟩
    refine W_sound oLAll_ok mixed _ _ _ _ _ ?_
    have htM:=lst_ext ht hy.ext
    by_cases hr:r=[]
    ·subst hr
     rw [hgo,goOn_nil _ hp] at h
     cases h
     simp (maxSteps:=1000000) (disch:=omega) only [c110l0,h0,h4,lst_len htM,List.length_nil,go_sem]
     exact hy.ret2 numL_flat Flat_i
    ·have hr0:0<r.length:=List.length_pos_iff.2 hr
     have hrI:(0:Int)<r.length:=by omega
     have hget:=getS_eq htM (openQ_ext hot hy.ext) hur (by omega)
     cases hg:getL r with
     | none =>
      rw [hgo,goOn_none hr hg] at h
      cases h
      rw [hg] at hget
      simp only [got] at hget
      simp (maxSteps:=1000000) (disch:=omega) only [c110l0,h0,h4,lst_len htM,hrI,orc_cons,hget,go_sem]
      exact wkv_dropP hy.ext rfl
     | some q =>
      obtain ⟨n,k⟩:=q
      rw [hg] at hget
      simp only [got] at hget
      by_cases hp1:pre.length=128
      ·rw [hgo,goOn_full hr (by omega)] at h
       cases h
       have hpI:(128:Int)≤pre.length:=by omega
       simp (maxSteps:=1000000) (disch:=omega) only [c110l0,h0,h4,lst_len htM,hrI,orc_cons,hget,lst_len hy.lst,hpI,go_sem]
       exact wkv_dropP hy.ext rfl
      ·have hpI:¬ (128:Int)≤pre.length:=by omega
       obtain ⟨_,_,_,hk0,hk1⟩:=getL_some hur hg
       obtain ⟨y',M',ha,hy'⟩:=(hy.grow [.cells [.i .u64 n] 0 none true]).app (bytes:=8) numE_one n (by omega) (by omega)
       have ha:appV (M++[.cells [.i .u64 n] 0 none true]) 1 8 y [.i .u64 n] 1=some (y',M'):=ha
       obtain ⟨t',ht',hlt',hot'⟩:=drop_lst ht hot (q:=.i64) hk1
       obtain ⟨T,hT⟩:=hy'.ext
       have hsl:sliceV M' 1 t (some (.i .i64 (k:Int))) none none=some t':=by rw [←hT];exact sliceV_grow T ht'
       simp (maxSteps:=1000000) (disch:=omega) only [c110l0,h0,h4,lst_len htM,hrI,orc_cons,hget,lst_len hy.lst,hpI,List.replicate,ha,hsl,go_sem]
       refine ⟨(r.drop k).length,by rw [List.length_drop];omega,pre++[n],r.drop k,t',y',rfl,by rw [List.length_drop];omega,by rw [List.length_append,List.length_singleton];omega,by rw [hgo,goOn_some hr hur hg],fun c hc=>hur c (List.mem_of_mem_drop hc),hlt',hot',hy',rfl,rfl⟩
   ·cases h
  ·cases h
 ·cases h
theorem oRLAll_ok:OK Tryz.prog (lamOf Tryz.prog) (orcOf [(66,getS)]):=orc_ok (by simpa using rget_ok)
theorem rlall_ok:SpecOK Tryz.prog 92 (lallS true):=by
 intro args S x S' h
 simp only [lallS] at h
 split at h
 ·rename_i s
  split at h
  ·rename_i b hl
   split at h
   ·rename_i hc
    obtain ⟨ho,hu,hlen⟩:=hc
    have hu:∀ c∈b,u8 c:=fun c hc=>of_decide_eq_true (List.all_eq_true.1 hu c hc)
    refine fn_of_wp f92 rfl (W_sound oRLAll_ok mixed _ _ _ _ _ ?_)
    simp (maxSteps:=1000000) (disch:=omega) only [c92,go_sem]
    refine wp_loop (fun j e M dl=>dl=[]∧∃ (pre:List Int) (i:Nat) (y:AV),j=b.length-i∧i≤b.length∧pre.length≤128∧unlebs b=goOn pre (b.drop i)∧Acc true numE S M y pre ∧
     e.get 0=s∧e.get 5 = .i .i64 i∧e.get 4=y) (j:=b.length) ⟨rfl,[],0,.sl S.length 0 0 0 0 true,rfl,Nat.zero_le _,by simp,by rw [List.drop_zero];exact (goOn_start b).symm,acc_lit ext_refl,rfl,rfl,rfl⟩ ?_
    rintro j e M d' ⟨rfl,pre,i,y,rfl,hib,hp,hgo,hy,h0,h5,h4⟩
    refine W_sound oRLAll_ok mixed _ _ _ _ _ ?_
    have hlM:=lst_ext hl hy.ext
    by_cases hr:b.length≤i
    ·rw [List.drop_of_length_le hr] at hgo
     rw [hgo,goOn_nil _ hp] at h
     cases h
     have hiI:¬ (i:Int)<b.length:=by omega
     simp (maxSteps:=1000000) (disch:=omega) only [c92l0,h0,h4,h5,lst_len hlM,hiI,go_sem]
     exact hy.ret2 numL_flat Flat_i
    ·have hiI:(i:Int)<b.length:=by omega
     have hur:∀ c∈b.drop i,u8 c:=fun c hc=>hu c (List.mem_of_mem_drop hc)
     have hr:b.drop i≠[]:=fun e=>hr (by have:=congrArg List.length e;rw [List.length_drop] at this;simp at this;omega)
     obtain ⟨t,hst,htM,hot⟩:=drop_lst hlM (openQ_ext ho hy.ext) (q:=.i64) hib
     have hst:sliceV M 1 s (some (.i .i64 (i:Int))) none none=some t:=hst
     have hget:=getS_eq htM hot hur (by rw [List.length_drop];omega)
     cases hg:getL (b.drop i) with
     | none =>
      rw [hgo,goOn_none hr hg] at h
      cases h
      rw [hg] at hget
      simp only [got] at hget
      simp (maxSteps:=1000000) (disch:=omega) only [c92l0,h0,h4,h5,lst_len hlM,hiI,hst,orc_cons,hget,go_sem]
      exact wkv_dropP hy.ext rfl
     | some q =>
      obtain ⟨n,k⟩:=q
      rw [hg] at hget
      simp only [got] at hget
      by_cases hp1:pre.length=128
      ·rw [hgo,goOn_full hr (by omega)] at h
       cases h
       have hpI:(pre.length:Int)=128:=by omega
       simp (maxSteps:=1000000) (disch:=omega) only [c92l0,h0,h4,h5,lst_len hlM,hiI,hst,orc_cons,hget,lst_len hy.lst,hpI,go_sem]
       exact wkv_dropP hy.ext rfl
      ·have hpI:¬ (pre.length:Int)=128:=by omega
       obtain ⟨_,_,_,hk0,hk1⟩:=getL_some hur hg
       rw [List.length_drop] at hk1
       obtain ⟨y',M',ha,hy'⟩:=(hy.grow [.cells [.i .u64 n] 0 none true]).app (bytes:=8) numE_one n (by omega) (by omega)
       have ha:appV (M++[.cells [.i .u64 n] 0 none true]) 1 8 y [.i .u64 n] 1=some (y',M'):=ha
       have hwi:wrapV .i64 ((i:Int)+(k:Int))=((i+k:Nat):Int):=by rw [wrap_i64 (by omega) (by omega)];omega
       simp (maxSteps:=1000000) (disch:=omega) only [c92l0,h0,h4,h5,lst_len hlM,hiI,hst,orc_cons,hget,lst_len hy.lst,hpI,List.replicate,ha,hwi,go_sem]
       refine ⟨b.length-(i+k),by omega,pre++[n],i+k,y',rfl,by omega,by rw [List.length_append,List.length_singleton];omega,by rw [hgo,goOn_some hr hur hg,List.drop_drop],hy',rfl,rfl⟩
   ·cases h
  ·cases h
 ·cases h
def satS:Spec:=fun args S=>match args with
 | [.i .u64 n]=>if u64 n then (if n≤9223372036854775807 then some (.tu [.i .i64 n,.b true],S) else some (.tu [.i .i64 0,.b false],S)) else none
 | _=>none
theorem sat_ok:SpecOK Tryz.prog 90 satS:=by
 intro args S x S' h
 simp only [satS] at h
 split at h
 ·rename_i n
  split at h
  ·rename_i hn
   obtain ⟨h0,h1⟩:=hn
   refine fn_of_wp f90 rfl (W_sound none_ok mixed _ _ _ _ _ ?_)
   split at h
   ·rename_i hc
    cases h
    have hc':¬ (9223372036854775807:Int)<n:=by omega
    simp (maxSteps:=1000000) (disch:=omega) only [c90,hc',wrap_i64,go_sem]
    exact wkv_same
   ·rename_i hc
    cases h
    have hc':(9223372036854775807:Int)<n:=by omega
    simp (maxSteps:=1000000) (disch:=omega) only [c90,hc',go_sem]
    exact wkv_same
  ·cases h
 ·cases h
theorem sat_case {n:Int} (h:u64 n):∃ (n':Int) (ok:Bool),(∀ M,satS [.i .u64 n] M=some (.tu [.i .i64 n',.b ok],M))∧(ok=true→n'=n)∧(ok=false→255<n):=by
 by_cases hc:n≤9223372036854775807
 ·exact ⟨n,true,fun M=>by simp only [satS,if_pos h,if_pos hc],fun _=>rfl,fun h=>by cases h⟩
 ·exact ⟨0,false,fun M=>by simp only [satS,if_pos h,if_neg hc],fun h=>(by cases h),fun _=>by omega⟩
def Pol.mk10 (s n b r bu sr sb q le qu:Int):Pol:=⟨s,b3 n,b2 n,b1 n,b0 n,b,r,bu,sr,sb,q,le,qu⟩
def Pol.zero:Pol:=⟨0,0,0,0,0,0,0,0,0,0,0,0,0⟩
def Pol.of (l:List Int):Option Pol:=match l with
 | [s,n,b,r,bu,sr,sb,q,le,qu]=>if n≤4294967295∧(Pol.mk10 s n b r bu sr sb q le qu).right then some (Pol.mk10 s n b r bu sr sb q le qu) else none
 | _=>none
def polOr:Option Pol→AV
 | some p=>.tu [.ag p.enc,.i .i64 0]
 | none=>.tu [.ag Pol.zero.enc,.i .i64 111]
def polOfS:Spec:=fun args S=>match args with
 | [x]=>match lstV numE S x with
  | some l=>if l.all (fun n=>decide (u64 n))=true then some (polOr (Pol.of l),S) else none
  | none=>none
 | _=>none
theorem polOfS_eq {S:Mem} {x:AV} {l:List Int} (hl:lstV numE S x=some l) (hu:∀ n∈l,u64 n):polOfS [x] S=some (polOr (Pol.of l),S):=by
 simp only [polOfS,hl,if_pos (List.all_eq_true.2 fun n h=>decide_eq_true (hu n h))]
theorem polOr_flat (o:Option Pol) (n:Nat):(polOr o).flat n:=by
 cases o <;> rfl
theorem Pol.of_len {l:List Int} (h:l.length≠10):Pol.of l=none:=by
 unfold Pol.of
 split
 ·exact absurd rfl h
 ·rfl
theorem oOf_ok:OK Tryz.prog (lamOf Tryz.prog) (orcOf [(90,satS),(122,ofS),(95,polS)]):=orc_ok (by simpa using ⟨sat_ok,of_ok,pol_ok⟩)
theorem polOf_ok:SpecOK Tryz.prog 112 polOfS:=by
 intro args S x S' h
 simp only [polOfS] at h
 split at h
 ·rename_i t
  split at h
  ·rename_i l hl
   split at h
   ·rename_i hu
    have hu:∀ n∈l,u64 n:=fun n hn=>of_decide_eq_true (List.all_eq_true.1 hu n hn)
    cases h
    refine fn_of_wp f112 rfl (W_sound oOf_ok mixed _ _ _ _ _ ?_)
    have hl':=lst_len hl
    by_cases h10:l.length=10
    ·match l,h10 with
     | [s,n,b,r,bu,sr,sb,q,le,qu],_ =>
      have hus:=hu s (by simp)
      have hun:=hu n (by simp)
      have hub:=hu b (by simp)
      obtain ⟨bi,o,v,cap,ex,rfl⟩:=lst_sl hl (k:=0) (by simp)
      have hc:∀ (k:Nat) (hk:k<10) L,cellB ((S++L)[bi]?) (o+k) v=some (.i .u64 ([s,n,b,r,bu,sr,sb,q,le,qu][k])):=fun k hk L=>lstV_cell hl rfl (fun a=>rfl) (by simpa using hk) L
      have c0:=fun L=>hc 0 (by omega) L
      have c1:=fun L=>hc 1 (by omega) L
      have c2:=fun L=>hc 2 (by omega) L
      have c3:=fun L=>hc 3 (by omega) L
      have c4:=fun L=>hc 4 (by omega) L
      have c5:=fun L=>hc 5 (by omega) L
      have c6:=fun L=>hc 6 (by omega) L
      have c7:=fun L=>hc 7 (by omega) L
      have c8:=fun L=>hc 8 (by omega) L
      have c9:=fun L=>hc 9 (by omega) L
      simp only [List.getElem_cons_zero,List.getElem_cons_succ,Nat.add_zero] at c0 c1 c2 c3 c4 c5 c6 c7 c8 c9
      clear hc
      simp only [List.length_cons,List.length_nil,Nat.zero_add,Nat.reduceAdd] at hl hl' ⊢
      by_cases hn:n≤4294967295
      ·have hnI:¬ (4294967295:Int)<n:=by omega
       have hn32:u32 n:=⟨hun.1,by omega⟩
       have hw:wrapV .u32 n=n:=wrap_u32 hun.1 (by omega)
       have hadr:=fun M=>ofS_eq hn32 M
       simp only [adr] at hadr
       obtain ⟨s',oks,hs,hs1,hs2⟩:=sat_case hus
       obtain ⟨b',okb,hb,hb1,hb2⟩:=sat_case hub
       cases oks with
       | false =>
        have hof:Pol.of [s,n,b,r,bu,sr,sb,q,le,qu]=none:=by
         simp only [Pol.of];rw [if_neg fun h=>by have h1:=h.2.2.1;have h2:=hs2 rfl;simp only [Pol.mk10] at h1;omega]
        simp (maxSteps:=1000000) (disch:=omega) only [c112,hl',List.replicate,c0,c1,c2,c3,c4,c5,c6,c7,c8,c9,hnI,orc_cons,hs,hb,hw,hadr,go_sem]
        rw [hof]
        exact wkv_drop (polOr_flat _ _)
       | true =>
        obtain rfl:=hs1 rfl
        cases okb with
        | false =>
         have hof:Pol.of [s',n,b,r,bu,sr,sb,q,le,qu]=none:=by
          simp only [Pol.of];rw [if_neg fun h=>by have h1:=h.2.2.2.1.1;have h2:=hb2 rfl;have h3:=cl_bound b;simp only [Pol.mk10] at h1;omega]
         simp (maxSteps:=1000000) (disch:=omega) only [c112,hl',List.replicate,c0,c1,c2,c3,c4,c5,c6,c7,c8,c9,hnI,orc_cons,hs,hb,hw,hadr,go_sem]
         rw [hof]
         exact wkv_drop (polOr_flat _ _)
        | true =>
         obtain rfl:=hb1 rfl
         have hfit:(Pol.mk10 s' n b' r bu sr sb q le qu).fits:=u84_b hn32
         have hpol:=fun M=>polS_eq hfit M
         by_cases hr:(Pol.mk10 s' n b' r bu sr sb q le qu).right
         ·have hof:Pol.of [s',n,b',r,bu,sr,sb,q,le,qu]=some (Pol.mk10 s' n b' r bu sr sb q le qu):=by
           simp only [Pol.of];rw [if_pos ⟨hn,hr⟩]
          have hd:decide (Pol.mk10 s' n b' r bu sr sb q le qu).right=true:=decide_eq_true hr
          simp only [hd] at hpol
          simp only [Pol.mk10,Pol.enc] at hpol
          simp (maxSteps:=1000000) (disch:=omega) only [c112,hl',List.replicate,c0,c1,c2,c3,c4,c5,c6,c7,c8,c9,hnI,orc_cons,hs,hb,hw,hadr,hpol,go_sem]
          rw [hof]
          exact wkv_drop (polOr_flat _ _)
         ·have hof:Pol.of [s',n,b',r,bu,sr,sb,q,le,qu]=none:=by
           simp only [Pol.of];rw [if_neg fun h=>hr h.2]
          have hd:decide (Pol.mk10 s' n b' r bu sr sb q le qu).right=false:=decide_eq_false hr
          simp only [hd] at hpol
          simp only [Pol.mk10,Pol.enc] at hpol
          simp (maxSteps:=1000000) (disch:=omega) only [c112,hl',List.replicate,c0,c1,c2,c3,c4,c5,c6,c7,c8,c9,hnI,orc_cons,hs,hb,hw,hadr,hpol,go_sem]
          rw [hof]
          exact wkv_drop (polOr_flat _ _)
      ·have hnI:(4294967295:Int)<n:=by omega
       have hof:Pol.of [s,n,b,r,bu,sr,sb,q,le,qu]=none:=by simp only [Pol.of];rw [if_neg fun h=>hn h.1]
       simp (maxSteps:=1000000) (disch:=omega) only [c112,hl',List.replicate,c0,c1,hnI,go_sem]
       rw [hof]
       exact wkv_drop (polOr_flat _ _)
    ·have h10I:¬ (l.length:Int)=10:=by omega
     simp (maxSteps:=1000000) (disch:=omega) only [c112,hl',List.replicate,h10I,go_sem]
     rw [Pol.of_len h10]
     exact wkv_drop (polOr_flat _ _)
   ·cases h
  ·cases h
 ·cases h
theorem oROf_ok:OK Tryz.prog (lamOf Tryz.prog) (orcOf [(113,ofS),(99,polS)]):=orc_ok (by simpa using ⟨rof_ok,rpol_ok⟩)
theorem rpolOf_ok:SpecOK Tryz.prog 93 polOfS:=by
 intro args S x S' h
 simp only [polOfS] at h
 split at h
 ·rename_i t
  split at h
  ·rename_i l hl
   split at h
   ·rename_i hu
    have hu:∀ n∈l,u64 n:=fun n hn=>of_decide_eq_true (List.all_eq_true.1 hu n hn)
    cases h
    refine fn_of_wp f93 rfl (W_sound oROf_ok mixed _ _ _ _ _ ?_)
    have hl':=lst_len hl
    by_cases h10:l.length=10
    ·match l,h10 with
     | [s,n,b,r,bu,sr,sb,q,le,qu],_ =>
      have hus:=hu s (by simp)
      have hun:=hu n (by simp)
      have hub:=hu b (by simp)
      obtain ⟨bi,o,v,cap,ex,rfl⟩:=lst_sl hl (k:=0) (by simp)
      have hc:∀ (k:Nat) (hk:k<10) L,cellB ((S++L)[bi]?) (o+k) v=some (.i .u64 ([s,n,b,r,bu,sr,sb,q,le,qu][k])):=fun k hk L=>lstV_cell hl rfl (fun a=>rfl) (by simpa using hk) L
      have c0:=fun L=>hc 0 (by omega) L
      have c1:=fun L=>hc 1 (by omega) L
      have c2:=fun L=>hc 2 (by omega) L
      have c3:=fun L=>hc 3 (by omega) L
      have c4:=fun L=>hc 4 (by omega) L
      have c5:=fun L=>hc 5 (by omega) L
      have c6:=fun L=>hc 6 (by omega) L
      have c7:=fun L=>hc 7 (by omega) L
      have c8:=fun L=>hc 8 (by omega) L
      have c9:=fun L=>hc 9 (by omega) L
      simp only [List.getElem_cons_zero,List.getElem_cons_succ,Nat.add_zero] at c0 c1 c2 c3 c4 c5 c6 c7 c8 c9
      clear hc
      simp only [List.length_cons,List.length_nil,Nat.zero_add,Nat.reduceAdd] at hl hl' ⊢
      by_cases hs:s≤255
      ·have hsI:¬ (255:Int)<s:=by omega
       by_cases hn:n≤4294967295
       ·have hnI:¬ (4294967295:Int)<n:=by omega
        by_cases hb:b≤32
        ·have hbI:¬ (32:Int)<b:=by omega
         have hn32:u32 n:=⟨hun.1,by omega⟩
         have hw:wrapV .u32 n=n:=wrap_u32 hun.1 (by omega)
         have hw1:wrapV .i64 s=s:=wrap_i64 (by have:=hus.1;omega) (by omega)
         have hw2:wrapV .i64 b=b:=wrap_i64 (by have:=hub.1;omega) (by omega)
         have hadr:=fun M=>ofS_eq hn32 M
         simp only [adr] at hadr
         have hfit:(Pol.mk10 s n b r bu sr sb q le qu).fits:=u84_b hn32
         have hpol:=fun M=>polS_eq hfit M
         by_cases hr:(Pol.mk10 s n b r bu sr sb q le qu).right
         ·have hof:Pol.of [s,n,b,r,bu,sr,sb,q,le,qu]=some (Pol.mk10 s n b r bu sr sb q le qu):=by
           simp only [Pol.of];rw [if_pos ⟨hn,hr⟩]
          have hd:decide (Pol.mk10 s n b r bu sr sb q le qu).right=true:=decide_eq_true hr
          simp only [hd] at hpol
          simp only [Pol.mk10,Pol.enc] at hpol
          simp (maxSteps:=1000000) (disch:=omega) only [c93,hl',List.replicate,c0,c1,c2,c3,c4,c5,c6,c7,c8,c9,hsI,hnI,hbI,orc_cons,hw,hw1,hw2,hadr,hpol,go_sem]
          rw [hof]
          exact wkv_drop (polOr_flat _ _)
         ·have hof:Pol.of [s,n,b,r,bu,sr,sb,q,le,qu]=none:=by
           simp only [Pol.of];rw [if_neg fun h=>hr h.2]
          have hd:decide (Pol.mk10 s n b r bu sr sb q le qu).right=false:=decide_eq_false hr
          simp only [hd] at hpol
          simp only [Pol.mk10,Pol.enc] at hpol
          simp (maxSteps:=1000000) (disch:=omega) only [c93,hl',List.replicate,c0,c1,c2,c3,c4,c5,c6,c7,c8,c9,hsI,hnI,hbI,orc_cons,hw,hw1,hw2,hadr,hpol,go_sem]
          rw [hof]
          exact wkv_drop (polOr_flat _ _)
        ·have hbI:(32:Int)<b:=by omega
         have hof:Pol.of [s,n,b,r,bu,sr,sb,q,le,qu]=none:=by
          simp only [Pol.of];rw [if_neg fun h=>by have h1:=h.2.2.2.1.1;have h3:=cl_bound b;simp only [Pol.mk10] at h1;omega]
         simp (maxSteps:=1000000) (disch:=omega) only [c93,hl',List.replicate,c0,c1,c2,hsI,hnI,hbI,go_sem]
         rw [hof]
         exact wkv_drop (polOr_flat _ _)
       ·have hnI:(4294967295:Int)<n:=by omega
        have hof:Pol.of [s,n,b,r,bu,sr,sb,q,le,qu]=none:=by simp only [Pol.of];rw [if_neg fun h=>hn h.1]
        simp (maxSteps:=1000000) (disch:=omega) only [c93,hl',List.replicate,c0,c1,hsI,hnI,go_sem]
        rw [hof]
        exact wkv_drop (polOr_flat _ _)
      ·have hsI:(255:Int)<s:=by omega
       have hof:Pol.of [s,n,b,r,bu,sr,sb,q,le,qu]=none:=by
        simp only [Pol.of];rw [if_neg fun h=>by have h1:=h.2.2.1;simp only [Pol.mk10] at h1;omega]
       simp (maxSteps:=1000000) (disch:=omega) only [c93,hl',List.replicate,c0,hsI,go_sem]
       rw [hof]
       exact wkv_drop (polOr_flat _ _)
    ·have h10I:¬ (l.length:Int)=10:=by omega
     simp (maxSteps:=1000000) (disch:=omega) only [c93,hl',List.replicate,h10I,go_sem]
     rw [Pol.of_len h10]
     exact wkv_drop (polOr_flat _ _)
   ·cases h
  ·cases h
 ·cases h
def entsN:Nat→List Int→Option (List Ent)
 | 0,r=>if r=[] then some [] else none
 | n+1,r=>match Pol.of (r.take 10) with
  | some p=>(entsN n (r.drop 11)).map (⟨p,r.getD 10 0⟩ :: ·)
  | none=>none
noncomputable def Bk.ofNums:List Int→Option Bk
 | []=>none
 | p :: r=>if r.length % 11=0 then match entsN (r.length / 11) r with
   | some es=>Bk.fin (some ⟨p,es⟩)
   | none=>none
  else none
noncomputable def Bk.read (b:List Int):Option Bk:=match unlebs b with
 | some l=>Bk.ofNums l
 | none=>none
theorem entsN_none {n:Nat} {r:List Int} (h:Pol.of (r.take 10)=none):entsN (n+1) r=none:=by
 simp only [entsN,h]
theorem entsN_some {n:Nat} {r:List Int} {p:Pol} (h:Pol.of (r.take 10)=some p):entsN (n+1) r=(entsN n (r.drop 11)).map (⟨p,r.getD 10 0⟩ :: ·):=by
 simp only [entsN,h]
theorem Pol.of_fits {l:List Int} {p:Pol} (hu:∀ n∈l,u64 n) (h:Pol.of l=some p):p.good∧p.right:=by
 unfold Pol.of at h
 split at h
 ·rename_i s n b r bu sr sb q le qu
  split at h
  ·rename_i hc
   injection h with h;subst h
   have h0:=fun m hm=>hu m hm
   have hn:=hu n (by simp)
   have hs:=hu s (by simp)
   have hb:=hu b (by simp)
   have hr:=hc.2
   have hr1:=hr.2.1
   have hr2:=hr.2.2.1.1
   have hr3:=cl_bound b
   simp only [Pol.mk10] at hr1 hr2
   refine ⟨⟨⟨by have:=hs.1;simp only [Pol.mk10];omega,by simp only [Pol.mk10];omega⟩,u84_b ⟨hn.1,by omega⟩,⟨by have:=hb.1;simp only [Pol.mk10];omega,by simp only [Pol.mk10];omega⟩,hu _ (by simp [Pol.mk10]),hu _ (by simp [Pol.mk10]),hu _ (by simp [Pol.mk10]),hu _ (by simp [Pol.mk10]),hu _ (by simp [Pol.mk10]),hu _ (by simp [Pol.mk10]),hu _ (by simp [Pol.mk10])⟩,hr⟩
  ·cases h
 ·cases h
theorem entsN_good:∀ (n:Nat) (r:List Int) (es:List Ent),(∀ m∈r,u64 m)→entsN n r=some es→es.length=n∧∀ x∈es,x.good
 | 0,r,es,_,h=>by
  simp only [entsN] at h
  split at h
  ·cases h;exact ⟨rfl,by simp⟩
  ·cases h
 | n+1,r,es,hu,h=>by
  simp only [entsN] at h
  split at h
  ·rename_i p hp
   obtain ⟨es',he,rfl⟩:=Option.map_eq_some_iff.1 h
   obtain ⟨h1,h2⟩:=entsN_good n _ es' (fun m hm=>hu m (List.mem_of_mem_drop hm)) he
   refine ⟨by simp [h1],fun x hx=>?_⟩
   rcases List.mem_cons.1 hx with rfl | hx
   ·refine ⟨(Pol.of_fits (fun m hm=>hu m (List.mem_of_mem_take hm)) hp).1,?_⟩
    simp only [List.getD_eq_getElem?_getD]
    cases hg:r[10]? with
    | none=>exact ⟨by simp,by simp⟩
    | some m=>simp only [Option.getD_some];exact hu m (List.mem_of_getElem? hg)
   ·exact h2 x hx
  ·cases h
def EntsAt (r:List Int) (k:Nat) (es:List Ent):Prop:=es.length=k∧(∀ x∈es,x.good)∧(r.length % 11=0→entsN (r.length / 11) r=(entsN (r.length / 11-k) (r.drop (11 * k))).map (es++·))
theorem entsAt_start (r:List Int):EntsAt r 0 []:=by
 refine ⟨rfl,by simp,fun _=>?_⟩
 simp
theorem entsAt_step {r:List Int} {k:Nat} {es:List Ent} {p:Pol} {g:Int} (h:EntsAt r k es) (hu:∀ m∈r,u64 m) (hk:11 * k+11≤r.length) (hp:Pol.of ((r.drop (11 * k)).take 10)=some p) (hg:(r.drop (11 * k))[10]? = some g):EntsAt r (k+1) (es++[⟨p,g⟩]):=by
 obtain ⟨h1,h2,h3⟩:=h
 have hpg:=(Pol.of_fits (fun m hm=>hu m (List.mem_of_mem_drop (List.mem_of_mem_take hm))) hp).1
 have hgg:u64 g:=hu g (List.mem_of_mem_drop (List.mem_of_getElem? hg))
 refine ⟨by simp [h1],fun x hx=>?_,fun hr=>?_⟩
 ·rcases List.mem_append.1 hx with hx | hx
  ·exact h2 x hx
  ·rw [List.mem_singleton.1 hx];exact ⟨hpg,hgg⟩
 ·rw [h3 hr,show r.length / 11-k=(r.length / 11-(k+1))+1 by omega,entsN_some hp,List.drop_drop,show 11 * k+11=11 * (k+1) by omega,List.getD_eq_getElem?_getD,hg]
  cases entsN (r.length / 11-(k+1)) (r.drop (11 * (k+1))) with
  | none=>rfl
  | some l=>simp
theorem entsAt_none {p:Int} {r:List Int} {k:Nat} {es:List Ent} (h:EntsAt r k es) (hk:11 * k+11≤r.length) (hp:Pol.of ((r.drop (11 * k)).take 10)=none):Bk.ofNums (p :: r)=none:=by
 simp only [Bk.ofNums]
 split
 ·rename_i hr
  rw [h.2.2 hr,show r.length / 11-k=(r.length / 11-(k+1))+1 by omega,entsN_none hp]
  rfl
 ·rfl
theorem entsAt_end {p:Int} {r:List Int} {k:Nat} {es:List Ent} (h:EntsAt r k es) (hk:r.length=11 * k):Bk.ofNums (p :: r)=Bk.fin (some ⟨p,es⟩):=by
 simp only [Bk.ofNums]
 rw [if_pos (by omega),h.2.2 (by omega),show r.length / 11-k=0 by omega,List.drop_of_length_le (by omega)]
 simp [entsN]
theorem ofNums_odd {p:Int} {r:List Int} (h:r.length % 11≠0):Bk.ofNums (p :: r)=none:=by
 simp only [Bk.ofNums,if_neg h]
theorem lall_some {z:Bool} {S:Mem} {x:AV} {b l:List Int} (hl:lstV byteE S x=some b) (ho:openQ S 1 x=true) (hu:∀ c∈b,u8 c) (hlen:b.length≤1000000) (h:unlebs b=some l) :
  ∃ X M,lallS z [x] S=some (.tu [X,.i .i64 0],M)∧lstV numE M X=some l∧S <+: M∧(l≠[]→openQ M 1 X=true):=by
 refine ⟨retX z S l,retM z numE S l,by rw [lallS_eq hl ho hu hlen,h],retX_lst,retM_ext,fun hne=>?_⟩
 rw [retX_ne hne,retM_ne hne]
 simp [openQ,at_app0,Blk.opn,numE,intE]
theorem lall_none {z:Bool} {S:Mem} {x:AV} {b:List Int} (hl:lstV byteE S x=some b) (ho:openQ S 1 x=true) (hu:∀ c∈b,u8 c) (hlen:b.length≤1000000) (h:unlebs b=none) :
  lallS z [x] S=some (.tu [.sn,.i .i64 21],S):=by
 rw [lallS_eq hl ho hu hlen,h]
noncomputable def readS:Spec:=fun args S=>match args with
 | [x]=>match lstV byteE S x with
  | some b=>if openQ S 1 x=true∧b.all (fun c=>decide (u8 c))=true∧b.length≤1000000 then match Bk.read b with
    | some bk=>some (bookR false S bk 0)
    | none=>some (.tu [.ag [.i .u64 0,.sn],.i .i64 131],S)
   else none
  | none=>none
 | _=>none
theorem readS_eq {S:Mem} {x:AV} {b:List Int} (hl:lstV byteE S x=some b) (ho:openQ S 1 x=true) (hu:∀ c∈b,u8 c) (hlen:b.length≤1000000):readS [x] S=match Bk.read b with
    | some bk=>some (bookR false S bk 0)
    | none=>some (.tu [.ag [.i .u64 0,.sn],.i .i64 131],S):=by
 simp only [readS,hl,if_pos (And.intro ho (And.intro (List.all_eq_true.2 fun c h=>decide_eq_true (hu c h)) hlen))]
theorem oRRd_ok:OK Tryz.prog (lamOf Tryz.prog) (orcOf [(92,lallS true),(93,polOfS),(75,brightS)]):=orc_ok (by simpa using ⟨rlall_ok,rpolOf_ok,rbright_ok⟩)
theorem rread_ok:SpecOK Tryz.prog 67 readS:=by
 intro args S x S' h
 simp only [readS] at h
 split at h
 ·rename_i s
  split at h
  ·rename_i b hl
   split at h
   ·rename_i hc
    obtain ⟨ho,hu,hlen⟩:=hc
    have hu:∀ c∈b,u8 c:=fun c hc=>of_decide_eq_true (List.all_eq_true.1 hu c hc)
    refine fn_of_wp f67 rfl (W_sound oRRd_ok mixed _ _ _ _ _ ?_)
    have hlS:=fun L=>lstV_grow hl L
    have hoS:=fun L=>openQ_grow ho L
    cases hun:unlebs b with
    | none =>
     have hrd:Bk.read b=none:=by unfold Bk.read;rw [hun]
     rw [hrd] at h
     cases h
     have hall:=fun L=>lall_none (z:=true) (hlS L) (hoS L) hu hlen hun
     simp (maxSteps:=1000000) (disch:=omega) only [c67,List.replicate,orc_cons,hall,go_sem]
     exact wkv_drop rfl
    | some l =>
     have hrd:Bk.read b=Bk.ofNums l:=by unfold Bk.read;rw [hun]
     rw [hrd] at h
     obtain ⟨hlb,hlu,hl128⟩:=lebs_unlebs hu hun
     obtain ⟨X,M0,hall,hX,hSM0,hoX⟩:=lall_some (z:=true) (hlS [.cells [.i .u64 0,.sn] 0 none true]) (hoS _) hu hlen hun
     have hlX:=fun M'=>lst_len hX M'
     have hat:M0[S.length]? = some (.cells [.i .u64 0,.sn] 0 none true):=at_pre hSM0 (by rw [at_app0];rfl)
     have hset:=set_self hat
     have hS0:=(ext_app _).trans hSM0
     have hS0l:S.length<M0.length:=(List.getElem?_eq_some_iff.1 hat).1
     match l,hl128 with
     | [],_ =>
      cases h
      simp (maxSteps:=1000000) (disch:=omega) only [c67,List.replicate,orc_cons,hall,hlX,List.length_nil,hat,hset,go_sem]
      exact wkv_dropP hS0 rfl
     | p :: r,hl128 =>
      obtain ⟨bi,o,v,cap,ex,rfl⟩:=lst_sl hX (k:=0) (by simp)
      simp only [List.length_cons] at hX hl128 hall hoX hlX
      have hne:¬ ((r.length+1:Nat):Int)=0:=by omega
      have hc0:=lstV_cell hX rfl (fun a=>rfl) (k:=0) (by simp) []
      rw [List.append_nil,Nat.add_zero,List.getElem_cons_zero] at hc0
      simp (maxSteps:=1000000) (disch:=omega) only [c67,List.replicate,orc_cons,hall,hlX,hne,hc0,go_sem]
      have hur:∀ m∈r,u64 m:=fun m hm=>hlu m (by simp [hm])
      refine wp_loop (fun j e M dl=>dl=[]∧∃ (k:Nat) (es:List Ent) (y:AV),j=r.length-11 * k∧11 * k≤r.length∧EntsAt r k es∧M0 <+: M∧M[M0.length]? = some (.cells [.i .u64 p,y] 0 none true)∧Acc false entE M0 M y es ∧
       e.get 2 = .p S.length 0 0∧e.get 4 = .sl bi o v (r.length+1) cap ex∧e.get 6 = .p M0.length 0 0∧e.get 7 = .i .i64 ((11 * k+1:Nat):Int)) (j:=r.length)
       ⟨rfl,0,[],.sn,rfl,Nat.zero_le _,entsAt_start r,ext_app _,by rw [at_app0];rfl,acc_nil (ext_app _),rfl,rfl,rfl,rfl⟩ ?_
      rintro j e M d' ⟨rfl,k,es,y,rfl,hk,hes,hM0M,hB,hA,h2,h4,h6,h7⟩
      refine W_sound oRRd_ok mixed _ _ _ _ _ ?_
      have hXM:=lst_ext hX hM0M
      have hlM:=lst_len hXM
      have hatM:=at_pre hM0M hat
      have hSM:=hS0.trans hM0M
      have hsetM:=set_self hatM
      have hatset:=fun B=>at_set (B':=B) hatM
      simp only [List.length_cons] at hlM
      have hw11:wrapV .i64 (((11 * k+1:Nat):Int)+11)=((11 * (k+1)+1:Nat):Int):=by rw [wrap_i64 (by omega) (by omega)];omega
      by_cases hkr:11 * k+11≤r.length
      ·have hkI:((11 * (k+1)+1:Nat):Int)≤((r.length+1:Nat):Int):=by omega
       have hoM:=openQ_ext (hoX (by simp)) hM0M
       obtain ⟨t,hst,hlt,hot⟩:=part_lst hXM hoM (q:=.i64) (q':=.i64) (a:=11 * k+1) (b:=11 * k+11) (by omega) (by rw [List.length_cons];omega)
       rw [List.drop_succ_cons,show 11 * k+11-(11 * k+1)=10 by omega] at hlt
       have hst:sliceV M 1 (.sl bi o v (r.length+1) cap ex) (some (.i .i64 ((11 * k+1:Nat):Int))) (some (.i .i64 ((11 * k+11:Nat):Int))) none=some t:=hst
       have hw10:wrapV .i64 (((11 * k+1:Nat):Int)+10)=((11 * k+11:Nat):Int):=by rw [wrap_i64 (by omega) (by omega)];omega
       have hpol:=polOfS_eq hlt (fun m hm=>hur m (List.mem_of_mem_drop (List.mem_of_mem_take hm)))
       have hato:=fun L=>at_old (L:=L) hatM
       have hseto:=fun L=>set_self (at_old (L:=L) hatM)
       have hBo:=fun L=>at_old (L:=L) hB
       cases hq:Pol.of ((r.drop (11 * k)).take 10) with
       | none =>
        rw [entsAt_none hes hkr hq] at h
        cases h
        rw [hq] at hpol
        simp only [polOr,Pol.zero,Pol.enc] at hpol
        simp (maxSteps:=1000000) (disch:=omega) only [c67l1,h2,h4,h6,h7,hlM,hw11,hkI,hw10,hst,orc_cons,hpol,List.replicate,hato,hseto,go_sem]
        exact wkv_dropP (hSM.trans (ext_app _)) rfl
       | some q =>
        rw [hq] at hpol
        have h10r:11 * k+10<r.length:=by omega
        have hg:(r.drop (11 * k))[10]? = some (r[11 * k+10]):=by rw [List.getElem?_drop,List.getElem?_eq_getElem h10r]
        have hcX:=fun L=>lstV_cell hXM rfl (fun a=>rfl) (k:=11 * k+11) (by rw [List.length_cons];omega) L
        have hgc:(p :: r)[11 * k+11]'(by rw [List.length_cons];omega)=r[11 * k+10]:=rfl
        rw [hgc] at hcX
        generalize hgv:r[11 * k+10]=g at hcX hg
        have hkI2:((11 * k+11:Nat):Int)<((r.length+1:Nat):Int):=by omega
        obtain ⟨y',M',ha,hA',hkeep⟩:=(hA.grow [.cells q.enc 0 none true,.cells (entE.enc ⟨q,g⟩) 0 none true]).app' (bytes:=88) entE_one ⟨q,g⟩ (by have:=hes.1;omega) (by have:=hes.1;omega)
        have hB':=hkeep _ _ (hBo _) rfl
        have hlen2:=hes.1
        simp only [entE,Ent.enc,Pol.enc] at ha
        simp only [polOr,Pol.enc] at hpol
        simp (maxSteps:=1000000) (disch:=omega) only [c67l1,h2,h4,h6,h7,hlM,hw11,hkI,hw10,hst,orc_cons,hpol,List.replicate,hBo,hkI2,Int.toNat_natCast,Nat.mul_one,hcX,ha,hB',lst_cells hA'.lst,lst_one hA'.lst,go_sem]
        refine ⟨r.length-11 * (k+1),by omega,k+1,es++[⟨q,g⟩],y',rfl,by omega,entsAt_step hes hur hkr hq hg,ext_set hA'.ext (Nat.le_refl _) _,at_set hB',hA'.setB (Nat.le_refl _) hB' rfl _,rfl⟩
      ·have hkI:¬ ((11 * (k+1)+1:Nat):Int)≤((r.length+1:Nat):Int):=by omega
       by_cases h11:r.length=11 * k
       ·have hne2:∀ cst,binV .int cst .neq (.i .i64 ((11 * k+1:Nat):Int)) (.i .i64 ((r.length+1:Nat):Int))=some (.b false):=fun cst=>by rw [bin_neq,decide_eq_false (by omega)]
        rw [entsAt_end hes h11] at h
        have hfit:Bk.fits ⟨p,es⟩:=⟨by have:=hes.1;simp only;omega,fun x hx=>(hes.2.1 x hx).1.fits⟩
        have hbr:=bright_eq (bookOf_mk (p:=p) hA.lst) hfit
        by_cases hok:(Bk.mk p es).ok
        ·rw [show Bk.fin (some ⟨p,es⟩)=some ⟨p,es⟩ by simp only [Bk.fin,if_pos hok]] at h
         cases h
         rw [decide_eq_true hok] at hbr
         simp (maxSteps:=1000000) (disch:=omega) only [c67l1,h2,h4,h6,h7,hlM,hw11,hkI,hne2,hB,orc_cons,hbr,hatM,hatset,lst_one hA.lst,go_sem]
         have hA2:=(hA.base hS0).setB (Nat.le_refl _) hatM rfl (.cells [.i .u64 p,y] 0 none true)
         exact hA2.retB entE_flat Flat_i Flat_i
        ·rw [show Bk.fin (some ⟨p,es⟩)=none by simp only [Bk.fin,if_neg hok]] at h
         cases h
         rw [decide_eq_false hok] at hbr
         simp (maxSteps:=1000000) (disch:=omega) only [c67l1,h2,h4,h6,h7,hlM,hw11,hkI,hne2,hB,orc_cons,hbr,hatM,hsetM,go_sem]
         exact wkv_dropP hSM rfl
       ·have hne2:¬ ((11 * k+1:Nat):Int)=((r.length+1:Nat):Int):=by omega
        rw [ofNums_odd (by omega)] at h
        cases h
        simp (maxSteps:=1000000) (disch:=omega) only [c67l1,h2,h4,h6,h7,hlM,hw11,hkI,hne2,hatM,hsetM,go_sem]
        exact wkv_dropP hSM rfl
   ·cases h
  ·cases h
 ·cases h
def rdPath:List Bool:=[true,true,true,true,false,true,false]
structure Jm (S M1:Mem) (p:Int) (r:List Int) (x1:AV) (env:Env) (k:Nat) (es:List Ent) (y:AV) (M:Mem):Prop where
 hM:M1 <+: M
 hB:M[M1.length]? = some (.cells [.i .u64 p,y] 0 none true)
 h1:M[M1.length+1]? = some (.cells [x1] 0 none true)
 h2:M[M1.length+2]? = some (.cells [.i .i64 11] 0 none true)
 hd:M[M1.length+3]? = some (.dfr true)
 hl:M[M1.length+4]? = some (.loop 91 rdPath env .ready none)
 hA:Acc false entE M1 M y es
 he:EntsAt r k es
structure Jb (S M1:Mem) (env:Env) (M:Mem):Prop where
 hS:S <+: M
 h2:M[S.length]? = some (.cells [.i .u64 0,.sn] 0 none true)
 h3:M[S.length+1]? = some (.cells [.i .i64 131] 0 none true)
 hd:M[M1.length+3]? = some (.dfr true)
 hl:M[M1.length+4]? = some (.loop 91 rdPath env .done (some .ret))
theorem oRd_ok:OK Tryz.prog (lamOf Tryz.prog) (orcOf [(112,polOfS)]):=orc_ok (by simpa using polOf_ok)
theorem round_good {S M1 M:Mem} {p:Int} {r:List Int} {x1:AV} {env:Env} {k:Nat} {es:List Ent} {y:AV} (J:Jm S M1 p r x1 env k es y M)
  (e2:env.get 2 = .p S.length 0 0) (e3:env.get 3 = .p (S.length+1) 0 0) (e6:env.get 6 = .p M1.length 0 0) {t:AV} (ht:lstV numE M1 t=some ((r.drop (11 * k)).take 11)) (hot:openQ M1 1 t=true)
  (hk:11 * k+11≤r.length) (hur:∀ m∈r,u64 m) (hr:r.length≤128) {q:Pol} (hq:Pol.of ((r.drop (11 * k)).take 10)=some q) :
  ∃ g y' M',RdOK Tryz.prog (M1.length+4) [t] M (.b true) M'∧Jm S M1 p r x1 env (k+1) (es++[⟨q,g⟩]) y' M':=by
 obtain ⟨hM,hB,h1,h2,hd,hl,hA,he⟩:=J
 have hlen11:((r.drop (11 * k)).take 11).length=11:=by rw [List.length_take,List.length_drop];omega
 have h10r:11 * k+10<r.length:=by omega
 have hg:(r.drop (11 * k))[10]? = some (r[11 * k+10]):=by rw [List.getElem?_drop,List.getElem?_eq_getElem h10r]
 have hMb:=ext_set hM (show M1.length≤M1.length+4 by omega) (.loop 91 rdPath env .busy none)
 have hAb:=hA.setB (show M1.length≤M1.length+4 by omega) hl rfl (.loop 91 rdPath env .busy none)
 have hne:∀ {i:Nat} {B:Blk},i≠M1.length+4→M[i]? = some B→(M.set (M1.length+4) (.loop 91 rdPath env .busy none))[i]? = some B:=fun hi hB=>by rw [List.getElem?_set_ne (Ne.symm hi)];exact hB
 have hlb:(M.set (M1.length+4) (.loop 91 rdPath env .busy none))[M1.length+4]? = some (.loop 91 rdPath env .busy none):=at_set hl
 have bB:=hne (by omega) hB
 have b1:=hne (by omega) h1
 have b2:=hne (by omega) h2
 have bd:=hne (by omega) hd
 clear hne
 generalize hMbe:M.set (M1.length+4) (.loop 91 rdPath env .busy none)=Mb at hMb hAb hlb bB b1 b2 bd
 have htM:=lst_ext ht hMb
 have hoM:=openQ_ext hot hMb
 obtain ⟨tu,hsl,hlu,hou⟩:=take_lst htM hoM (q:=.i64) (b:=10) (by omega)
 rw [List.take_take,Nat.min_eq_left (by omega)] at hlu
 have hsl:sliceV Mb 1 t none (some (.i .i64 10)) none=some tu:=hsl
 have hpol:=polOfS_eq hlu (fun m hm=>hur m (List.mem_of_mem_drop (List.mem_of_mem_take hm)))
 rw [hq] at hpol
 obtain ⟨bi,o,v,cap,ex,rfl⟩:=lst_sl htM (k:=0) (by omega)
 have hcX:=fun L=>lstV_cell htM rfl (fun a=>rfl) (k:=10) (by omega) L
 have hgc:((r.drop (11 * k)).take 11)[10]'(by omega)=r[11 * k+10]:=by rw [List.getElem_take,List.getElem_drop]
 rw [hgc] at hcX
 generalize hgv:r[11 * k+10]=g at hcX hg
 rw [hlen11] at *
 obtain ⟨y',M',ha,hA',hkeep⟩:=(hAb.grow [.cells q.enc 0 none true,.cells (entE.enc ⟨q,g⟩) 0 none true]).app' (bytes:=88) entE_one ⟨q,g⟩ (by have:=he.1;omega) (by have:=he.1;omega)
 have bBo:=fun L=>at_old (L:=L) bB
 have hB':=hkeep _ _ (bBo _) rfl
 have hlb':=hkeep _ _ (at_old hlb) rfl
 have hb1':=hkeep _ _ (at_old b1) rfl
 have hb2':=hkeep _ _ (at_old b2) rfl
 have hbd':=hkeep _ _ (at_old bd) rfl
 refine ⟨g,y',(M'.set M1.length (.cells [.i .u64 p,y'] 0 none true)).set (M1.length+4) (.loop 91 rdPath env .ready none),?_,?_⟩
 ·refine round_of_wp hl f91 (List.mem_cons_self ..) rfl (W_sound oRd_ok mixed _ _ _ _ _ ?_)
  simp (maxSteps:=1000000) (disch:=omega) only [c91ra0,bindE,go_sem]
  refine ⟨rfl,rfl,91,rdPath,env,none,hl,?_⟩
  refine W_sound oRd_ok mixed _ _ _ _ _ ?_
  rw [hMbe]
  simp only [entE,Ent.enc,Pol.enc] at ha
  simp only [polOr,Pol.enc] at hpol
  simp (maxSteps:=1000000) (disch:=omega) only [c91rb0,e2,e3,e6,hsl,orc_cons,hpol,List.replicate,bBo,Int.toNat_natCast,Nat.mul_one,hcX,ha,hB',lst_cells hA'.lst,lst_one hA'.lst,go_sem]
  exact ⟨91,rdPath,env,.busy,none,by rw [List.getElem?_set_ne (by omega)];exact hlb',wkv_same⟩
 ·have n1:∀ {i:Nat} {B:Blk},i≠M1.length→i≠M1.length+4→M'[i]? = some B→((M'.set M1.length (.cells [.i .u64 p,y'] 0 none true)).set (M1.length+4) (.loop 91 rdPath env .ready none))[i]? = some B:=fun ha hb hB=>by
   rw [List.getElem?_set_ne (Ne.symm hb),List.getElem?_set_ne (Ne.symm ha)];exact hB
  have hl2:(M'.set M1.length (.cells [.i .u64 p,y'] 0 none true))[M1.length+4]? = some (.loop 91 rdPath env .busy none):=by rw [List.getElem?_set_ne (by omega)];exact hlb'
  have hA2:=hA'.setB (Nat.le_refl _) hB' rfl (.cells [.i .u64 p,y'] 0 none true)
  exact ⟨ext_set (ext_set hA'.ext (Nat.le_refl _) _) (by omega) _,by rw [List.getElem?_set_ne (by omega)];exact at_set hB',n1 (by omega) (by omega) hb1',n1 (by omega) (by omega) hb2',n1 (by omega) (by omega) hbd',at_set hl2,
   hA2.setB (by omega) hl2 rfl _,entsAt_step he hur hk hq hg⟩
theorem round_bad {S M1 M:Mem} {p:Int} {r:List Int} {x1:AV} {env:Env} {k:Nat} {es:List Ent} {y:AV} (J:Jm S M1 p r x1 env k es y M) (hS1:S <+: M1)
  (m2:M1[S.length]? = some (.cells [.i .u64 0,.sn] 0 none true)) (m3:M1[S.length+1]? = some (.cells [.i .i64 0] 0 none true))
  (e2:env.get 2 = .p S.length 0 0) (e3:env.get 3 = .p (S.length+1) 0 0) (e6:env.get 6 = .p M1.length 0 0) {t:AV} (ht:lstV numE M1 t=some ((r.drop (11 * k)).take 11)) (hot:openQ M1 1 t=true)
  (hk:11 * k+11≤r.length) (hur:∀ m∈r,u64 m) (hq:Pol.of ((r.drop (11 * k)).take 10)=none) :
  ∃ M',RdOK Tryz.prog (M1.length+4) [t] M (.b false) M'∧Jb S M1 env M':=by
 obtain ⟨hM,hB,h1,h2,hd,hl,hA,he⟩:=J
 have hlen11:((r.drop (11 * k)).take 11).length=11:=by rw [List.length_take,List.length_drop];omega
 have hS1l:S.length+1<M1.length:=(List.getElem?_eq_some_iff.1 m3).1
 have hMb:=ext_set hM (show M1.length≤M1.length+4 by omega) (.loop 91 rdPath env .busy none)
 have hne:∀ {i:Nat} {B:Blk},i≠M1.length+4→M[i]? = some B→(M.set (M1.length+4) (.loop 91 rdPath env .busy none))[i]? = some B:=fun hi hB=>by rw [List.getElem?_set_ne (Ne.symm hi)];exact hB
 have hlb:(M.set (M1.length+4) (.loop 91 rdPath env .busy none))[M1.length+4]? = some (.loop 91 rdPath env .busy none):=at_set hl
 have bd:=hne (by omega) hd
 have bm2:=hne (by omega) (at_pre hM m2)
 have bm3:=hne (by omega) (at_pre hM m3)
 clear hne
 generalize hMbe:M.set (M1.length+4) (.loop 91 rdPath env .busy none)=Mb at hMb hlb bd bm2 bm3
 have htM:=lst_ext ht hMb
 have hoM:=openQ_ext hot hMb
 obtain ⟨tu,hsl,hlu,hou⟩:=take_lst htM hoM (q:=.i64) (b:=10) (by omega)
 rw [List.take_take,Nat.min_eq_left (by omega)] at hlu
 have hsl:sliceV Mb 1 t none (some (.i .i64 10)) none=some tu:=hsl
 have hpol:=polOfS_eq hlu (fun m hm=>hur m (List.mem_of_mem_drop (List.mem_of_mem_take hm)))
 rw [hq] at hpol
 simp only [polOr,Pol.zero,Pol.enc] at hpol
 have bm2o:=fun L=>at_old (L:=L) bm2
 have bm3o:=fun L=>at_old (L:=L) bm3
 have hset2:=fun L=>set_self (at_old (L:=L) bm2)
 have hMl:M1.length≤Mb.length:=List.IsPrefix.length_le hMb
 have hset3:=fun (L:Mem) (B:Blk)=>set_old (L:=L) (B':=B) bm3
 have hlast:((Mb.set (S.length+1) (.cells [.i .i64 131] 0 none true))++[Blk.cells Pol.zero.enc 0 none true])[M1.length+4]? = some (.loop 91 rdPath env .busy none):=at_old (by rw [List.getElem?_set_ne (by omega)];exact hlb)
 refine ⟨((Mb.set (S.length+1) (.cells [.i .i64 131] 0 none true))++[Blk.cells Pol.zero.enc 0 none true]).set (M1.length+4) (.loop 91 rdPath env .done (some .ret)),?_,?_⟩
 ·refine round_of_wp hl f91 (List.mem_cons_self ..) rfl (W_sound oRd_ok mixed _ _ _ _ _ ?_)
  simp (maxSteps:=1000000) (disch:=omega) only [c91ra0,bindE,go_sem]
  refine ⟨rfl,rfl,91,rdPath,env,none,hl,?_⟩
  refine W_sound oRd_ok mixed _ _ _ _ _ ?_
  rw [hMbe]
  simp (maxSteps:=1000000) (disch:=omega) only [c91rb0,e2,e3,e6,hsl,orc_cons,hpol,List.replicate,bm2o,bm3o,hset2,hset3,go_sem]
  exact ⟨91,rdPath,env,.busy,none,hlast,wkv_same⟩
 ·have n2:∀ {i:Nat} {B:Blk},i≠M1.length+4→(Mb.set (S.length+1) (.cells [.i .i64 131] 0 none true))[i]? = some B→(((Mb.set (S.length+1) (.cells [.i .i64 131] 0 none true))++[Blk.cells Pol.zero.enc 0 none true]).set (M1.length+4) (.loop 91 rdPath env .done (some .ret)))[i]? = some B:=fun ha hB=>by
   rw [List.getElem?_set_ne (Ne.symm ha)];exact at_old hB
  exact ⟨ext_set (ext_more (ext_set (hS1.trans hMb) (by omega) _) _) (by omega) _,n2 (by omega) (by rw [List.getElem?_set_ne (by omega)];exact bm2),n2 (by omega) (at_set bm3),n2 (by omega) (by rw [List.getElem?_set_ne (by omega)];exact bd),at_set hlast⟩
theorem bnds_3 {q q' q2:IntKind} {len cap a b:Nat} (h:a≤b) (h2:b≤cap):bnds len cap (some (.i q (a:Int))) (some (.i q' (b:Int))) (some (.i q2 (b:Int)))=some (a,b,b):=by
 simp [bnds,bndV,natV,h,h2]
theorem part3_lst {α:Type} {E:Enc α} {S:Mem} {x:AV} {l:List α} (h:lstV E S x=some l) (ho:openQ S E.sz x=true) {q q' q2:IntKind} {a b:Nat} (hab:a<b) (hb:b≤l.length) :
  ∃ x',sliceV S E.sz x (some (.i q (a:Int))) (some (.i q' (b:Int))) (some (.i q2 (b:Int)))=some x'∧lstV E S x'=some ((l.drop a).take (b-a))∧openQ S E.sz x'=true:=by
 obtain ⟨i,o,v,cap,ex,rfl⟩:=lst_sl h (k:=0) (by omega)
 simp only [openQ,Bool.and_eq_true,decide_eq_true_eq,Bool.or_eq_true] at ho
 obtain ⟨hlc,ho⟩:=ho
 have hr:=(lstV_at h).2
 have hle:a * E.sz+(b-a) * E.sz≤l.length * E.sz:=by rw [←Nat.add_mul];exact Nat.mul_le_mul_right _ (by omega)
 have hr2:=row_part hr hle
 rw [flat_drop,flat_take] at hr2
 have hlen:((l.drop a).take (b-a)).length=b-a:=by rw [List.length_take,List.length_drop];omega
 simp only [sliceV,bnds_3 (Nat.le_of_lt hab) (Nat.le_trans hb hlc),Option.isSome_some,Bool.or_true,if_true]
 refine ⟨_,rfl,lst_lstV (.inr (.inr ⟨_,_,_,_,_,_,rfl,hlen,?_⟩)),by simp [openQ]⟩
 unfold cutAt
 rw [if_neg (by omega)];exact hr2
def chunkS:Spec:=fun args S=>match args with
 | [x,.i .i64 n]=>match lstV numE S x with
  | some _=>if 1≤n then some (.f (.func 121) [] [.p S.length 0 0,.p (S.length+1) 0 0],S++[.cells [x] 0 none true,.cells [.i .i64 n] 0 none true]) else none
  | none=>none
 | _=>none
theorem chunkS_eq {S:Mem} {x:AV} {l:List Int} (h:lstV numE S x=some l):chunkS [x,.i .i64 11] S=some (.f (.func 121) [] [.p S.length 0 0,.p (S.length+1) 0 0],S++[.cells [x] 0 none true,.cells [.i .i64 11] 0 none true]):=by
 simp only [chunkS,h]
 rw [if_pos (by omega)]
theorem chunk_ok:SpecOK Tryz.prog 111 chunkS:=by
 intro args S x S' h
 simp only [chunkS] at h
 split at h
 ·rename_i t n
  split at h
  ·rename_i l hl
   split at h
   ·rename_i hn
    cases h
    have hnI:¬ n<1:=by omega
    refine fn_of_wp f111 rfl (W_sound none_ok mixed _ _ _ _ _ ?_)
    simp (maxSteps:=1000000) (disch:=omega) only [c111,lst_cells hl,hnI,go_sem]
    exact wkv_same
   ·cases h
  ·cases h
 ·cases h
def chunkR (S M1:Mem) (p:Int) (r:List Int) (x1:AV) (env:Env):AV→Mem→Prop:=fun _ M =>
 (∃ es y,Jm S M1 p r x1 env (r.length / 11) es y M)∨(Jb S M1 env M∧Bk.ofNums (p :: r)=none)
theorem chunk1_ok {S M1 M3:Mem} {p:Int} {r:List Int} {x1:AV} {env:Env} (J0:Jm S M1 p r x1 env 0 [] .sn M3) (hS1:S <+: M1)
  (m2:M1[S.length]? = some (.cells [.i .u64 0,.sn] 0 none true)) (m3:M1[S.length+1]? = some (.cells [.i .i64 0] 0 none true))
  (e2:env.get 2 = .p S.length 0 0) (e3:env.get 3 = .p (S.length+1) 0 0) (e6:env.get 6 = .p M1.length 0 0)
  (hx:lstV numE M1 x1=some r) (hox:openQ M1 1 x1=true) (hr11:r.length % 11=0) (hur:∀ m∈r,u64 m) (hr:r.length≤128) :
  FnR Tryz.prog 121 [.y (M1.length+4),.p (M1.length+1) 0 0,.p (M1.length+2) 0 0] M3 (chunkR S M1 p r x1 env):=by
 refine fnR_of_wp f121 rfl (W_sound none_ok mixed _ _ _ _ _ ?_)
 simp (maxSteps:=1000000) (disch:=omega) only [c121,go_sem]
 refine wp_loop (fun j e M dl=>dl=[]∧∃ (k:Nat) (es:List Ent) (y:AV),j=r.length / 11-k∧k≤r.length / 11∧Jm S M1 p r x1 env k es y M ∧
  e.get 0 = .y (M1.length+4)∧e.get 1 = .p (M1.length+1) 0 0∧e.get 2 = .p (M1.length+2) 0 0∧e.get 4 = .i .i64 ((11 * k:Nat):Int)) (j:=r.length / 11)
  ⟨rfl,0,[],.sn,rfl,Nat.zero_le _,J0,rfl,rfl,rfl,rfl⟩ ?_
 rintro j e M d' ⟨rfl,k,es,y,rfl,hk,J,h0,h1,h2,h4⟩
 have hxM:=lst_ext hx J.hM
 have j1:=J.h1
 have j2:=J.h2
 by_cases hkm:k<r.length / 11
 ·have hk11:11 * k+11≤r.length:=by omega
  obtain ⟨t2,hs2,hlt2,_⟩:=drop_lst hx hox (q:=.i64) (a:=11 * k) (by omega)
  obtain ⟨t,hs,hlt,hot⟩:=part3_lst hx hox (q:=.i64) (q':=.i64) (q2:=.i64) (a:=11 * k) (b:=11 * k+11) (by omega) (by omega)
  rw [show 11 * k+11-11 * k=11 by omega] at hlt
  obtain ⟨T,hT⟩:=J.hM
  have hs2:sliceV M 1 x1 (some (.i .i64 ((11 * k:Nat):Int))) none none=some t2:=by rw [←hT];exact sliceV_grow T hs2
  have hs:sliceV M 1 x1 (some (.i .i64 ((11 * k:Nat):Int))) (some (.i .i64 ((11 * k+11:Nat):Int))) (some (.i .i64 ((11 * k+11:Nat):Int)))=some t:=by rw [←hT];exact sliceV_grow T hs
  have hkI:((11 * k:Nat):Int)<(r.length:Int):=by omega
  have hl2:=lst_len hlt2
  have hmin:min (11:Int) ((r.drop (11 * k)).length:Nat)=11:=by rw [List.length_drop];omega
  have hw:wrapV .i64 (((11 * k:Nat):Int)+11)=((11 * k+11:Nat):Int):=by rw [wrap_i64 (by omega) (by omega)];omega
  cases hq:Pol.of ((r.drop (11 * k)).take 10) with
  | none =>
   obtain ⟨M',hrd,JB⟩:=round_bad J hS1 m2 m3 e2 e3 e6 hlt hot hk11 hur hq
   refine W_sound (orcY_ok (l:=[]) (by simp) hrd) mixed _ _ _ _ _ ?_
   simp (maxSteps:=1000000) (disch:=omega) only [c121l1,h0,h1,h2,h4,j1,j2,lst_len hxM,hkI,hs2,hl2,hmin,hw,hs,orcY_y,go_sem]
   exact .inr ⟨JB,entsAt_none J.he hk11 hq⟩
  | some q =>
   obtain ⟨g,y',M',hrd,J'⟩:=round_good J e2 e3 e6 hlt hot hk11 hur hr hq
   have k2:=J'.h2
   refine W_sound (orcY_ok (l:=[]) (by simp) hrd) mixed _ _ _ _ _ ?_
   simp (maxSteps:=1000000) (disch:=omega) only [c121l1,h0,h1,h2,h4,j1,j2,lst_len hxM,hkI,hs2,hl2,hmin,hw,hs,orcY_y,k2,go_sem]
   exact ⟨r.length / 11-(k+1),by omega,k+1,_,y',rfl,by omega,J',rfl⟩
 ·have hkI:¬ ((11 * k:Nat):Int)<(r.length:Int):=by omega
  obtain rfl:k=r.length / 11:=by omega
  refine W_sound none_ok mixed _ _ _ _ _ ?_
  simp (maxSteps:=1000000) (disch:=omega) only [c121l1,h0,h1,h2,h4,j1,j2,lst_len hxM,hkI,go_sem]
  exact .inl ⟨es,y,J⟩
theorem ofNums_mod {l:List Int} (h:l.length % 11≠1):Bk.ofNums l=none:=by
 cases l with
 | nil=>rfl
 | cons p r=>exact ofNums_odd (by rw [List.length_cons] at h;omega)
structure Jx (S M1:Mem) (p:Int) (es:List Ent) (y:AV) (M:Mem):Prop where
 hS:S <+: M
 h2:M[S.length]? = some (.cells [.i .u64 0,.sn] 0 none true)
 h3:M[S.length+1]? = some (.cells [.i .i64 0] 0 none true)
 hB:M[M1.length]? = some (.cells [.i .u64 p,y] 0 none true)
 hd:M[M1.length+3]? = some (.dfr true)
 hA:Acc false entE S M y es
theorem jm_end {S M1 M:Mem} {p:Int} {r:List Int} {x1:AV} {env:Env} {k:Nat} {es:List Ent} {y:AV} (J:Jm S M1 p r x1 env k es y M) (hS1:S <+: M1)
  (m2:M1[S.length]? = some (.cells [.i .u64 0,.sn] 0 none true)) (m3:M1[S.length+1]? = some (.cells [.i .i64 0] 0 none true)) (B:Blk):Jx S M1 p es y (M.set (M1.length+4) B):=by
 have hl:=(List.getElem?_eq_some_iff.1 m3).1
 have st:∀ {i:Nat} {B':Blk},i≠M1.length+4→M[i]? = some B'→(M.set (M1.length+4) B)[i]? = some B':=fun hi hB=>by rw [List.getElem?_set_ne (Ne.symm hi)];exact hB
 exact ⟨hS1.trans (ext_set J.hM (by omega) _),st (by omega) (at_pre J.hM m2),st (by omega) (at_pre J.hM m3),st (by omega) J.hB,st (by omega) J.hd,(J.hA.setB (by omega) J.hl rfl B).base hS1⟩
structure Jy (S M1:Mem) (M:Mem):Prop where
 hS:S <+: M
 h2:M[S.length]? = some (.cells [.i .u64 0,.sn] 0 none true)
 h3:M[S.length+1]? = some (.cells [.i .i64 131] 0 none true)
 hd:M[M1.length+3]? = some (.dfr true)
theorem jb_end {S M1 M:Mem} {env:Env} (J:Jb S M1 env M) (hl:S.length+1<M1.length) (B:Blk):Jy S M1 (M.set (M1.length+4) B):=by
 have st:∀ {i:Nat} {B':Blk},i≠M1.length+4→M[i]? = some B'→(M.set (M1.length+4) B)[i]? = some B':=fun hi hB=>by rw [List.getElem?_set_ne (Ne.symm hi)];exact hB
 exact ⟨ext_set J.hS (by omega) _,st (by omega) J.h2,st (by omega) J.h3,st (by omega) J.hd⟩
theorem of_ns {p:Pol} (hg:p.good) (hr:p.right):Pol.of p.ns=some p:=by
 obtain ⟨_,⟨ha,hb,hc,hd⟩,_⟩:=hg
 have hn:=u32_num ha hb hc hd
 unfold u32 at hn
 obtain ⟨sub,a,b,c,d,bits,rate,burst,srate,sburst,quota,lease,quantum⟩:=p
 simp only at ha hb hc hd hn
 unfold u8 at ha hb hc hd
 have e3:b3 (num a b c d)=a:=by unfold b3 num;omega
 have e2:b2 (num a b c d)=b:=by unfold b2 num;omega
 have e1:b1 (num a b c d)=c:=by unfold b1 num;omega
 have e0:b0 (num a b c d)=d:=by unfold b0 num;omega
 have hm:Pol.mk10 sub (num a b c d) bits rate burst srate sburst quota lease quantum=⟨sub,a,b,c,d,bits,rate,burst,srate,sburst,quota,lease,quantum⟩:=by
  unfold Pol.mk10;rw [e3,e2,e1,e0]
 simp only [Pol.ns,Pol.of,hm]
 rw [if_pos ⟨hn.2,hr⟩]
theorem ns_of {l:List Int} {p:Pol} (hu:∀ n∈l,u64 n) (h:Pol.of l=some p):p.ns=l:=by
 unfold Pol.of at h
 split at h
 ·rename_i s n b r bu sr sb q le qu
  split at h
  ·rename_i hc
   injection h with h;subst h
   have hn:=hu n (by simp)
   have:num (b3 n) (b2 n) (b1 n) (b0 n)=n:=by unfold num b3 b2 b1 b0;have:=hn.1;omega
   simp only [Pol.ns,Pol.mk10,this]
  ·cases h
 ·cases h
theorem pns_len (p:Pol):p.ns.length=10:=rfl
theorem entsN_ns:∀ (l:List Ent),(∀ x∈l,x.good)→(∀ x∈l,x.pol.right)→entsN l.length (entNs l)=some l
 | [],_,_=>rfl
 | x :: l,hg,hr=>by
  have e:entNs (x :: l)=x.pol.ns++x.granted :: entNs l:=by unfold entNs;rw [List.flatMap_cons,List.append_assoc];rfl
  have h1:(entNs (x :: l)).take 10=x.pol.ns:=by rw [e,List.take_append_of_le_length (by rw [pns_len];omega),List.take_of_length_le (by rw [pns_len];omega)]
  have h2:(entNs (x :: l)).drop 11=entNs l:=by rw [e,List.drop_append,List.drop_of_length_le (by rw [pns_len];omega),pns_len];rfl
  have h3:(entNs (x :: l)).getD 10 0=x.granted:=by
   rw [e,List.getD_eq_getElem?_getD,List.getElem?_append_right (by rw [pns_len];omega),pns_len];rfl
  rw [List.length_cons,entsN_some (p:=x.pol) (by rw [h1];exact of_ns (hg x (by simp)).1 (hr x (by simp))),h2,h3,entsN_ns l (fun y hy=>hg y (by simp [hy])) (fun y hy=>hr y (by simp [hy]))]
  rfl
theorem ns_entsN:∀ (n:Nat) (r:List Int) (es:List Ent),(∀ m∈r,u64 m)→r.length=11 * n→entsN n r=some es→entNs es=r
 | 0,r,es,_,hl,h=>by
  obtain rfl:r=[]:=List.eq_nil_of_length_eq_zero (by omega)
  cases h;rfl
 | n+1,r,es,hu,hl,h=>by
  simp only [entsN] at h
  split at h
  ·rename_i p hp
   obtain ⟨es',he,rfl⟩:=Option.map_eq_some_iff.1 h
   have h1:=ns_entsN n _ es' (fun m hm=>hu m (List.mem_of_mem_drop hm)) (by rw [List.length_drop];omega) he
   have h2:=ns_of (fun m hm=>hu m (List.mem_of_mem_take hm)) hp
   have e:entNs (⟨p,r.getD 10 0⟩ :: es')=p.ns++(r.getD 10 0 :: entNs es'):=by unfold entNs;rw [List.flatMap_cons,List.append_assoc];rfl
   rw [e,h1,h2]
   have h10:10<r.length:=by omega
   rw [List.getD_eq_getElem?_getD,List.getElem?_eq_getElem h10,Option.getD_some,←List.drop_eq_getElem_cons h10,List.take_append_drop]
  ·cases h
theorem okR {b:Bk} (ho:b.ok):∀ x∈b.entries,x.pol.right:=by
 intro x hx
 obtain ⟨i,hi,rfl⟩:=List.getElem_of_mem hx
 have:=(ho.2.2.1.2 i (by unfold polsOf;simpa using hi) (by unfold polsOf;simpa using hi)).1
 simpa [polsOf] using this
theorem okL {b:Bk} (ho:b.ok):b.entries.length≤8:=by
 have:=ho.2.2.1.1
 unfold polsOf at this
 simpa using this
theorem read_bytes {b:Bk} (hg:b.good) (ho:b.ok):Bk.read (lebs b.ns)=some b:=by
 have h8:=okL ho
 have hl:=entNs_len b.entries
 unfold Bk.read
 rw [unlebs_lebs (bns_u64 hg ho) (by unfold Bk.ns;rw [List.length_cons,hl];omega)]
 simp only [Bk.ns,Bk.ofNums]
 rw [if_pos (by omega),show (entNs b.entries).length / 11=b.entries.length by omega,entsN_ns _ hg.2.2 (okR ho)]
 simp only [Bk.fin]
 rw [if_pos ho]
theorem bytes_read {d:List Int} {b:Bk} (hu:∀ c∈d,u8 c) (h:Bk.read d=some b):b.ok∧b.good∧lebs b.ns=d:=by
 unfold Bk.read at h
 cases hun:unlebs d with
 | none=>rw [hun] at h;cases h
 | some l =>
  rw [hun] at h
  obtain ⟨hlb,hlu,h128⟩:=lebs_unlebs hu hun
  cases l with
  | nil=>cases h
  | cons p r =>
   have hur:∀ m∈r,u64 m:=fun m hm=>hlu m (by simp [hm])
   simp only [Bk.ofNums] at h
   split at h
   ·rename_i h11
    cases he:entsN (r.length / 11) r with
    | none=>rw [he] at h;cases h
    | some es =>
     rw [he] at h
     simp only [Bk.fin] at h
     split at h
     ·rename_i hok
      cases h
      obtain ⟨h1,h2⟩:=entsN_good _ _ _ hur he
      refine ⟨hok,⟨hlu p (by simp),by rw [List.length_cons] at h128;simp only;omega,h2⟩,?_⟩
      unfold Bk.ns
      rw [ns_entsN _ r es hur (by omega) he]
      exact hlb
     ·cases h
   ·cases h
theorem lebs_app (l m:List Int):lebs (l++m)=lebs l++lebs m:=by unfold lebs;rw [List.flatMap_append]
theorem leb7 {n:Int} (h:n≤281474976710656):(leb n).length≤7:=leb_len 6 n (by show n<128 * 4398046511104;omega)
theorem bytes_len {b:Bk} (hg:b.good) (ho:b.ok):(lebs b.ns).length≤600:=by
 have h8:=okL ho
 have hr:=okR ho
 have h48:∀ x∈b.entries,x.granted≤281474976710656:=ho.2.2.2
 have hp:=leb7 ho.2.1
 have key:∀ l:List Ent,(∀ x∈l,x.good)→(∀ x∈l,x.pol.right)→(∀ x∈l,x.granted≤281474976710656)→(lebs (entNs l)).length≤64 * l.length:=by
  intro l
  induction l with
  | nil=>intro _ _ _;simp [entNs,lebs]
  | cons x l ih =>
   intro h1 h2 h3
   have ih:=ih (fun y hy=>h1 y (by simp [hy])) (fun y hy=>h2 y (by simp [hy])) (fun y hy=>h3 y (by simp [hy]))
   have e:entNs (x :: l)=(x.pol.ns++[x.granted])++entNs l:=by unfold entNs;rw [List.flatMap_cons]
   have hx:=h2 x (by simp)
   have hxg:=(h1 x (by simp)).1
   obtain ⟨_,⟨ha,hb,hc,hd⟩,_⟩:=hxg
   have hn:=u32_num ha hb hc hd
   unfold u32 at hn
   have hbits:=cl_bound x.pol.bits
   have hb2:=hx.2.2.1.1
   have n1:=leb_len 1 x.pol.sub (by have:=hx.2.1;show _<128 * 128;omega)
   have n2:=leb_len 4 (num x.pol.a x.pol.b x.pol.c x.pol.d) (by show _<128 * 268435456;omega)
   have n3:=leb_len 0 x.pol.bits (by show _<128 * 1;omega)
   have hnum:=hx.2.2.2.1
   unfold Pol.nums at hnum
   have n4:=leb7 (hnum x.pol.rate (by simp))
   have n5:=leb7 (hnum x.pol.burst (by simp))
   have n6:=leb7 (hnum x.pol.srate (by simp))
   have n7:=leb7 (hnum x.pol.sburst (by simp))
   have n8:=leb7 (hnum x.pol.quota (by simp))
   have n9:=leb7 (hnum x.pol.lease (by simp))
   have n10:=leb7 (hnum x.pol.quantum (by simp))
   have n11:=leb7 (h3 x (by simp))
   rw [e,lebs_app,lebs_app,List.length_append,List.length_append,List.length_cons]
   have hns:(lebs x.pol.ns).length≤57:=by
    unfold lebs Pol.ns
    simp only [List.flatMap_cons,List.flatMap_nil,List.length_append,List.length_nil]
    omega
   have hg1:(lebs [x.granted]).length≤7:=by
    unfold lebs
    simp only [List.flatMap_cons,List.flatMap_nil,List.length_append,List.length_nil]
    omega
   omega
 have:=key b.entries hg.2.2 hr h48
 unfold Bk.ns
 have e:lebs (b.period :: entNs b.entries)=leb b.period++lebs (entNs b.entries):=by unfold lebs;rw [List.flatMap_cons]
 rw [e,List.length_append]
 omega
end Go.Proofs.YtkfobkfhbkicaaaGreat
