/- A part of the proof about CompileMain. No condition. -/
import Derived.WalkKit
import Derived.TacticsIn
import Derived.TacticsInMore
import Derived.Deep.Quiet
import Derived.Laws.AppendOwn
import Derived.Laws.MakeOwn
import Derived.Laws.Cover3
import Derived.Laws.Pointers
import Derived.LaidEqlPtr
import Derived.KernelRfl
import Derived.LoopN
import Derived.Laws.CopyRow
import Derived.MapKept
import Derived.Laws.BytesArg
import Derived.ChangeArms
import Derived.WideShapes
import Derived.OpenShut
set_option maxRecDepth 100000
set_option maxHeartbeats 8000000
set_option linter.unusedSimpArgs false
set_option linter.unusedVariables false
set_option linter.defProp false
open List
open Bool renaming false->af,true->W
open Decidable renaming decide->ah
open Go renaming Act->dF,Code->dJ,Exit->iG,Func->hC,FuncId->bI,Op->gC,Oper->dU,Operand->gK,Program->aH,ResultVar->lC,TypeId->a6,Value->aN,World->a8,execOp->eI,maxLen->aE,run_underlying->fJ,undef->eX,wpList->lF
open Go.IntKind renaming i64->cb
open Go.IntWalk renaming i64_in->dE
open Go.Result renaming andThen_ok->il
open Go.Sem renaming run_bind->gr
open List renaming flatten->ao,length->A,range->cz,replicate->fu,take->Y
open Option renaming none->Q,some->E
open Or renaming inl->aG,inr->aj
namespace Go
universe u
def C {α:Sort u} {a:α}:a=a:=rfl
end Go
namespace Go
def wc:=@Array.ext'
def kQ:=@Array.getD_eq_getD_getElem?
def xS:=@Array.getElem?_append_left
def CS:=@Array.getElem?_append_right
def Mr:=@Array.getElem?_eq_getElem
def Xa:=@Array.getElem?_eq_none
def nO:=@Array.getElem?_eq_some_iff
def CT:=@Array.getElem?_toList
def we:=@Array.length_toList
def Ms:=@Array.replicate_succ
def Mt:=@Array.replicate_zero
def uH:=@Array.size_append
def wg:=@Bool.and_eq_false_iff
def cy:=@Bool.and_eq_true
def CU:=@Bool.and_false
def xT:=@Bool.and_true
def Mu:=@Bool.decide_and
def Hb:=@Bool.eq_false_iff
def oi:=@Bool.eq_iff_iff
def wh:=@Bool.false_and
def Af:=@Bool.false_eq_true
def uI:=@Bool.false_or
def Mw:=@Bool.not_eq_false'
def oV:=@Bool.not_eq_true'
def CV:=@Bool.not_false
def wi:=@Bool.not_true
def xU:=@Bool.or_eq_false_iff
def tm:=@Bool.or_eq_true
def Mx:=@Bool.or_false
def kf:=@Bool.true_and
def My:=@Classical.byContradiction
def cQ:=@Eq.trans
def Ah:=@Function.comp_apply
def CW:=@Function.comp_def
def sj:=@Iff.rfl
def sk:=@Int.add_zero
def sm:=@Int.le_refl
def sn:=@Int.lt_irrefl
def Mz:=@Int.natCast_add
def MA:=@Int.natCast_zero
def q_:=@Int.toNat_natCast
def CX:=@Int.toNat_zero
def MC:=@List.Perm.append_left
def Hc:=@List.Perm.refl
def Ai:=@all_append
def Aj:=@all_cons
def en:=@all_eq_true
def Ak:=@all_nil
def xV:=@any_cons
def wj:=@any_eq_false
def m':=@any_eq_true
def dy:=@append_assoc
def de:=@append_nil
def MD:=@append_toArray
def Al:=@List.cons.injEq
def bg:=@cons_append
def Hd:=@count_append
def He:=@count_cons
def ml:=@drop_eq_getElem_cons
def Hf:=@drop_length
def ME:=@drop_of_length_le
def MF:=@drop_succ_cons
def ra:=@drop_zero
def lX:=@ext_getElem
def CY:=@ext_getElem?
def MG:=@filterMap_cons
def Hg:=@filter_append
def xW:=@filter_cons
def CZ:=@find?_eq_none
def Hh:=@findIdx_append
def wk:=@findIdx_cons
def Hi:=@findIdx_lt_length
def MH:=@flatMap_append
def tq:=@flatMap_cons
def eR:=@flatten_append
def dT:=@flatten_cons
def fX:=@flatten_nil
def Am:=@flatten_singleton
def so:=@foldl_append
def oj:=@foldl_cons
def pH:=@forall_mem_append
def bM:=@forall_mem_cons
def MI:=@getD_cons_succ
def C0:=@getD_cons_zero
def xX:=@getD_eq_getElem?_getD
def lY:=@getElem?_append_left
def kR:=@getElem?_append_right
def xY:=@getElem?_cons_succ
def MJ:=@getElem?_cons_zero
def An:=@getElem?_drop
def bL:=@getElem?_eq_getElem
def sq:=@getElem?_eq_none
def dX:=@List.getElem?_eq_some_iff
def fP:=@getElem?_map
def xZ:=@getElem?_range
def MK:=@getElem?_set_ne
def C4:=@getElem?_set_self
def wl:=@getElem?_take
def C5:=@getElem?_toArray
def ML:=@getElem?_zip_eq_some
def tt:=@getElem_append_left
def C6:=@getElem_append_right
def jm:=@getElem_cons_succ
def fA:=@getElem_cons_zero
def sr:=@getElem_drop
def fk:=@getElem_map
def wo:=@getElem_mapIdx
def aD:=@getElem_mem
def C7:=@getElem_of_eq
def ec:=@getElem_of_mem
def Ao:=@getElem_range
def MM:=@getElem_reverse
def C8:=@head?_cons
def mn:=@head?_drop
def tu:=@headD_cons
def b9:=@length_append
def dC:=@length_cons
def C9:=@length_drop
def kw:=@List.length_eq_one_iff
def pI:=@length_eq_zero_iff
def qi:=@length_filter_le
def x0:=@length_flatten
def bE:=@length_map
def gR:=@length_nil
def uJ:=@List.length_pos_iff
def ss:=@length_replicate
def MN:=@length_reverse
def oW:=@length_singleton
def ij:=@length_take
def C':=@length_zip
def om:=@mapM_cons
def bX:=@map_append
def jn:=@map_congr_left
def b4:=@map_cons
def Hj:=@map_fst_zip
def eu:=@map_map
def eO:=@map_nil
def uK:=@map_reverse
def su:=@map_take
def ca:=@mem_append
def gf:=@mem_append_left
def gq:=@mem_append_right
def cF:=@mem_cons
def mo:=@mem_cons_of_mem
def MO:=@mem_cons_self
def nP:=@mem_filter
def C_:=@List.mem_filterMap
def Da:=@mem_flatMap
def eL:=@mem_flatten
def wq:=@mem_iff_getElem
def jg:=@List.mem_iff_getElem?
def aP:=@mem_map
def Hk:=@mem_map_of_mem
def x7:=@mem_of_find?_eq_some
def fE:=@mem_of_getElem?
def uL:=@mem_of_mem_drop
def tv:=@mem_of_mem_take
def oo:=@mem_range
def MP:=@mem_replicate
def dg:=@mem_singleton
def Hl:=@mergeSort_perm
def aY:=@nil_append
def iQ:=@nodup_append
def lg:=@nodup_cons
def MQ:=@not_all_eq_any_not
def dt:=@not_mem_nil
def x8:=@pairwise_append
def Db:=@pairwise_cons
def wt:=@pairwise_iff_getElem
def Aq:=@pairwise_map
def MR:=@pairwise_mergeSort
def MS:=@perm_ext_iff_of_nodup
def wu:=@perm_middle
def wv:=@range_succ
def Ar:=@range_succ_eq_map
def As:=@replicate_succ
def Dc:=@replicate_succ'
def Au:=@reverse_append
def Dd:=@set_append_right
def De:=@set_cons_succ
def Df:=@set_cons_zero
def Xc:=@set_eq_take_append_cons_drop
def fl:=@sizeOf_lt_of_mem
def tw:=@size_toArray
def tx:=@sum_append
def kS:=@sum_cons
def qj:=@take_append_drop
def cc:=@take_length
def dj:=@take_of_length_le
def jz:=@take_succ_cons
def dm:=@take_succ_eq_append_getElem
def ww:=@take_zero
def rb:=@zip_cons_cons
def re:=@zip_nil_right
def jA:=@Nat.add_assoc
def tA:=@Nat.add_comm
def sv:=@Nat.add_mul
def oX:=@Nat.add_zero
def MT:=@Nat.le_mul_of_pos_right
def x9:=@Nat.le_of_eq
def bJ:=@Nat.le_refl
def oq:=@Nat.le_succ
def gS:=@Nat.le_trans
def iR:=@Nat.lt_of_lt_of_le
def Hm:=@Nat.lt_or_ge
def Hn:=@Nat.lt_trichotomy
def wx:=@Nat.min_eq_left
def MU:=@Nat.mod_eq_of_lt
def Av:=@Nat.mod_lt
def Ho:=@Nat.mul_comm
def wy:=@Nat.mul_le_mul_right
def h_:=@Nat.mul_one
def x_:=@Nat.not_lt_zero
def pJ:=@Nat.sub_self
def ya:=@Nat.succ_pos
def ew:=@Nat.zero_add
def kT:=@Nat.zero_le
def uM:=@Ne.symm
def Dg:=@Option.bind_eq_bind
def kU:=@Option.bind_eq_some_iff
def mq:=@Option.bind_some
def MV:=@Option.getD_none
def kx:=@Option.getD_some
def sx:=@Option.isSome_iff_exists
def Dh:=@Option.isSome_none
def oY:=@Option.isSome_some
def jP:=@Option.map_eq_some_iff
def Hp:=@Option.map_map
def Di:=@Option.map_none
def eE:=@Option.map_some
def MW:=@Option.mem_toList
def oZ:=@Option.none_or
def Dj:=@Option.pure_def
def Aw:=@Option.some.inj
def eH:=@Option.some.injEq
def Dk:=@Option.some_or
def MX:=@Option.toList_some
def yb:=@Prod.mk.inj
def Hq:=@Prod.mk.injEq
def Dl:=@and_assoc
def kV:=@and_self
def i':=@and_true
def ot:=@beq_iff_eq
def tB:=@beq_self_eq_true
def uN:=@bne_self_eq_false
def eo:=@congrArg
def Ax:=@congrFun
def lD:=@decide_eq_decide
def bW:=@decide_eq_false
def jo:=@decide_eq_false_iff_not
def b_:=@decide_eq_true
def ee:=@decide_eq_true_eq
def mw:=@decide_false
def rh:=@decide_true
def lE:=@eq_self
def dM:=@eq_true
def hU:=@false_implies
def Dm:=@false_or
def kg:=@forall_eq
def ri:=@forall_eq_or_imp
def bT:=@if_false
def aC:=@if_neg
def aM:=@if_pos
def bx:=@if_true
def im:=@implies_true
def dG:=@ne_eq
def dv:=@not_false_eq_true
def lh:=@not_or
def Hr:=@of_decide_eq_true
def Dn:=@or_congr
def gD:=@or_false
def rj:=@true_and
def yc:=@true_implies
def Ay:=@true_or
end Go
namespace Go.Fw
noncomputable section
section
variable{p:Prop}
def Z1(h:p:=by
 have abl:=abj q bw;have By:=ug q bw;rw[qq,<-S0 q bw]at By;have:=aa6 q;refine(bQ<|JJ xb<|JJ e1<|JJ e2<|JJ JN<|jx (f:=Nd.d) bw)<|fx (λhb=>?_) λhb=>?_
 .have Br:cW k n ns q≠[]:=by intro e;simp[e]at hb
  have hv:oT k n ns vars bs q=vars++bs:=by unfold oT;rw[aC Br]
  rw[hv]at By;refine(ZN)<|lq [0,2,3,4,5,1,6,7] [] [] ?_;have:=YO vars jC;refine(bQ<|JJ e1 e2) ?_;have ho:=Cy Bi.one<|vars++bs;rw[r9,eR]at ho;have aa5:0<bs.length:=uJ.2<|SQ q Br;rcases Kf:au Bi.d bs with _|⟨r0,rs⟩
  .exact absurd (by simpa[au]using Kf)<|SQ q Br
  refine(ad<|fg Bi.d vars) ?_;have Bq:=eo A Kf;rw[fg,dC]at Bq;simp only[<-Kf,<-Bq];refine⟨⟨ho,aa5,Zo,by unfold aE;omega⟩,GK.nY [178] 18 (dK<|vars++bs) (by simp only[aw,bx,bT,bj];exact Fz.aq (ob:=⟨_,211,1,(au Bi.d vars).flatten++(au Bi.d bs).flatten,Q⟩) (by simp only[b5,dg,bx,bN]) C C Zd (by simp[au]) (ha _) (by rw[r9,eR]) (by simp only[au,aP];rintro r⟨y,_,rfl⟩d hd;simp at hd;subst hd;exact Bi.cl y)) (rC _) ?_⟩;simp only[e0,dK,go_sem];refine .inr<|.inr (By _ _ _ (λt ht=>?_) λn5 r hr aa7=>?_)
  .obtain⟨z1,z2,z3,z4,z5,z6⟩:=qI t ht;simp[aT,z4,ai,ph t ht]
  obtain⟨HB,SM⟩:∃HB,HB=aT [178] (ai (ai H 178 Q) 178 (E ⟨n' 178,211,1,(au Bi.d vars).flatten++(au Bi.d bs).flatten,Q⟩)):=⟨_,C⟩;have Fi:∀t,t≠178->HB t=H t:=λt z=>by rw[SM];simp[aT,z,ai]
  have aa3:=(Fi 6 Zd).trans h6;have aa2:=(Fi 12 Zd).trans rN;have SN:∀t∈LL,HB t=H0 t:=λt ht=>by
   obtain⟨z1,z2,z3,z4,z5,z6⟩:=qI t ht;rw[Fi t z4,ph t ht]
  have s8:aL [185] HB 114 5 (tl.map bo) W4:=hx.aA<|Yr Fi;rw[<-SM];obtain⟨⟨⟨ck,cv,cd,yR⟩,vk⟩,rfl,Fx⟩:=hr;simp only[wY,bo,go_sem];refine GK.cM (eC.eS (S:=[185]) (aq:=tl.map bo) (bD:=[bo ⟨.mk ck cv cd yR,vk⟩]) lM (by simp only[aw,bx,bT,bj];exact s8.aA bF) (qd _) (by simp[aw,dS,ai,bo,O.ds,bm]) Zs (Yq<|zU ⟨.mk ck cv cd yR,vk⟩) (by rw[bE,BE];show(q+1)*88<=_;omega) (by rw[bE,BE];show q+1<=aE;unfold aE;omega) λH6 n6 x6 S3 zb=>?_);have g6:=zb 6 Zd Zd;have g12:=zb 12 Zd Zd;simp only[a_,dG,bj,dv,aa3,aa2]at g6 g12;exact NA
 have Br:cW k n ns q=[]:=by simpa using hb
 have hv:oT k n ns vars bs q=vars:=by unfold oT;rw[aM Br]
 rw[hv]at By;refine(ZN) ?_;refine GK.cM ?_;simp only[e0,dK,go_sem];refine .inr<|.inr (By _ _ _ ph λn5 r hr aa7=>?_);have SN:=ph;obtain⟨⟨⟨ck,cv,cd,yR⟩,vk⟩,rfl,Fx⟩:=hr;simp only[wY,bo,go_sem];refine GK.cM (eC.eS (S:=[185]) (aq:=tl.map bo) (bD:=[bo ⟨.mk ck cv cd yR,vk⟩]) lM (by simp only[aw,bx,bT,bj];exact hx.aA bF) (qd _) (by simp[aw,dS,ai,bo,O.ds,bm]) Zs (Yq<|zU ⟨.mk ck cv cd yR,vk⟩) (by rw[bE,BE];show(q+1)*88<=_;omega) (by rw[bE,BE];show q+1<=aE;unfold aE;omega) λH6 n6 x6 S3 zb=>?_);have g6:=zb 6 Zd Zd;have g12:=zb 12 Zd Zd;simp only[a_,dG,bj,dv,h6,rN]at g6 g12;exact NA):=h
def Z2(h:p:=by
 refine(ad<|JJ g2 z2) ?_;by_cases d1:nm=nE
 case neg=>
  exact NL
 have g1:(nm.toList==(⟨#[]⟩:BA).toList)=W:=(Pe)<|b_ d1;refine(ad g1)<|jH 7 ks.length (λk=>Fw.Inv 66 [(2,.cp [I k0,S nm,.sl 3<|J.ab ks]),(1,I a),(6,I ((1+J.aZ (ks.take k):Nat):Int))]<|(ks.take k).all fY=W/\((1+J.cX (ks.take k):Nat):Int)<=a) C ⟨C,NH,?_⟩ ?_
 .simp[J.cX];omega
 rintro k⟨env,H,n,nt,T⟩hk h5⟨rfl,mK,hp,BD⟩;simp only[bM]at h5 mK;obtain⟨e0,e1,e2,-⟩:=mK;refine dN (JJ h5 e0) (λbw=>?_) λh=>?_
 .have vw:=J.bP ks[k];have s7:Y 3 ks[k].ds=ks[k].ds:=dj Zo;have w1:cb.wrap (a-1)=a-1:=dE _ Zo;have:=lP ks[k] (aD bw) (a-1) Zo Zo;refine(bQ<|JJ h5<|JJ e0<|JJ e1<|JJ (J.bV ks k bw)<|JJ w1<|JJ vw s7) ?_;have Bu:=J.p6 ks<|k+1;rw[J.jY ks k bw]at Bu;have J9:=J.t_ ks<|k+1;rw[J.mH ks k bw]at J9;by_cases hq:fY ks[k]=W/\(ks[k].cC:Int)<=a-1
  .have hr:mY ks[k] (a-1)=ks[k].num:=by unfold mY;rw[aM hq]
   have xh:decide ((ks[k].num:Int)<0)=af:=Zs;have w3:=wrap_add (1+J.aZ (ks.take k)) ks[k].num Zo;have m2:1+J.aZ (ks.take k)+ks[k].num=1+J.aZ (ks.take<|k+1):=Yv<|J.jY ks k bw;simp only[hr,xh,h5,e2,w3,go_sem];exact NG
  have hr:mY ks[k] (a-1)=-1:=by unfold mY;rw[aC hq]
  have xh:decide ((-1:Int)<0)=W:=C;refine(ad<|JJ hr xh) ?_;apply Fz.di;unfold mY;exact Zg
 exact NP):=h
def Z3(h:p:=by
 refine lp 34 ks.length [1,3,32,33] (λj env H n' T=>T=T0/\aL [2,47] H 9 1 (R<|gW k n ns (ks.take j) 0 sc out) (env 2)) ⟨C,by simpa[aw,ej,gW]using hx.sub Zs⟩ ?_;rintro j env H n' T _ hj⟨rfl,hx⟩;generalize e2:env 2=y;rw[e2]at hx;refine ZL (λbw=>?_) λh=>?_
 .have rR:=aD bw;have vw:=L.bP ks[j];have s7:Y 8 ks[j].ds=ks[j].ds:=dj Zo;have S1:(ks[j].ds).all cO=W:=Zg;have rU:=L.gz rR;have J':=y' k n ns (ks.take j) 0 sc out;have Ke:=L.jY ks j bw;have qI:=L.p6 ks<|j+1;have Bt:=I6 k v n tk tn aQ ns ks j;have Bv:=RN [sc,cW k n ns j] Zs Zg;have ug:=lP ks[j] rR (sc++cW k n ns j) (gW k n ns (ks.take j) 0 sc out) Zg Zo;exact Nz
 exact H7):=h
def Z4(h:p:=by
 have hL:ct kk l=l:=by rw[<-uh];simp[ct]
 have hK i:cU V ds kk n (.mk tk tn aQ) ns ks e l i=e:=by rw[<-uh];simp[cU,eB]
 have k5:fy V ds (.mk kk v n (.mk tk tn aQ) ns ks) e l↔∀(i:Nat)(h:i<ks.length),fy V ds ks[i] e l:=by
  rw[<-uh]at hL hK⊢;rw[k5];simp[hK,hL]
 have Kc:∀(j:Nat)(hj:j<ks.length),¬fy V ds ks[j] e l->¬fy V ds (.mk kk v n (.mk tk tn aQ) ns ks) e l:=λj hj q w=>q<|k5.1 w j hj;obtain⟨TD,Bn⟩:∃x,D.cp [I kk,I v,S n,I tk,S tn,.sl 3 (J.ab aQ),.sl 1 (ns.map λs=>[S s]),.sl 8 (L.ab ks)]=x:=⟨_,C⟩;subst uh;simp only[hK,hL,iM]at ih;refine(dH)<|jH 17 ks.length (λj=>Fw.Inv 228 [(0,.cp [.sl 2<|ae.ab V,.sl 12<|aa.ab ds]),(1,TD),(3,I l),(6,.cp [E1,E2,E3])] (∀(i:Nat)(h:i<ks.length),i<j->fy V ds ks[i] e l)) C ⟨C,by simp[ej,aw,Bn],Zs⟩ ?_;rintro j⟨env,H,n',nt,T⟩hj Fh⟨rfl,mK,oE⟩;subst Bn;simp only[bM]at Fh mK;obtain⟨e0,e1,e3,e6,-⟩:=mK;simp only[Fh,e1,go_sem];refine fx (λh=>?_) λh=>?_
 .have bw:=rv h;have g0:=L.bV ks j bw;have qK:=ih j bw;have kc:=L.cl ks[j];have pn:fy V ds ks[j] e l->∀(i:Nat)(h:i<ks.length),i<j+1->fy V ds ks[i] e l:=λq i h hi=>H_;have rS:=Kc j bw;generalize ks[j]=c at g0 qK kc pn rS;have⟨qk,qv,qn,⟨jL,jN,jM⟩,jK,jJ⟩:=c;simp only[L.ds,J.ds,bG,bg,aY,ae.sl,aa.sl]at g0 qK kc;simp only[e1,go_sem];refine fB ?_;simp only[Fh,e0,e3,e6,g0,go_sem];refine fB<|nV qK ?_;by_cases q:fy V ds (.mk qk qv qn (.mk jL jN jM) jK jJ) e l
  .simp only[b_ q,Fh,go_sem];exact nM ⟨C,by simp[aw,e0,e1,e3,e6],pn q⟩
  exact DB
 exact H8):=h
def Z5(h:p:=by
 have hL:ct kk l=l:=by rw[<-uh];simp[ct]
 have hK i:cU V ds kk n (.mk tk tn aQ) ns ks e l i=e:=by rw[<-uh];simp[cU,eB]
 have k5:gy V ds (.mk kk v n (.mk tk tn aQ) ns ks) e l↔∀(i:Nat)(h:i<ks.length),gy V ds ks[i] e l:=by
  rw[<-uh]at hL hK⊢;rw[k5];simp[hK,hL,c8]
 have Kc:∀(j:Nat)(hj:j<ks.length),¬gy V ds ks[j] e l->¬gy V ds (.mk kk v n (.mk tk tn aQ) ns ks) e l:=λj hj q w=>q<|k5.1 w j hj;obtain⟨TD,Bn⟩:∃x,D.cp [I kk,I v,S n,I tk,S tn,.sl 3 (J.ab aQ),.sl 1 (ns.map λs=>[S s]),.sl 8 (L.ab ks)]=x:=⟨_,C⟩;subst uh;simp only[hK,hL,iM]at ih;refine(cR) ?_;simp only[f8,go_sem];refine jH 15 ks.length (λj=>Fw.Inv 162 [(0,.cp [.sl 2<|ae.ab V,.sl 12<|aa.ab ds]),(1,TD),(3,I l),(6,.cp [E1,E2,E3])] (∀(i:Nat)(h:i<ks.length),i<j->gy V ds ks[i] e l)) C ⟨C,by simp[ej,aw,Bn],Zs⟩ ?_;rintro j⟨env,H,n',nt,T⟩hj Fg⟨rfl,mK,oE⟩;subst Bn;simp only[bM]at Fg mK;obtain⟨e0,e1,e3,e6,-⟩:=mK;simp only[Fg,e1,go_sem];refine fx (λh=>?_) λh=>?_
 .have bw:=rv h;have g0:=L.bV ks j bw;have qK:=ih j bw;have kc:=L.cl ks[j];have pn:gy V ds ks[j] e l->∀(i:Nat)(h:i<ks.length),i<j+1->gy V ds ks[i] e l:=λq i h hi=>H_;have rS:=Kc j bw;generalize ks[j]=c at g0 qK kc pn rS;have⟨qk,qv,qn,⟨jL,jN,jM⟩,jK,jJ⟩:=c;simp only[L.ds,J.ds,bG,bg,aY,ae.sl,aa.sl]at g0 qK kc;simp only[Fg,e0,e1,e3,e6,g0,go_sem];refine fB<|nV qK ?_;by_cases q:gy V ds (.mk qk qv qn (.mk jL jN jM) jK jJ) e l
  .simp only[b_ q,Fg,go_sem];exact nM ⟨C,by simp[aw,e0,e1,e3,e6],pn q⟩
  exact DB
 exact H8):=h
def Z6(h:p:=by
 refine jH 7 ks.length (λk=>Fw.Inv 66 [(2,.cp [I k0,S nm,.sl 3<|J.ab ks]),(1,I a),(6,I ((1+J.aZ (ks.take k):Nat):Int))]<|(ks.take k).all fY=W/\((1+J.cX (ks.take k):Nat):Int)<=a) C ⟨C,NH,?_⟩ ?_
 .simp[J.cX];omega
 rintro k⟨env,H,n,nt,T⟩hk h5⟨rfl,mK,hp,BD⟩;simp only[bM]at h5 mK;obtain⟨e0,e1,e2,-⟩:=mK;simp only[h5,e0,go_sem];refine cL (λbw=>?_) λh=>?_
 .have s7:Y 3 ks[k].ds=ks[k].ds:=dj Zo;simp only[h5,e0,e1,J.bV ks k bw,dE _ Zo,J.bP ks[k],s7,go_sem];refine bR _ (lP ks[k] (aD bw) (a-1) Zo Zo) (by simp;exact J.cl _) ?_;have Bu:=J.p6 ks<|k+1;rw[J.jY ks k bw]at Bu;have J9:=J.t_ ks<|k+1;rw[J.mH ks k bw]at J9;by_cases hq:fY ks[k]=W/\(ks[k].cC:Int)<=a-1
  .have hr:mY ks[k] (a-1)=ks[k].num:=by unfold mY;rw[aM hq]
   have xh:decide ((ks[k].num:Int)<0)=af:=Zs;have m2:1+J.aZ (ks.take k)+ks[k].num=1+J.aZ (ks.take<|k+1):=Yv<|J.jY ks k bw;simp only[hr,xh,h5,e2,wrap_add (1+J.aZ (ks.take k)) ks[k].num Zo,go_sem];exact NG
  have hr:mY ks[k] (a-1)=-1:=by unfold mY;rw[aC hq]
  have xh:decide ((-1:Int)<0)=W:=C;refine(ad<|JJ hr xh) ?_;apply Fz.di;exact Zg
 exact NP):=h
def Z7(h:p:=by
 refine nj [] [] C C Zk Zt C Zs λH1 hH=>?_;have⟨gA,g,len,cs,r,ps,⟨l1,l2⟩,e1,e2,e3,e4,e5,e6⟩:=w H1 hH;have x1:(p1<(n.length:Int))=True:=Zg;have x2:(0<=p1)=True:=Yq z1;have x3:(p2<(len:Int))=True:=Zg;have x4:(0<=p2)=True:=Yq z2;have x5:p2.toNat*2+2<=ps.length:=Zg;refine(ZN)<|dP [] [9,14] ?_;simp only[e1,e2,x1,x2,x3,x4,e3,e4,go_sem];refine⟨x5,?_⟩;generalize Bl:ai H1 (2000+p1.toNat) (E ⟨g,177,2,lc ps (p2.toNat*2) [I q1,I q2],Q⟩)=H2;have hB:=e6 H2 (by rw[<-Bl,bN]) λt ht=>by rw[<-Bl,a_ _ _ ht]
 simp only[lc,dC,gR,ew]at Bl;rw[Bl];have⟨aiI,g',adf,aiF,r',Vc,⟨k1,k2⟩,f1,f2,f3,f4,f5,f6⟩:=hB.at (p8 hq) (p1,p2);rw[Ck]at f1 k1;have y1:(q1<(n.length:Int))=True:=Zg;have y2:(0<=q1)=True:=Yq z3;have y3:(q2<(adf:Int))=True:=Zg;have y4:(0<=q2)=True:=Yq z4;have y5:q2.toNat*2+2<=Vc.length:=Zg;refine dP [] [22,27] ?_;simp only[f1,f2,y1,y2,y3,y4,f3,f4,go_sem];refine⟨y5,?_⟩;have J4:=f6 (ai H2 (2000+q1.toNat)<|some ⟨g',177,2,lc Vc (q2.toNat*2) [I p1,I p2],Q⟩) (by rw[bN]) λt ht=>Yw<|a_ _ _ ht;simp only[lc,dC,gR,ew]at J4;refine⟨_,Vq,C,(Cl.jf Zs).bB,J4.bB,λH3 h1 h2=>hK _ _ (J4.aA h1) λt a b c=>?_⟩;have j1:t≠2000+p1.toNat:=by simp only at l1;have:=h.len;omega
 have j2:t≠2000+q1.toNat:=by simp only at k1;have:=h.len;omega
 by_cases ht:t∈BL
 .exact(h1 t ht).trans<|(a_ _ _ j2).trans (by rw[<-Bl,a_ _ _ j1,hH t ht])
 exact h2 t ht):=h
def Z8(h:p:=by
 try simp only[rQ,go_sem]
 refine lp 7 ks.length [0,1] (λj env H n' T=>T=T0/\aL [2,37,59] H 9 1 (R<|gW k n ns (ks.take j) 0 sc<|out) (env 2)) ⟨C,by simpa[aw,ej,gW]using(hx).sub (S':=[2,37,59]) Zs⟩ ?_;rintro j env H n' T _ hj⟨rfl,hx⟩;generalize e2:env 2=y;rw[e2]at hx;refine dN rQ (λbw=>?_) λh=>?_
 .have rR:=aD bw;have g0:=L.bV ks j bw;have rU:=L.gz rR;have Bq:=I2 k n ns j;have J':=y' k n ns (ks.take j) 0 sc<|out;have Ke:=L.jY ks j bw;have qI:=L.p6 ks<|j+1;have Bt:=Ky k v n tk tn aQ ns ks j;have Bv:=TJ sc (cW k n ns j) Zo;have ug:=lP ks[j] rR (sc++cW k n ns j) (gW k n ns (ks.take j) 0 sc<|out) (by rw[b9];omega) Zo;have mK:=E9 (k:=k) (n:=n) (ns:=ns) (sc:=sc) ks j 0 (out) bw;exact ND
 exact H7):=h
def Z9(h:p:=by
 refine(dH) ?_;by_cases c4:k=4
 .have f4:(k==4)=W:=by simp[c4]
  refine(ad f4) ?_;simp only[cW,c4,Ay,bx];exact Fz.aq (aq:=[n].map λs=>[S s]) C C C Zd C Zs C Zs
 have f4:(k==4)=af:=Yr c4;refine(ad f4) ?_;by_cases c7:k=7
 .have f7:(k==7)=W:=by simp[c7]
  refine(ad f7) ?_;by_cases ci:i=1
  .have fi:((i:Int)==1)=W:=by simp[ci]
   refine(ad fi) ?_;simp only[cW,c7,ci,kV,or_true,bx];exact Fz.aq (aq:=[n].map λs=>[S s]) C C C Zd C Zs C Zs
  have fi:((i:Int)==1)=af:=by simp;omega
  have f10:(k==10)=af:=Yr c7;refine(ad<|JJ fi f10) ?_;have:cW k n ns i=[]:=by simp[cW,c7,ci]
  rw[this];exact Fz.nil 1
 have f7:(k==7)=af:=Yr c7;refine(ad f7) ?_;by_cases Je:k=10
 .have f10:(k==10)=W:=by simp[Je]
  refine(ad f10) ?_;have:cW k n ns i=ns:=by simp[cW,Je]
  rw[this];exact Fz.lR C (mE _)
 have f10:(k==10)=af:=Yr Je;refine(ad f10) ?_;have:cW k n ns i=[]:=by(grind [cW])
 rw[this];exact Fz.nil 1):=h
def M5(h:p:=by
 have:=lP ks[k] hx;refine(bQ<|JJ fq<|JJ vw s7) ?_;have aiL:=L.yY ks[k];have Bu:=L.p6 ks<|k+1;rw[L.jY ks k bw]at Bu;have aiM:=L.wW<|ks.take k;cases hg:eU ks[k]
 .refine(ZN)<|Fz.lR ?_ Zs;simp[bad<|.inr<|.inr<|u4 bw hg]
 simp only[h5,e2,e3,gJ ks[k].cC Zo,wrap_add (1+L.aZ (ks.take k)) ks[k].num Zo,go_sem];have m1:(if((ks[k].cC+1:Nat):Int)>((1+L.cX (ks.take k):Nat):Int)then((ks[k].cC+1:Nat):Int)else((1+L.cX (ks.take k):Nat):Int))=((1+L.cX (ks.take<|k+1):Nat):Int):=by
  rw[L.mH ks k bw];split<;>omega
 have m2:1+L.aZ (ks.take k)+ks[k].num=1+L.aZ (ks.take<|k+1):=Yv<|L.jY ks k bw;refine nM ⟨C,by simp only[eb,e0,e1,m1,m2,bM,dt,hU,im,aw,↓reduceIte,bj,kV,lE],by rw[lK bw,hp,hg];rfl,λi hi abg=>?_⟩;by_cases Ka:i<k
 .exact BD i hi Ka
 have:i=k:=Zo;subst this;exact hq):=h
def Ng(h:p:=by
 refine⟨C,by simp;omega,λi=>?_,hr.obj,λt x b c e=>⟨.inr<|.inl ⟨t,x,c,e⟩,(hr.base _ _ _ _ e).2⟩,hr.inj,⟨C,C,C,bJ _,λ_ _=>C,bJ _⟩,hr.m0,hr.mm,λb k k'=>hr.zm b k<|ux b k',λe he=>⟨(hr.tree e he).1,λb hb=>.inr<|.inr ⟨e,he,hb⟩⟩,hr.nd,Og.start,λb k=>hr.wm b<|ux b k⟩;show Rd _ (args.getD i<|.sc<|.tuple #[]) _;by_cases hi:i<args.length
 .have h1:args[i]?=E args[i]:=bL hi;have h2:vs[i]?=E (vs[i]'Zo):=bL Zo;have:=hv i _ _ h1 h2;exact NQ
 have e1:args.getD i (.sc<|.tuple #[])=.sc (.tuple #[]):=by simp[List.getD,sq<|Nat.le_of_not_lt hi]
 have e2:(vs.toArray++Array.replicate (fn.ntmps-vs.toArray.size) eX).getD i eX=eX:=by
  rw[kQ,CS ch];exact Zg
 rw[e1,e2];exact .sc eX):=h
def Nq(h:p:=by
 refine(ZN) ?_;by_cases c1:n=nE
 case neg=>
  exact NO
 have g1:(n.toList==(⟨#[]⟩:BA).toList)=W:=(Pe)<|b_ c1;refine(bQ g1) ?_;cases c2:k_ (.mk tk tn aQ)
 .exact Ib
 refine(ad rQ) ?_;by_cases c3:(ns.length:Int)>0
 .exact NT
 refine(ad<|bW c3) ?_;have c5:ns.length=0:=Zo;exact bR _ (vE _ _ _) Zs<|(ZN)<|Fz.aK (by simp[gN,l_,lB,jI,oK,c1,c2,c5])):=h
def Dx(h:p:=by
 refine(ZN) ?_;by_cases c1:n=nE
 case neg=>
  exact NO
 have g1:(n.toList==(⟨#[]⟩:BA).toList)=W:=(Pe)<|b_ c1;exact(bQ g1)<|NE):=h
def Nx(h:p:=by
 rw[hb]at zh;have pn:=λ(q:b=W)=>pn<|Hr<|hb.trans q;have rS:=λ(q:b=af)=>rS<|of_decide_eq_false<|hb.trans q;generalize ds[j]=d at g0 zh;have⟨dn,⟨dk,aiH,aiG⟩,⟨qk,qv,qn,⟨jL,jN,jM⟩,jK,jJ⟩⟩:=d;have kc:=L.cl<|.mk qk qv qn (.mk jL jN jM) jK jJ;simp only[aa.bd]at zh;simp only[aa.ds,L.ds,J.ds,bG,bg,aY,ae.sl,aa.sl]at g0 zh kc;refine(ad g0) ?_;refine ir [] zh (.c (.cl _ SV)<|.c (.cl _<|Cl.eT kc)<|.c Fz.EQ<|.c (.cl _<|bc _) .n) (bc _) ?_;cases b
 .rw[aC<|rS C];exact(ad @oM)<|Fz.di C
 exact(ad @oM)<|dI<|pn C):=h
def Ny(h:p:=by have aiK:=AY k0 k;have aiN:=O.yZ hx;have w1:cb.wrap (m+ez k0 k)=m+ez k0 k:=dE _ Zo;refine(ad w1)<|fS _ (lP ks[k] hx (m+ez k0 k) Zo Zo) (by simp;exact O.cl _) C ?_;have e:=WN k0 m ks 0 k bw;have e2:=aif k0 m ks 0<|k+1;rw[ew]at e;refine(ZN) ?_;rw[<-Mz,dE _ Zo,<-e];refine jW (by(grind [aw,gJ])) bw ⟨C,?_,trivial⟩;exact NI):=h
def NF(h:p:=by exact(ad<|bW c1)<|NC):=h
def NR(h:p:=by exact(ad<|JJ f8 f10)<|NC):=h
def NY(h:p:=by
 have:=GG n hn;refine(ZC) ?_;cases c1:iC n
 .exact(ZN)<|Fz.aK (by simp[gN,l_,c1])
 exact(ZC)<|NE):=h
def N3(h:p:=by
 by_cases kJ:cn=n
 .have f1:(cn.toList==n.toList)=W:=by rw[ic];exact b_ kJ
  have Bw:hI V n=(i:Int):=Fq (by simp only[rO,ae.cs,m'];exact⟨_,Ft,by simp[aJ.nm,kJ]⟩);refine(ad f1) ?_;rw[Bw,Fk Bw,show xL (.mk dn cs) n=(t:Int)from Fs (by simp[aJ.nm,kJ])];exact .cl _ Zs
 have f1:(cn.toList==n.toList)=af:=by rw[ic];exact bW kJ
 refine(ad f1) ?_;refine dI ?_;rw[FA,hq];simp[aJ.nm,kJ]):=h
def Ic(h:p:=by
 try rw[vx,kf]
 refine lp 7 ks.length [0,1] (λj _ _ _ _=>(ks.take j).all (L.bh<|hG V)=W) Zs ?_;rintro j env H n' T _ hj hp;refine dN SX (λbw=>?_) λh=>?_
 .have:=lP ks[j]<|aD bw;refine(bQ<|L.bV ks j bw) ?_;cases hq:L.bh (hG V) ks[j]
  .exact(ZN)<|Fz.aK Zg
  exact Ia
 exact N0):=h
def N4(h:p:=by
 obtain rfl:m=nm.length:=Zo;rw[cc]at Bp;have abk:cn∉nm:=λhh=>by
  rw[wj]at Bp;exact Bp cn hh Zs
 simp only[e3,Bm,s4,g1,h_,go_sem];refine⟨⟨Zo,by simp[aE];omega⟩,gY Bz ⟨C,NJ,Yu s4,⟨91,KX 91,.inr C,?_,?_⟩,UK ⟨d1,by rw[<-Kd];exact abk⟩⟩⟩
 .simp[aw,qH]
 simp[ai,qH]):=h
def Ie(h:p:=by
 by_cases d1:nm=nE
 .have g1:(nm.toList==(⟨#[]⟩:BA).toList)=W:=by rw[ic];exact b_ d1
  simp only[g1,eb,e2,e3,go_sem];exact Fz.lR (by simp only[b_ d1,kf,hL]) Zs
 have g1:(nm.toList==(⟨#[]⟩:BA).toList)=af:=by rw[ic];exact bW d1
 simp only[g1,e2,e3,go_sem];exact Fz.lR (by simp only[bW d1,wh]) Zs):=h
def N5(h:p:=by
 by_cases abi:j<ob.cells.length
 .rw[lY abi]at hj;have⟨u,k1,k2⟩:=pj j d hj;exact⟨u,by rw[Array.getElem?_push,aC Zo];exact k1,k2⟩
 rw[kR Zo]at hj;obtain rfl:j=ob.cells.length:=by
  have:=(dX.1 hj).1;simp at this;omega
 simp at hj;subst hj;exact⟨a.eval v,by rw[Array.getElem?_push,aM FB.symm],hr.ev v⟩):=h
def N6(h:p:=by
 refine fB<|nV ui ?_;by_cases q:fy V ds (.mk qk qv qn (.mk jL jN jM) jK jJ) e l
 .exact NK
 exact H9):=h
def N7(h:p:=by
 refine fB<|nV ui ?_;by_cases q:gy V ds (.mk qk qv qn (.mk jL jN jM) jK jJ) e l
 .exact NK
 exact H9):=h
def N8(h:p:=by
 refine(ad rQ) ?_;by_cases c3:(ns.length:Int)>0
 .exact NT
 exact NW):=h
def Od(h:p:=by have⟨ak,an,AW⟩:=a;have⟨bk,bn,QM⟩:=b;refine(ia [] [.cell 4 99]) ?_;refine v8 3 nE<|Fz.aq (ob:=⟨0,99,3,[I ak,S an,.sl 3<|J.ab AW,I bk,S bn,.sl 3<|J.ab QM],Q⟩) bF C C Zd C (by simp[J.ds,J.ab]) (by simp[J.ds,J.ab]) (J.dl [.mk ak an AW,.mk bk bn QM])):=h
def Oo(h:p:=by exact(ad g0)<|bR _ (lP l[k]<|aD bw) (by simp only[pH,bM];exact⟨⟨hf,bc _,Zs⟩,hc⟩)<|NM):=h
def Oq(h:p:=by subst hr;exact Fz.oy<|.c (Fz.aq C C C Zd Zs (ha (f:=S) _) Zs (db.1<|mE _))<|.c (Fz.aq C C C Zd (by simp[J.b6]) (J.hQ _) (by simp[J.cu,J.ds]) (J.dl _))<|.c (Fz.aq C C C Zd Zs (ha (f:=I) _) Zs (db.1<|kY _)) .n):=h
def Ot(h:p:=by
 rw[eU,L.bh,cy]at hg;have h1:=hg.1;simp only[qe,hT,cy,bY,ee]at h1;refine⟨?_,λi h hi=>?_⟩
 .have:=h1.1.1.1;simp[dw,c9]at this;omega
 have:=h1.2;simp only[np,ee]at this;exact Zg):=h
def Iu(h:p:=by
 go_roundw
 case rel=>
  refine⟨k+1,J6,?_⟩;unfold aE at hlen;by_cases h:m=0
  .subst h;exact .inl ⟨Zo,by simp[wrap64]⟩
  exact .inr ⟨m-1,Zo,by simp[wrap64];omega⟩
 case measure=>unfold aE at hlen;simp[intOf,wrap64];omega):=h
def Ou(h:p:=by
 have g7:((ks.length:Int)==2)=decide ((ks.length:Int)>=2/\(ks.length:Int)<=2):=by rw[nv,lD];omega
 exact NS):=h
def Oz(h:p:=by
 cases c2:(l.take k).any λx=>decide (x=l[k])
 .refine(ZN) ?_;refine dI λi hi abg=>?_;by_cases Ka:i<k
  .exact hp i hi Ka
  have:i=k:=Zo;subst this;exact⟨c1,c2⟩
 exact(ZN)<|Fz.aK<|bad<|Yr c2):=h
def OK(h:p:=by
 cases e
 case exit aiO=>
  simp only[qz]at h1;simp only[Exit.inBlock];split
  .rename_i hi;rw[aM hi]at h1;exact⟨s,g,M,h1,h2⟩
  rename_i hi;rw[aC hi]at h1;exact⟨s,g,M,h1,h2⟩
 all_goals exact⟨s,g,M,h1,h2⟩):=h
def OY(h:p:=by have⟨ak,an,AW⟩:=a;refine(ia [] [.cell 2 99]) ?_;refine v8 4 nE<|Fz.aq (ob:=⟨0,99,3,[I ak,S an,.sl 3<|J.ab AW],Q⟩) bF C C Zd C (by simp[J.ds,J.ab]) (by simp[J.ds,J.ab]) (J.dl [.mk ak an AW])):=h
def Pg(h:p:=by
 have f1:(nm[m].toList==cn.toList)=W:=by rw[ic];exact b_ hc
 exact(ad f1)<|Fz.aK<|I1 (by rintro⟨_,hh⟩;rw[<-Kd]at hh;exact hh (by show cn∈nm;rw[<-hc];exact aD zf))):=h
def Pn(h:p:=by refine eo (λc=>E<|Ob.mk q2 88 1 c Q)<|c5.trans ?_;simp only[au,bX,b4,eO,eR,dT,fX,de,dy,J.sl]):=h
def Po(h:p:=by
 cases ok
 .exact .sc z
 refine .tp _ [z,.bool af] C λi d v hd hv=>?_
 match i,hd,hv with
 |0,hd,hv=>simp at hd hv;subst hd;subst hv;exact .sc _
 |1,hd,hv=>simp at hd hv;subst hd;subst hv;exact .sc _):=h
def Pp(h:p:=by
 have f2:(dn.toList==(⟨#[73,110,116]⟩:BA).toList)=W:=by rw[ic];exact b_ c2
 exact(ad f2)<|Fz.aK<|bad (by rintro⟨h,_⟩;rw[vl,b_ c2]at h;simp at h)):=h
def Pq(h:p:=by refine⟨C,C,C,by simp[aw,ej,Nd.d,L.ds,J.ds,Nd.ja,bG],⟨_,by simp only[ai];rfl,C⟩,by simp[ai],λt ht=>?_⟩;obtain⟨z1,z2,-⟩:=qI t ht;simp[ai,z1,z2,aa4 t ht]):=h
def Pr(h:p:=by
 refine(dH) ?_;by_cases h1:n>=48
 .exact(ad<|b_ h1)<|Fz.aK (by simp[qE];omega)
 exact(ad<|bW h1)<|Fz.aK (by simp[qE];omega)):=h
def Ps(h:p:=by refine nM ⟨C,by simp only[e0,e9,EM,bM,dt,hU,im,aw,↓reduceIte,bj,reduceCtorEq,kV,lE],trivial⟩):=h
def Pu(h:p:=by
 intro d hd;simp only[cF,dt,gD]at hd;obtain rfl|rfl:=hd
 .exact abI λr hr d hd=>(py os d<|eL.2 ⟨r,hr,hd⟩).bB
 exact .sc _):=h
def Pv(h:p:=by have h1:(es.toList.map (·.val)).length=vs.toList.length:=Yw vC;simp only[bE,we]at h1;simp only[bE,we]at hp;omega):=h
def Pw(h:p:=by
 rw[show iL n 0=λ_=>af from C,<-QX]
 induction n.length with
 |zero=>rfl
 |succ m ih=>rw[As,As,dT,ih];rfl):=h
def Px(h:p:=by rw[x0,eu];have:(A∘λi=>e' n<|dD i)=λ_=>3:=C;rw[this,map_const',sum_replicate_nat,we,J5]):=h
def Py(h:p:=by have e1:c.args=#[x]:=Zg;have e2:c.argTypes=#[t]:=Zg;refine⟨v,h1,λw' _=>?_⟩;simp[eI,ho,resolve,SR,e1,e2,invoke,builtin,h2 w']):=h
def II(h:p:=by simp only[m1,m2,bM,dt,hU,im,aw,↓reduceIte,bj,kV,lE,e7,eQ,reduceCtorEq]):=h
def PA(h:p:=by
 simp only[jj]at hX;split at hX
 .rename_i c;rw[aM c];cases Tj<;>simp at hX;rw[<-hX]
 rename_i c;rw[aC c];split at hX<;>simp at hX;rw[<-hX]):=h
def yC(h:p:=by
 cases x with
 |ret=>obtain⟨d,h1,h2⟩:=hx;exact⟨d,h1,key _ _ _ _ h2⟩
 |normal=>obtain⟨d,h1,h2⟩:=hx;exact⟨d,h1,key _ _ _ _ h2⟩
 |_=>exact hx.elim):=h
def PB(h:p:=by
 have xd:iL n (i+1)=iL n i:=by funext k;simp only[iL,LU hd]
 exact(ZN)<|dI ⟨(Yy xd) oD,by rw[LU hd];simpa[aw,e3]using hx⟩):=h
def PC(h:p:=by
 have e3:({s.put x d with H:=s1.H,n:=s1.n,T:=s.T}:St)={s.put x d with H:=s1.H,n:=s1.n}:=by rw[<-Cm (s:=s) (dst:=x) (d:=d)]
 exact Zg):=h
def PD(h:p:=by refine⟨.tp [.sl 1<|au Nd.d [],I<|iz V ds],Fz.lT (.nil 1) (by rw[h8];exact .cl _<|bc _),Cl.jf da,[],C,λq=>by rw[h8]at q;cases q⟩):=h
def PE(h:p:=by obtain rfl:i=V.length:=Zo;rw[cc]at hp;have Bw:hI V n=-1:=FD hp;refine(ad h) ?_;rw[Bw,Zn Bw];exact .cl _ Zs):=h
def IJ(h:p:=by exact NJ):=h
def IK(h:p:=by
 refine⟨0,h0,?_⟩;unfold aE at hlen;by_cases h:len=0
 .subst h;exact .inl ⟨C,by simp[wrap64]⟩
 exact .inr ⟨len-1,Zo,by simp[wrap64];omega⟩):=h
def PF(h:p:=by obtain rfl:j=ds.length:=Zo;rw[aM λd hd=>by obtain⟨i,hi,rfl⟩:=ec hd;exact oE i hi hi];exact(ad h)<|Fz.di C):=h
def PG(h:p:=by rw[hc,fv,rL];refine .inr ⟨0,Zs,?_⟩;simp only[cW,aY,fA];have:=(w9 b [] nX x h2).2 h1;simpa using this):=h
def PH(h:p:=by
 have e2:iD bK bK s.H H=s.H:=by
  funext t;by_cases ht:t∈bK
  .rw[vH ht,hL t ht,hH t ht]
  rw[xw ht ht]
 rw[e2];exact hK n d hq hd):=h
def PI(h:p:=by simp only[hw,aY,go_sem];refine⟨C,C,C,by simp[aw];omega,C,[_,_],[_],by simp[ai],C,.jZ<|.qf .nil,by simp[bl]⟩):=h
def PJ(h:p:=by exact(ad<|b_ c4)<|Fz.aK<|bad (by rintro⟨h,_⟩;rw[vl,bW (show¬1<=dc.length by omega)]at h;simp at h)):=h
def PK(h:p:=by exact(ad<|b_ c5)<|Fz.aK<|bad (by rintro⟨h,_⟩;rw[vl,bW (show¬dc.length<=4 by omega)]at h;simp at h)):=h
def yD(h:p:=by have g1:(n.toList==(⟨#[]⟩:BA).toList)=af:=(Pe)<|bW c1;exact(ad g1)<|Fz.aK (by simp[hT,gN,l_,c1])):=h
def PL(h:p:=by
 cases e
 case normal=>obtain⟨d,hd,hz⟩:=q1;exact core d hd hz
 case ret=>obtain⟨d,hd,hz⟩:=q1;exact core d hd hz
 all_goals exact q1.elim):=h
def wJ(h:p:=by exact NM):=h
def IM(h:p:=by
 cases e
 case normal=>obtain⟨d,hd,hz⟩:=h1;exact fin d hd hz
 case ret=>obtain⟨d,hd,hz⟩:=h1;exact fin d hd hz
 all_goals exact h1.elim):=h
def PM(h:p:=by
 obtain k|⟨t,x,c,k⟩|⟨e,he,hb⟩:=k
 .exact .inl<|gS hr.below.size k
 .exact(hr.base _ _ _ _ k).1
 exact(hr.tree e he).2 b hb):=h
def PN(h:p:=by have:=eo (λl=>(ao l).length)<|qj k ps;simp only[eR,b9]at this;omega):=h
def PO(h:p:=by refine(dH) ?_;exact .cl _ (.fn _ [] _ Zs λi d h=>by match i,h with|0,h=>cases h;exact hD.cp (.c (ff λx _=>Bi.cl x) .n))):=h
def PP(h:p:=by
 intro s' y hs e;rw[a_ _ _ hs]at e;by_cases h0:s'=t0
 .subst h0;rw[bN]at e;cases e
 rw[a_ _ _ h0]at e;exact⟨h0,e⟩):=h
def PQ(h:p:=by
 match i,hd,hv with
 |0,hd,hv=>simp at hd hv;subst hd;subst hv;exact k2
 |1,hd,hv=>simp at hd hv;subst hd;subst hv;exact .sc _):=h
def PR(h:p:=by have:=hz.nodup;simp only[jb,eO,aY]at this;exact B4 this<|aP.2 ⟨_,aD h2,C⟩):=h
def PS(h:p:=by rw[h2,b9];have:=dE (((ps.take k).flatten.length:Nat)+(ps[k].length:Nat):Int) Zo;rw[this];omega):=h
def PT(h:p:=by obtain rfl:t=cs.length:=Zo;rw[cc]at hq;refine(ad h) ?_;refine dI ?_;rw[Fy,hp];simpa[rO,ae.cs]using hq):=h
def PU(h:p:=by refine(ad fq)<|Fz.lR ?_ Zs;simp[bad<|.inr<|.inl (by rw[np,jo];intro hh;exact hq (hh k bw))]):=h
def PV(h:p:=by
 have:n=[]:=by have:=eo A q;rw[lJ]at this;exact pI.1 this
 subst this;exact .nil 5):=h
def PW(h:p:=by have J_:i=ds.length:=Zo;refine(ad h) ?_;apply Fz.aK;symm;rw[ee];exact⟨c0,Zo,Zo,λj hj=>hp j hj Zo⟩):=h
def PX(h:p:=by obtain⟨i,hi,rfl⟩:=ec hc;have:=ih i hi [] l (Yf hb) Zs Zs Zo Zo λq=>h9 q.1;rwa[de]at this):=h
def PY(h:p:=by funext k;rw[dm zo,Bool.or_assoc];simp only[ca,dg,Bool.decide_or]):=h
def PZ(h:p:=by rw[Nd.mL];exact mo _<|gq _<|eL.2 ⟨_,aP.2 ⟨y,hy,C⟩,hi⟩):=h
def P0(h:p:=by have:=O.ua x;have:=O.nr hx;exact⟨SZ x hx,O.eJ zg.2.2 x hx,Zo,Zo,h0,Zo,by simp;omega⟩):=h
def P1(h:p:=by
 have J_:i=n.length:=by simp at hc;omega
 subst J_;exact(ad<|JJ hc e3)<|hx.fz Zd (Lq _ _)<|aeW _ _):=h
def P2(h:p:=by simp only[gQ,b8,go_sem];rw[hr]at hK;exact lG.fin b1 b2 (λt ht=>Yu<|dO ht (u:=8)) (vO _).bB C hK):=h
def sJ(h:p:=by
 exact(ad<|b_ c3)<|Fz.aK (by
  have:ns.length≠0:=Zo;simp[hT,gN,jI,this])):=h
def P3(h:p:=by exact(ad<|JJ Cg @oM)<|fin _ _ (cY OO) ⟨by simp[aw,gJ q Zo],by simp[aw]⟩ fR<|.inr C):=h
def P4(h:p:=by have vA:k=ds.length:=Zo;exact NV):=h
def P5(h:p:=by refine(ad<|b_ c2) ?_;have Yb:¬fs.length<=3:=Zo;exact Fz.aK (by simp[qC,aJ.fs,Yb])):=h
def sK(h:p:=by have vA:k=l.length:=Zo;exact NV):=h
def P6(h:p:=by
 conv=>rhs;rw[<-qj (q+1) al,bX,eR,b9]
 omega):=h
def P7(h:p:=by exact⟨by simp[jb],by simp[jb],Yf e,λ_ id=>.mk e Zs (by simp[gw]) C λi h1 h2=>by simp at h1⟩):=h
def P8(h:p:=by have⟨k1,_⟩:=dQ k;exact fD (eW k) (λq=>k1<|.inl q) λt x c q=>k1<|.inr ⟨_,_,_,q⟩):=h
def P9(h:p:=by exact H7):=h
def IN(h:p:=by exact NS):=h
def P'(h:p:=by refine bR _ yV (by simp;exact⟨O.cl _,O.cl _⟩) ?_;simp only[go_sem];exact Fz.aK Zg):=h
def P_(h:p:=by have J_:=yF h;refine(ad h) ?_;apply Fz.aK;symm;rw[ee];exact⟨Zo,λj hj=>hp j hj Zo⟩):=h
def Qa(h:p:=by refine(ad<|bW c0) ?_;apply Fz.aK;symm;rw[jo];rintro⟨h,_⟩;exact c0 h):=h
def Qb(h:p:=by exact(bQ g7)<|NU):=h
def Qc(h:p:=by
 conv=>lhs;rw[this]
 simp only[au,bX,b4,eR,dT]):=h
def Qd(h:p:=by
 obtain h'|h':=Hm b w.heap.size
 .exact h'
 simp[World.cell?,Xa h']at h):=h
def M6(h:p:=by obtain⟨c,rfl⟩:=hS.one Zs;obtain rfl:i=0:=Ys hi;simpa[bt,kN,oe,cU,eB,gw,ct]using h):=h
def M7(h:p:=by refine(ad<|b_ c0) ?_;apply Fz.aK;symm;rw[jo];rintro⟨h,_⟩;omega):=h
def HG(h:p:=by refine gE.ey [] [.tmp 2] C C Zk Zt C Zs (by simp[au])<|(ZN) ?_;exact .inl ⟨C,C⟩):=h
def M8(h:p:=by refine(ad<|b_ h3) ?_;apply Fz.aK;rw[oi];simp[pr,qb,pV];omega):=h
def M9(h:p:=by
 refine ?_;rintro b(k|⟨t,x,c,k⟩)
 .exact(hr.m0 b k).1
 exact(hr.base _ _ _ _ (kK k).2).2):=h
def M_(h:p:=by exact Fz.aK (by simp[hT,gN,l_,lB,jI,oK,dw,c1,c5,c2,c6,bY];omega)):=h
def Na(h:p:=by
 rw[dm Zo];have:(fH n l[i])[j]'Zo=x:=by simp[BC,iA]
 rw[this]):=h
def Nb(h:p:=by have⟨u,u1,u2⟩:=pj k d hd;refine fD ?_ SO SP;rw[pW vy,u1];simp[u1]):=h
def Nc(h:p:=by have vA:k=ks.length:=Zo;refine(ad h)<|Fz.di ?_;rw[Bo,vA,cc]):=h
def Nf(h:p:=by
 have f1:decide ((m:Int)>0)=af:=by simp[c0]
 refine(ad f1) ?_;exact .inl ⟨C,C⟩):=h
def Dw(h:p:=by
 exact⟨v,.sc v,λw' _=>by
  simp only[eI,ho,iA,nu];exact nG<|hv w'⟩):=h
def HH(h:p:=by exact⟨[],λd hd=>by rw[a1,a2 d hd];exact .sc _,C,by simp[iw],by simp[iw]⟩):=h
def Nh(h:p:=by exact NU):=h
def Ni(h:p:=by exact Fz.aK (by simp[hT,gN,l_,lB,jI,oK,dw,c1,c5,c6,c8])):=h
def Nj(h:p:=by simp only[go_sem];exact⟨[],[],.one<|.one<|.sc _,by simp[i7,fp],by simp[iw]⟩):=h
def Nk(h:p:=by exact⟨_,_,g',rT,r1,afm (by show s.n t<eP s.n t t;rw[wO];omega) r3⟩):=h
def Nl(h:p:=by have⟨j,hj⟩:=jg.1 hc;have⟨u,_,k2⟩:=pj j c hj;exact⟨u,k2⟩):=h
def Nn(h:p:=by exact(ZN)<|Fz.aK<|bad (by rintro⟨h,_⟩;rw[vl,c1]at h;simp at h)):=h
def No(h:p:=by simp only[hA,St.ev,e1,e2,hi,bx];obtain rfl|⟨a,c,rfl⟩:=hv<;>rfl):=h
def Np(h:p:=by
 by_cases Kb:j<i
 .exact hp j hj Kb
 have:j=i:=Zo;subst this;exact hd):=h
def HI(h:p:=by simp only[Oper.wp,h1,Oper.upon_skip];exact⟨_,g,M,h.2,h2.put (.sc eX) dst⟩):=h
def Nr(h:p:=by have⟨e1,e2⟩:=s3 e;have:=hr.inj _ _ _ _ _ _ _ k2 e2;subst this;exact k1 e1):=h
def Ns(h:p:=by simp only[r2];rw[a_ _ _ k1,a_ _ _ λq=>k2 (by rw[q];exact hS)]):=h
def Nt(h:p:=by obtain⟨i,hi,rfl⟩:=ec hc;exact uC hp _ (kZ.dh i hi) ze h):=h
def Nu(h:p:=by refine(lj<|fg Bi.d l) ?_;exact .cl _<|.cs _ _ (ff λx _=>Bi.cl x)):=h
def Nv(h:p:=by exact mo _<|gf _<|aP.2 ⟨b,hb,C⟩):=h
def Nw(h:p:=by
 match i,hi with
 |0,_=>rw[hK,hL];exact q.1
 |1,_=>rw[zd,hL];exact q.2):=h
def HJ(h:p:=by exact⟨v,h1,λw' hb=>by simp only[eI,ho];exact nG<|h2 w' hb⟩):=h
def HK(h:p:=by exact bodyPost_ret (results_none C _ _ _) C<|⟨⟨_,C⟩,.inr J7⟩):=h
def tH(h:p:=by exact(ad<|tO c6)<|Fz.aK (by simp[hT,gN,oK,c6])):=h
def HL(h:p:=by exact⟨v,h1,λw' _=>by simp only[eI,ho];exact nG<|h2 w'⟩):=h
def HM(h:p:=by simp[bY,dw,q1,q2,q3,q4,q5,q6,q7,q8,q9,xG,xH]at s6;omega):=h
def HN(h:p:=by refine(cR)<|(ZC) ?_;simp only[bne,f0,go_sem];exact Fz.di C):=h
def HO(h:p:=by simp[bY,dw,q1,q2,q3,q4,q5,q6,q7,q8,q9,xG,xH]at f1;omega):=h
def HP(h:p:=by refine(cR) ?_;simp only[bH.ds,go_sem];exact(ZC)<|Fz.di C):=h
def HQ(h:p:=by exact(ad<|bW h1)<|Fz.aK (by simp[bY];omega)):=h
def tI(h:p:=by refine(ZN) ?_;exact⟨_,.cl _<|Cl.jf da,Cl.jf da,nd,_,C,hr⟩):=h
def HR(h:p:=by have⟨k1,k2⟩:=kK e;exact k1<|Yx<|hr.inj _ _ _ _ _ _ _ k2 s5):=h
def HS(h:p:=by exact(ad<|b_ h1)<|Fz.aK (by simp[bY];omega)):=h
def HT(h:p:=by
 match c6,J8 with
 |[a,b,c,d,e],_=>exact⟨a,b,c,d,e,C⟩):=h
def HU(h:p:=by
 match c8,rP with
 |[a,b,c,d,e],_=>exact⟨a,b,c,d,e,C⟩):=h
def AH(h:p:=by exact(ZN)<|Fz.aK (by simp[hT,gN,l_,c1])):=h
def sF(h:p:=by exact(ZN)<|Fz.aK (by simp[hT,gN,lB,c2])):=h
def HV(h:p:=by rw[MK λq=>hj q.symm]at hx;exact q6 j x hx):=h
def HW(h:p:=by exact(ad g2)<|Fz.di<|zZ (by rw[ht];simp[d2])):=h
def HX(h:p:=by exact(ZN)<|Fz.aK (by simp[gN,l_,c1])):=h
def HY(h:p:=by rw[vA,cc]at hp;exact(FD hp).symm):=h
def HZ(h:p:=by exact Ib):=h
def H4(h:p:=by
 match c8,rP with
 |[a,b,c],_=>exact⟨a,b,c,C⟩):=h
def Dy(h:p:=by exact H_):=h
def H5(h:p:=by refine(ad f2) ?_;rw[hp,he];exact .cl _<|bc _):=h
def Dz(h:p:=by rw[J.lS];exact yM λx hx=>ahy x):=h
def tJ(h:p:=by exact(ZC)<|Fz.aK<|zj l):=h
def AI(h:p:=by exact(rD hs)<|Fz.aK hd):=h
def DA(h:p:=by unfold r8;cases d_ P s rs<;>simp):=h
def Nz(h:p:=by have mK:=E9 (k:=k) (n:=n) (ns:=ns) (sc:=sc) ks j 0 out bw;rw[ew]at mK;rw[<-mK]at ug;simp only[L.ds,J.ds,bG,bg,aY]at Bt;simp only[b4,eO,dT,fX,de]at Bv;simp only[L.bV ks j bw,vw,s7,S1,go_sem];refine lq [0,1,2,3,7,4,5,6,8,9] [8] []<|(bQ<|JJ e2<|JJ vw s7)<|Q9 [44] [.sl 1 [[.sl 1<|R sc],[.sl 1<|R<|cW k n ns j]]] _ Bv C (by simp only[aY,de,rb,re,bM];exact⟨Fz.aq (ob:=⟨n' 44,75,1,[.sl 1<|R sc,.sl 1<|R<|cW k n ns j],Q⟩) (by simp[b5,ai]) C C Zd C Zs C (by simp only[bM];exact⟨⟨pc _,Zs⟩,⟨pc _,Zs⟩,Zs⟩),Zs⟩) (pc _) ?_;simp only[aT,go_sem];refine va [2,47] [.ag ks[j].ds,.sl 1<|R<|sc++cW k n ns j] [] y 9 1 _ _ ug C (hx.aA (by simp only[bM];exact⟨by simp[aT,ai],by simp[aT,ai],Zs⟩)) da λH' KX x' s8 hH=>?_;simp only[hH 8 Zd Zd,aT,go_sem];refine dI ⟨C,?_⟩;simpa[aw]using s8.sub Zs):=h
def NA(h:p:=by
 refine(ad xb) ?_;refine gY bw ⟨C,C,C,by simp[aw,e0,e1,e2,e6,vo,JN,EN,Nd.d,L.ds,J.ds,Nd.ja,bG],⟨by simp[g6],by simp[g12],λt ht=>?_⟩,tl++[⟨.mk ck cv cd yR,vk⟩],?_,?_,?_,?_⟩
 .obtain⟨z1,z2,z3,z4,z5,z6⟩:=qI t ht;have:=zb t z6<|Yq z6;simp only[a_ _ _ z5]at this;exact this.trans<|SN t ht
 .simpa[aw]using S3
 .rw[bX,hc,wv,bX];simp only[b4,eO,<-Fx.c]
 .intro t ht;obtain ht|ht:=ca.1 ht
  .exact Fv t ht
  simp at ht;subst ht;exact Fx.ne
 have:=Fx.len;simp only[bX,b4,eO,tx,kS,sum_nil];rw[abl];simp only at this;omega):=h
def NC(h:p:=by
 rw[vx,kf];refine lp 7 ks.length [0,1] (λj _ _ _ _=>(ks.take j).all (L.bh<|fo V)=W) Zs ?_;rintro j env H n' T _ hj hp;refine dN rQ (λbw=>?_) λh=>?_
 .have:=lP ks[j]<|aD bw;refine(bQ<|L.bV ks j bw) ?_;cases hq:L.bh (fo V) ks[j]
  .exact(ZN)<|Fz.aK Zg
  exact Ia
 exact N0):=h
def ND(h:p:=by rw[ew]at mK;rw[<-mK]at ug;simp only[L.ds,J.ds,bG,bg,aY]at Bt;refine(ad g0)<|pe [0,1,2,3,4,5,6,7,8,11,9,10,12,13] [] [] fb Zk<|(bQ<|JJ e2 g0)<|va [2,37,59] [.cp ks[j].ds,.sl 1<|R<|sc++cW k n ns j] [] y 9 1 _ _ ug C hx da ?_;intro H' KX x' s8 hH;refine(ZN) ?_;refine dI ⟨C,?_⟩;simpa[aw]using s8.sub (S':=[2,37,59]) Zs):=h
def NE(h:p:=by
 cases c2:k_ (.mk tk tn aQ)
 .exact Ib
 refine(ad rQ) ?_;by_cases c3:(ns.length:Int)>0
 .exact NZ
 exact NW):=h
def NG(h:p:=by refine nM ⟨C,?_,by rw[lK bw,hp,hq.1];rfl,Yv<|J.mH ks k bw⟩;simp only[e0,e1,m2,bM,dt,hU,im,aw,↓reduceIte,bj,kV,lE]):=h
def NH(h:p:=by simp only[ww,J.aZ,ej,C0,MI,bM,dt,hU,im,aw,↓reduceIte,bj,i',rj,lE];rfl):=h
def NI(h:p:=by simp only[bM,dt,hU,im,aw,↓reduceIte,bj,kV,lE,e7,eQ,reduceCtorEq]):=h
def NJ(h:p:=by simp only[bM,dt,hU,im,aw,↓reduceIte,bj,reduceCtorEq,kV,lE,e7,eQ]):=h
def NK(h:p:=by rw[b_ q,kf]at hd;simp only[b_ q,Wd,SL,go_sem];exact(rD lO)<|(rD qJ)<|Fz.aK hd):=h
def NL(h:p:=by have g1:(nm.toList==(⟨#[]⟩:BA).toList)=af:=(Pe)<|bW d1;exact(ad g1)<|Fz.di<|zZ (by rw[ht];simp[d1])):=h
def NM(h:p:=by
 cases hc:p l[k]
 .refine(ZN) ?_;refine dI ?_;rw[o6 bw,hp,hc];rfl
 exact(ZN)<|Fz.di (n3 bw hp hc).symm):=h
def NO(h:p:=by have g1:(n.toList==(⟨#[]⟩:BA).toList)=af:=(Pe)<|bW c1;exact(ad g1)<|Fz.aK (by simp[gN,l_,c1])):=h
def NP(h:p:=by obtain rfl:k=ks.length:=Zo;rw[cc]at hp BD e2;refine(ad<|JJ h e2) ?_;apply Fz.di;unfold mY;exact Zg):=h
def NQ(h:p:=by simpa[List.getD,h1,kQ,Array.getElem?_append,h2,show i<vs.length by omega]using this):=h
def H7(h:p:=by obtain rfl:j=ks.length:=Zo;rw[cc]at hx;refine(ad<|JJ h e2) ?_;rw[xf];exact aL.close hx):=h
def NS(h:p:=by exact(ad g7)<|N2):=h
def NT(h:p:=by exact NZ):=h
def H8(h:p:=by have abh:=yF h;subst abh;simp only[h,go_sem];exact Fz.aK (b_ (k5.2 λi h=>oE i h h)).symm):=h
def H9(h:p:=by rw[bW q,wh]at hd;simp only[bW q,go_sem];exact Fz.aK hd):=h
def NU(h:p:=by exact Fz.aK (by simp[hT,gN,l_,lB,jI,oK,dw,c1,c5,c2,c8])):=h
def NV(h:p:=by refine(ad h) ?_;apply Fz.di;rw[vA,cc]at hp;exact(FD hp).symm):=h
def DB(h:p:=by simp only[bW q,go_sem];exact Fz.aK (bW<|rS q).symm):=h
def H_(h:p:=by
 by_cases c:i=j
 .subst c;exact q
 exact oE i h Zo):=h
def NW(h:p:=by refine(ad<|bW c3) ?_;have c5:ns.length=0:=Zo;exact Fz.aK (by simp[gN,l_,lB,oK,c1,c2,c5,jI,nv])):=h
def NZ(h:p:=by
 exact(ad<|b_ c3)<|Fz.aK (by
  have:ns.length≠0:=Zo;simp[gN,jI,this])):=h
def N0(h:p:=by obtain rfl:j=ks.length:=Zo;rw[cc]at hp;exact(ad h)<|Fz.aK<|Yw hp):=h
def N2(h:p:=by exact Fz.aK (by simp[hT,gN,l_,lB,jI,oK,dw,c1,c5,c2,c6,bY])):=h
def Ia(h:p:=by exact(ZN)<|dI (by rw[lK bw,hp,hq];rfl)):=h
def Ib(h:p:=by exact(ZN)<|Fz.aK (by simp[gN,lB,c2])):=h
def bU(h:p:=by simp[aw]):=h
def co(h:p:=by simp;omega):=h
def cq(h:p:=by exact Zg):=h
def ep(h:p:=by simp[ai]):=h
def jq(h:p:=by simp[cW]):=h
def kj(h:p:=by assumption):=h
def kl(h:p:=by simp[au]):=h
def lI(h:p:=by simp[ct]):=h
def l3(h:p:=by unfold aE;omega):=h
def l4(h:p:=by simp[ai];rfl):=h
def my(h:p:=by simp only[bN];rfl):=h
def ow(h:p:=by simp[aw,ej]):=h
def o3(h:p:=by simp[ai,dx]):=h
def o4(h:p:=by simp[b5]):=h
def pN(h:p:=by simp[ai,aT]):=h
def pO(h:p:=by simp only[b5,dg,bx,bN];rfl):=h
def qs(h:p:=by rw[O.ds]):=h
def qt(h:p:=by simp[kq]):=h
def qu(h:p:=by simp[aw,dS]):=h
def rn(h:p:=by simp[aw];omega):=h
def rp(h:p:=by simp[jb]):=h
def rq(h:p:=by simp[a7]):=h
def sG(h:p:=by (first|omega|grind)):=h
def sH(h:p:=by rw[L.num];omega):=h
def tK(h:p:=by simp[ai,dx];rfl):=h
def tL(h:p:=by simp[cU,eB]):=h
def uU(h:p:=by simp[ej,aw]):=h
def uV(h:p:=by simp[iw]):=h
def wC(h:p:=by (grind [aw,gJ])):=h
def wD(h:p:=by (grind [List.nil_append,List.append_nil,List.mem_cons,List.not_mem_nil])):=h
def wE(h:p:=by simp[cU,eB,gw]):=h
def wF(h:p:=by simp only;omega):=h
def wG(h:p:=by rw[b9];omega):=h
def yp(h:p:=by split<;>omega):=h
def yq(h:p:=by (grind [List.mem_singleton,oa])):=h
def yr(h:p:=by rw[bE];omega):=h
def ys(h:p:=by simp[aE]):=h
def yt(h:p:=by simp[L.aZ]):=h
def yu(h:p:=by simp[b5,ai]):=h
def yv(h:p:=by rw[J.b6,bE]):=h
def yw(h:p:=by simp[ai,cY,bG,bm]):=h
def AJ(h:p:=by simp[aE];omega):=h
def AK(h:p:=by simp[B3];omega):=h
def AL(h:p:=by rw[QW];omega):=h
def AM(h:p:=by simp[aw];rfl):=h
def AN(h:p:=by simp[lr]):=h
def AO(h:p:=by simp only[ai];rfl):=h
def AP(h:p:=by simp[ai,bo,O.ds,bm]):=h
def AQ(h:p:=by split<;>simp):=h
def DC(h:p:=by rw[i6];omega):=h
def DD(h:p:=by rw[na];omega):=h
def DE(h:p:=by (grind [dE])):=h
def DF(h:p:=by simp[aw,dS,ai,bm]):=h
def DG(h:p:=by simp only[bN]):=h
def DH(h:p:=by simp[dA];omega):=h
def DI(h:p:=by simp[eB];omega):=h
def DJ(h:p:=by rw[QL];simp):=h
def DK(h:p:=by simp[bt,kN,oe]):=h
def DM(h:p:=by rw[ij];omega):=h
def DN(h:p:=by rw[J.b6];simp;omega):=h
def DO(h:p:=by rw[O.b6];simp;omega):=h
def DP(h:p:=by simp[b5,ai,bo,O.ds,bm]):=h
def DQ(h:p:=by unfold ct;split<;>omega):=h
def DR(h:p:=by simp[jX];omega):=h
def DS(h:p:=by rw[bY,jo];omega):=h
def DT(h:p:=by rw[bY,ee];omega):=h
def DU(h:p:=by simp[aw,dS,ai,J.ds]):=h
def Ig(h:p:=by rw[fm,fm];simp;omega):=h
def Ih(h:p:=by rw[fm,fm];unfold aE;simp;omega):=h
def Ii(h:p:=by simp only[d_,iF,go_sem]):=h
def Ij(h:p:=by simp[i7,fp,BK]):=h
def Ik(h:p:=by show 0<eP dY 0 0;rw[wO];omega):=h
def Il(h:p:=by simp[aw,ej,ae.sl,aa.sl]):=h
def Im(h:p:=by simp[aw,dS,ai,au]):=h
def Io(h:p:=by rw[C9];omega):=h
def Ip(h:p:=by simp[b5,ai,bo,eh,O.ds,bm]):=h
def Iq(h:p:=by rw[HD];simp[cO,Value.oneCell']):=h
def Ir(h:p:=by rw[L.bh,L.i1]):=h
def Is(h:p:=by rw[nv,lD];omega):=h
def It(h:p:=by simp only[bM,dt,hU,im,aw,↓reduceIte,bj,kV,lE,e7,eQ,reduceCtorEq]):=h
def N9(h:p:=by rw[fm,fm,kv];unfold aE;simp;omega):=h
def N'(h:p:=by rw[fm,fm,kv,kv];unfold aE;omega):=h
def N_(h:p:=by (grind [List.nil_append,List.append_nil,List.mem_cons,List.not_mem_nil,bc])):=h
def Oa(h:p:=by (grind [List.mem_cons,List.not_mem_nil,db,K7,Cl.bC,List.mem_singleton,oa,bc])):=h
def Oc(h:p:=by simp only[zz,wv,range_zero,aY,bX,b4,eO,Hd,He,count_nil,MA,Int.natCast_one,show((2:Nat):Int)=2 from C];omega):=h
def Oe(h:p:=by simp[O.sl,ej,aw,O.cX,O.dd]):=h
def Of(h:p:=by rw[b9,b9,ij];omega):=h
def Oh(h:p:=by rw[pM,pM];simp only[dC,gR];unfold aE;omega):=h
def Oi(h:p:=by simp only[ae.sl,bM,dt,hU,im,aw,↓reduceIte,bj,reduceCtorEq,kV,lE,e7,eQ]):=h
def Oj(h:p:=by rw[tN,tN,b4,kS]):=h
def Ol(h:p:=by (try simp only[sk]);exact dy ..):=h
def Om(h:p:=by simp only[oW];unfold aE;omega):=h
def On(h:p:=by cases h):=h
def jr(h:p:=by simp at h):=h
def mz(h:p:=by
 first|omega|exact absurd q Zd):=h
def qw(h:p:=by simp[ai,dO ht (u:=8),dO ht (u:=9)]):=h
def rr(h:p:=by show s.n t<eP s.n t t;rw[wO];omega):=h
def ru(h:p:=by simp;exact O.cl _):=h
def sI(h:p:=by simp;exact O.dl _):=h
def uW(h:p:=by cases h;rfl):=h
def uX(h:p:=by rw[cY]at iM;cases iM;rfl):=h
def uY(h:p:=by simp only[aY,de,cF,dt,gD,ri,kg];exact⟨kJ,bc _⟩):=h
def wH(h:p:=by rw[dm bw,bX];rfl):=h
def wI(h:p:=by rw[dE _ Zo];omega):=h
def yx(h:p:=by obtain⟨s,-,rfl⟩:=aP.1 hr;rfl):=h
def yy(h:p:=by unfold jl at e;split at e<;>simp_all):=h
def yz(h:p:=by simp only[aw,bx,bT,bj,e7,eQ];exact hx.aA bF):=h
def yA(h:p:=by simp[ai,p]):=h
def yB(h:p:=by obtain⟨x,-,rfl⟩:=aP.1 hr;rfl):=h
def AR(h:p:=by rw[hc];exact .cl _<|bc _):=h
def AS(h:p:=by obtain⟨d0,e,rfl⟩:=qU h1;exact ih i d0 e):=h
def AT(h:p:=by simp[aw,gJ i Zo]):=h
def DV(h:p:=by rw[fm,fm];simp at rU⊢;omega):=h
def DW(h:p:=by rw[fm,fm];unfold aE;simp at rU⊢;omega):=h
def DX(h:p:=by simp[aw];simpa[Z]using q):=h
def DY(h:p:=by simp[aw];exact gJ (q+1) Zo):=h
def DZ(h:p:=by rw[Gt];exact hl):=h
def D0(h:p:=by cases dst<;>simp only[St.put];split<;>rfl):=h
def D1(h:p:=by obtain rfl|rfl:=Fj<;>rfl):=h
def D2(h:p:=by rw[vB];show q+1<=aE;unfold aE;omega):=h
def D3(h:p:=by simp;have:=ht.len;simp at this;omega):=h
def D4(h:p:=by rw[nv];exact bW c7):=h
def D5(h:p:=by rw[nv];exact b_ c7):=h
def D6(h:p:=by funext o c;exact SB c [] o):=h
def D7(h:p:=by simp only[dg,kg];exact he _ fa):=h
def D8(h:p:=by simp only[cF,dt,gD,lh];exact⟨b,a⟩):=h
def D9(h:p:=by
 first|exact absurd q Zd|(have:=(lN kZ.fit).1;simp[fo]at this;omega)):=h
def D'(h:p:=by simp[ai,show t≠8 by omega,show t≠9 by omega]):=h
def Iv(h:p:=by simp only[dg,kg];exact .ms _ _<|i6.2 Zo):=h
def Iw(h:p:=by simp only[aY,de,cF,dt,gD,ri,kg];exact⟨kJ,nq _⟩):=h
def Ix(h:p:=by simp[Builtin.len_,fJ he,goInt]):=h
def Iy(h:p:=by have:=xg;simp only[aE]at this;omega):=h
def Iz(h:p:=by obtain⟨d',e,rfl⟩:=qU hi;exact ih i d' v e hv):=h
def IA(h:p:=by rw[h];exact .cl _<|.sc _):=h
def IB(h:p:=by rw[kM];exact aP.2 ⟨y,hy,C⟩):=h
def IC(h:p:=by simpa[aw]using .inl ⟨C,C⟩):=h
def ID(h:p:=by rw[fv];exact .inl ⟨C,C,Zs⟩):=h
def IE(h:p:=by have:=hd.len;unfold aE;omega):=h
def IF(h:p:=by obtain⟨x,-,rfl⟩:=aP.1 h;rfl):=h
def IG(h:p:=by simp[ai,cH ht (u:=8) C,cH ht (u:=9) C]):=h
def IH(h:p:=by have:=h.o;simp only[O.ok]at this;exact this.2.1):=h
def Ov(h:p:=by obtain⟨xa,ga,k1,k2,k3⟩:=h1.ob;obtain⟨aiZ,aiJ,Tl,aiP,aiQ⟩:=h'.ob;rw[k1]at Tl;cases Tl;exact b1):=h
def Ow(h:p:=by rw[mZ];show ay.length+1<=aE;unfold aE;omega):=h
def Ox(h:p:=by simp[ai,show t≠9 by omega,show t≠1000 by omega]):=h
def Oy(h:p:=by rw[Ch];have:=xK n i;unfold aE;simp;omega):=h
def OA(h:p:=by simp only[iL,GI hd,any_append,xV,any_nil,Mx]):=h
def OB(h:p:=by rw[lJ];show n.length+1<=aE;unfold aE;omega):=h
def OC(h:p:=by simp only[aY,de,cF,dt,gD,ri,kg];exact⟨nq _,nq _⟩):=h
def OD(h:p:=by obtain⟨x,-,rfl⟩:=aP.1 hr;simp[gQ]at hd;obtain rfl|rfl|rfl|rfl|rfl:=hd<;>exact bc _):=h
def OE(h:p:=by simp[Instr.fieldAt,fJ hu,Fp,Instr.sureAddr,fieldPlace,nH hn,Fu,add_lit]):=h
def OF(h:p:=by rw[e,Ho,Nat.mul_add_div Zo,Nat.div_eq_of_lt hj,oX]):=h
def OG(h:p:=by exact⟨C,C,C,bJ _,λ_ _=>C⟩):=h
def OH(h:p:=by constructor;exact .inl;rintro(q|q);exact q;omega):=h
def OI(h:p:=by rw[hd]at he;cases he;exact .fz (.cl d (SU d (fE hd)))):=h
def OJ(h:p:=by have:=MT (l.length+1) hp;simp[au];unfold aE;omega):=h
def OM(h:p:=by simp only[lB,h7,bx,cy]at f3;exact f3.1):=h
def OP(h:p:=by simp only[(he 25 Zd).trans (by simp[aw];exact EO),(he 26 Zd).trans (by simp[aw];exact EP),bM,dt,hU,im,aw,↓reduceIte,bj,kV,lE]):=h
def OQ(h:p:=by rw[en];intro d hd;obtain⟨r,hr,hd⟩:=eL.1 hd;rw[J.cu]at hr;obtain⟨z,-,rfl⟩:=aP.1 hr;exact J.one z d hd):=h
def OR(h:p:=by rw[dm bw,bX,eR];simp only[b4,eO,dT,fX,de]):=h
def OS(h:p:=by simp only[au,aP];rintro r⟨y,_,rfl⟩d hd;simp at hd;subst hd;exact Bi.cl y):=h
def OT(h:p:=by intro q;have:=eo A q;simp[au]at this;rw[this]at S2;simp at S2):=h
def OU(h:p:=by rw[en];intro d hd;rw[kM]at hd;obtain⟨z,-,rfl⟩:=aP.1 hd;exact Bi.one z):=h
def OV(h:p:=by exfalso;have:=eo A e;simp only[b9,xQ,ij,gR]at this;omega):=h
def OW(h:p:=by rw[O.cu,O.cu,dm bw,bX];rfl):=h
def OX(h:p:=by simp only[aY,de,rb,re,bM];exact⟨aL.J3 hx,.cl _<|bc _,Zs⟩):=h
def OZ(h:p:=by simp only[e0,e1,e2,m2,bM,dt,hU,im,aw,↓reduceIte,bj,reduceCtorEq,kV,lE]):=h
def O0(h:p:=by rw[<-Fl];simp only[aY,de,bM];exact⟨ae.db _,Cl.bC<|aJ.cl _,Zs⟩):=h
def O4(h:p:=by have:=(lN h.tc.fit).1;simp[fo]at this;omega):=h
def O5(h:p:=by have:=h.tc.form.2.2.2.1;simp[jI]at this;omega):=h
def O6(h:p:=by simp only[cF,dt,gD,ri,kg]at ka kb⊢;exact⟨ka,kb⟩):=h
def O7(h:p:=by simp[ai,cH ht (u:=8) C,cH ht (u:=9) C,cH ht (u:=11) C,cH ht (u:=13) C,cH ht (u:=16) C]):=h
def O8(h:p:=by simp only[dA,bE,C',hf];omega):=h
def O9(h:p:=by obtain⟨x,-,rfl⟩:=aP.1 h;simp at hd;subst hd;exact bc _):=h
def O'(h:p:=by rw[iY<|ha _,fg,ij];omega):=h
def O_(h:p:=by rw[fg,Rk];show(i-1+1)*8<=_;omega):=h
def Ph(h:p:=by rw[fg,Rk];show i-1+1<=aE;unfold aE;omega):=h
def Pj(h:p:=by obtain⟨x,-,rfl⟩:=aP.1 hr;simp at hd;subst hd;exact db.2<|J.dl x):=h
def Pk(h:p:=by constructor<;>first|kernel_rfl|(intro w;kernel_rfl)|exact XN Zk Zk):=h
def Pl(h:p:=by simp only[dg,kg];exact Cl.eT ((Pb)<|bc _)):=h
end
open Go.RowKit
variable {gc ih:Prop}{am a0 a2 a4:Nat}{g5:bI}{g3:aH}{acc ajk ajn ajp:lC}{g2:Type}
def Zo(a:gc:=by omega):gc:=a
def Zs(a:gc:=by simp):gc:=a
def Zd(a:gc:=by decide):gc:=a
def Zk(a:gc:=by kernel_rfl):gc:=a
def Zt(a:gc:=by conv=>lhs;whnf):gc:=a
def bF(a:gc:=by simp[ai]):gc:=a
def ch(a:gc:=by simp;omega):gc:=a
def fR(a:gc:=by simp[aw]):gc:=a
def jC(a:gc:=by unfold aE;omega):gc:=a
def fa(a:gc:=by simp[eY]):gc:=a
def m_(a:gc:=by simp;unfold aE;omega):gc:=a
def hF(a:gc:=by simp[aw,dS,ai]):gc:=a
def nT(a:gc:=by simp[cO,Value.oneCell']):gc:=a
def u0(a:gc:=by simp[Op.operands]):gc:=a
def Yq(b:gc)(a:gc->ih:=by intro d;simpa using d):ih:=a b
def Yr(b:gc)(a:gc->ih:=by intro d;simp[d]):ih:=a b
def Ys(b:gc)(a:gc->ih:=by intro d;simp at d;omega):ih:=a b
def Yo(b:gc)(a:gc->ih:=by intro d;omega):ih:=a b
def Yw(b:gc)(a:gc->ih:=by intro d;rw[d]):ih:=a b
def Yf(b:gc)(a:gc->ih:=by intro d;rw[d];rfl):ih:=a b
def Yx(b:gc)(a:gc->ih:=by intro d;rw[d];simp):ih:=a b
def Yv(b:gc)(a:gc->ih:=by intro d;rw[d];omega):ih:=a b
structure uT (p:Prop):Prop where
 h:p
def Yy{r a:Prop}(d:gc)(b:gc->uT r->a:=by intro e g;rw[e];exact g.h)(f:r):a:=b d ⟨f⟩
def Pb(a:uT gc->ih:=by intro d;simp only[dg,kg];exact d.h)(b:gc):ih:=a ⟨b⟩
def Pc(a:uT gc->ih:=by intro d;simp only[aY,de,cF,dt,gD,ri,kg];exact d.h)(b:gc):ih:=a ⟨b⟩
def Pd(a:uT gc->ih:=by intro d;simp only[pH,bM];exact d.h)(b:gc):ih:=a ⟨b⟩
def Pz(a:uT gc->ih:=by intro d;simp only[aY,de,rb,re,bM];exact d.h)(b:gc):ih:=a ⟨b⟩
def Pf(a:uT gc->ih:=by intro d;rw[en];exact d.h)(b:gc):ih:=a ⟨b⟩
theorem Zg(a:gc:=by first|omega|grind):gc:=a
abbrev dZ:=Nat->Option (Nat×Nat×Nat)
abbrev bi:=Nat->Nat
abbrev cG:=Nat->Prop
abbrev Hv:=Nat×Nat×Nat
abbrev ky:=Array aN
abbrev ql:=Array Bool
abbrev ax:=List Nat
abbrev IL:=List Int
abbrev aX:=List ByteArray
abbrev ON:=Option Nat
abbrev VL:=List aN
abbrev hV:=List lC
abbrev io:=Array dU
abbrev kB:=List dU
abbrev BA:=ByteArray
inductive D where
 |sc (v:aN)
 |sl (sz:Nat) (aq:List (List D))
 |cs (sz:Nat) (aq:List (List D))
 |ag (ds:List D)
 |tp (ds:List D)
 |cp (ds:List D)
 |pa (b:Nat) (ds:List D)
 |rf (d gen off:Nat)
 |ms (d gen len:Nat)
 |mp (d gen:Nat)
 |fn (f:bI) (aW e:List D)
 |any
abbrev fL:=Nat->D
abbrev cB:=List<|List D
abbrev bp:D:=.sc<|.slice Q 0 0
abbrev DL:=List D
instance:Inhabited D:=⟨.any⟩
structure View where
 dD:Nat->Nat->Option aN
 g:Nat->Option (Nat×Nat×Nat)
 n:Nat->Nat
 K:Nat->Prop
structure View.Ext (ay d:View):Prop where
 c:∀b o u,ay.dD b o=E u->d.dD b o=E u/\(ay.K b->d.K b)
 n:∀s,ay.n s<=d.n s
 g:∀s x b c,x<ay.n s->d.g s=E (x,b,c)->ay.g s=E (x,b,c)
def View.Ext.trans{l i j:View}(h:l.Ext i)(k:i.Ext j):l.Ext j:=
 ⟨λb e f d=>⟨(k.c b e f (h.c b e f d).1).1,λq=>(k.c b e f (h.c b e f d).1).2<|(h.c b e f d).2 q⟩,λs=>gS (h.n s)<|k.n s,λs p b m o d=>h.g s p b m o<|k.g s p b m (iR o<|h.n s) d⟩
def noRoom:aN->Bool
 |.slice (E _) l c=>l==c
 |.slice Q l _=>l==0
 |_=>af
inductive Rd (ay:View):D->aN->Prop
 |sc (v:aN):Rd ay (.sc v) v
 |any (v:aN):Rd ay .any v
 |nil (sz:Nat):Rd ay (.sl sz []) (.slice Q 0 0)
 |gv (sz:Nat) (a:Addr) (cap:Nat) (hm:cap<=aE):Rd ay (.sl sz []) (.slice (E a) 0 cap)
 |sl (sz:Nat) (aq:List (List D)) (b o cap:Nat) (us:Nat->Nat->aN) (p:A aq<=cap) (hm:cap<=aE)
  (e:∀(i:Nat)(r:List D),aq[i]?=E r->A r=sz)
  (k:∀(i:Nat)(r:List D)(j:Nat)(d:D),aq[i]?=E r->r[j]?=E d->ay.dD b (o+i*sz+j)=E (us i j))
  (l:∀(i:Nat)(r:List D)(j:Nat)(d:D),aq[i]?=E r->r[j]?=E d->Rd ay d (us i j)):
  Rd ay (.sl sz aq) (.slice (E ⟨b,o,Q⟩) (A aq) cap)
 |cs (sz:Nat) (aq:List (List D)) (v:aN) (h:Rd ay (.sl sz aq) v) (p:noRoom v=W):Rd ay (.cs sz aq) v
 |ag (ds:List D) (vs:List aN) (e:A ds=A vs) (h:∀(i:Nat)(d:D)(v:aN),ds[i]?=E d->vs[i]?=E v->Rd ay d v):Rd ay (.ag ds) (.agg vs.toArray)
 |tp (ds:List D) (vs:List aN) (e:A ds=A vs) (h:∀(i:Nat)(d:D)(v:aN),ds[i]?=E d->vs[i]?=E v->Rd ay d v):Rd ay (.tp ds) (.tuple vs.toArray)
 |cp (ds:List D) (b o:Nat) (us:Nat->aN) (k:∀(j:Nat)(d:D),ds[j]?=E d->ay.dD b (o+j)=E (us j)) (l:∀(j:Nat)(d:D),ds[j]?=E d->Rd ay d (us j)):
  Rd ay (.cp ds) (.pointer (E ⟨b,o,Q⟩))
 |pa (b:Nat) (ds:List D) (us:Nat->aN) (t:0<A ds) (u:ay.K b) (k:∀(j:Nat)(d:D),ds[j]?=E d->ay.dD b j=E (us j)) (l:∀(j:Nat)(d:D),ds[j]?=E d->Rd ay d (us j)):
  Rd ay (.pa b ds) (.pointer (E ⟨b,0,Q⟩))
 |rf (s g o:Nat) (a:Addr) (m:g<ay.n s) (h:∀b c,ay.g s=E (g,b,c)->a=⟨b,o,Q⟩):Rd ay (.rf s g o) (.pointer (E a))
 |ms (s g len:Nat) (a:Addr) (cap:Nat) (m:g<ay.n s/\len<=cap) (h:∀b c,ay.g s=E (g,b,c)->a=⟨b,0,Q⟩/\cap=c):Rd ay (.ms s g len) (.slice (E a) len cap)
 |mp (s g b':Nat) (m:g<ay.n s) (h:∀b c,ay.g s=E (g,b,c)->b'=b):Rd ay (.mp s g) (.map (E b'))
 |fn (f:bI) (ds es:List D) (vs us:List aN) (e:A ds=A vs) (x:A es=A us)
  (h:∀(i:Nat)(d:D)(v:aN),ds[i]?=E d->vs[i]?=E v->Rd ay d v) (q:∀(i:Nat)(d:D)(v:aN),es[i]?=E d->us[i]?=E v->Rd ay d v):
  Rd ay (.fn f ds es) (.func (.func f) vs.toArray us.toArray)
def Rd.mono{F C:View}(f:F.Ext C){d:D}{v:aN}(l:Rd F d v):Rd C d v:=by
 induction l with
 |sc v=>exact .sc v
 |any v=>exact .any v
 |nil o=>exact .nil o
 |gv o a q A=>exact .gv o a q A
 |sl o B b x q us z A m h1 _ e=>exact .sl o B b x q us z A m (λi r j d K u=>(f.c _ _ _<|h1 i r j d K u).1) e
 |cs o B v _ z e=>exact .cs o B v e z
 |ag h y m _ e=>exact .ag h y m e
 |tp h y m _ e=>exact .tp h y m e
 |cp h b x us h1 _ e=>exact .cp h b x us (λj d u=>(f.c _ _ _<|h1 j d u).1) e
 |pa b h us G L h1 _ e=>exact .pa b h us G ((f.c _ _ _<|h1 0 _<|bL G).2 L) (λj d u=>(f.c _ _ _<|h1 j d u).1) e
 |rf s g x a k l=>exact .rf s g x a (iR k<|f.n s) λb p t=>l b p (f.g _ _ _ _ k t)
 |ms s g S a q k l=>exact .ms s g S a q ⟨iR k.1<|f.n s,k.2⟩ λb p t=>l b p (f.g _ _ _ _ k.1 t)
 |mp s g b k l=>exact .mp s g b (iR k<|f.n s) λb p t=>l b p (f.g _ _ _ _ k t)
 |fn J h I y us m O _ _ e R=>exact .fn J h I y us m O e R
inductive Cl:D->Prop
 |sc (v:aN):Cl (.sc v)
 |any:Cl .any
 |sl (sz:Nat) (aq:List (List D)) (h:∀(i:Nat)(r:List D)(j:Nat)(d:D),aq[i]?=E r->r[j]?=E d->Cl d):Cl (.sl sz aq)
 |cs (sz:Nat) (aq:List (List D)) (h:Cl (.sl sz aq)):Cl (.cs sz aq)
 |ag (ds:List D) (h:∀(i:Nat)(d:D),ds[i]?=E d->Cl d):Cl (.ag ds)
 |tp (ds:List D) (h:∀(i:Nat)(d:D),ds[i]?=E d->Cl d):Cl (.tp ds)
 |cp (ds:List D) (h:∀(i:Nat)(d:D),ds[i]?=E d->Cl d):Cl (.cp ds)
 |pa (b:Nat) (ds:List D) (h:∀(i:Nat)(d:D),ds[i]?=E d->Cl d):Cl (.pa b ds)
 |fn (f:bI) (ds es:List D) (h:∀(i:Nat)(d:D),ds[i]?=E d->Cl d) (e:∀(i:Nat)(d:D),es[i]?=E d->Cl d):Cl (.fn f ds es)
def Rd.closed{y x:View}(q:∀b t F,y.dD b t=E F->x.dD b t=E F/\(y.K b->x.K b)){d:D}{v:aN}(J:Rd y d v)(k:Cl d):Rd x d v:=by
 induction J with
 |sc v=>exact .sc v
 |any v=>exact .any v
 |nil p=>exact .nil p
 |gv p a z A=>exact .gv p a z A
 |sl p B b t z us L A m h1 _ j=>
  cases k with|sl _ _ k=>
  exact .sl p B b t z us L A m (λf r i d e h=>(q _ _ _<|h1 f r i d e h).1) λf r i d e h=>j f r i d e h<|k f r i d e h
 |cs p B v _ q j=>cases k with|cs _ _ k=>exact .cs p B v (j k) q
 |ag l u m _ j=>cases k with|ag _ k=>exact .ag l u m λf d v e o=>j f d v e o (k f d e)
 |tp l u m _ j=>cases k with|tp _ k=>exact .tp l u m λf d v e o=>j f d v e o (k f d e)
 |cp l b t us h1 _ j=>cases k with|cp _ k=>exact .cp l b t us (λi d h=>(q _ _ _<|h1 i d h).1) λi d h=>j i d h (k i d h)
 |pa b l us C O h1 _ j=>cases k with|pa _ _ k=>exact .pa b l us C ((q _ _ _<|h1 0 _<|bL C).2 O) (λi d h=>(q _ _ _<|h1 i d h).1) λi d h=>j i d h (k i d h)
 |rf=>cases k
 |ms=>cases k
 |mp=>cases k
 |fn I l G u us m R _ _ j S=>
  cases k with|fn _ _ _ k U=>
  exact .fn I l G u us m R (λf d v e o=>j f d v e o<|k f d e) λf d v e o=>S f d v e o<|U f d e
def Em(op:BinOp):aN->aN->Option aN
 |.int k a,.int d b=>if k=d then(match op with
  |.add=>E (.int k<|k.wrap<|a+b)|.sub=>E (.int k<|k.wrap<|a-b)|.mul=>E (.int k<|k.wrap<|a*b)
  |.quo=>if b=0 then Q else E (.int k<|k.wrap<|a.tdiv b)|.rem=>if b=0 then Q else E (.int k<|a.tmod b)
  |.eql=>E (.bool<|a==b)|.neq=>E (.bool<|a !=b)|.lss=>E (.bool<|ah<|a<b)|.leq=>E (.bool<|ah<|a<=b)
  |.gtr=>E (.bool<|ah<|a>b)|.geq=>E (.bool<|ah<|a>=b)|_=>Q)else Q
 |.string a,.string b=>match op with
  |.add=>if a.size+b.size<=aE then E (.string<|a++b)else Q
  |.eql=>E (.bool<|a.toList==b.toList)|.neq=>E (.bool<|!(a.toList==b.toList))|.lss=>E (.bool<|Op.bytesLess a.toList b.toList)|_=>Q
 |_,_=>Q
def GZ(op:UnOp):aN->Option aN
 |.bool b=>(match op with|.not=>E (.bool<|!b)|_=>Q)
 |.int k n=>(match op with|.neg=>E (.int k<|k.wrap<|0-n)|_=>Q)
 |_=>Q
def XQ{P:aH}{op:BinOp}{e v r:aN}(d:Em op e v=E r)(f:a6)(j k:gK)(w:a8):
 (do eqGuard op f j k e v;binOp op f e v:Sem aN).run P w=.ok r w:=by
 unfold Em at d;split at d
 .rename_i l a m b;split at d
  .rename_i h;subst h;rw[eqGuard_at_int];cases op<;>simp only[eH,reduceCtorEq]at d<;>
    first
    |(subst d;simp[binOp,Op.intArith,Op.intCmp];done)
    |(split at d<;>simp only[eH,reduceCtorEq]at d;subst d;simp[binOp,Op.intDiv, *];done)
  cases d
 .rename_i a b;rw[eqGuard_at_string];cases op<;>simp only[eH,reduceCtorEq]at d<;>
   first
   |(subst d;simp[binOp,Op.stringOp];done)
   |(split at d<;>simp only[eH,reduceCtorEq]at d;subst d;rename_i i;simp only[aE]at i;simp[binOp,Op.stringOp,IntKind.max,IntKind.signed,IntKind.bits];omega)
 cases d
def ahB{P:aH}{op:UnOp}{d r:aN}(b:GZ op d=E r)(w:a8):(Op.unary op d).run P w=.ok r w:=by
 unfold GZ at b;split at b
 .cases op<;>simp only[eH,reduceCtorEq]at b;subst b;simp[Op.unary]
 .cases op<;>simp only[eH,reduceCtorEq]at b;subst b;simp[Op.unary,Op.intArith]
 cases b
structure Ob where
 gen:Nat
 elem:a6
 sz:Nat
 cells:List D
 keys:Option (List aN):=Q
abbrev a':=Nat->Option Ob
abbrev sC:=Option Ob
structure TE where
 u:aN
 d:D
 F:List Nat
abbrev cf:=List TE
structure St where
 env:Nat->D
 H:Nat->Option Ob
 n:Nat->Nat
 nt:Nat
 T:List TE:=[]
 N:Nat:=0
abbrev aU:=St->Prop
abbrev gg:=iG->aU
def dY:Nat->Nat:=λ_=>0
def eP(n:bi)(t:Nat):Nat->Nat:=λi=>if i=t then n i+1 else n i
def wO(d:bi)(b:Nat):eP d b b=d b+1:=by simp[eP]
def Q0(d:bi)(e b:Nat):d b<=eP d e b:=by unfold eP;split<;>omega
def aw(e:fL)(t:Nat)(d:D):Nat->D:=λi=>if i=t then d else e i
def St.put(s:St)(o:Option Nat)(d:D):St:=
 match o with
 |some t=>if t<s.nt then{s with env:=aw s.env t d}else s
 |none=>s
def St.ev(s:St):gK->D
 |.tmp t=>s.env t
 |.const v=>.sc v
 |.func f=>.fn f [] []
 |.global _=>.any
def od(P:aH)(t:a6):ON:=(P.info? t).map (·.size)
def yH(P:aH)(t:a6):Option Bool:=(P.underlying t).map λ|.struct _|.array _ _=>W|_=>af
def rI(P:aH)(t:a6):ON:=match P.underlying t with|some (.slice e)=>od P e|_=>Q
def w2(P:aH)(t:a6)(f:Nat):Option Nat:=
 match P.underlying t with
 |some (.struct b)=>match b[f]? with|some x=>(match od P x.type with|some 0|none=>Q|_=>E x.offset)|none=>Q
 |_=>Q
def EX(P:aH)(t:a6)(f:Nat):Option<|a6×Nat:=
 match P.underlying t with
 |some (.struct b)=>(b[f]?).map λx=>(x.type,x.offset)
 |_=>Q
def jl(P:aH)(t:a6):Nat:=match P.underlying t with|some .string=>0|some (.slice _)=>1|some .bool=>2|some (.int _)=>3|_=>4
def xl(P:aH)(t:a6):Option IntKind:=match P.underlying t with|some (.int k)=>E k|_=>Q
def uy(P:aH)(t:a6)(ds:List D):Option D:=
 match yH P t with
 |some W=>match od P t with
  |some n=>if n<=A ds then E (.ag<|Y n ds)else Q
  |none=>Q
 |some af=>ds.head?
 |none=>Q
def um(P:aH)(s:St)(t:a6):D->Option D
 |.cp ds=>uy P t ds
 |.pa _ ds=>uy P t ds
 |.rf b x off=>match s.H b with
  |some ob=>if ob.gen=x/\ob.keys=Q then uy P t (ob.cells.drop off)else Q
  |none=>Q
 |_=>Q
def xn(P:aH)(t:a6):D->Option D
 |.sc (.string b)=>if jl P t=0 then E (.sc<|.int .i64 b.size)else Q
 |.sc (.slice Q 0 0)=>if jl P t=1 then E (.sc<|.int .i64 0)else Q
 |.sl _ aq=>if jl P t=1 then E (.sc<|.int .i64<|A aq)else Q
 |.ms _ _ len=>if jl P t=1 then E (.sc<|.int .i64 len)else Q
 |_=>Q
def Eu(P:aH)(t:a6):D->Option D
 |.sc (.slice Q 0 0)=>if jl P t=1 then E (.sc<|.int .i64 0)else Q
 |_=>Q
def FE(P:aH)(t:a6):D->D->Option D
 |.sl sz aq,.sc (.int _ n)=>match aq[n.toNat]? with
  |some r=>if 0<=n/\rI P t=E sz then E (.cp r)else Q
  |none=>Q
 |.ms b x len,.sc (.int _ n)=>match rI P t with
  |some sz=>if 0<=n/\n<len then E (.rf b x<|n.toNat*sz)else Q
  |none=>Q
 |_,_=>Q
def EV(P:aH)(t:a6)(f:Nat):D->Option D
 |.cp ds=>(w2 P t f).map λo=>.cp (ds.drop o)
 |.pa _ ds=>(w2 P t f).map λo=>.cp (ds.drop o)
 |.rf b x off=>(w2 P t f).map λo=>.rf b x (off+o)
 |_=>Q
def FF(P:aH)(t:a6):D->D->Option D
 |.sc (.string b),.sc (.int _ n)=>if jl P t=0/\0<=n then(b[n.toNat]?).map λc=>.sc (.int .u8 c.toNat)else Q
 |_,_=>Q
def aiS(a b:aN):Option aN:=match a,b with|.int k x,.int d y=>if k=d then E (.int k (if x<y then y else x))else Q|_,_=>Q
def oc(P:aH)(t:a6):Bool:=match P.underlying t with|some (.pointer e)=>(match od P e with|some (_+1)=>W|_=>af)|_=>af
def F2(P:aH)(t:a6):Bool:=match P.underlying t with|some (.map _ _)=>W|_=>af
def oI(op:BinOp)(b:Bool):Option D:=match op with|.eql=>E (.sc<|.bool b)|.neq=>E (.sc<|.bool<|!b)|_=>Q
def sd(P:aH)(s:St):gC->Option D
 |.move x|.assign x=>E (s.ev x)
 |.pick c a b=>match s.ev c with|.sc (.bool t)=>E (if t then s.ev a else s.ev b)|_=>Q
 |.binOp op t x y _=>match s.ev x,s.ev y with
  |.sc (.bool a),.sc (.bool b)=>if jl P t=2 then(match op with|.eql=>E (.sc<|.bool<|a==b)|.neq=>E (.sc<|.bool<|a !=b)|_=>Q)else Q
  |.sc (.slice a _ _),.sc (.slice Q 0 0)=>if jl P t=1 then oI op a.isNone else Q
  |.sc (.pointer a),.sc (.pointer Q)=>if oc P t=W then oI op a.isNone else Q
  |.sc (.map a),.sc (.map Q)=>if F2 P t=W then oI op a.isNone else Q
  |.sc u,.sc v=>(Em op u v).map .sc
  |.sl _ (_::_),.sc (.slice Q 0 0)=>if jl P t=1 then oI op af else Q
  |.ms _ _ _,.sc (.slice Q 0 0)=>if jl P t=1 then oI op af else Q
  |.pa b _,.pa b' _=>if oc P t=W then oI op (b==b')else Q
  |.pa _ _,.sc (.pointer Q)=>if oc P t=W then oI op af else Q
  |.sc (.pointer Q),.pa _ _=>if oc P t=W then oI op af else Q
  |_,_=>Q
 |.unOp op _ x=>match s.ev x with|.sc u=>(GZ op u).map .sc|_=>Q
 |.extract x i=>match s.ev x with|.tp ds=>ds[i]?|_=>Q
 |.field t x f=>match s.ev x,EX P t f with|.ag ds,E (d,o)=>uy P d (ds.drop o)|_,_=>Q
 |.index t x i=>FF P t (s.ev x) (s.ev i)
 |.indexAddr t x i=>FE P t (s.ev x) (s.ev i)
 |.fieldAddr t x f=>EV P t f (s.ev x)
 |.load t x=>um P s t (s.ev x)
 |.nilCheck x=>match s.ev x with|.cp ds=>E (.cp ds)|.pa b ds=>E (.pa b ds)|.rf a b c=>E (.rf a b c)|.fn f a b=>E (.fn f a b)|_=>Q
 |.makeFunc (.func f) aW aV=>E (.fn f (aW.toList.map s.ev)<|aV.toList.map s.ev)
 |.convert src dst x=>match s.ev x,xl P dst,(P.underlying src).isSome with|.sc (.int _ n),E k,W=>E (.sc<|.int k<|k.wrap n)|_,_,_=>Q
 |.call c=>match c.callee with
  |.builtin .len=>match c.args.toList,c.argTypes.toList with|[x],[t]=>xn P t (s.ev x)|_,_=>Q
  |.builtin .cap=>match c.args.toList,c.argTypes.toList with|[x],[t]=>Eu P t (s.ev x)|_,_=>Q
  |_=>Q
 |_=>Q
open Classical in
def aR(w:a8)(M:cG)(g:dZ)(n:bi):View where
 dD b o:=if M b\/∃s x c,g s=E (x,b,c)then Q else w.cell? ⟨b,o,Q⟩
 g:=g
 n:=n
 K b:=∃us e,w.heap[b]?=E (.cells us e (0,0))
def eW{w:a8}{M:cG}{g:dZ}{h:bi}{b e:Nat}{f:aN}(d:(aR w M g h).dD b e=E f):w.cell? ⟨b,e,Q⟩=E f:=by
 simp only[aR]at d;split at d
 .cases d
 exact d
theorem dQ{w:a8}{M:cG}{g:dZ}{f:bi}{b h:Nat}{i:aN}(d:(aR w M g f).dD b h=E i):¬M b/\∀s j e,g s≠E (j,b,e):=by
 simp only[aR]at d;split at d
 .cases d
 exact Zg
theorem fD{w:a8}{M:cG}{g:dZ}{h:bi}{b d:Nat}{e:aN}(j:w.cell? ⟨b,d,Q⟩=E e)(k:¬M b)(l:∀s i f,g s≠E (i,b,f)):(aR w M g h).dD b d=E e:=by
 simp only[aR];exact Zg
def ku{w:a8}{M d:cG}{g e:dZ}{h i:bi}{b:Nat}(f:(aR w M g h).K b):(aR w d e i).K b:=f
def jh(w:a8)(b:Nat)(ob:Ob)(vs:Array aN):Prop:=
 match ob.keys with
 |none=>w.heap[b]?=E (.cells vs ob.elem (0,0))
 |some ks=>∃d e,w.heap[b]?=E (.map d e)/\d.toList.map (·.key)=ks/\d.toList.map (·.val)=vs.toList/\(d.toList.map (·.born)).Nodup/\∀x∈d.toList,x.born<e
def jh.mono{w f:a8}{b:Nat}{d:Ob}{e:ky}(i:jh w b d e)(h:f.heap[b]?=w.heap[b]?):jh f b d e:=by
 unfold jh at*;rw[h];exact i
def jh.cells{w:a8}{b:Nat}{e:Ob}{f:ky}(d:jh w b e f)(h:e.keys=Q):w.heap[b]?=E (.cells f e.elem (0,0)):=by
 unfold jh at d;rw[h]at d;exact d
def jh.of{w:a8}{b:Nat}{d:Ob}{e:ky}(f:w.heap[b]?=E (.cells e d.elem (0,0)))(h:d.keys=Q):jh w b d e:=by
 unfold jh;rw[h];exact f
theorem jh.lt{w:a8}{b:Nat}{ob:Ob}{vs:ky}(d:jh w b ob vs):b<w.heap.size:=by
 unfold jh at d;split at d
 .exact(nO.1 d).1
 exact Zg
structure Dr (ay:View) (w:a8) (t:Nat) (ob:Ob):Prop where
 gen:ob.gen<ay.n t
 ex:∃b c vs,ay.g t=E (ob.gen,b,c)/\jh w b ob vs/\(ob.keys=Q->vs.size=c*ob.sz)/\c<=aE/\A ob.cells<=vs.size/\∀(j:Nat)(d:D),ob.cells[j]?=E d->∃u,vs[j]?=E u/\Rd ay d u
inductive T1 (w:a8):D->aN->List Nat->Prop
 |sc (v:aN):T1 w (.sc v) v []
 |nil (sz:Nat):T1 w (.sl sz []) (.slice Q 0 0) []
 |gv (sz:Nat) (a:Addr) (cap:Nat) (hm:cap<=aE):T1 w (.sl sz []) (.slice (E a) 0 cap) []
 |sl (sz:Nat) (aq:List (List D)) (b cap:Nat) (vs:Array aN) (e:a6) (us:Nat->aN) (f:Nat->List Nat) (hb:w.heap[b]?=E (.cells vs e (0,0)))
  (k:A aq<=cap) (hm:cap<=aE) (m:vs.size=cap*sz) (i:0<sz) (l:∀r∈aq,A r=sz)
  (o:∀(j:Nat)(d:D),(ao aq)[j]?=E d->vs[j]?=E (us j)) (h:∀(j:Nat)(d:D),(ao aq)[j]?=E d->T1 w d (us j) (f j)):
  T1 w (.sl sz aq) (.slice (E ⟨b,0,Q⟩) (A aq) cap) (b::(cz (A (ao aq))).flatMap f)
theorem T1.mono{w k:a8}{d:D}{v:aN}{F:ax}(o:T1 w d v F):(∀b∈F,k.heap[b]?=w.heap[b]?)->T1 k d v F:=by
 induction o with
 |sc v=>exact λ_=>.sc v
 |nil e=>exact λ_=>.nil e
 |gv e a f h=>exact λ_=>.gv e a f h
 |sl e A b f B m us l q r h x p u y _ z=>
  exact λi=>.sl e A b f B m us l ((i b Zs).trans q) r h x p u y λj d t=>z j d t λC G=>i C<|Zg
def T1.lt{w:a8}{d:D}{v:aN}{F:ax}(i:T1 w d v F):∀b∈F,b<w.heap.size:=by
 induction i with
 |sc v=>simp
 |nil f=>simp
 |gv f a h l=>simp
 |sl f A b h vs r us q j u l y t x z _ m=>
  intro p e;obtain rfl|e:=cF.1 e
  .exact(nO.1 j).1
  have⟨o,k,e⟩:=Da.1 e;exact m o _ (bL<|oo.1 k) p e
theorem iY{aq:cB}{sz:Nat}(b:∀r∈aq,A r=sz):A (ao aq)=A aq*sz:=by
 induction aq with
 |nil=>simp
 |cons r aq d=>
  exact Zg
def mJ{aq:cB}{sz:Nat}(e:∀r∈aq,A r=sz){i j:Nat}{r:DL}{d:D}(b:aq[i]?=E r)(f:r[j]?=E d):(ao aq)[i*sz+j]?=E d:=by
 induction aq generalizing i with
 |nil=>simp at b
 |cons l aq k=>
  have o:=e l Zs;rw[dT];cases i with
  |zero=>
   simp at b;subst b;rw[Nat.zero_mul,ew,lY (dX.1 f).1];exact f
  |succ i=>
   rw[kR (by rw[sv];omega)];have m:=k (λr h=>e r<|Yr h) (i:=i)<|Yq b;rw[<-m];congr 1;rw[sv];omega
def T1.rd{w:a8}{M:cG}{g:dZ}{C:bi}{d:D}{v:aN}{F:ax}(u:T1 w d v F):(∀b∈F,¬M b/\∀s o t,g s≠E (o,b,t))->Rd (aR w M g C) d v:=by
 induction u with
 |sc v=>exact λ_=>.sc v
 |nil e=>exact λ_=>.nil e
 |gv e a h l=>exact λ_=>.gv e a h l
 |sl e J b h S L us K x y l R O k z _ B=>
  intro p;have⟨G,I⟩:=p b Zs;refine .sl e J b 0 h (λi m=>us<|i*e+m) y l (λi r f=>k r<|fE f) (λi r m d f j=>?_) λi r m d f j=>?_
  .refine fD ?_ G I;rw[ew];simp only[World.cell?,x];exact z _ d<|mJ k f j
  have q:=mJ k f j;refine B _ d q λo A=>p o<|mo _<|Da.2 ⟨_,oo.2 (dX.1 q).1,A⟩
structure Bs where
 w:a8
 M:Nat->Prop
 X:Nat->Prop
 G:Nat->Option (Nat×Nat×Nat):=λ_=>Q
 N:Nat->Nat:=dY
 dq:List Deferred:=[]
def Bs.own(z:Bs)(b:Nat):Prop:=z.w.heap.size<=b\/z.X b
structure Bs.Ok (z:Bs) (w:a8):Prop where
 os:w.os=z.w.os
 tape:w.tape=z.w.tape
 output:w.output=z.w.output
 size:z.w.heap.size<=w.heap.size
 block:∀k,¬z.own k->w.heap[k]?=z.w.heap[k]?
 dr:z.w.drawn<=w.drawn
def Bs.Ok.step{e:Bs}{w b:a8}(h:e.Ok w)(j:b.os=w.os)(m:b.tape=w.tape)(k:b.output=w.output)(l:w.heap.size<=b.heap.size)(i:∀d,¬e.own d->b.heap[d]?=w.heap[d]?)(xe:w.drawn<=b.drawn:=by first|exact bJ _|exact oq _|assumption):e.Ok b:=
 ⟨j.trans h.os,m.trans h.tape,k.trans h.output,gS h.size l,λd f=>(i d f).trans<|h.block d f,gS h.dr xe⟩
structure pK (B:Nat) (w w':a8):Prop extends Below B w w' where
 dr:w.drawn<=w'.drawn
def Bs.vL{d:Bs}{b:Nat}(e:¬d.own b):b<d.w.heap.size:=by
 unfold Bs.own at e;omega
def Og(z:Bs)(g:dZ)(n:bi):Prop:=(∀t,z.N t<=n t)/\∀t x b c,x<z.N t->g t=E (x,b,c)->z.G t=E (x,b,c)
def Og.ext{o:Bs}{w r:a8}{M p:cG}{g f:dZ}{k l:bi}(j:(aR w M g k).Ext<|aR r p f l)(h:Og o g k):Og o f l:=
 ⟨λd=>gS (h.1 d)<|j.n d,λd m b e i q=>h.2 d m b e i<|j.g d m b e (iR i<|h.1 d) q⟩
def Og.start{w:a8}{M d:cG}{g:dZ}{b:bi}:Og ⟨w,M,d,g,b,[]⟩ g b:=⟨λ_=>bJ _,λ_ _ _ _ _ e=>e⟩
def Og.none{e:Bs}{g:dZ}{f:bi}(b:e.N=dY):Og e g f:=⟨λ_=>(Yy b)<|kT _,λ_ _ _ _ d=>by rw[b]at d;exact absurd d<|x_ _⟩
def ZM(z:Bs):Prop:=∀b,z.M b->¬z.own b
def MB(M:cG)(w:a8):Prop:=∀b,M b->b<w.heap.size
structure ba (w0:Bs) (M:Nat->Prop) (g:Nat->Option (Nat×Nat×Nat)) (s:St) (a:dF) (w:a8):Prop where
 defers:a.defers=w0.dq
 size:a.tmps.size=s.nt
 env:∀i,Rd (aR w M g s.n) (s.env i) (a.tmps.getD i eX)
 obj:∀t ob,s.H t=E ob->Dr (aR w M g s.n) w t ob
 base:∀t x b c,g t=E (x,b,c)->w0.own b/\b<w.heap.size
 inj:∀t f x b c h c',g t=E (x,b,c)->g f=E (h,b,c')->t=f
 below:w0.Ok w
 m0:∀b,M b->b<w.heap.size/\∀t x c,g t≠E (x,b,c)
 mm:∀b,M b↔w0.M b\/∃e∈s.T,b∈e.F
 zm:ZM w0
 tree:∀e∈s.T,T1 w e.d e.u e.F/\∀b∈e.F,w0.own b
 nd:(s.T.flatMap (·.F)).Nodup
 og:Og w0 g s.n
 wm:∀b,w0.own b->s.N<=b
def CM{w0:Bs}{M:cG}{g:dZ}{s:St}{a:dF}{w i:a8}(f:ba w0 M g s a w)(k:∀b,M b->i.heap[b]?=w.heap[b]?):∀e∈s.T,T1 i e.d e.u e.F/\∀b∈e.F,w0.own b:=λe h=>
 ⟨(f.tree e h).1.mono λb j=>k b<|(f.mm b).2<|aj ⟨e,h,j⟩,(f.tree e h).2⟩
def ba.ev{w0:Bs}{M:cG}{g:dZ}{s:St}{a:dF}{w:a8}(e:ba w0 M g s a w)(b:gK):Rd (aR w M g s.n) (s.ev b)<|a.eval b:=by
 cases b with
 |tmp f=>exact e.env f
 |const v=>exact .sc v
 |global=>exact .any _
 |func d=>exact .fn d [] [] [] [] C C Zs Zs
def pW{w:a8}{b d:Nat}{e:ky}{f:a6}{h:Nat×Nat}(i:w.heap[b]?=E (.cells e f h)):w.cell? ⟨b,d,Q⟩=e[d]?:=by
 simp[World.cell?,i]
def nH{P:aH}{e:a6}{f:Nat}(b:od P e=E f)(w:a8):(sizeOf e).run P w=.ok f w:=by
 unfold od at b;rcases d:P.info? e with _|i
 .simp[d]at b
 simp[d]at b;subst b;simp[sizeOf,typeInfo,d]
def Ea{P:aH}{h:a6}{b:Bool}(e:yH P h=E b)(w:a8):(isAgg h).run P w=.ok b w:=by
 unfold yH at e;rcases f:P.underlying h with _|d
 .simp[f]at e
 simp only[f,eE,eH]at e;subst e;cases d<;>simp[isAgg,fJ f]
def add_lit(b e d:Nat):Addr.add ⟨b,e,Q⟩ d=⟨b,e+d,Q⟩:=Addr.add_lit b e d
theorem KL{P:aH}{p:View}{t:a6}{j:DL}{d:D}(e:uy P t j=E d){b o:Nat}(us:Nat->aN)(x:∀(f:Nat)(h:D),j[f]?=E h->Rd p h (us f)):
 ∃v,Rd p d v/\∀w:a8,(∀(f:Nat)(h:D),j[f]?=E h->w.cell? ⟨b,o+f,Q⟩=E (us f))->(loadVar t ⟨b,o,Q⟩).run P w=.ok v w:=by
 unfold uy at e;split at e
 .rename_i l;split at e
  .rename_i k z;split at e
   .rename_i F;simp only[eH]at e;subst e;have y:A ((cz k).map us)=k:=Zs;refine⟨.agg ((cz k).map us).toArray,.ag _ _ ch λG d v B i=>Zg,λw m=>?_⟩;have r:=run_loadCells_list (P:=P) w ⟨b,o,Q⟩ ((cz k).map us) (λf v i=>by
     rw[fP]at i;by_cases q:f<k
     .rw[xZ q]at i;simp only[eE,eH]at i;subst i;rw[add_lit];exact m f _<|bL Zo
     rw[sq<|Yq q]at i;cases i)
    rw[y]at r;simp only[loadVar,gr,Ea l,il,bx,nH z,r];rfl
   cases e
  cases e
 .rename_i l;obtain _|⟨h,j⟩:=j
  .cases e
  simp only[C8,eH]at e;subst e;refine⟨us 0,x 0 h C,λw m=>?_⟩;have u:=m 0 h C;simp only[oX]at u;simp[loadVar,gr,Ea l,u]
 cases e
def Ej{w f:a8}(i:Below w.heap.size w f){b d:Nat}{e:aN}(h:w.cell? ⟨b,d,Q⟩=E e):f.cell? ⟨b,d,Q⟩=E e:=by
 have j:b<w.heap.size:=Qd;rw[<-h];exact i.cell (p:=⟨b,d,Q⟩) j
def nG{P:aH}{b:Sem aN}{v:aN}{w:a8}(d:b.run P w=.ok v w):(do pure (Next.value (<-b)):Sem Next).run P w=.ok (.value v) w:=by
 simp only[gr,d,il];rfl
variable{P:aH}{w0:Bs}{M:cG}{g:dZ}{s:St}{a:dF}{w:a8}
def Rd.wM{h:View}{e:DL}{f:VL}(l:A e=A f)(j:∀(b:Nat)(d:D)(v:aN),e[b]?=E d->f[b]?=E v->Rd h d v){b:Nat}{d:D}(i:e[b]?=E d):∃v,f[b]?=E v/\Rd h d v:=by
 have k:b<A e:=(dX.1 i).1;exact⟨f[b]'Zo,bL Zo,j b d _ i<|bL Zo⟩
theorem T8(y:ba w0 M g s a w){A:a6}{x:gK}{d:D}(e:um P s A (s.ev x)=E d):
 ∃v,Rd (aR w M g s.n) d v/\∀h,Below w.heap.size w h->(Instr.loadAt A<|a.eval x).run P h=.ok v h:=by
 have i:=y.ev x;generalize s.ev x=X at e i;generalize a.eval x=al at i;unfold um at e;split at e
 .rename_i C;cases i with|cp _ b o us h1 r=>
  have⟨v,p,m⟩:=KL e (b:=b) (o:=o) us r;exact⟨v,p,λh l=>by
   simp only[Instr.loadAt,Instr.sureAddr,gr,Sem.run_pure,il];exact m h λj k f=>Ej l<|eW<|h1 j k f⟩
 .rename_i L C;cases i with|pa _ _ us Y ae h1 r=>
  have⟨v,p,m⟩:=KL e (b:=L) (o:=0) us r;exact⟨v,p,λh l=>by
   simp only[Instr.loadAt,Instr.sureAddr,gr,Sem.run_pure,il];exact m h λj k f=>Ej l<|eW (by rw[ew];exact h1 j k f)⟩
 .rename_i O x z;split at e
  .rename_i K J;split at e
   .rename_i u;have⟨u,I⟩:=u;have⟨aa,b,B,U,ad,G,ak,Z,ah,t⟩:=y.obj O K J;cases i with|rf _ _ _ V ab i=>
    have R:=i b B Zg;subst R;obtain⟨v,p,m⟩:=KL e (b:=b) (o:=z) (λj=>U.getD (z+j) eX) (λj k f=>by
     rw[An]at f;have⟨S,q,F⟩:=t _ _ f;simp[kQ,q];exact F)
    exact⟨v,p,λh l=>by
     simp only[Instr.loadAt,Instr.sureAddr,gr,Sem.run_pure,il];exact m h λj k f=>by
      rw[An]at f;have⟨S,q,_⟩:=t _ _ f;apply Ej l;rw[pW<|G.cells I,q];simp[kQ,q]⟩
   cases e
  cases e
 cases e
theorem Yp{f:a6}{d j:D}{k:aN}{i:View}(b:Eu P f j=E d)(m:Rd i j k)(ty:a6):
 ∃v,Rd i d v/\∀h:a8,(Builtin.cap_ #[f] ty #[k]).run P h=.ok v h:=by
 have o:jl P f=1->∃e,P.underlying f=E (.slice e):=λe=>yy;unfold Eu at b;split at b
 .cases m;split at b
  .rename_i e;cases b;have⟨p,l⟩:=o e;exact⟨_,.sc _,λh=>by simp[Builtin.cap_,fJ l,goInt]⟩
  cases b
 cases b
theorem adg{f:a6}{d l:D}{o:aN}{k:View}(b:xn P f l=E d)(i:Rd k l o)(ty:a6):
 ∃v,Rd k d v/\∀h:a8,(Builtin.len_ #[f] ty #[o]).run P h=.ok v h:=by
 have p:jl P f=0->P.underlying f=E .string:=λe=>yy;have j:jl P f=1->∃e,P.underlying f=E (.slice e):=λe=>yy;unfold xn at b;split at b
 .cases i;split at b
  .rename_i e;cases b;exact⟨_,.sc _,λh=>by simp[Builtin.len_,fJ<|p e,goInt]⟩
  cases b
 .cases i;split at b
  .rename_i e;cases b;have⟨m,he⟩:=j e;exact⟨_,.sc _,λh=>Ix⟩
  cases b
 .split at b
  .rename_i e;cases b;have⟨m,he⟩:=j e;cases i<;>exact⟨_,.sc _,λh=>Ix⟩
  cases b
 .split at b
  .rename_i e;cases b;have⟨m,he⟩:=j e;cases i;exact⟨_,.sc _,λh=>Ix⟩
  cases b
 cases b
def wZ{f:a6}{e:Nat}(d:rI P f=E e):∃b,P.underlying f=E (.slice b)/\od P b=E e:=by
 unfold rI at d;split at d
 .rename_i b h;exact⟨b,h,d⟩
 cases d
def abt{G:a6}{d B z:D}{J I:aN}{i:View}(e:FE P G B z=E d)(f:Rd i B J)(C:Rd i z I):
 ∃v,Rd i d v/\∀h:a8,(Instr.indexAt G J I).run P h=.ok v h:=by
 unfold FE at e;split at e
 .rename_i y Y V n;cases C;split at e
  .rename_i r q;split at e
   .rename_i l;have⟨k,m⟩:=l;have⟨j,u,t⟩:=wZ m;cases e;have F:=(dX.1 q).1;cases f with
    |nil=>simp at F
    |gv=>simp at F
    |sl _ _ b X O us aa ad ab R S=>
     refine⟨.pointer<|some ⟨b,X+n.toNat*y,Q⟩,.cp _ b _ (λx=>us n.toNat x) (λx d o=>R _ _ _ _ q o) λx d o=>S _ _ _ _ q o,λh=>?_⟩;have p:n<(A Y:Int):=Zo;simp[Instr.indexAt,asIntOf,fJ u,k,p,nH t,add_lit]
   cases e
  cases e
 .rename_i sl ah ae V n;cases C;split at e
  .rename_i y m;split at e
   .rename_i l;have⟨k,p⟩:=l;have⟨j,u,t⟩:=wZ m;cases e;cases f with
    |ms _ _ _ K O U f=>
     refine⟨.pointer<|some<|K.add<|n.toNat*y,.rf _ _ _ _ U.1 λb L j=>?_,λh=>?_⟩
     .have Z:=(f b L j).1;subst Z;rw[add_lit,ew]
     simp[Instr.indexAt,asIntOf,fJ u,k,p,nH t]
   cases e
  cases e
 cases e
def JO{j:a6}{h i:Nat}(b:w2 P j h=E i):∃e d n,P.underlying j=E (.struct e)/\e[h]?=E d/\od P d.type=E n/\n≠0/\d.offset=i:=by
 unfold w2 at b;split at b
 .rename_i e o;split at b
  .rename_i d p;split at b
   .cases b
   .cases b
   rename_i l m;rcases f:od P d.type with _|n
   .exact absurd f m
   exact⟨e,d,n,o,p,f,λk=>l (by rw[f,k]),Yq b⟩
  cases b
 cases b
theorem aaj{u:a6}{o:Nat}{d m:D}{y:aN}{l:View}(e:EV P u o m=E d)(i:Rd l m y):
 ∃v,Rd l d v/\∀j:a8,(Instr.fieldAt u y o).run P j=.ok v j:=by
 unfold EV at e;split at e
 .rename_i B;simp only[jP]at e;obtain⟨r,h,rfl⟩:=e;obtain⟨p,x,q,hu,Fp,hn,Fu,rfl⟩:=JO h;cases i with|cp _ b J us F G=>
  refine⟨.pointer<|some ⟨b,J+x.offset,Q⟩,.cp _ b _ (λf=>us<|x.offset+f) (λf d k=>Zg) λf d k=>Zg,λj=>OE⟩
 .rename_i t B;simp only[jP]at e;obtain⟨r,h,rfl⟩:=e;obtain⟨p,x,q,hu,Fp,hn,Fu,rfl⟩:=JO h;cases i with|pa _ _ us L O F G=>
  refine⟨.pointer<|some ⟨t,0+x.offset,Q⟩,.cp _ t _ (λf=>us<|x.offset+f) (λf d k=>Zg) λf d k=>Zg,λj=>OE⟩
 .rename_i S x R;simp only[jP]at e;obtain⟨r,h,rfl⟩:=e;obtain⟨p,x,q,hu,Fp,hn,Fu,rfl⟩:=JO h;cases i with|rf _ _ _ z I i=>
  refine⟨.pointer<|some<|z.add x.offset,.rf _ _ _ _ I λb A C=>?_,λj=>?_⟩
  .have K:=i b A C;subst K;rw[add_lit]
  simp[Instr.fieldAt,fJ hu,Fp,Instr.sureAddr,fieldPlace,nH hn,Fu]
 cases e
theorem aeT{p:a6}{d:D}{m:View}{e:DL}{i:VL}{h:Nat}(o:A e=A i)(t:∀(l:Nat)(d:D)(v:aN),e[l]?=E d->i[l]?=E v->Rd m d v)(b:uy P p (e.drop h)=E d):
 ∃v,Rd m d v/\∀j:a8,(part p i.toArray h).run P j=.ok v j:=by
 unfold uy at b;split at b
 .rename_i k;split at b
  .rename_i y q;split at b
   .rename_i C;cases b;refine⟨.agg (Y y<|i.drop h).toArray,.ag _ _ (Yr o) λl d v f F=>Zg,λj=>?_⟩;simp only[part,gr,Ea k,il,bx,nH q];simp[extract_eq_take_drop]
   cases b
  cases b
 .rename_i k;rcases f:e.drop h with _|⟨B,r⟩
  .rw[f]at b;cases b
  rw[f]at b;simp only[C8,eH]at b;obtain⟨v,u,x⟩:=Rd.wM o t (by have z:=eo (·[0]?) f;simpa[b]using z);exact⟨v,x,λj=>by simp[part,Ea k,u]⟩
 cases b
theorem abF{f:a6}{d k j:D}{o m:aN}{h:View}(b:FF P f k j=E d)(r:Rd h k o)(q:Rd h j m):
 ∃v,Rd h d v/\∀i:a8,(Instr.index f o m).run P i=.ok v i:=by
 have t:jl P f=0->P.underlying f=E .string:=λe=>yy;unfold FF at b;split at b
 .cases r;cases q;split at b
  .rename_i l;simp only[jP]at b;obtain⟨u,p,rfl⟩:=b;exact⟨_,.sc _,λi=>by simp[Instr.index,asIntOf,fJ<|t l.1,l.2,p]⟩
  cases b
 cases b
def FX(j:ba w0 M g s a w)(e:List gK):A (e.map s.ev)=A (e.map a.eval)/\∀(f:Nat)(d:D)(v:aN),(e.map s.ev)[f]?=E d->(e.map a.eval)[f]?=E v->Rd (aR w M g s.n) d v:=by
 refine⟨Zs,λf d v b h=>?_⟩;rw[fP]at b h;rcases i:e[f]? with _|x
 .rw[i]at b;cases b
 rw[i]at b h;cases b;cases h;exact j.ev x
theorem K2{P:aH}{op:BinOp}{e:a6}{b:Bool}{d:D}(f:oI op b=E d)(k:jl P e=1)(a:Option Addr)(j h:Nat)(m:a.isNone=b)(o p:gK):
 ∃v,d=.sc v/\∀w,(do eqGuard op e o p (.slice a j h) (.slice Q 0 0);binOp op e (.slice a j h) (.slice Q 0 0):Sem aN).run P w=.ok v w:=by
 obtain⟨i,l⟩:∃i,P.underlying e=E (.slice i):=by unfold jl at k;split at k<;>simp_all
 subst m;unfold oI at f;split at f
 .cases f;exact⟨_,C,λw=>by rw[eqGuard_at_slice];simp only[gr,Sem.run_pure,il,binOp,run_equal_slice_nil w e i a j h l]⟩
 .cases f;exact⟨_,C,λw=>by rw[eqGuard_at_slice];simp only[gr,Sem.run_pure,il];exact run_neq_slice_nil w e i a j h l⟩
 cases f
def ae0(e:a6)(b d:Option Addr):binOp .eql e (.pointer b) (.pointer d)=(do pure (.bool (<-Op.equal e (.pointer b) (.pointer d)))):=rfl
def ae1(e:a6)(b d:Option Addr):binOp .neq e (.pointer b) (.pointer d)=(do pure (.bool<|!(<-Op.equal e (.pointer b) (.pointer d)))):=rfl
def Ci{P:aH}{i:a6}(d:oc P i=W):∃b f,P.underlying i=E (.pointer b)/\P.info? b=E f/\f.size≠0:=by
 unfold oc at d;split at d
 .rename_i b j;split at d
  .rename_i k e;unfold od at e;rcases h:P.info? b with _|f
   .rw[h]at e;cases e
   rw[h]at e;simp at e;exact⟨b,f,j,h,Zo⟩
  cases d
 cases d
theorem VH{P:aH}{h:a6}(p:oc P h=W)(w:a8){b e:Nat}(i:∃us f,w.heap[b]?=E (.cells us f (0,0)))(j:∃us f,w.heap[e]?=E (.cells us f (0,0))):
 (Op.equal h (.pointer<|some ⟨b,0,Q⟩)<|.pointer<|some ⟨e,0,Q⟩).run P w=.ok (b==e) w:=by
 have⟨f,x,o,m,q⟩:=Ci p;have⟨us,t,i⟩:=i;have⟨y,u,j⟩:=j;by_cases l:b=e
 .subst l;have k (d:Nat):(Op.equalIn (d+1) h (.pointer<|some ⟨b,0,Q⟩)<|.pointer<|some ⟨b,0,Q⟩).run P w=.ok W w:=by
   simp[Op.equalIn,fJ o,sizeOf,typeInfo,m,run_sameAddr_same]
  simp[Op.equal,Op.maxDepth,k 9999]
 have k (d:Nat):(Op.equalIn (d+1) h (.pointer<|some ⟨b,0,Q⟩)<|.pointer<|some ⟨e,0,Q⟩).run P w=.ok af w:=by
  simp[Op.equalIn,fJ o,sizeOf,typeInfo,m,q,run_sameAddr_other w (a:=⟨b,0,Q⟩) (b:=⟨e,0,Q⟩) Zg i j]
 have r:=beq_false_of_ne l;rw[r];simp[Op.equal,Op.maxDepth,k 9999]
def VJ{P:aH}{e:a6}(f:oc P e=W)(w:a8)(b:Option Addr):(Op.equal e (.pointer b)<|.pointer Q).run P w=.ok b.isNone w:=by
 have⟨j,m,h,k,l⟩:=Ci f;have i (d:Nat):(Op.equalIn (d+1) e (.pointer b)<|.pointer Q).run P w=.ok b.isNone w:=by
  cases b<;>simp[Op.equalIn,fJ h]
 simp[Op.equal,Op.maxDepth,i 9999]
def afu{P:aH}{b:a6}(e:oc P b=W)(w:a8)(a:Addr):(Op.equal b (.pointer Q)<|.pointer<|some a).run P w=.ok af w:=by
 have⟨i,l,f,j,k⟩:=Ci e;have h (d:Nat):(Op.equalIn (d+1) b (.pointer Q)<|.pointer<|some a).run P w=.ok af w:=by
  simp[Op.equalIn,fJ f]
 simp[Op.equal,Op.maxDepth,h 9999]
def F_{P:aH}{op:BinOp}{t:a6}{r:Bool}{d:D}(b:oI op r=E d)(f h:Option Addr)(i j:gK):
 ∃v,d=.sc v/\∀w,(Op.equal t (.pointer f)<|.pointer h).run P w=.ok r w->(do eqGuard op t i j (.pointer f) (.pointer h);binOp op t (.pointer f) (.pointer h):Sem aN).run P w=.ok v w:=by
 unfold oI at b;split at b
 .cases b;exact⟨_,C,λw e=>by rw[eqGuard_at_pointer];simp only[gr,Sem.run_pure,il,ae0,e]⟩
 .cases b;exact⟨_,C,λw e=>by rw[eqGuard_at_pointer];simp only[gr,Sem.run_pure,il,ae1,e]⟩
 cases b
theorem aea{P:aH}{op:BinOp}{b:a6}{d:D}(e:ON)(f:oI op e.isNone=E d)(j:F2 P b=W)(l m:gK):
 ∃v,d=.sc v/\∀w,(do eqGuard op b l m (.map e) (.map Q);binOp op b (.map e) (.map Q):Sem aN).run P w=.ok v w:=by
 obtain⟨i,h,k⟩:∃i h,P.underlying b=E (.map i h):=by unfold F2 at j;split at j<;>simp_all
 unfold oI at f;split at f
 .cases f;exact⟨_,C,λw=>by rw[eqGuard_at_map];simp only[gr,Sem.run_pure,il,show binOp .eql b (.map e) (.map Q)=(do pure (.bool (<-Op.equal b (.map e) (.map Q))))from C,run_equal_map_nil w b i h e k]⟩
 .cases f;exact⟨_,C,λw=>by rw[eqGuard_at_map];simp only[gr,Sem.run_pure,il,show binOp .neq b (.map e) (.map Q)=(do pure (.bool<|!(<-Op.equal b (.map e) (.map Q))))from C,run_equal_map_nil w b i h e k]⟩
 cases f
def XY(e:a6)(b d:Bool):binOp .eql e (.bool b) (.bool d)=(do pure (.bool (<-Op.equal e (.bool b) (.bool d)))):=rfl
def XZ(e:a6)(b d:Bool):binOp .neq e (.bool b) (.bool d)=(do pure (.bool<|!(<-Op.equal e (.bool b) (.bool d)))):=rfl
def tb{w:a8}{b d:Nat}{e:aN}(h:w.cell? ⟨b,d,Q⟩=E e):b<w.heap.size:=Qd
theorem LX(j:ba w0 M g s a w){o:dU}{d:D}(e:sd P s o.op=E d):
 ∃v,Rd (aR w M g s.n) d v/\∀w',Below w.heap.size w w'->(eI a.eval o).run P w'=.ok (.value v) w':=by
 unfold sd at e;split at e
 case h_1 x ho=>cases e;exact⟨_,j.ev x,λw' _=>by simp[eI,ho]⟩
 case h_2 x ho=>cases e;exact⟨_,j.ev x,λw' _=>by simp[eI,ho]⟩
 case h_3 c x i ho=>
  have J:=j.ev c;split at e
  .rename_i t ao;rw[ao]at J;generalize ap:a.eval c=vc at J;cases J;cases e;refine⟨if t then a.eval x else a.eval i,?_,λw' _=>by simp[eI,ho,ap,asBool]⟩;cases t
   .exact j.ev i
   exact j.ev x
  cases e
 case h_4 op t x i a3 ho=>
  have f:=j.ev x;have h:=j.ev i;split at e
  .rename_i z G l m;rw[l]at f;rw[m]at h;generalize iA:a.eval x=p at f;generalize nu:a.eval i=u at h;cases f;cases h;split at e
   .rename_i k;have q:P.underlying t=E .bool:=by unfold jl at k;split at k<;>simp_all
    split at e
    .cases e;exact⟨_,.sc _,λw' _=>by
      simp only[eI,ho,iA,nu];apply nG;rw[eqGuard_at_bool];have y:=run_equal_bool (P:=P) (w:=w') t z G q;simp only[gr,Sem.run_pure,il,XY,y]⟩
    .cases e;exact⟨_,.sc _,λw' _=>by
      simp only[eI,ho,iA,nu];apply nG;rw[eqGuard_at_bool];have y:=run_equal_bool (P:=P) (w:=w') t z G q;simp only[gr,Sem.run_pure,il,XZ,y];rfl⟩
    cases e
   cases e
  .rename_i R nn ah l m;rw[l]at f;rw[m]at h;generalize iA:a.eval x=p at f;generalize nu:a.eval i=u at h;cases f;cases h;split at e
   .rename_i k;obtain⟨v,rfl,hv⟩:=K2 e k R nn ah C x i;exact Dw
   cases e
  .rename_i z l m;rw[l]at f;rw[m]at h;generalize iA:a.eval x=p at f;generalize nu:a.eval i=u at h;cases f;cases h;split at e
   .rename_i k;obtain⟨v,rfl,hv⟩:=F_ (P:=P) (t:=t) e z Q x i;exact⟨v,.sc v,λw' _=>by
     simp only[eI,ho,iA,nu];exact nG<|hv w'<|VJ k w' z⟩
   cases e
  .rename_i aC l m;rw[l]at f;rw[m]at h;generalize iA:a.eval x=p at f;generalize nu:a.eval i=u at h;cases f;cases h;split at e
   .rename_i k;obtain⟨v,rfl,hv⟩:=aea (P:=P) aC e k x i;exact Dw
   cases e
  .rename_i z G aU aX aY aZ l m;rw[l]at f;rw[m]at h;generalize iA:a.eval x=p at f;generalize nu:a.eval i=u at h;cases f;cases h;simp only[jP]at e;obtain⟨r,Z,rfl⟩:=e;exact⟨r,.sc r,λw' _=>by
    have y:=XQ (P:=P) Z t x i w';simp only[eI,ho,iA,nu];exact nG y⟩
  .rename_i l m;rw[l]at f;rw[m]at h;generalize iA:a.eval x=p at f;generalize nu:a.eval i=u at h;cases h;split at e
   .rename_i k;cases f with|sl _ _ b o S us J aT L h1 h2=>
    obtain⟨v,rfl,hv⟩:=K2 e k (E ⟨b,o,Q⟩) _ S C x i;exact Dw
   cases e
  .rename_i l m;rw[l]at f;rw[m]at h;generalize iA:a.eval x=p at f;generalize nu:a.eval i=u at h;cases h;split at e
   .rename_i k;cases f with|ms _ _ _ R S aS f=>
    obtain⟨v,rfl,hv⟩:=K2 e k (E R) _ S C x i;exact Dw
   cases e
  .rename_i B ab ae aL l m;rw[l]at f;rw[m]at h;generalize iA:a.eval x=p at f;generalize nu:a.eval i=u at h;split at e
   .rename_i k;cases f with|pa _ _ us X Y h1 h2=>
    cases h with|pa _ _ a4 al an am aQ=>
    obtain⟨v,rfl,hv⟩:=F_ (P:=P) (t:=t) e (E ⟨B,0,Q⟩) (E ⟨ae,0,Q⟩) x i;have keep:∀{b:Nat}{us:Nat->aN}{I:DL}{w':a8},Below w.heap.size w w'->0<A I->(∀(aa:Nat)(d:D),I[aa]?=E d->(aR w M g s.n).dD b aa=E (us aa))->(aR w M g s.n).K b->∃us U,w'.heap[b]?=E (.cells us U (0,0)):=λhb aD aF⟨ad,U,G⟩=>⟨ad,U,(hb.block _<|tb<|eW<|aF 0 _<|bL aD).trans G⟩;exact⟨v,.sc v,λw' hb=>by
     simp only[eI,ho,iA,nu];exact nG<|hv w'<|VH k w' (keep hb X h1 Y)<|keep hb al am an⟩
   cases e
  .rename_i B ab l m;rw[l]at f;rw[m]at h;generalize iA:a.eval x=p at f;generalize nu:a.eval i=u at h;cases h;split at e
   .rename_i k;cases f with|pa _ _ us X Y h1 h2=>
    obtain⟨v,rfl,hv⟩:=F_ (P:=P) (t:=t) e (E ⟨B,0,Q⟩) Q x i;exact⟨v,.sc v,λw' hb=>by
     simp only[eI,ho,iA,nu];exact nG<|hv w'<|VJ k w' _⟩
   cases e
  .rename_i B ab l m;rw[l]at f;rw[m]at h;generalize iA:a.eval x=p at f;generalize nu:a.eval i=u at h;cases f;split at e
   .rename_i k;cases h with|pa _ _ us X Y h1 h2=>
    obtain⟨v,rfl,hv⟩:=F_ (P:=P) (t:=t) e Q (E ⟨B,0,Q⟩) x i;exact⟨v,.sc v,λw' hb=>by
     simp only[eI,ho,iA,nu];exact nG<|hv w'<|afu k w' _⟩
   cases e
  cases e
 case h_5 op t x ho=>
  have f:=j.ev x;split at e
  .rename_i ad q;rw[q]at f;generalize iA:a.eval x=p at f;cases f;simp only[jP]at e;obtain⟨r,Z,rfl⟩:=e;exact⟨r,.sc r,λw' _=>by
    have y:=ahB (P:=P) Z w';simp only[eI,ho,iA];exact nG y⟩
  cases e
 case h_6 x O ho=>
  have f:=j.ev x;split at e
  .rename_i I q;rw[q]at f;generalize iA:a.eval x=p at f;cases f with|tp _ aK L hv=>
   have⟨v,h1,h2⟩:=Rd.wM L hv e;exact⟨v,h2,λw' _=>by simp[eI,ho,iA,Instr.extract,h1]⟩
  cases e
 case h_7 t x V ho=>
  have f:=j.ev x;split at e
  .rename_i I aP a2 q F;rw[q]at f;generalize iA:a.eval x=p at f;cases f with|ag _ aK L hv=>
   have⟨v,h1,h2⟩:=aeT L hv e;unfold EX at F;split at F
   .rename_i aO au;simp only[jP,Hq]at F;have⟨aM,ar,e1,e2⟩:=F;refine⟨v,h1,λw' _=>?_⟩;simp only[eI,ho,iA];apply nG;simp[Instr.field,fJ au,ar,asAgg,e1,e2,h2]
   cases F
  cases e
 case h_8 t x O ho=>
  have⟨v,h1,h2⟩:=abF e (j.ev x)<|j.ev O;exact HL
 case h_9 t x O ho=>
  have⟨v,h1,h2⟩:=abt e (j.ev x)<|j.ev O;exact HL
 case h_10 t x V ho=>
  have⟨v,h1,h2⟩:=aaj e<|j.ev x;exact HL
 case h_11 t x ho=>
  have⟨v,h1,h2⟩:=T8 j e;exact HJ
 case h_12 x ho=>
  have f:=j.ev x;split at e
  all_goals first
   |(cases e;done)
   |(rename_i q;rw[q]at f;cases e;refine⟨_,f,λw' _=>?_⟩;generalize iA:a.eval x=p at f;cases f;simp[eI,ho,iA])
 case h_13 V aW aV ho=>
  cases e;have⟨aA,aH⟩:=FX j aW.toList;have⟨aB,aI⟩:=FX j aV.toList;refine⟨_,.fn V _ _ _ _ aA aB aH aI,λw' _=>?_⟩;simp only[eI,ho];apply nG;simp only[Instr.makeFunc,Sem.run_pure,Result.ok.injEq,Value.func.injEq,rj,i'];constructor<;>(apply wc;simp)
 case h_14 src ak x ho=>
  have f:=j.ev x;split at e
  .rename_i a0 a1 az q k av;rw[q]at f;generalize iA:a.eval x=p at f;cases f;cases e;have aq:P.underlying ak=E (.int az):=by unfold xl at k;split at k<;>simp_all
   have⟨aJ,ax⟩:=sx.1 av;refine⟨_,.sc _,λw' _=>?_⟩;simp only[eI,ho,iA];apply nG;cases aJ<;>simp[convert,fJ ax,fJ aq,Conv.intToInt]
  cases e
 case h_15 c ho=>
  split at e
  .rename_i SR;split at e
   .rename_i x t f ay;have⟨v,h1,h2⟩:=adg e (j.ev x) o.type;exact Py
   cases e
  .rename_i SR;split at e
   .rename_i x t f ay;have⟨v,h1,h2⟩:=Yp e (j.ev x) o.type;exact Py
   cases e
  cases e
 case h_16=>cases e
def ai{b:Type}(f:Nat->Option b)(t:Nat)(x:Option b):Nat->Option b:=λi=>if i=t then x else f i
theorem bN{e:Type}(f:Nat->Option e)(b:Nat)(d:Option e):ai f b d b=d:=ep
theorem a_{f:Type}(d:Nat->Option f){e b:Nat}(i:Option f)(h:b≠e):ai d e i b=d b:=by simp[ai,h]
theorem KO{w:a8}{b:Nat}{d:Obj}(e:w.heap[b]?=E d):b<w.heap.size:=Zg
def vg{w e:a8}{b d:Nat}(f:e.heap[b]?=w.heap[b]?):e.cell? ⟨b,d,Q⟩=w.cell? ⟨b,d,Q⟩:=World.cell?_of_block (w:=w) f
theorem v_{w q:a8}{M:cG}{g l:dZ}{k p:bi}{b':Nat}(y:∀s,k s<=p s)
 (o:∀f,f<w.heap.size->f≠b'->q.heap[f]?=w.heap[f]?) (i:w.heap.size<=b'\/∃s d e,g s=E (d,b',e))
 (x:∀s d b e,l s=E (d,b,e)->g s=E (d,b,e)\/(b=b'/\k s<=d)):(aR w M g k).Ext<|aR q M l p:=by
 refine⟨λb B C h=>?_,y,λs d b e z h=>?_⟩
 .have j:=eW h;have⟨t,u⟩:=dQ h;have m:b≠b':=by
   rintro rfl;obtain i|⟨s,d,e,i⟩:=i
   .have:=tb j;omega
   exact u _ _ _ i
  refine⟨fD ((vg<|o b (tb j) m).trans j) t λs d e f=>Zg,λ⟨us,r,A⟩=>⟨us,r,(o b (tb j) m).trans A⟩⟩
 obtain f|⟨_,f⟩:=x s d b e h
 .exact f
 have:d<k s:=z;omega
def Dr.mono{i h:View}{w m:a8}{f:Nat}{l:Ob}(r:Dr i w f l)(k:i.Ext h)(D:∀o b e,i.g f=E (o,b,e)->h.g f=E (o,b,e)/\m.heap[b]?=w.heap[b]?):Dr h m f l:=by
 have⟨t,b,e,J,u,x,y,z,A,B⟩:=r;have⟨p,q⟩:=D _ _ _ u;exact⟨iR t<|k.n _,b,e,J,p,x.mono q,y,z,A,λj d C=>let⟨I,F,G⟩:=B j d C;⟨I,F,G.mono k⟩⟩
def ba.grow(d:ba w0 M g s a w){j:a8}(e:Below w.heap.size w j)(t:w.drawn<=j.drawn:=by first|exact bJ _|exact oq _|assumption):ba w0 M g s a j:=by
 have o:(aR w M g s.n).Ext<|aR j M g s.n:=v_ (b':=w.heap.size) (λ_=>bJ _) (λf l _=>e.block f l) (aG<|bJ _) λ_ _ _ _ h=>aG h;exact⟨d.defers,d.size,λq=>(d.env q).mono o,λi r p=>(d.obj i r p).mono o λm b k h=>⟨h,e.block b (d.base _ _ _ _ h).2⟩,
  λi m b k h=>⟨(d.base i m b k h).1,iR (d.base i m b k h).2 e.size⟩,d.inj,
  d.below.step e.os e.tape e.output e.size λf l=>e.block f<|iR (Bs.vL l) d.below.size,λb f=>⟨iR (d.m0 b f).1 e.size,(d.m0 b f).2⟩,d.mm,d.zm,CM d λb f=>e.block b (d.m0 b f).1,d.nd,d.og,d.wm⟩
def Act.ae3(a:dF)(b:ON)(v:aN):(a.put b v).tmps.size=a.tmps.size:=by cases b<;>simp[Act.put]
def ba.put(b:ba w0 M g s a w){d:D}{v:aN}(o:Rd (aR w M g s.n) d v)(l:ON):ba w0 M g (s.put l d) (a.put l v) w:=by
 obtain _|t:=l
 .exact b
 by_cases f:t<s.nt
 .have i:s.put (E t) d={s with env:=aw s.env t d}:=by simp[St.put,f]
  rw[i];refine⟨b.defers,by rw[Act.ae3];exact b.size,λe=>?_,b.obj,b.base,b.inj,b.below,b.m0,b.mm,b.zm,b.tree,b.nd,b.og,b.wm⟩;show Rd _ (if e=t then d else s.env e) _;by_cases k:e=t
  .subst k;have p:e<a.tmps.size:=(Yy b.size) f;simpa[Act.put,kQ,p]using o
  have m:=b.env e;have j:(a.put (E t) v).tmps.getD e eX=a.tmps.getD e eX:=by
   simp[Act.put,kQ,uM k]
  rwa[j,aC k]
 have i:s.put (E t) d=s:=by simp[St.put,f]
 have j:a.put (E t) v=a:=by
  have m:¬t<a.tmps.size:=(Yy b.size) f;simp[Act.put,Array.setIfInBounds,m]
 rwa[i,j]
theorem ba.Vl{i:a8}(t0 d b' c':Nat)
 (k:∀f,f<w.heap.size->f≠b'->i.heap[f]?=w.heap[f]?) (m:w.heap.size<=b'\/∃j h,g t0=E (j,b',h)):
 (aR w M g s.n).Ext (aR i M (ai (ai g t0 Q) d<|some (s.n d,b',c'))<|eP s.n d):=by
 have l:∀s' y,s'≠d->ai (ai g t0 Q) d (E (s.n d,b',c')) s'=E y->s'≠t0/\g s'=E y:=PP;refine v_ (b':=b') (Q0 _ _) k Zg ?_;intro s' j b h e;by_cases hs:s'=d
 .subst hs;rw[bN]at e;cases e;exact aj ⟨C,bJ _⟩
 exact aG (l _ _ hs e).2
theorem ba.Vk(h:ba w0 M g s a w){w':a8}(t0 f k o:Nat)(r:ky)(p:Ob)(ab:p.gen=s.n f)
 (x:∀i,i<w.heap.size->i≠k->w'.heap[i]?=w.heap[i]?) (t:w.heap.size<=k\/∃m l,g t0=E (m,k,l))
 (ah:k<w'.heap.size) (ad:jh w' k p r) (an:p.keys=Q->r.size=o*p.sz) (Z:o<=aE) (ae:A p.cells<=r.size)
 (aa:∀(U:Nat)(d:D),p.cells[U]?=E d->∃X,r[U]?=E X/\Rd (aR w' M (ai (ai g t0 Q) f<|some (s.n f,k,o))<|eP s.n f) d X)
 (al:w'.os=w.os) (ao:w'.tape=w.tape) (am:w'.output=w.output) (I:w.heap.size<=w'.heap.size) (av:w.drawn<=w'.drawn:=by first|exact bJ _|exact oq _|assumption):
 ba w0 M (ai (ai g t0 Q) f<|some (s.n f,k,o)) {s with H:=ai (ai s.H t0 Q) f (E p),n:=eP s.n f} a w':=by
 have z:∀s' y,s'≠f->ai (ai g t0 Q) f (E (s.n f,k,o)) s'=E y->s'≠t0/\g s'=E y:=PP;have J:=ba.Vl (M:=M) (s:=s) t0 f k o x t;have O:w0.own k:=by
  obtain e|⟨m,l,e⟩:=t
  .have:=h.below.size;exact aG Zo
  exact(h.base _ _ _ _ e).1
 have L:∀b,M b->b≠k:=by
  rintro b i rfl;obtain e|⟨m,l,e⟩:=t
  .have:=(h.m0 b i).1;omega
  exact(h.m0 b i).2 _ _ _ e
 have S:∀j m b l,j≠t0->g j=E (m,b,l)->b≠k:=by
  intro j m b l ak e Y;subst Y;obtain K|⟨au,o,K⟩:=t
  .have:=(h.base _ _ _ _ e).2;omega
  exact ak<|h.inj _ _ _ _ _ _ _ e K
 refine⟨h.defers,h.size,λap=>(h.env ap).mono J,λj ar q=>?_,λj m b l e=>?_,λt1 t2 m b l au o B F=>?_,?_,λb i=>⟨iR (h.m0 b i).1 I,λj m l e=>?_⟩,h.mm,h.zm,CM (s:=s) h λb i=>x b (h.m0 b i).1<|L b i,h.nd,h.og.ext J,h.wm⟩
 .by_cases hs:j=f
  .subst hs;simp only[bN,eH]at q;subst q;exact⟨by show p.gen<eP s.n j j;rw[wO];omega,k,o,r,by show ai _ j _ j=_;rw[bN,ab],ad,an,Z,ae,aa⟩
  simp only[a_ _ _ hs]at q;by_cases h0:j=t0
  .subst h0;rw[bN]at q;cases q
  rw[a_ _ _ h0]at q;refine(h.obj j ar q).mono J λm b l e=>⟨?_,?_⟩
  .show ai _ f _ j=_;rw[a_ _ _ hs,a_ _ _ h0];exact e
  exact x b (h.base _ _ _ _ e).2<|S _ _ _ _ h0 e
 .by_cases hs:j=f
  .subst hs;rw[bN]at e;cases e;exact⟨O,ah⟩
  have e:=(z _ _ hs e).2;exact⟨(h.base _ _ _ _ e).1,iR (h.base _ _ _ _ e).2 I⟩
 .by_cases G:t1=f
  .by_cases u:t2=f
   .rw[G,u]
   subst G;rw[bN]at B;cases B;exact Zg
  have⟨aq,V⟩:=z _ _ G B;by_cases u:t2=f
  .subst u;rw[bN]at F;cases F;exact absurd C (S _ _ _ _ aq V)
  exact h.inj _ _ _ _ _ _ _ V (z _ _ u F).2
 .exact h.below.step al ao am I λi R=>x i (iR (Bs.vL R) h.below.size) λe=>R<|(Yy e) O
 by_cases hs:j=f
 .subst hs;rw[bN]at e;cases e;exact L _ i C
 exact(h.m0 b i).2 _ _ _ (z _ _ hs e).2
def ba.rebind(q:ba w0 M g s a w){w':a8}(t0 b e c':Nat)(h:ky)(f:Ob)(x:f.gen=s.n b)
 (m:∀j,j<w.heap.size->j≠e->w'.heap[j]?=w.heap[j]?) (l:w.heap.size<=e\/∃O p,g t0=E (O,e,p))
 (B:e<w'.heap.size) (y:jh w' e f h) (I:f.keys=Q->h.size=c'*f.sz) (r:c'<=aE) (z:A f.cells<=h.size)
 (t:∀(i:Nat)(d:D),f.cells[i]?=E d->∃k,h[i]?=E k/\Rd (aR w M g s.n) d k)
 (C:w'.os=w.os) (J:w'.tape=w.tape) (F:w'.output=w.output) (G:w.heap.size<=w'.heap.size) (R:w.drawn<=w'.drawn:=by first|exact bJ _|exact oq _|assumption):
 ba w0 M (ai (ai g t0 Q) b<|some (s.n b,e,c')) {s with H:=ai (ai s.H t0 Q) b (E f),n:=eP s.n b} a w'/\
  (aR w M g s.n).Ext (aR w' M (ai (ai g t0 Q) b<|some (s.n b,e,c'))<|eP s.n b):=by
 have o:=ba.Vl (M:=M) (s:=s) (c':=c') t0 b e m l;exact⟨q.Vk t0 b e c' h f x m l B y I r z (λi d u=>let⟨k,K,L⟩:=t i d u;⟨k,K,L.mono o⟩) C J F G,o⟩
def ba.write(h:ba w0 M g s a w){w':a8}(t b' m:Nat)(l:ky)(B i:Ob)(R:s.H t=E B)(j:g t=E (B.gen,b',m))(F:i.gen=B.gen)
 (o:∀e,e≠b'->w'.heap[e]?=w.heap[e]?)
 (L:jh w' b' i l) (V:i.keys=Q->l.size=m*i.sz) (I:m<=aE) (O:A i.cells<=l.size)
 (J:∀(r:Nat)(d:D),i.cells[r]?=E d->∃u,l[r]?=E u/\Rd (aR w M g s.n) d u)
 (S:w'.os=w.os) (X:w'.tape=w.tape) (U:w'.output=w.output) (z:w'.heap.size=w.heap.size) (ad:w.drawn<=w'.drawn:=by first|exact bJ _|exact oq _|assumption):
 ba w0 M g {s with H:=ai s.H t (E i)} a w'/\(aR w M g s.n).Ext (aR w' M g s.n):=by
 have q:(aR w M g s.n).Ext<|aR w' M g s.n:=v_ (b':=b') (λ_=>bJ _) (λe _ x=>o e x) (aj ⟨_,_,_,j⟩) λ_ _ _ _ f=>aG f;refine⟨⟨h.defers,h.size,λY=>(h.env Y).mono q,λk ab p=>?_,λk G b C f=>?_,h.inj,?_,λb e=>⟨(Yy z)<|(h.m0 b e).1,(h.m0 b e).2⟩,h.mm,h.zm,CM (s:=s) h λb e=>o b (by rintro rfl;exact(h.m0 b e).2 _ _ _ j),h.nd,h.og,h.wm⟩,q⟩
 .by_cases y:k=t
  .subst y;simp only[bN,eH]at p;subst p;exact⟨(Yy F)<|(h.obj _ _ R).gen,b',m,l,by show g k=_;rw[j,F],L,V,I,O,λr d K=>let⟨u,Z,aa⟩:=J r d K;⟨u,Z,aa.mono q⟩⟩
  simp only[a_ _ _ y]at p;refine(h.obj k ab p).mono q λG b C f=>⟨f,o b ?_⟩;rintro rfl;exact y<|h.inj _ _ _ _ _ _ _ f j
 .rw[z];exact h.base k G b C f
 exact h.below.step S X U (x9 z.symm) λe x=>o e λf=>x<|(Yy f)<|((h.base _ _ _ _ j).1)
def mC:D->Option (List D)
 |.ag ds=>E ds
 |.tp _=>Q
 |.any=>Q
 |.sc v=>E (v.cells.toList.map .sc)
 |.sl sz aq=>E [.sl sz aq]
 |.cs sz aq=>E [.cs sz aq]
 |.cp ds=>E [.cp ds]
 |.pa b ds=>E [.pa b ds]
 |.rf s g o=>E [.rf s g o]
 |.ms s g l=>E [.ms s g l]
 |.mp s g=>E [.mp s g]
 |.fn f a b=>E [.fn f a b]
def cO:D->Bool
 |.ag _=>af
 |.tp _=>af
 |.any=>af
 |.sc v=>v.oneCell'
 |_=>W
def Cd{e:View}{d:D}{v:aN}(b:cO d=W)(h:Rd e d v):v.oneCell'=W:=by
 cases h<;>first|(rename_i f _;cases f<;>rfl)|first|rfl|(simp[cO]at b;done)|exact b
theorem Jq{x:View}{d:D}{v:aN}{cs:DL}(e:mC d=E cs)(V:Rd x d v):
 A cs=v.cells.size/\∀(j:Nat)(h:D),cs[j]?=E h->∃f,v.cells[j]?=E f/\Rd x h f:=by
 have one:∀(h:D)(f:aN),v.cells=#[f]->cs=[h]->Rd x h f->A cs=v.cells.size/\∀(j:Nat)(h:D),cs[j]?=E h->∃f,v.cells[j]?=E f/\Rd x h f:=Zg;cases V with
 |sc v=>
  simp only[mC,eH]at e;subst e;refine⟨Zs,λj h t=>?_⟩;rw[fP]at t;simp only[jP]at t;obtain⟨f,S,rfl⟩:=t;exact⟨f,Yq S,.sc f⟩
 |any v=>cases e
 |nil k=>simp only[mC,eH]at e;exact one _ _ C e.symm (.nil k)
 |gv k a o z=>simp only[mC,eH]at e;exact one _ _ C e.symm (.gv k a o z)
 |sl k B b u o us y z m p q=>simp only[mC,eH]at e;exact one _ _ C e.symm (.sl k B b u o us y z m p q)
 |cs k B v F y=>simp only[mC,eH]at e;exact one _ _ (by cases F<;>rfl) e.symm (.cs k B v F y)
 |ag l G m U=>
  simp only[mC,eH]at e;subst e;refine⟨by simp[Value.cells,m],λj h t=>?_⟩;have⟨f,X,Y⟩:=Rd.wM m U t;exact⟨f,by simpa[Value.cells]using X,Y⟩
 |tp=>cases e
 |cp l b u us p q=>simp only[mC,eH]at e;exact one _ _ C e.symm (.cp l b u us p q)
 |pa b l us K O p q=>simp only[mC,eH]at e;exact one _ _ C e.symm (.pa b l us K O p q)
 |rf s g u a r i=>simp only[mC,eH]at e;exact one _ _ C e.symm (.rf s g u a r i)
 |ms s g Z a o r i=>simp only[mC,eH]at e;exact one _ _ C e.symm (.ms s g Z a o r i)
 |mp s g b r i=>simp only[mC,eH]at e;exact one _ _ C e.symm (.mp s g b r i)
 |fn J l I G us m R i L=>simp only[mC,eH]at e;exact one _ _ C e.symm (.fn J l I G us m R i L)
def lc(cells:DL)(off:Nat)(cs:DL):DL:=Y off cells++cs++cells.drop (off+A cs)
def VS(b d:DL)(e:Nat)(f:e+A d<=A b):A (lc b e d)=A b:=by simp[lc];omega
theorem VR(e f:DL)(b d:Nat)(h:b+A f<=A e):(lc e b f)[d]?=if b<=d/\d<b+A f then f[d-b]? else e[d]?:=by
 unfold lc;have i:A (Y b e)=b:=co;exact Zg
def ud(b:Nat->Option (Nat×Nat)):List D->List (Nat×D)->Option (List D)
 |cells,[]=>E cells
 |cells,(i,d)::rest=>
  match b i,mC d with
  |some (off,e),E cs=>if A cs=e/\off+A cs<=A cells then ud b (lc cells off cs) rest else Q
  |_,_=>Q
theorem aaz(f:VL)(h:Nat):∀(b:Nat)(d:ky),h+b+A f<=d.size->
 let r:=(f.zipIdx b).foldl (λj(i:aN×Nat)=>j.setIfInBounds (h+i.2) i.1) d
 r.size=d.size/\∀e,r[e]?=if h+b<=e/\e<h+b+A f then f[e-(h+b)]? else d[e]?:=by
 induction f with
 |nil=>intro b d _;simp;intro e l m;omega
 |cons v f o=>
  intro b d k;simp only[dC]at k;have⟨l,m⟩:=o (b+1) (d.setIfInBounds (h+b) v) ch;simp only[zipIdx_cons,oj];exact Zg
theorem JP{ay:View}(y:Nat->Option (Nat×Nat)):∀(m:List<|Nat×D)(e:List<|Nat×aN)(j:DL)(h:ky)(r:DL),
 m.map (·.1)=e.map (·.1)->(∀(l:Nat)(d:D)(v:aN),(m.map (·.2))[l]?=E d->(e.map (·.2))[l]?=E v->Rd ay d v)->
 A j=h.size->(∀(b:Nat)(d:D),j[b]?=E d->∃o,h[b]?=E o/\Rd ay d o)->ud y j m=E r->
 ∃k,Instr.fill y h e=E k/\A r=k.size/\k.size=h.size/\∀(b:Nat)(d:D),r[b]?=E d->∃o,k[b]?=E o/\Rd ay d o
 |[],e,j,h,r,i,t,x,q,f=>by
  obtain _|⟨F,e⟩:=e
  .simp only[ud,eH]at f;subst f;exact⟨h,C,x,C,q⟩
  simp at i
 |(l,d)::m,e,j,h,r,i,t,x,q,f=>by
  obtain _|⟨F,e⟩:=e
  .simp at i
  have⟨Z,v⟩:=F;simp only[b4,Al]at i;obtain⟨rfl,i⟩:=i;simp only[ud]at f;split at f
  .rename_i p aa z V S;split at f
   .rename_i B;have⟨Y,X⟩:=Jq S<|t 0 d v Zs Zs;have⟨f1,f2⟩:=aaz v.cells.toList p 0 h Zg;simp only[oX,we]at f1 f2;obtain⟨k,I,J,K,L⟩:=JP y m e (lc j p z) _ r i (λl d v O R=>t (l+1) d v (Yq O)<|Yq R)
     (by rw[VS _ _ _ B.2,f1,x]) (λb G u=>by
      rw[VR _ _ _ _ B.2]at u;rw[f2 b];by_cases U:p<=b/\b<p+A z
      .exact Zg
      rw[aC U]at u;rw[aC Zo];exact q b G u) f
    refine⟨k,?_,J,by rw[K,f1],L⟩;simp only[Instr.fill,V];rw[aC ch,<-I,<-Array.foldl_toList,Array.toList_zipIdx]
   cases f
  cases f
def pU(P:aH)(f:bI):Prop:=∃b,P.funcs[f]?=E b/\(b.name== "runtime.NumGoroutine")=af/\b.body.isNone=af
structure Sp (P:aH) (f:bI) (eF:List D) (r:D):Prop where
 ok:pU P f
 run:∀(w:a8)(M:Nat->Prop)(vs:List aN),MB M w->A eF=A vs->
  (∀(i:Nat)(d:D)(v:aN),eF[i]?=E d->vs[i]?=E v->Rd (aR w M (λ_=>Q) dY) d v)->
  Calls P f vs.toArray w λe w'=>∃v,e=.returned v/\pK w.heap.size w w'/\Rd (aR w' M (λ_=>Q) dY) r v
inductive Fz (H:Nat->Option Ob):D->D->Prop
 |cl (d:D) (h:Cl d):Fz H d d
 |nil (sz:Nat):Fz H (.sc (.slice Q 0 0)) (.sl sz [])
 |cs (sz:Nat) (aq:List (List D)) (h:Cl (.sl sz aq)):Fz H (.cs sz aq) (.sl sz aq)
 |ms (s:Nat) (ob:Ob) (aq:List (List D)) (es:Nat->Nat->D) (o:H s=E ob) (m:ob.keys=Q) (t:0<ob.sz) (b:∀(i:Nat)(r:List D),aq[i]?=E r->A r=ob.sz)
  (k:∀(i:Nat)(r:List D)(j:Nat)(d:D),aq[i]?=E r->r[j]?=E d->ob.cells[i*ob.sz+j]?=E (es i j))
  (l:∀(i:Nat)(r:List D)(j:Nat)(d:D),aq[i]?=E r->r[j]?=E d->Fz H (es i j) d):Fz H (.ms s ob.gen (A aq)) (.sl ob.sz aq)
 |rf (s:Nat) (ob:Ob) (off:Nat) (es:List D) (ds:Nat->D) (o:H s=E ob) (m:ob.keys=Q) (k:∀(j:Nat)(e:D),es[j]?=E e->ob.cells[off+j]?=E (ds j))
  (l:∀(j:Nat)(e:D),es[j]?=E e->Fz H (ds j) e):Fz H (.rf s ob.gen off) (.cp es)
 |fn (f:bI) (eF bs cs ds:List D) (b:A eF=A bs) (q:A cs=A ds) (h:∀(i:Nat)(d e:D),eF[i]?=E d->bs[i]?=E e->Fz H d e)
  (p:∀(i:Nat)(d e:D),cs[i]?=E d->ds[i]?=E e->Fz H d e):Fz H (.fn f eF cs) (.fn f bs ds)
 |ag (ds es:List D) (b:A ds=A es) (h:∀(i:Nat)(d e:D),ds[i]?=E d->es[i]?=E e->Fz H d e):Fz H (.ag ds) (.ag es)
 |tp (ds es:List D) (b:A ds=A es) (h:∀(i:Nat)(d e:D),ds[i]?=E d->es[i]?=E e->Fz H d e):Fz H (.tp ds) (.tp es)
def WO{e:bi}(b f:Nat)(h:aN)(d:(aR w M g e).dD b f=E h):(aR w M (λ_=>Q) dY).dD b f=E h/\((aR w M g e).K b->(aR w M (λ_=>Q) dY).K b):=
 ⟨fD (eW d) (dQ d).1 Zs,id⟩
def Rd.freeze(L:ba w0 M g s a w){d i:D}(au:Fz s.H d i):∀{v:aN},Rd (aR w M g s.n) d v->Rd (aR w M (λ_=>Q) dY) i v:=by
 induction au with
 |cl d G=>intro v f;exact f.closed WO G
 |nil ak=>intro v f;cases f;exact .nil ak
 |cs ak F G=>intro v f;cases f with|cs _ _ _ ap _=>exact ap.closed WO G
 |ms Z C F q X K az J h1 ar o=>
  intro v f;have⟨av,b,O,p,I,V,ah,aa,ay,U⟩:=L.obj Z C X;cases f with|ms _ _ _ al an _ f=>
  obtain⟨rfl,rfl⟩:=f b O I;have R:¬M b:=λt=>(L.m0 b t).2 _ _ _ I;have z (e:Nat) (r:DL) (h:Nat) (d:D) (k:F[e]?=E r) (B:r[h]?=E d):∃m,p[e*C.sz+h]?=E m/\Rd (aR w M g s.n) (q e h) m:=U _ _<|h1 e r h d k B;refine .sl C.sz F b 0 an (λe h=>p.getD (e*C.sz+h) eX) ?_ aa J (λe r h d k B=>?_) λe r h d k B=>?_
  .cases aF:A F with
   |zero=>exact kT _
   |succ t=>
    have ax:t<A F:=Zo;have ae:=bL ax;have aq:0<A (F[t]):=by rw[J t _ ae];exact az
    have⟨m,l,_⟩:=z t _ 0 _ ae<|bL aq;have ad:=(nO.1 l).1;rw[ah K,oX]at ad;have u:=Nat.lt_of_mul_lt_mul_right ad;omega
  .have⟨m,l,_⟩:=z e r h d k B;refine fD ?_ R Zs;rw[pW<|V.cells K,ew,l];simp[kQ,l]
  have⟨m,l,S⟩:=z e r h d k B;have u:=o e r h d k B S;simpa[kQ,l]using u
 |rf Z C Y q x X K h1 ar o=>
  intro v f;have⟨av,b,O,p,I,V,ah,aa,ay,U⟩:=L.obj Z C X;cases f with|rf _ _ _ al _ f=>
  have u:=f b O I;subst u;have R:¬M b:=λt=>(L.m0 b t).2 _ _ _ I;have z (h:Nat) (i:D) (j:q[h]?=E i):∃m,p[Y+h]?=E m/\Rd (aR w M g s.n) (x h) m:=U _ _<|h1 h i j;refine .cp q b Y (λh=>p.getD (Y+h) eX) (λh i j=>?_) λh i j=>?_
  .have⟨m,l,_⟩:=z h i j;refine fD ?_ R Zs;rw[pW<|V.cells K,l];simp[kQ,l]
  have⟨m,l,S⟩:=z h i j;have u:=o h i j S;simpa[kQ,l]using u
 |fn ao am bs cs x J ab _ _ o aA=>
  intro v f;cases f with|fn _ _ _ us aD aH aI aB aC=>
  refine .fn ao bs x us aD Zo Zo (λe i v j y=>?_) λe i v j y=>?_
  .have k:e<A am:=by have u:=(dX.1 j).1;omega
   exact o e _ i (bL k) j<|aB e _ v (bL k) y
  have k:e<A cs:=by have u:=(dX.1 j).1;omega
  exact aA e _ i (bL k) j<|aC e _ v (bL k) y
 |ag x q J G o=>
  intro v f;cases f with|ag _ p ab f=>
  refine .ag q p Zo λe i v j y=>?_;have k:e<A x:=Yo<|(dX.1 j).1;exact o e _ i (bL k) j<|f e _ v (bL k) y
 |tp x q J G o=>
  intro v f;cases f with|tp _ p ab f=>
  refine .tp q p Zo λe i v j y=>?_;have k:e<A x:=Yo<|(dX.1 j).1;exact o e _ i (bL k) j<|f e _ v (bL k) y
def Cz:D->Option aN
 |.sc v=>E v
 |_=>Q
def sW:D->Option aN
 |.sc v=>E v
 |.tp ds=>(ds.mapM Cz).map λvs=>.tuple vs.toArray
 |_=>Q
def cE(P:aH)(t:a6):Option<|a6×Nat×Nat:=
 match P.underlying t with
 |some (.slice e)=>match P.info? e with
  |some i=>match i.zero with
   |some z=>if z.cells.size=i.size/\0<i.size then E (e,i.size,i.bytes)else Q
   |none=>Q
  |none=>Q
 |_=>Q
theorem sY{P:aH}{i e:a6}{d h:Nat}(f:cE P i=E (e,d,h)):
 ∃b j,P.underlying i=E (.slice e)/\P.info? e=E b/\b.zero=E j/\j.cells.size=d/\0<d/\b.size=d/\b.bytes=h:=by
 unfold cE at f;split at f
 .exact Zg
 cases f
def sg(P:aH)(t:a6):Option<|DL:=((P.info? t).bind (·.zero)).map λz=>z.cells.toList.map .sc
def si(P:aH)(e:a6):DL:=(sg P e).getD []
def k9(s:St)(t:Nat)(e:a6)(sz:Nat)(cells:DL):St:={s with H:=ai (ai s.H t Q) t (E {gen:=s.n t,elem:=e,sz,cells}),n:=eP s.n t}
def r2(s:St)(t0 t:Nat)(e:a6)(sz:Nat)(cells:DL):St:={s with H:=ai (ai s.H t0 Q) t (E {gen:=s.n t,elem:=e,sz,cells}),n:=eP s.n t}
def KZ(s:St)(t:Nat):St:={s with H:=ai (ai s.H t Q) t (E {gen:=s.n t,elem:=0,sz:=1,cells:=[],keys:=E []}),n:=eP s.n t}
def EW(P:aH)(t:a6):Option<|List<|Nat×Nat:=
 match P.underlying t with
 |some (.struct b)=>b.toList.mapM λf=>(od P f.type).map λn=>(f.offset,n)
 |_=>Q
def rA(b:Int):Option D->Option Int
 |none=>E b
 |some (.sc (.int _ n))=>E n
 |_=>Q
def GF(P:aH)(t:a6)(x:D)(e d:Option D):Option D:=
 match x with
 |.sc (.string b)=>match rA 0 e,rA b.size d with
  |some l,E h=>if jl P t=0/\0<=l/\l<=h/\h<=b.size then E (.sc<|.string<|b.extract l.toNat h.toNat)else Q
  |_,_=>Q
 |.sl sz aq=>match rA 0 e,rA (A aq) d with
  |some l,E h=>if rI P t=E sz/\0<=l/\l<=h/\h<=A aq then E (.sl sz<|(Y h.toNat aq).drop l.toNat)else Q
  |_,_=>Q
 |.sc (.slice Q 0 0)=>match rA 0 e,rA 0 d with
  |some l,E h=>if(rI P t).isSome=W/\l=0/\h=0 then E (.sc<|.slice Q 0 0)else Q
  |_,_=>Q
 |.ms f g len=>match rA 0 e,rA len d with
  |some l,E h=>if(rI P t).isSome=W/\l=0/\0<=h/\h<=len then E (.ms f g h.toNat)else Q
  |_,_=>Q
 |_=>Q
def Ez(P:aH)(t:a6)(x:D)(b d:D):Option D:=
 match b,d with
 |.sc (.int _ n),.sc (.int _ m)=>(match x with
  |.sl sz aq=>if rI P t=E sz/\n=A aq/\m=A aq then E (.cs sz aq)else Q
  |.sc (.slice Q 0 0)=>if(rI P t).isSome=W/\n=0/\m=0 then E (.sc<|.slice Q 0 0)else Q
  |_=>Q)
 |_,_=>Q
def xv(P:aH)(t:a6):Option<|TypeDesc×aN:=
 match P.underlying t with
 |some (.map k e)=>match P.underlying k,(P.info? e).bind (·.zero)with
  |some d,E z=>E (d,z)
  |_,_=>Q
 |_=>Q
def BP:TypeDesc->aN->Bool
 |.bool,.bool _=>W
 |.int k,.int b _=>b==k
 |.string,.string _=>W
 |_,_=>af
def kp(d:TypeDesc)(k:aN):List aN->Option (Option Nat)
 |[]=>E Q
 |e::b=>match Instr.sameNow d k e with
  |some W=>E (E 0)
  |some af=>(kp d k b).map (·.map (·+1))
  |none=>Q
def zr(P:aH)(t:a6):Option aN:=
 match P.underlying t with
 |some (.map k e)=>if oc P k=W then(P.info? e).bind (·.zero)else Q
 |_=>Q
def rV(s:St):D->Option Nat
 |.pa _ (.pa b _::_)=>E b
 |.rf t g 0=>match s.H t with|some ob=>if ob.gen=g/\ob.keys=Q then(match ob.cells with|.pa b _::_=>E b|_=>Q)else Q|none=>Q
 |_=>Q
def mM(s:St)(b:Nat):List aN->List D->Option (Option Nat)
 |[],[]=>E Q
 |.pointer (E ⟨b',0,Q⟩)::ks,c::cs=>if rV s c=E b' then(if b=b' then E (E 0)else(mM s b ks cs).map (·.map (·+1)))else Q
 |_,_=>Q
def ach{s b:St}(e:b.H=s.H):rV b=rV s:=by funext d;unfold rV;rw[e]
theorem Ku{s h:St}(f:h.H=s.H){b:Nat}:∀(e:VL)(d:DL),mM h b e d=mM s b e d
 |[],[]=>rfl
 |[],_::_=>rfl
 |_::_,[]=>by unfold mM;split<;>first|rfl|(split<;>rfl)|simp_all
 |k::e,l::d=>by
  unfold mM;split
  .rfl
  .rename_i i j;cases i;cases j;rw[ach f,Ku f]
  rfl
def xu(z:aN)(ok:Bool)(cells:List D):Option (Option Nat)->Option D
 |some Q=>E (if ok then .tp [.sc z,.sc<|.bool af]else .sc z)
 |some (E j)=>match cells[j]? with
  |some c=>E (if ok then .tp [c,.sc<|.bool W]else c)
  |none=>Q
 |none=>Q
def xq(P:aH)(s:St)(t:a6)(ok:Bool):D->D->Option D
 |.mp e gn,.sc f=>match xv P t,s.H e with
  |some (d,z),E ob=>match ob.keys with
   |some ks=>if ob.gen=gn/\BP d f=W then xu z ok ob.cells (kp d f ks)else Q
   |none=>Q
  |_,_=>Q
 |.mp e gn,.pa b _=>match zr P t,s.H e with
  |some z,E ob=>match ob.keys with
   |some ks=>if ob.gen=gn then xu z ok ob.cells (mM s b ks ob.cells)else Q
   |none=>Q
  |_,_=>Q
 |_,_=>Q
def Cj(s:St)(e:Nat)(ob:Ob)(ks:List aN)(d:aN)(b:D):Option (Option Nat)->Option (Prop×St)
 |some Q=>E (A ob.cells=A ks,{s with H:=ai s.H e (E {ob with keys:=E (ks++[d]),cells:=ob.cells++[b]})})
 |_=>Q
def sP(P:aH)(t:a6):Bool:=match P.underlying t with|some (.slice e)=>(match P.underlying e with|some (.int .u8)=>W|_=>af)|_=>af
def bytesOf:List D->Option (List Int)
 |[]=>E []
 |.sc (.int .u8 n)::ds=>(bytesOf ds).map (n::·)
 |_=>Q
def yL(len:Nat)(ds:DL):Option D:=match bytesOf (Y len ds)with|some ns=>if A ns=len then E (.sc<|.string<|strOfNums ns)else Q|none=>Q
def u9(P:aH)(s:St)(src dst:a6):D->Option D
 |.ms t g len=>if sP P src=W/\jl P dst=0 then(match s.H t with|some ob=>if ob.gen=g/\ob.keys=Q then yL len ob.cells else Q|none=>Q)else Q
 |.sl sz aq=>if sP P src=W/\jl P dst=0/\sz=1 then yL (A aq) (ao aq)else Q
 |.sc (.slice Q 0 0)=>if sP P src=W/\jl P dst=0 then E (.sc<|.string ByteArray.empty)else Q
 |_=>Q
def U3:Option D->Option D->Option D
 |some d,_=>E d
 |none,x=>x
def f_(P:aH)(s:St):gC->Option D
 |.build t parts=>match EW P t,sg P t with
  |some f,E z=>(ud (λi=>f[i]?) z (parts.toList.map λx=>(x.1,s.ev x.2))).map .ag
  |_,_=>Q
 |.slice t x d b e=>match e with|none=>GF P t (s.ev x) (d.map s.ev) (b.map s.ev)|some y=>match d,b with|none,E h=>Ez P t (s.ev x) (s.ev h) (s.ev y)|_,_=>Q
 |.lookup t x k ok=>xq P s t ok (s.ev x) (s.ev k)
 |.convert src dst x=>U3 (u9 P s src dst<|s.ev x) (sd P s<|.convert src dst x)
 |.call c=>match c.callee,c.args.toList with
  |.builtin .max,[x,y]=>(match s.ev x,s.ev y with
   |.sc (.int k m),.sc (.int _ n)=>E (.sc<|.int k (if n>m then n else m))
   |_,_=>Q)
  |_,_=>sd P s (.call c)
 |op=>sd P s op
def dS(s:St)(e:a6)(sz:Nat):D->Option (Nat×List D)
 |.sl b aq=>if b=sz then E (A aq,ao aq)else Q
 |.ms t g m=>match s.H t with
  |some ob=>if ob.gen=g/\ob.sz=sz/\A ob.cells=m*sz/\ob.elem=e/\ob.keys=Q then E (m,ob.cells)else Q
  |none=>Q
 |.sc (.slice (E _) 0 _)=>E (0,[])
 |_=>Q
def wL(s:St)(t e sz d b:Nat)(aq:List<|List D):D->Option (Prop×St×D)
 |.sc (.slice Q 0 0)=>if b=sz then E (True,s,.cs sz aq)else Q
 |.sl _ []=>if b=sz then E (True,s,.cs sz aq)else Q
 |f=>match dS s e sz f with
  |some (m,cs)=>if b=sz then E ((ao aq++cs).all cO=W/\0<m/\(A aq+m)*d<=140737488355328/\A aq+m<=aE,k9 s t e sz (ao aq++cs),.ms t (s.n t)<|A aq+m)else Q
  |none=>Q
def JD:D->Option (Nat×List (List D))
 |.cs sz aq=>E (sz,aq)
 |_=>Q
def tU(P:aH)(s:St)(ty:a6)(len:Nat)(parts:Array<|Nat×gK):Option<|Prop×D:=
 match cE P ty with
 |some (_,sz,_)=>match ud (λi=>E (i*sz,sz)) (fu (len*sz) .any) (parts.toList.map λx=>(x.1,s.ev x.2))with
  |some cs=>E (len*sz<=16777216/\len<=1,if len=1 then .sl sz [cs]else .cs sz [])
  |none=>Q
 |none=>Q
def hA(P:aH)(mu:List Nat)(s:St)(t:Nat):gC->Option (Prop×St×D)
 |.box e x=>match mC (s.ev x)with
  |some cs=>if t∈mu then E (True,k9 s t e (A cs) cs,.rf t (s.n t) 0)else E (True,s,.cp cs)
  |none=>Q
 |.alloc e=>match sg P e with
  |some cs=>E (True,k9 s t e (A cs) cs,.rf t (s.n t) 0)
  |none=>Q
 |.makeMap _ r=>match r with
  |none=>E (True,KZ s t,.mp t<|s.n t)
  |some _=>Q
 |.buildSlice ty len parts=>match cE P ty with
  |some (e,sz,_)=>match ud (λi=>E (i*sz,sz)) (fu (len*sz) .any) (parts.toList.map λx=>(x.1,s.ev x.2))with
   |some cs=>E (len*sz<=16777216,k9 s t e sz cs,.ms t (s.n t) len)
   |none=>Q
  |none=>Q
 |.makeSlice ty l c=>match cE P ty,s.ev l,s.ev c with
  |some (e,sz,b),.sc (.int _ n),.sc (.int _ m)=>
   E (n<=m/\0<=n/\(b:Int)*m<=281474976710656/\m<=9223372036854775807,k9 s t e sz (ao<|fu n.toNat<|si P e),.ms t (s.n t) n.toNat)
  |_,_,_=>Q
 |.call c=>match c.callee,c.args.toList,c.argTypes.toList with
  |.builtin .append,[x,y],[ty,h]=>match cE P ty with
   |some (e,sz,b)=>if h=ty then
    match s.ev x,s.ev y with
    |.ms t0 gn len,.sc (.slice Q 0 0)=>match s.H t0 with
     |some ob=>if ob.gen=gn/\ob.sz=sz/\A ob.cells=len*sz/\ob.elem=e/\ob.keys=Q then E (True,s,.ms t0 gn len)else Q
     |none=>Q
    |.sc (.slice Q 0 0),.sc (.slice Q 0 0)=>E (True,s,.sc<|.slice Q 0 0)
    |.sc (.slice Q 0 0),.sc (.slice (E _) 0 _)=>E (True,s,.sc<|.slice Q 0 0)
    |.sc (.slice Q 0 0),d=>match dS s e sz d with
     |some (m,cs)=>E (cs.all cO=W/\0<m/\m*b<=140737488355328/\m<=aE,k9 s t e sz cs,.ms t (s.n t) m)
     |none=>Q
    |.ms t0 gn len,d=>match s.H t0,dS s e sz d with
     |some ob,E (m,cs)=>
      if ob.gen=gn/\ob.sz=sz/\A ob.cells=len*sz/\ob.elem=e/\ob.keys=Q then
       E (cs.all cO=W/\(len+m)*b<=140737488355328/\len+m<=aE,r2 s t0 t e sz (ob.cells++cs),.ms t (s.n t)<|len+m)
      else Q
     |_,_=>Q
    |.cs f aq,d=>wL s t e sz b f aq d
    |_,_=>Q
    else match JD (s.ev x)with
     |some (f,aq)=>if cE P h=E (e,sz,b)then wL s t e sz b f aq (s.ev y)else Q
     |none=>match xl P h,s.ev x,s.ev y with
     |some _,.sc (.slice Q 0 0),.sc (.int _ n)=>E (0<n/\n.toNat*b<=140737488355328/\n.toNat<=aE,k9 s t e sz (ao<|fu n.toNat<|si P e),.ms t (s.n t) n.toNat)
     |_,_,_=>Q
   |none=>Q
  |_,_,_=>Q
 |_=>Q
def mV(P:aH)(s:St):gC->Option (Prop×St)
 |.store ty x y=>match s.ev x,mC (s.ev y),od P ty with
  |.rf t gn off,E cs,E n=>match s.H t with
   |some ob=>if ob.gen=gn/\ob.keys=Q then E (A cs=n/\off+A cs<=A ob.cells/\cs.all cO=W,{s with H:=ai s.H t (E {ob with cells:=lc ob.cells off cs})})else Q
   |none=>Q
  |_,_,_=>Q
 |.mapUpdate t m k v=>match s.ev m,s.ev k,xv P t with
  |.mp e gn,.sc f,E (d,_)=>match s.H e with
   |some ob=>match ob.keys with
    |some ks=>if ob.gen=gn/\BP d f=W then Cj s e ob ks f (s.ev v) (kp d f ks)else Q
    |none=>Q
   |none=>Q
  |.mp e gn,.pa b _,_=>match zr P t,s.H e with
   |some _,E ob=>match ob.keys with
    |some ks=>if ob.gen=gn/\mM s b ks ob.cells=E Q then E (A ob.cells=A ks,{s with H:=ai s.H e (E {ob with keys:=E (ks++[.pointer<|some ⟨b,0,Q⟩]),cells:=ob.cells++[s.ev v]})})else Q
    |none=>Q
   |_,_=>Q
  |_,_,_=>Q
 |_=>Q
def pk(w:a8)(b:Obj):(w.alloc b).heap[w.heap.size]?=E b:=heap_alloc_new w b
def wN(w:a8)(b:Obj):Below w.heap.size w<|w.alloc b:=(Below.refl _ _).alloc (bJ _) b
def Ek(w:a8)(b:Obj):Below w.heap.size w<|w.drew.alloc b:=((Below.refl _ _).drew).alloc (bJ _) b
def ba.make(o:ba w0 M g s a w){w':a8}(b:Nat)(i:a6)(sz h:Nat)(cells:DL)(f:ky)(e:Below w.heap.size w w')(k:w'.heap[w.heap.size]?=E (.cells f i (0,0)))
 (u:f.size=h*sz) (p:h<=aE) (t:A cells<=f.size) (q:∀(l:Nat)(d:D),cells[l]?=E d->∃m,f[l]?=E m/\Rd (aR w M g s.n) d m) (B:w.drawn<=w'.drawn:=by first|exact bJ _|exact oq _|assumption):
 ∃j,ba w0 M j (k9 s b i sz cells) a w'/\(aR w M g s.n).Ext (aR w' M j<|eP s.n b)/\j b=E (s.n b,w.heap.size,h):=by
 have⟨y,z⟩:=o.rebind (w':=w') b b w.heap.size h f {gen:=s.n b,elem:=i,sz,cells} C (λx r _=>e.block x r) (aG<|bJ _) (KO k) (.of k C) (λ_=>u) p t q e.os e.tape e.output e.size;exact⟨_,y,z,bN _ _ _⟩
def U7(j:ba w0 M g s a w)(e:List<|Nat×gK):(e.map λx=>(x.1,s.ev x.2)).map (·.1)=(e.map λx=>(x.1,a.eval x.2)).map (·.1)/\
 ∀(f:Nat)(d:D)(v:aN),((e.map λx=>(x.1,s.ev x.2)).map (·.2))[f]?=E d->((e.map λx=>(x.1,a.eval x.2)).map (·.2))[f]?=E v->Rd (aR w M g s.n) d v:=by
 refine⟨Zs,λf d v b h=>?_⟩;simp only[eu,fP]at b h;rcases i:e[f]? with _|x
 .rw[i]at b;cases b
 rw[i]at b h;cases b;cases h;exact j.ev x.2
theorem W9{d:a6}{e:DL}(b:sg P d=E e):∃i h,P.info? d=E i/\i.zero=E h/\e=h.cells.toList.map .sc:=by
 unfold sg at b;rcases f:P.info? d with _|i
 .simp[f]at b
 simp only[f,mq,jP]at b;exact Zg
def GC{ay:View}(h:ky)(f:Nat)(d:D)(e:(h.toList.map D.sc)[f]?=E d):∃b,h[f]?=E b/\Rd ay d b:=by
 rw[fP]at e;simp only[jP]at e;obtain⟨b,i,rfl⟩:=e;exact⟨b,Yq i,.sc b⟩
def QO(e:ba w0 M g s a w)(x:Option gK):∀d,x.map s.ev=E d->∃v,x.map a.eval=E v/\Rd (aR w M g s.n) d v:=by
 intro d b;obtain _|x:=x
 .cases b
 cases b;exact⟨_,C,e.ev x⟩
def zO(j:IntKind)(b:Int)(e:Nat)(f:BoundsCode)(h:0<=b)(i:b<=e)(d:a8):(Instr.sliceBound (.int j b) e f).run P d=.ok b.toNat d:=by
 simp[Instr.sliceBound,asIntOf,h,i]
def zP(r:Bool)(h f:Nat)(d b:Int)(j i:Option aN)(q:(j=Q/\d=0)\/∃e,j=E (.int e d))(p:(i=Q/\b=h)\/∃e,i=E (.int e b))
 (k:0<=d) (t:d<=b) (l:b<=f) (o:a8):(Instr.sliceBounds r h f j i Q).run P o=.ok (d.toNat,b.toNat,f) o:=by
 obtain⟨rfl,rfl⟩|⟨e,rfl⟩:=q<;>obtain⟨rfl,rfl⟩|⟨m,rfl⟩:=p
 .simp[Instr.sliceBounds]
 .simp only[Instr.sliceBounds,gr,Sem.run_pure,il,zO m b f _ Zo l];rfl
 .simp only[Instr.sliceBounds,gr,Sem.run_pure,il,zO e d h _ k Zo];simp
 simp only[Instr.sliceBounds,gr,Sem.run_pure,il,zO m b f _ Zo l,zO e d b.toNat _ k Zo]
theorem afG{U:View}{ab:a6}{ax:D}{an x:Option D}{av:aN}{d:D}(f:GF P ab ax an x=E d)(L:Rd U ax av)(u t:Option aN)
 (K:∀d,an=E d->∃v,u=E v/\Rd U d v) (J:∀d,x=E d->∃v,t=E v/\Rd U d v) (R:an=Q->u=Q) (O:x=Q->t=Q):
 ∃v,Rd U d v/\∀h:a8,(Instr.sliceAt ab av u t Q).run P h=.ok v h:=by
 have aC:jl P ab=0->P.underlying ab=E .string:=λe=>yy;have k:∀(ae:Int)(b:Option D)(V:Option aN)(Z:Int),rA ae b=E Z->(∀d,b=E d->∃v,V=E v/\Rd U d v)->(b=Q->V=Q)->(V=Q/\Z=ae)\/∃aB,V=E (.int aB Z):=by
  intro ae b V Z l ao ak;unfold rA at l;split at l
  .cases l;exact aG ⟨ak C,C⟩
  .have⟨v,e,aA⟩:=ao _ C;cases aA;cases l;exact aj ⟨_,e⟩
  cases l
 unfold GF at f;split at f
 .rename_i b;cases L;split at f
  .rename_i j i p z;split at f
   .rename_i m;have⟨o,y,I,ad⟩:=m;cases f;refine⟨_,.sc _,λh=>?_⟩;simp[Instr.sliceAt,Instr.slice,fJ<|aC o,zP (P:=P) af b.size b.size j i u t (k 0 _ _ _ p K R) (k _ _ _ _ z J O) y I ad h]
   cases f
  cases f
 .rename_i S aa;split at f
  .rename_i j i p z;split at f
   .rename_i m;have⟨o,y,I,ad⟩:=m;cases f;have⟨e,F,B⟩:=wZ o;cases L with
    |nil=>
     have l:=λh=>zP (P:=P) W 0 0 j i u t (k 0 _ _ _ p K R) (k _ _ _ _ z J O) y I ad h;have ah:j.toNat=0/\i.toNat=0:=cq;refine⟨.slice Q 0 0,Yq<|Rd.nil S,λh=>?_⟩;have G:=l h;simp[ah]at G;simp[Instr.sliceAt,Instr.slice,fJ F,G,nH B]
    |gv _ X cap ar=>
     have l:=λh=>zP (P:=P) W 0 cap j i u t (k 0 _ _ _ p K R) (k _ _ _ _ z J O) y I Zg h;have ah:j.toNat=0/\i.toNat=0:=cq;refine⟨.slice (E X) 0 cap,Yq<|Rd.gv S X cap ar,λh=>?_⟩;have G:=l h;simp only[ah]at G;simp only[Instr.sliceAt,Instr.slice,gr,fJ F,il,G,nH B];split
     .simp
     simp[Addr.add]
    |sl _ _ b au cap us m ar az ao ak=>
     have l:=λh=>zP (P:=P) W (A aa) cap j i u t (k 0 _ _ _ p K R) (k _ _ _ _ z J O) y I Zo h;have ay:A ((Y i.toNat aa).drop j.toNat)=i.toNat-j.toNat:=co;have ap:∀(q:Nat)(r:DL),((Y i.toNat aa).drop j.toNat)[q]?=E r->aa[j.toNat+q]?=E r:=Zg;refine⟨.slice (E ⟨b,if cap=j.toNat then au else au+j.toNat*S,Q⟩) (i.toNat-j.toNat)<|cap-j.toNat,?_,λh=>?_⟩
     .rw[<-ay];refine .sl S _ b _ _ (λq am=>us (j.toNat+q) am) Zo Zo (λq r x=>az _ _<|ap q r x) (λq r am d x aq=>Zg) λq r am d x aq=>ak _ _ _ _ (ap q r x) aq
     have G:=l h;simp only[Instr.sliceAt,Instr.slice,gr,fJ F,il,G,nH B];split
     .simp
     simp[add_lit]
   cases f
  cases f
 .split at f
  .rename_i aD aI p i;split at f
   .rename_i m;obtain⟨m,rfl,rfl⟩:=m;have⟨S,o⟩:=sx.1 m;cases f;cases L;have⟨e,F,B⟩:=wZ o;refine⟨_,.sc _,λh=>?_⟩;simp[Instr.sliceAt,Instr.slice,fJ F,zP (P:=P) W 0 0 0 0 u t (k 0 _ _ _ p K R) (k 0 _ _ _ i J O) Zo Zo Zo h,nH B]
   cases f
  cases f
 .rename_i sl aH aF;split at f
  .rename_i aD i p z;split at f
   .rename_i m;obtain⟨o,rfl,y,I⟩:=m;have⟨S,o⟩:=sx.1 o;cases f;have⟨e,F,B⟩:=wZ o;cases L with|ms _ _ _ X cap al L=>
    refine⟨.slice (E X) i.toNat cap,.ms _ _ _ _ _ ⟨al.1,Yo al.2⟩ L,λh=>?_⟩;simp only[Instr.sliceAt,Instr.slice,gr,fJ F,il,zP (P:=P) W aF cap 0 i u t (k 0 _ _ _ p K R) (k _ _ _ _ z J O) Zo y (Yo al.2) h,nH B];split<;>simp[Addr.add_zero']
   cases f
  cases f
 cases f
theorem Tm{d:TypeDesc}{v:aN}(b:BP d v=W):MapKept.IsKey d v:=by
 cases d<;>cases v<;>simp_all[BP,MapKept.IsKey]
def JR(d:TypeDesc)(k:aN):∀(f:List MapEntry)(r:ON),kp d k (f.map (·.key))=E r->
 ∀i,(r=Q/\Instr.findNow d k f i=E Q)\/∃j e,r=E j/\f[j]?=E e/\Instr.findNow d k f i=E (E (i+j,e.val))/\Instr.sameNow d k e.key=E W
 |[],r,b,i=>by simp only[eO,kp,eH]at b;exact aG ⟨b.symm,C⟩
 |e::f,r,b,i=>by
  simp only[b4,kp]at b;split at b
  .rename_i h;cases b;exact aj ⟨0,e,C,C,by simp[Instr.findNow,h],h⟩
  .rename_i h;simp only[jP]at b;obtain⟨t,q,rfl⟩:=b;obtain⟨rfl,l⟩|⟨j,m,rfl,l,o,p⟩:=JR d k f t q<|i+1
   .exact aG ⟨C,by simp[Instr.findNow,h,l]⟩
   exact aj ⟨j+1,m,C,Yq l,by simp[Instr.findNow,h,o];omega,p⟩
  cases b
def Uk{P:aH}{k:a6}{d:TypeDesc}{l:aN}(b:xv P k=E (d,l)):∃f e i,P.underlying k=E (.map f e)/\P.underlying f=E d/\P.info? e=E i/\i.zero=E l:=by
 unfold xv at b;split at b
 .rename_i f e o;split at b
  .rename_i p q m j;cases b;rcases h:P.info? e with _|i
   .simp[h]at j
   exact⟨f,e,i,o,m,h,by simpa[h]using j⟩
  cases b
 cases b
def aci(p:ba w0 M g s a w){f:D}{t:aN}{b:Nat}(d:rV s f=E b)(q:Rd (aR w M g s.n) f t):∃us i,w.heap[b]?=E (.cells us i (0,0)):=by
 unfold rV at d;split at d
 .cases d;cases q with|pa _ _ us y A z j=>
  have h:=j 0 _ C;generalize us 0=G at h;cases h with|pa _ _ _ _ e _ _=>exact e
 .split at d
  .rename_i r o;split at d
   .split at d
    .rename_i m;cases d;have⟨_,u,x,F,_,_,_,_,_,k⟩:=p.obj _ r o;obtain⟨B,_,l⟩:=k 0 _<|Yf m;cases l with|pa _ _ _ _ e _ _=>exact e
    cases d
   cases d
  cases d
 cases d
theorem Kv(G:ba w0 M g s a w){j:a6}(F:oc P j=W){b:Nat}(L:∃us e,w.heap[b]?=E (.cells us e (0,0))){w':a8}(y:Below w.heap.size w w'):∀(f:List MapEntry)(p:DL)(r:ON)(i:Nat),mM s b (f.map (·.key)) p=E r->(∀h∈p,∃I,Rd (aR w M g s.n) h I)->
 (r=Q/\(Instr.findAsking j (.pointer<|some ⟨b,0,Q⟩) f i).run P w'=.ok Q w')\/∃l e,r=E l/\f[l]?=E e/\(Instr.findAsking j (.pointer<|some ⟨b,0,Q⟩) f i).run P w'=.ok (E (i+l,e.val)) w'
 |[],[],r,i,d,_=>by simp only[eO,mM,eH]at d;exact aG ⟨d.symm,by simp[Instr.findAsking]⟩
 |[],_::_,r,i,d,_=>by simp[mM]at d
 |e::f,p,r,i,d,A=>by
  rw[b4]at d;unfold mM at d;split at d
  .rename_i S;cases S
  .rename_i ad ah h J x;have B:=(List.cons.inj x).1;have V:=(List.cons.inj x).2;subst V;split at d
   .rename_i U;have⟨I,Z⟩:=A h Zs;have⟨ab,K,O⟩:=aci G U Z;have⟨us,u,z⟩:=L;have D:∀{o:Nat}{t:Obj},w.heap[o]?=E t->w'.heap[o]?=E t:=λ{o t}m=>(y.block o (nO.1 m).1).trans m;have k:=VH F w' ⟨us,u,D z⟩ ⟨ab,K,D O⟩;split at d
    .rename_i q;subst q;cases d;rw[tB]at k;refine aj ⟨0,e,C,C,?_⟩;simp only[Instr.findAsking,B,gr,k,il,bx,oX];rfl
    rename_i q;rw[beq_false_of_ne q]at k;simp only[jP]at d;obtain⟨aa,X,rfl⟩:=d;have Y:(Instr.findAsking j (.pointer<|some ⟨b,0,Q⟩) (e::f) i).run P w'=(Instr.findAsking j (.pointer<|some ⟨b,0,Q⟩) f<|i+1).run P w':=by
     simp only[Instr.findAsking,B,gr,k,il,Af,bT]
    obtain⟨rfl,m⟩|⟨l,ae,rfl,ak,al⟩:=Kv G F ⟨us,u,z⟩ y f J aa (i+1) X λh R=>A h<|Yr R
    .exact aG ⟨C,Y.trans m⟩
    exact Zg
   cases d
  cases d
def Uj{P:aH}{h:a6}{j:aN}(b:zr P h=E j):∃e d i,P.underlying h=E (.map e d)/\oc P e=W/\P.info? d=E i/\i.zero=E j:=by
 unfold zr at b;split at b
 .rename_i e d l;split at b
  .rename_i k;rcases f:P.info? d with _|i
   .simp[f]at b
   exact⟨e,d,i,l,k,f,by simpa[f]using b⟩
  cases b
 cases b
def VG{P:aH}{w:a8}{b:a6}(e:oc P b=W)(i:Option Addr)(d:Bool)(h:Nat):(Instr.checkKey d (h+1) b<|.pointer i).run P w=.ok () w:=by
 have⟨k,j,f,_,_⟩:=Ci e;simp[Instr.checkKey,fJ f]
def VK{P:aH}{w:a8}{d:a6}(h:oc P d=W)(f:Option Addr)(b:List MapEntry):(Instr.findKey d (.pointer f) b).run P w=(Instr.findAsking d (.pointer f) b 0).run P w:=by
 have⟨k,j,e,_,_⟩:=Ci h;obtain _|⟨i,b⟩:=b
 .simp[Instr.findKey,fJ e,Instr.findNow,Instr.findAsking]
 simp[Instr.findKey,fJ e,Instr.findNow,Instr.sameNow]
def ads(G:ba w0 M g s a w){O:a6}{ok:Bool}{J I:gK}{d:D}(e:xq P s O ok (s.ev J) (s.ev I)=E d):
 ∃v,Rd (aR w M g s.n) d v/\∀w',Below w.heap.size w w'->(Instr.lookup O (a.eval J) (a.eval I) ok).run P w'=.ok v w':=by
 have k:=G.ev J;have x:=G.ev I;unfold xq at e;split at e
 .rename_i au aA L Z Y;rw[Z]at k;rw[Y]at x;generalize a.eval J=aQ at k;generalize a.eval I=aP at x;cases x;split at e
  .rename_i ar z A ah al;split at e
   .rename_i aM ak;split at e
    .rename_i hc;have⟨ab,aI⟩:=hc;have⟨aH,b,c,av,ad,q,_,aD,aK,pj⟩:=G.obj au A al;cases k with|mp _ _ o _ k=>
     have l:=k b c (by rw[<-ab];exact ad);subst l;have⟨ay,U,i,am,y,ae,ao⟩:=Uk ah;unfold jh at q;rw[ak]at q;obtain⟨h,S,B,rfl,an,-⟩:=q;have ap (w':a8):(zeroValue U).run P w'=.ok z w':=by simp[zeroValue,typeInfo,ae,ao]
     have F:∀w',Below w.heap.size w w'->∀r,(Instr.findNow ar L h.toList 0=E r)->
      (Instr.lookup O (.map<|some o) L ok).run P w'=.ok (if ok then .tuple #[(r.map (·.2)).getD z,.bool r.isSome]else(r.map (·.2)).getD z) w':=λw' f r aa=>by
      have V:w'.heap[o]?=E (.map h S):=by rw[f.block o (nO.1 B).1];exact B
      simp only[Instr.lookup,gr,fJ am,MapKept.run_getObj_map V,Sem.run_pure,il,MapKept.run_checkKey y<|Tm aI,MapKept.run_findKey y aa];obtain _|r:=r
      .cases ok<;>simp[ap]
      obtain⟨j,v⟩:=r;cases ok<;>rfl
     rcases p:kp ar L (h.toList.map (·.key))with _|r
     .rw[p]at e;cases e
     rw[p]at e;obtain⟨rfl,K⟩|⟨j,m,rfl,K,aB,_⟩:=JR ar L h.toList r p 0
     .simp only[xu,eH]at e;subst e;refine⟨_,?_,λw' f=>F w' f Q K⟩;exact Po
     simp only[xu]at e;split at e
     .rename_i R X;have⟨u,aq,k2⟩:=pj j R X;obtain rfl:u=m.val:=by
       have l:av.toList[j]?=E u:=Yq aq;rw[<-an,fP,K]at l;simpa using l.symm
      simp only[eH]at e;subst e;refine⟨_,?_,λw' f=>F w' f _ aB⟩;cases ok
      .exact k2
      exact .tp _ [m.val,.bool W] C λi d v hd hv=>PQ
     cases e
    cases e
   cases e
  cases e
 .rename_i au aA b aS Z Y;rw[Z]at k;rw[Y]at x;generalize a.eval J=aQ at k;generalize a.eval I=aP at x;cases x with|pa _ _ us aT aJ aU K=>
  split at e
  .rename_i z A ah al;split at e
   .rename_i aM ak;split at e
    .rename_i ab;have⟨aH,az,c,av,ad,q,_,aD,aK,pj⟩:=G.obj au A al;cases k with|mp _ _ o _ k=>
     have l:=k az c (by rw[<-ab];exact ad);subst l;have⟨ay,U,i,am,y,ae,ao⟩:=Uj ah;unfold jh at q;rw[ak]at q;obtain⟨h,S,B,rfl,an,-⟩:=q;have ap (w':a8):(zeroValue U).run P w'=.ok z w':=by simp[zeroValue,typeInfo,ae,ao]
     have aC c (hc:c∈A.cells):∃u,Rd (aR w M g s.n) c u:=Nl;have F:∀w',Below w.heap.size w w'->∀r,(Instr.findAsking ay (.pointer<|some ⟨b,0,Q⟩) h.toList 0).run P w'=.ok r w'->
      (Instr.lookup O (.map<|some o) (.pointer<|some ⟨b,0,Q⟩) ok).run P w'=.ok (if ok then .tuple #[(r.map (·.2)).getD z,.bool r.isSome]else(r.map (·.2)).getD z) w':=λw' f r aa=>by
      have V:w'.heap[o]?=E (.map h S):=by rw[f.block o (nO.1 B).1];exact B
      simp only[Instr.lookup,gr,fJ am,MapKept.run_getObj_map V,Sem.run_pure,il,VG y,VK y,aa];obtain _|r:=r
      .cases ok<;>simp[ap]
      obtain⟨j,v⟩:=r;cases ok<;>rfl
     rcases p:mM s b (h.toList.map (·.key)) A.cells with _|r
     .rw[p]at e;cases e
     rw[p]at e;have ax:=λw'(f:Below w.heap.size w w')=>Kv (w':=w') G y aJ f h.toList A.cells r 0 p aC;obtain _|j:=r
     .simp only[xu,eH]at e;subst e;refine⟨_,Po,λw' f=>F w' f Q ?_⟩;obtain⟨_,t⟩|⟨j,m,t,_⟩:=ax w' f
      .exact t
      cases t
     simp only[xu]at e;split at e
     .rename_i R X;have⟨u,aq,k2⟩:=pj j R X;simp only[eH]at e;subst e;have aL m (aF:h.toList[j]?=E m):u=m.val:=by
       have l:av.toList[j]?=E u:=Yq aq;rw[<-an,fP,aF]at l;simpa using l.symm
      refine⟨if ok then .tuple #[u,.bool W]else u,?_,λw' f=>?_⟩
      .cases ok
       .exact k2
       exact .tp _ [u,.bool W] C λi d v hd hv=>PQ
      obtain⟨t,_⟩|⟨aV,m,t,aN,aO⟩:=ax w' f
      .cases t
      cases t;rw[aL m aN];exact F w' f _ aO
     cases e
    cases e
   cases e
  cases e
 cases e
theorem Q1:∀{f:DL}{e:IL},bytesOf f=E e->A e=A f/\∀(h:Nat)(d:D),f[h]?=E d->d=.sc (.int .u8<|e.getD h 0)
 |[],e,b=>by simp[bytesOf]at b;subst b;simp
 |.sc (.int .u8 l)::f,e,b=>by
  simp only[bytesOf,jP]at b;obtain⟨m,i,rfl⟩:=b;have⟨j,k⟩:=Q1 i;exact Zg
theorem X_(L:ba w0 M g s a w){src l:a6}{x:gK}{d:D}(f:u9 P s src l (s.ev x)=E d):
 ∃v,Rd (aR w M g s.n) d v/\∀h,Below w.heap.size w h->(convert src l<|a.eval x).run P h=.ok v h:=by
 have aK:∀{e},sP P src=W->P.underlying src=E (.slice e)->P.underlying e=E (.int .u8):=λf i=>by
  unfold sP at f;rw[i]at f;simp only at f;split at f
  .assumption
  cases f
 have R:sP P src=W->∃e,P.underlying src=E (.slice e)/\P.underlying e=E (.int .u8):=λf=>by
  have au:=f;unfold sP at f;split at f
  .rename_i e i;exact⟨e,i,aK au i⟩
  cases f
 have S:jl P l=0->P.underlying l=E .string:=λe=>yy;have ah:∀(p o b u:Nat)(G:DL),yL p G=E d->(∀(k:Nat)(e:D),G[k]?=E e->k<p->∃F,w.cell? ⟨b,u+k,Q⟩=E F/\Rd (aR w M g s.n) e F)->sP P src=W->jl P l=0->
  ∃v,Rd (aR w M g s.n) d v/\∀h,Below w.heap.size w h->(convert src l<|.slice (E ⟨b,u,Q⟩) p o).run P h=.ok v h:=by
  intro p o b u G t m ab ad;have⟨e,i,q⟩:=R ab;unfold yL at t;split at t
  .rename_i aL aI;split at t
   .rename_i an;cases t;have⟨aT,aN⟩:=Q1 aI;refine⟨_,.sc _,λh av=>run_convert_bytes_arg h src e i q b u p o aL an (λB J=>?_) l<|S ad⟩;have aC:B<A (Y p G):=Zo;have I:=bL aC;rw[aN B _ I,wl,aM J]at I;have⟨F,y,ae⟩:=m B _ I J;cases ae;exact Ej av y
   cases t
  cases t
 have j:=L.ev x;unfold u9 at f;split at f
 .rename_i aO aQ p z;rw[z]at j;generalize a.eval x=aq at j;split at f
  .rename_i m;split at f
   .rename_i ap aJ;split at f
    .rename_i az;have⟨ay,aF⟩:=az;have⟨I,b,ar,aV,aA,aB,_,aS,an,ax⟩:=L.obj aO ap aJ;cases j with|ms _ _ _ V o _ j=>
     obtain⟨rfl,rfl⟩:=j b ar (by rw[<-ay];exact aA);refine ah p o b 0 ap.cells f (λk e K _=>?_) m.1 m.2;have⟨F,y,ae⟩:=ax k e K;exact⟨F,by rw[pW<|aB.cells aF,ew];exact y,ae⟩
    cases f
   cases f
  cases f
 .rename_i aU U z;rw[z]at j;generalize a.eval x=aq at j;split at f
  .rename_i m;obtain⟨X,Z,rfl⟩:=m;have ak:U=[]->d=.sc (.string ByteArray.empty):=by
    rintro rfl;simp[yL,bytesOf]at f;rw[<-f];rfl
   cases j with
   |nil=>
    have⟨e,i,q⟩:=R X;rw[ak C];exact⟨_,.sc _,λh _=>run_convert_bytes_nil h src e i q 0 0 l<|S Z⟩
   |gv _ V o aH=>
    have⟨e,i,q⟩:=R X;rw[ak C];refine⟨_,.sc _,λh _=>?_⟩;rw[run_convert_bytes_string h src l e _ _ _ i q<|S Z];have aP:=run_bytesToString (P:=P) h V 0 o []<|Yq<|run_loadCells_list (P:=P) h V [] Zs;simpa using aP
   |sl _ _ b u o us m aH am ab ad=>
    refine ah (A U) o b u (ao U) f (λk e K aD=>?_) X Z;have O:=bL aD;have aa:0<A (U[k]):=by rw[am k _ O];decide
    have al:=mJ (λr L=>by obtain⟨B,J⟩:=jg.1 L;exact am B r J) O<|bL aa;simp only[h_,oX]at al;rw[al]at K;cases K;have y:=ab k _ 0 _ O<|bL aa;simp only[h_,oX]at y;exact⟨us k 0,eW y,ad k _ 0 _ O<|bL aa⟩
  cases f
 .rename_i z;rw[z]at j;generalize a.eval x=aq at j;cases j;split at f
  .rename_i m;have⟨e,i,q⟩:=R m.1;cases f;exact⟨_,.sc _,λh _=>run_convert_bytes_nil h src e i q 0 0 l<|S m.2⟩
  cases f
 cases f
def YP{P:aH}{r:View}{S:a6}{Y F L:D}{X U V:aN}{d:D}(f:Ez P S Y F L=E d)(G:Rd r Y X)(ad:Rd r F U)(y:Rd r L V):
 ∃v,Rd r d v/\∀e:a8,(Instr.sliceAt S X Q (E U)<|some V).run P e=.ok v e:=by
 unfold Ez at f;split at f
 .rename_i I O J K;cases ad;cases y;have t:∀(h i:Nat)(e:a8),O=(h:Int)->K=(h:Int)->h<=i->(Instr.sliceBounds W h i Q (E<|.int I O)<|some<|.int J K).run P e=.ok (0,h,h) e:=by
   rintro h i e rfl rfl k;simp only[Instr.sliceBounds,gr,Sem.run_pure,il,zO J (h:Int) i _ Zo Zo,q_,zO I (h:Int) h _ Zo Zo]
  split at f
  .rename_i u l;split at f
   .rename_i k;have⟨x,m,o⟩:=k;cases f;have⟨Z,q,p⟩:=wZ x;cases G with
    |nil=>
     refine⟨.slice Q 0 0,.cs _ _ _ (.nil u) C,λe=>?_⟩;have j:=t 0 0 e (Yq m) (Yq o) Zo;simp[Instr.sliceAt,Instr.slice,fJ q,j,nH p]
    |gv _ z i y=>
     refine⟨.slice (E z) 0 0,.cs _ _ _ (.gv u z 0 Zo) C,λe=>?_⟩;have j:=t 0 i e (Yq m) (Yq o) Zo;simp[Instr.sliceAt,Instr.slice,fJ q,j,nH p]
    |sl _ _ b R i us k y ae aa ab=>
     refine⟨.slice (E ⟨b,R,Q⟩) (A l)<|A l,.cs _ _ _ (.sl u l b R (A l) us (bJ _) Zo ae aa ab) (by simp[noRoom]),λe=>?_⟩;have j:=t (A l) i e m o k;simp only[Instr.sliceAt,Instr.slice,gr,fJ q,il,j,nH p];by_cases B:A l=0
     .simp[B]
     simp[B,Addr.add]
   cases f
  .split at f
   .rename_i k;have⟨x,m,o⟩:=k;cases f;have⟨u,ah⟩:=sx.1 x;have⟨Z,q,p⟩:=wZ ah;cases G;refine⟨.slice Q 0 0,.sc _,λe=>?_⟩;have j:=t 0 0 e (Yq m) (Yq o) Zo;simp[Instr.sliceAt,Instr.slice,fJ q,j,nH p]
   cases f
  cases f
 cases f
theorem V4(f:ba w0 M g s a w){o:dU}{d:D}(b:f_ P s o.op=E d):
 ∃v,Rd (aR w M g s.n) d v/\∀w',Below w.heap.size w w'->(eI a.eval o).run P w'=.ok (.value v) w':=by
 unfold f_ at b;split at b
 .rename_i F parts ho;split at b
  .rename_i i aD p ad;simp only[jP]at b;obtain⟨K,U,rfl⟩:=b;obtain⟨k,t,j,ae,rfl⟩:=W9 ad;unfold EW at p;split at p
   .rename_i x y;have⟨am,an⟩:=U7 f parts.toList;have⟨q,f1,f2,f3,f4⟩:=JP (ay:=aR w M g s.n) (λk=>i[k]?) _ _ _ t.cells K am an Zs (λI d X=>GC t.cells I d X) U;have Z:∀w':a8,(x.mapM λh=>do pure (h.offset,<-sizeOf h.type):Sem<|Array<|Nat×Nat).run P w'=.ok i.toArray w':=by
     intro w';have ao:∀(l:List Field)(i:List<|Nat×Nat),(l.mapM λh=>(od P h.type).map λC=>(h.offset,C))=E i->(l.mapM λh=>do pure (h.offset,<-sizeOf h.type):Sem<|List<|Nat×Nat).run P w'=.ok i w':=by
      intro l
      induction l with
      |nil=>intro i b;simp at b;subst b;rfl
      |cons h l ak=>
       intro i b;rw[om]at b;simp only[Dg,kU,Dj,eH,jP]at b;obtain⟨e,⟨C,Y,rfl⟩,r,f,rfl⟩:=b;rw[om];simp only[gr,nH Y,il,ak r f,Sem.run_pure]
     rw[<-Array.toArray_toList (xs:=x),mapM_toArray,<-bind_pure_comp,gr,ao x.toList i p];rfl
    refine⟨.agg q,?_,λw' _=>?_⟩
    .have ap:q=q.toList.toArray:=Zs;rw[ap];exact .ag _ _ (Yr f2) λI d v au G=>Zg
    simp only[eI,ho];apply nG;have ah:(zeroValue F).run P w'=.ok t w':=by simp[zeroValue,typeInfo,j,ae]
    have u:(parts.map λ(e:Nat×gK)=>(e.1,a.eval e.2)).toList=parts.toList.map λe=>(e.1,a.eval e.2):=Zs;have R:Instr.fill (λk=>i.toArray[k]?) t.cells (parts.map λ(e:Nat×gK)=>(e.1,a.eval e.2)).toList=E q:=by rw[u,<-f1];congr 1;funext k;simp
    simp only[Instr.build,gr,ah,il,fJ y];rw[Z w'];simp only[il];rw[R];rfl
   cases p
  cases b
 .rename_i F e B j az ho;split at b
  .have⟨v,h1,h2⟩:=afG b (f.ev e) (B.map a.eval) (j.map a.eval) (QO f B) (QO f j) (λO=>by cases B<;>simp_all) λO=>by cases j<;>simp_all
   exact⟨v,h1,λw' _=>by simp only[eI,ho,Di];exact nG<|h2 w'⟩
  rename_i m;split at b
  .rename_i V;have⟨v,h1,h2⟩:=YP (P:=P) b (f.ev e) (f.ev V)<|f.ev m;exact⟨v,h1,λw' _=>by simp only[eI,ho,Di,eE];exact nG<|h2 w'⟩
  cases b
 .rename_i F e al aA ho;have⟨v,h1,h2⟩:=ads f b;exact HJ
 .rename_i src L e ho;rcases hb:u9 P s src L (s.ev e)with _|aq
  .rw[hb]at b;apply LX f (o:=o);rw[ho];exact b
  rw[hb]at b;cases b;have⟨v,h1,h2⟩:=X_ f hb;exact HJ
 .rename_i J ho;split at b
  .rename_i e m S ar;have u:J.args=#[e,m]:=cq;have z:=f.ev e;have A:=f.ev m;split at b
   .rename_i al ax av C y G;rw[y]at z;rw[G]at A;generalize aa:a.eval e=aB at z;generalize ab:a.eval m=aC at A;cases z;cases A;cases b;exact⟨_,.sc _,λw' _=>by simp[eI,ho,resolve,S,u,aa,ab,invoke,builtin,Builtin.max_,Builtin.max2]⟩
   cases b
  rw[<-ho]at b;exact LX f b
 exact LX f b
def UJ(az:ba w0 M g s a w){e:a6}{ak:Nat}{V:D}{ab:aN}(L:Rd (aR w M g s.n) V ab){O:Nat}{u:DL}(h:dS s e ak V=E (O,u))(an:u.all cO=W):
 (O=0/\u=[]/\ab=.slice Q 0 0)\/∃(t:Addr)(x:Nat)(m:VL),ab=.slice (E t) O x/\A m=O*ak/\A u=A m/\(∀(f:Nat)(j:aN),m[f]?=E j->w.cell? (t.add f)=E j)/\
  (∀j∈m,j.oneCell'=W)/\∀(f:Nat)(d:D),u[f]?=E d->∃j,m[f]?=E j/\Rd (aR w M g s.n) d j:=by
 have U:∀(m:VL),A u=A m->(∀(f:Nat)(d:D),u[f]?=E d->∃j,m[f]?=E j/\Rd (aR w M g s.n) d j)->∀j∈m,j.oneCell'=W:=by
  intro m p R j aB;obtain⟨f,hj,rfl⟩:=ec aB;have ae:f<A u:=Zo;have⟨aT,h1,I⟩:=R f _<|bL ae;rw[bL hj]at h1;cases h1;exact Cd (en.1 an _<|aD ae) I
 cases V with
 |sl o i=>
  simp only[dS]at h;split at h
  .rename_i aA;subst aA;cases h;cases L with
   |nil=>exact aG ⟨C,C,C⟩
   |gv _ t G ax=>exact aj ⟨t,G,[],C,Zs,Zs,λk j q=>by simp at q,U [] Zs λf d hj=>by simp at hj,λf d hj=>by simp at hj⟩
   |sl _ _ b z G us R ax p h1 I=>
    have K:∀(i:cB),(∀(l:Nat)(r:DL),i[l]?=E r->A r=o)->A (ao i)=A i*o:=by
     intro i
     induction i with
     |nil=>intro _;simp
     |cons r i Z=>
      intro p;simp only[dT,b9,dC];rw[Z λl r h=>p (l+1) r<|Yq h,p 0 r Zs,sv];omega
    have ad:∀(i:cB),(∀(l:Nat)(r:DL),i[l]?=E r->A r=o)->∀(k:Nat)(d:D),(ao i)[k]?=E d->∃l f r,k=l*o+f/\i[l]?=E r/\r[f]?=E d:=by
     intro i
     induction i with
     |nil=>intro _ k d h;simp at h
     |cons r i Z=>
      intro p k d h;rw[dT]at h;have aP:=p 0 r Zs;by_cases q:k<A r
      .rw[lY q]at h;exact⟨0,k,r,Zo,Zs,h⟩
      rw[kR Zo]at h;have⟨l,f,aF,e,h1,I⟩:=Z (λl r h=>p (l+1) r<|Yq h) _ _ h;exact⟨l+1,f,aF,by rw[sv];omega,Yq h1,I⟩
    let m:VL:=(cz<|A i*o).map λk=>us (k/o)<|k%o
    have J:∀(f:Nat)(d:D),(ao i)[f]?=E d->∃j,m[f]?=E j/\Rd (aR w M g s.n) d j:=by
     intro k d q;have⟨l,f,r,e,B,F⟩:=ad i p k d q;have hj:f<o:=by rw[<-p l r B];exact(dX.1 F).1
     have S:k<A i*o:=by rw[<-K i p];exact(dX.1 q).1
     have X:k/o=l:=OF;have em:k%o=f:=by rw[e,Ho,Nat.mul_add_mod,MU hj]
     refine⟨us l f,?_,I l r f d B F⟩;simp only[m];rw[fP,xZ S];simp[X,em]
    have y:A m=A i*o:=by simp[m]
    refine aj ⟨⟨b,z,Q⟩,G,m,C,y,by rw[y,K i p],λk j q=>?_,U m (by rw[y,K i p]) J,J⟩;have S:k<A i*o:=by rw[<-y];exact(dX.1 q).1
    have⟨l,f,r,e,B,F⟩:=ad i p k _<|bL (by rw[K i p];exact S);have hj:f<o:=by rw[<-p l r B];exact(dX.1 F).1
    have X:k/o=l:=OF;have em:k%o=f:=by rw[e,Ho,Nat.mul_add_mod,MU hj]
    simp only[m]at q;rw[fP,xZ S]at q;simp only[eE,eH,X,em]at q;subst q;have:=eW<|h1 l r f _ B F;rwa[add_lit,e,<-jA]
  cases h
 |ms aH aK aS=>
  simp only[dS]at h;split at h
  .rename_i z ay;split at h
   .rename_i R;have⟨al,aI,am,aJ,av⟩:=R;cases h;have⟨aO,b,x,aa,aq,ar,aQ,aL,K,ap⟩:=az.obj aH z ay;cases L with|ms _ _ _ t G _ L=>
    obtain⟨rfl,rfl⟩:=L b x (by rw[<-al];exact aq);have y:A (Y (A z.cells) aa.toList)=A z.cells:=co;have J:∀(f:Nat)(d:D),z.cells[f]?=E d->∃j,(Y (A z.cells) aa.toList)[f]?=E j/\Rd (aR w M g s.n) d j:=by
     intro f d hj;have⟨j,B,F⟩:=ap f d hj;have au:=(dX.1 hj).1;exact⟨j,by rw[wl,aM au];simpa using B,F⟩
    refine aj ⟨⟨b,0,Q⟩,G,Y (A z.cells) aa.toList,C,by rw[y,am],y.symm,λf j hj=>?_,U _ y.symm J,J⟩;rw[wl]at hj;split at hj
    .rw[add_lit,pW<|ar.cells av,ew];simpa using hj
    cases hj
   cases h
  cases h
 |sc v=>
  have aC:∃t x,v=.slice (E t) 0 x/\O=0/\u=[]:=by
   cases v with
   |slice a ah x=>
    obtain _|t:=a
    .simp[dS]at h
    cases ah with
    |zero=>simp[dS]at h;exact⟨t,x,C,h.1.symm,h.2⟩
    |succ ah=>simp[dS]at h
   |_=>simp[dS]at h
  obtain⟨t,x,rfl,rfl,rfl⟩:=aC;cases L;exact aj ⟨_,_,[],C,Zs,Zs,λk j q=>by simp at q,U [] Zs λf d hj=>by simp at hj,λf d hj=>by simp at hj⟩
 |_=>cases h
def adD(b:ky)(e d:Nat)(h:0<b.size)(f:d<e):(madeCells b e)[d]?=b[d%b.size]?:=by
 simp[madeCells,f,Av _ h]
theorem Lv(e:DL):∀(n b:Nat)(d:D),(ao<|fu n e)[b]?=E d->b<n*A e/\e[b%(A e)]?=E d
 |0,b,d,h=>jr
 |n+1,b,d,h=>by
  rw[As,dT]at h;by_cases f:b<A e
  .rw[lY f]at h;exact⟨cq,by rw[MU f];exact h⟩
  rw[kR Zo]at h;have⟨j,i⟩:=Lv e n _ d h;refine⟨cq,?_⟩;rw[Nat.mod_eq_sub_mod Zo];exact i
theorem abO{P:aH}{e:a6}{d:IntKind}(b:xl P e=E d):P.underlying e=E (.int d):=by unfold xl at b;split at b<;>simp_all
theorem aft{P:aH}(w:a8)(j k ty e:a6)(d:TypeInfo)(h:aN){D:IntKind}(z:P.underlying j=E (.slice e))(A:P.underlying k=E (.int D))(r:P.info? e=E d)(C:d.zero=E h){f:Nat}(t:d.size=f)(y:0<f)
 (F:IntKind) (b:Nat) (i:0<b) (u:b<=aE) (G:b*d.bytes<=140737488355328):
 (Builtin.append_ #[j,k] ty #[.slice Q 0 0,.int F b]).run P w=.ok (.slice (E ⟨w.heap.size,0,Q⟩) b<|grownCap w b 0 e) (w.drew.alloc<|.cells (Builtin.zeroCells h.cells b++Builtin.zeroCells h.cells (grownCap w b 0 e-b)) e):=by
 have x:b≠0:=Zo;unfold aE at u;have B:cb.wrap (b:Int)=(b:Int):=by rw[IntKind.wrap_i64];omega
 have l:¬((b:Int)<0):=Zo;have m:¬(281474976710656<(b:Int)*(d.bytes:Int)):=cq;have o:¬(9223372036854775807<(b:Int)):=Zo;have p:¬(281474976710656<Builtin.nextslicecap b 0*d.bytes):=Yv<|nextslicecap_zero i;have q:¬(b*f=0):=Yo<|Nat.mul_pos i y;simp[Builtin.append_,fJ z,fJ A,sizeOf,typeInfo,zeroValue,r,C,t,asInt,asIntOf,B,l,m,o,p,q,x,Question.forced,run_firstCells_none,newRow,grownCap]
theorem uq{d:View}{i f h b e:Nat}(k:f<d.n i)(j:h<=e)(p:d.g i=E (f,b,e)):Rd d (.ms i f h)<|.slice (E ⟨b,0,Q⟩) h e:=
 .ms _ _ _ _ _ ⟨k,j⟩ λl m o=>cq
theorem afm{d:View}{f e b i h:Nat}(j:e<d.n f)(o:d.g f=E (e,b,i)):Rd d (.rf f e h)<|.pointer<|some ⟨b,h,Q⟩:=
 .rf _ _ _ _ j λk l m=>cq
theorem I0(u:ba w0 M g s a w){ty e:a6}{sz ae:Nat}(aP:cE P ty=E (e,sz,ae))(G:a6)(t:Nat){ak ay:D}{au av:aN}(aa:Rd (aR w M g s.n) ak au)(aY:Rd (aR w M g s.n) ay av)
 {f:Nat} {q:DL} (aT:dS s e sz ay=E (f,q)) (aM:q.all cO=W):
 (ak=bp->0<f->f*ae<=140737488355328->f<=aE->
  ∃v w' r,(Builtin.append_ #[ty,ty] G #[au,av]).run P w=.ok v w'/\ba w0 M r (k9 s t e sz q) a w'/\Rd (aR w' M r<|eP s.n t) (.ms t (s.n t) f) v)/\
 (∀t0 len j,ak=.ms t0 j.gen len->s.H t0=E j->j.sz=sz->A j.cells=len*sz->j.elem=e->j.keys=Q->(len+f)*ae<=140737488355328->len+f<=aE->
  ∃v w' r,(Builtin.append_ #[ty,ty] G #[au,av]).run P w=.ok v w'/\ba w0 M r (r2 s t0 t e sz<|j.cells++q) a w'/\Rd (aR w' M r<|eP s.n t) (.ms t (s.n t)<|len+f) v):=by
 have⟨K,R,Z,V,aI,aJ,a8,F,aC⟩:=sY aP;have aH:=UJ u aY aT aM;constructor
 .intro am aS az xg;subst am;cases aa;obtain⟨rfl,_⟩|⟨S,ah,m,rfl,z,aZ,ab,aK,ad⟩:=aH
  .omega
  have an:=grownCap_ge w f 0 e;obtain⟨r,B,ar,a2⟩:=u.make t e sz (grownCap w f 0 e) q (m.toArray++Builtin.zeroCells R.cells (grownCap w f 0 e-f)) (Ek w _) (pk w.drew _)
   (by simp only[uH,tw,size_zeroCells,z,aJ,<-sv];congr 1;omega) (grownCap_le_maxLen w f 0 e xg)
   Zg (λo d l=>by
    have⟨O,y,L⟩:=ad o d l;have aD:=(dX.1 y).1;exact⟨O,cq,L⟩)
  exact⟨_,_,r,run_append_nil (P:=P) w ty G e K R Z V aI S f ah m (by rw[z,F]) ab aS Iy<|Yv aC,B,uq rr an a2⟩
 intro t0 len j am aU a1 aL a0 aF az xg;subst am;cases aa with|ms _ _ _ a3 k a5 aa=>
 have⟨a4,b,ah,i,U,p,x,al,aQ,aO⟩:=u.obj t0 j aU;obtain⟨rfl,rfl⟩:=aa b ah U;have x:=x aF;have p:=p.cells aF;rw[a1]at x;rw[a0]at p;have aA:=(u.base _ _ _ _ U).2;obtain⟨rfl,rfl,rfl⟩|⟨S,ax,m,rfl,z,aZ,ab,aK,ad⟩:=aH
 .have aW:w.ownsRow 0 e sz (.slice (E ⟨b,0,Q⟩) len k) len<|Y (len*sz) i.toList:=by
   refine⟨co,aj ⟨b,k,i,C,kT _,p,Zg,al,x,C⟩⟩
  have⟨B,ar⟩:=u.rebind (w':=w) t0 t b k i {gen:=s.n t,elem:=e,sz,cells:=j.cells++[]} C (λ_ _ _=>C) (aj ⟨_,_,U⟩) aA (.of p C) (λ_=>x) al (Yq aQ) (Yq aO) C C C (bJ _);exact⟨_,w,_,run_append_owned_none (P:=P) w 0 ty G e K sz Z V _ len _ aW,B,uq rr Zg<|bN _ _ _⟩
 by_cases ap:len+f<=k
 .have aB:len*K.size+A m<=i.size:=by rw[F,z,x,<-sv];exact wy _ ap
  have X:=run_append_room (P:=P) w ty G e K Z V b len k i p S f ax m (by rw[z,F]) ab aK ap aB;rw[F]at X aB;have J:A (Y (len*sz) i.toList)=len*sz:=co;have aX:(Y (len*sz) i.toList++m++i.toList.drop (len*sz+A m)).toArray.size=i.size:=co;obtain⟨B,ar⟩:=u.rebind (w':=w.setRow b (Y (len*sz) i.toList++m++i.toList.drop (len*sz+A m)).toArray) t0 t b k _ {gen:=s.n t,elem:=e,sz,cells:=j.cells++q} C
   (λaq _ ao=>setRow_other w b aq _ ao) (aj ⟨_,_,U⟩) (by simp;exact aA) (setRow_heap w b i _ e _ p) (λ_=>by rw[aX,x]) al
   Zg (λo d l=>by
    rw[C5];by_cases aD:o<A j.cells
    .exact Zg
    rw[kR Zo]at l;have⟨O,y,L⟩:=ad _ d l;refine⟨O,?_,L⟩;have:=(dX.1 y).1;rw[dy,kR Zo,J,lY Zo,<-aL];exact y) C C C Zs
  exact⟨_,_,_,X,B,uq rr ap<|bN _ _ _⟩
 have aV:∀(o:Nat)(v:aN),(Y (len*sz) i.toList)[o]?=E v->w.cell? ((⟨b,0,Q⟩:Addr).add o)=E v:=by
  intro o v l;rw[wl]at l;split at l
  .rw[add_lit,pW p,ew];simpa using l
  cases l
 have J:A (Y (len*sz) i.toList)=len*sz:=co;have X:=run_append_grow (P:=P) w ty G e K R Z V aI ⟨b,0,Q⟩ len k (Y (len*sz) i.toList) (by rw[J,F]) aV S f ax m (by rw[z,F]) ab Zo
  Iy (growslice_fits Zo<|(Yy aC) az)
 have an:=grownCap_ge w (len+f) k e;have I:=Ek w<|.cells ((Y (len*sz) i.toList).toArray++m.toArray++Builtin.zeroCells R.cells (grownCap w (len+f) k e-(len+f))) e;obtain⟨B,ar⟩:=u.rebind (w':=w.drew.alloc<|.cells ((Y (len*sz) i.toList).toArray++m.toArray++Builtin.zeroCells R.cells (grownCap w (len+f) k e-(len+f))) e) t0 t w.heap.size (grownCap w (len+f) k e) _ {gen:=s.n t,elem:=e,sz,cells:=j.cells++q} C
  (λaq ao _=>I.block aq ao) (aG<|bJ _) (KO<|pk w.drew _) (.of (pk w.drew _) C)
  (λ_=>by simp only[uH,tw,size_zeroCells,J,z,aJ,<-sv];congr 1;omega) (grownCap_le_maxLen w _ k e xg)
  Zg (λo d l=>by
   by_cases aD:o<A j.cells
   .exact Zg
   rw[kR Zo]at l;have⟨O,y,L⟩:=ad _ d l;refine⟨O,?_,L⟩;have a7:=(dX.1 y).1;rw[xS ch,CS ch,C5,tw,J,<-aL];exact y) I.os I.tape I.output I.size
 exact⟨_,_,_,X,B,uq rr an<|bN _ _ _⟩
def Xz(V:ba w0 M g s a w){ty j:a6}{sz aa:Nat}(q:cE P ty=E (j,sz,aa))(I:a6)(t:Nat){aq:cB}{ad:D}{J Y:aN}(X:Rd (aR w M g s.n) (.cs sz aq) J)(au:Rd (aR w M g s.n) ad Y)
 {i:Nat} {cs:DL} (al:dS s j sz ad=E (i,cs)) (O:(ao aq++cs).all cO=W) (aJ:0<i) (ae:(A aq+i)*aa<=140737488355328) (xg:A aq+i<=aE):
 ∃v m l,(Builtin.append_ #[ty,ty] I #[J,Y]).run P w=.ok v m/\ba w0 M l (k9 s t j sz<|ao aq++cs) a m/\Rd (aR m M l<|eP s.n t) (.ms t (s.n t)<|A aq+i) v:=by
 rw[Ai,cy]at O;cases X with|cs _ _ _ X an=>
 have aA:∀(F:Addr)(y:VL),J=.slice (E F) (A aq) (A aq)->A y=A aq*sz->A (ao aq)=A y->(∀(e:Nat)(k:aN),y[e]?=E k->w.cell? (F.add e)=E k)->
  (∀(e:Nat)(d:D),(ao aq)[e]?=E d->∃k,y[e]?=E k/\Rd (aR w M g s.n) d k)->
  ∃v m l,(Builtin.append_ #[ty,ty] I #[J,Y]).run P w=.ok v m/\ba w0 M l (k9 s t j sz<|ao aq++cs) a m/\Rd (aR m M l<|eP s.n t) (.ms t (s.n t)<|A aq+i) v:=by
  rintro F y rfl am R aK aL;have⟨B,Z,ar,ak,av,ax,ap,S,ah⟩:=sY q;obtain⟨rfl,_⟩|⟨K,aB,az,rfl,ay,a3,aP,a4,aQ⟩:=UJ V au al O.2
  .omega
  have aM:=run_append_grow (P:=P) w ty I j B Z ar ak av F (A aq) (A aq) y (by rw[am,S]) aK K i aB az (by rw[ay,S]) aP Zo
   Iy (growslice_fits Zo<|(Yy ah) ae)
  have aD:=grownCap_ge w (A aq+i) (A aq) j;obtain⟨l,aW,a5,aX⟩:=V.make t j sz (grownCap w (A aq+i) (A aq) j) (ao aq++cs) (y.toArray++az.toArray++Builtin.zeroCells Z.cells (grownCap w (A aq+i) (A aq) j-(A aq+i))) (Ek w _) (pk w.drew _)
   (by simp only[uH,tw,size_zeroCells,am,ay,ax,<-sv];congr 1;omega) (grownCap_le_maxLen w _ _ j xg)
   (by simp only[uH,tw,b9];omega) (λe d f=>by
    by_cases aH:e<A (ao aq)
    .rw[lY aH]at f;have⟨k,o,x⟩:=aL e d f;refine⟨k,?_,x⟩;rw[xS ch,xS ch,C5];exact o
    rw[kR Zo]at f;have⟨k,o,x⟩:=aQ _ d f;refine⟨k,?_,x⟩;have G:=(dX.1 o).1;rw[xS ch,CS ch,C5,tw,<-R];exact o)
  exact⟨_,_,l,aM,aW,uq rr aD aX⟩
 cases X with
 |nil=>
  have⟨v,m,l,aT,aU,aV⟩:=(I0 V q I t (.sc<|.slice Q 0 0) au al O.2).1 C aJ (Yq ae) (Yq xg);exact⟨v,m,l,aT,Yq aU,Yq aV⟩
 |gv _ K L a0=>
  have p:L=0:=Yo<|ot.1 an;subst p;exact aA K [] C Zs Zs Zs Zs
 |sl _ _ b aS L us aZ a1 U h1 aC=>
  have p:L=A aq:=Yo<|ot.1 an;subst p;have R:=iY (aq:=aq) (sz:=sz) λr u=>by obtain⟨B,q⟩:=jg.1 u;exact U B r q
  have ab e (f:e<A aq*sz):∃r d,aq[e/sz]?=E r/\r[e%sz]?=E d/\(ao aq)[e]?=E d:=by
   have aF:e/sz<A aq:=Nat.div_lt_of_lt_mul (by rw[Ho];exact f);have u:=bL aF;have aI:=U _ _ u;have z:e%sz<A (aq[e/sz]):=(Yy aI)<|Av _ (by obtain⟨B,Z,ar,ak,av,ax,ap,S,ah⟩:=sY q;exact ap);refine⟨_,_,u,bL z,?_⟩;have p:=mJ (sz:=sz) (λr u=>by obtain⟨B,q⟩:=jg.1 u;exact U B r q) u<|bL z;rwa[Nat.div_add_mod' e sz]at p
  refine aA ⟨b,aS,Q⟩ ((cz<|A aq*sz).map λe=>us (e/sz)<|e%sz) C Zs (Yr R) (λe k f=>?_) λe d f=>?_
  .rw[fP]at f;obtain⟨a2,z,rfl⟩:=jP.1 f;have G:=(dX.1 z).1;rw[xZ<|Yq G]at z;cases z;have⟨r,d,o,x,_⟩:=ab e<|Yq G;have p:=eW<|h1 _ _ _ _ o x;rw[jA,Nat.div_add_mod' e sz]at p;rw[add_lit];exact p
  have G:=(dX.1 f).1;have⟨r,aY,o,x,aO⟩:=ab e Zo;rw[aO]at f;cases f;exact⟨_,by rw[fP,xZ Zo];rfl,aC _ _ _ _ o x⟩
def ZJ{d:View}{j:Nat}{i:cB}{v:aN}(b:Rd d (.cs j i) v):∃h f e,v=.slice h f e:=by
 cases b with|cs _ _ _ b _=>cases b<;>exact⟨_,_,_,C⟩
def QF(k:ba w0 M g s a w){ty t:a6}{A q B:Nat}(x:cE P ty=E (t,A,q))(F:a6)(C:Nat){z:cB}{r:D}{G I:aN}(f:Rd (aR w M g s.n) (.cs B z) G)(m:Rd (aR w M g s.n) r I)
 {y:Prop} {o:St} {d:D} (e:wL s C t A q B z r=E (y,o,d)) (L:y):
 ∃v p u,(Builtin.append_ #[ty,ty] F #[G,I]).run P w=.ok v p/\ba w0 M u o a p/\Rd (aR p M u o.n) d v:=by
 have⟨ad,ak,i,j,aa,ab,Z,Y,X⟩:=sY x;unfold wL at e;split at e
 .split at e
  .rename_i h;subst h;cases e;cases m;have l:=f;cases f with|cs _ _ _ f _=>
   refine⟨_,w,g,?_,k,l⟩;cases f with
   |nil=>simp[Builtin.append_,fJ i,sizeOf,typeInfo,j,Builtin.lenOf,Builtin.firstCells]
   |gv=>simp[Builtin.append_,fJ i,sizeOf,typeInfo,j,Builtin.lenOf,Builtin.firstCells,storeCells]
   |sl _ _ b ah V us J=>simp[Builtin.append_,fJ i,sizeOf,typeInfo,j,Builtin.lenOf,Builtin.firstCells,storeCells,J]
  cases e
 .split at e
  .rename_i h;subst h;cases e;have l:=f;cases f with|cs _ _ _ f _=>
   refine⟨_,w,g,?_,k,l⟩;cases m<;>cases f<;>simp[Builtin.append_,fJ i,sizeOf,typeInfo,Builtin.lenOf,Builtin.firstCells,loadCells,loadCellsFrom,storeCells, *]
  cases e
 split at e
 .rename_i ae cs K;split at e
  .rename_i h;subst h;cases e;have⟨O,R,S,U⟩:=L;exact Xz k x F C f m K O R S U
  cases e
 cases e
def QZ(J:ba w0 M g s a w){o:dU}{ty:a6}{len:Nat}{parts:Array (Nat×gK)}(I:o.op=.buildSlice ty len parts){l:a6}{b u:Nat}(F:cE P ty=E (l,b,u)){i:DL}
 (B:ud (λj=>E (j*b,b)) (fu (len*b) .any) (parts.toList.map λf=>(f.1,s.ev f.2))=E i) (Z:len*b<=16777216):
 ∃e:ky,(eI a.eval o).run P w=.ok (.value<|.slice (E ⟨w.heap.size,0,Q⟩) len len) (w.alloc<|.cells e l)/\A i=e.size/\e.size=len*b/\0<b/\∀(h:Nat)(d:D),i[h]?=E d->∃k,e[h]?=E k/\Rd (aR w M g s.n) d k:=by
 have⟨j,X,t,p,O,aa,L,q,Y⟩:=sY F;have⟨R,S⟩:=U7 J parts.toList;have y:∀(zc:ky),((Array.range<|len*b).map (zc[·%zc.size]!)).size=len*b:=by intro zc;simp
 have U:∀(zc:ky),∃e,Instr.fill (λj=>E (j*b,b)) ((Array.range<|len*b).map (zc[·%zc.size]!)) (parts.map λ(f:Nat×gK)=>(f.1,a.eval f.2)).toList=E e/\A i=e.size/\e.size=len*b/\∀(h:Nat)(d:D),i[h]?=E d->∃k,e[h]?=E k/\Rd (aR w M g s.n) d k:=by
  intro zc;obtain⟨e,f1,f2,f3,f4⟩:=JP (ay:=aR w M g s.n) (λj=>E (j*b,b)) _ _ _ ((Array.range<|len*b).map (zc[·%zc.size]!)) i R S Zs (λh d r=>by
   have C:d=.any:=by
    have V:=fE r;exact(MP.1 V).2
   have G:h<len*b:=Yq<|(dX.1 r).1;subst C;exact⟨_,Mr<|Yq G,.any _⟩) B
  refine⟨e,?_,f2,by rw[f3,y],f4⟩;rw[<-f1];congr 1;simp
 have⟨e,f1,f2,f3,f4⟩:=U (if len*b=0 then #[]else X.cells);have K:(eI a.eval o).run P w=.ok (.value<|.slice (E ⟨w.heap.size,0,Q⟩) len len) (w.alloc<|.cells e l):=by
  simp only[eI,I,gr];have z:(Instr.buildSlice ty len (parts.map λ(f:Nat×gK)=>(f.1,a.eval f.2))).run P w=.ok (.slice (E ⟨w.heap.size,0,Q⟩) len len) (w.alloc<|.cells e l):=by
   by_cases m:len*b=0
   .rw[aM m]at f1;simp[Instr.buildSlice,fJ t,sizeOf,typeInfo,p,q,m,newRow]at f1⊢;rw[f1];simp
   rw[aC m]at f1;have x:¬16777216<len*b:=Zo;simp[Instr.buildSlice,fJ t,sizeOf,typeInfo,p,q,m,x,zeroValue,O,newRow]at f1⊢;simp[f1]
  rw[z];rfl
 exact⟨e,K,f2,f3,L,f4⟩
def Y0(k:ba w0 M g s a w){o:dU}{ty:a6}{t:Nat}{parts:Array (Nat×gK)}(J:o.op=.buildSlice ty t parts){A:Prop}{d:D}(b:tU P s ty t parts=E (A,d))(K:A):
 ∃v y,(eI a.eval o).run P w=.ok (.value v) y/\ba w0 M g s a y/\Rd (aR y M g s.n) d v:=by
 unfold tU at b;split at b
 .rename_i j m U G;split at b
  .rename_i p F;cases b;have⟨x,L,f2,f3,X,f4⟩:=QZ k J G F K.1;have z:=wN w<|.cells x j;refine⟨_,_,L,k.grow z,?_⟩;split
   .rename_i B;subst B;have O:(aR w M g s.n).Ext<|aR (w.alloc<|.cells x j) M g s.n:=
     v_ (b':=w.heap.size) (λ_=>bJ _) (λi I _=>z.block i I) (aG<|bJ _) λ_ _ _ _ j=>aG j
    have one:∀{e:Nat}{r:DL},[p][e]?=E r->e=0/\r=p:=λ{e r}b=>by
     cases e with
     |zero=>cases b;exact⟨C,C⟩
     |succ e=>simp at b
    refine .sl m [p] _ 0 1 (λ_ f=>x.getD f eX) Zs ys (λe r h=>?_) (λe r f d h q=>?_) λe r f d h q=>?_
    .rw[(one h).2];omega
    .obtain⟨rfl,rfl⟩:=one h;have⟨S,l,_⟩:=f4 f d q;refine fD ?_ (λi=>?_) λY Z V i=>?_
     .rw[pW<|pk w _,show 0+0*m+f=f by omega,l];simp[kQ,l]
     .have u:=(k.m0 _ i).1;omega
     have u:=(k.base _ _ _ _ i).2;omega
    obtain⟨rfl,rfl⟩:=one h;have⟨S,l,R⟩:=f4 f d q;have u:=R.mono O;simpa[kQ,l]using u
   obtain rfl:t=0:=Zo;exact .cs m [] _ (.gv m _ 0 Zs) C
  cases b
 cases b
def afW(i:ba w0 M g s a w){bA:ax}{l:dU}{t:Nat}{a_:Prop}{a4:St}{d:D}(e:hA P bA s t l.op=E (a_,a4,d))(ab:a_):
 ∃v w' g',(eI a.eval l).run P w=.ok (.value v) w'/\ba w0 M g' a4 a w'/\Rd (aR w' M g' a4.n) d v:=by
 unfold hA at e;split at e
 .rename_i f k x;split at e
  .rename_i V aA;have L:=Jq aA<|i.ev k;have aU:=wN w<|.cells (a.eval k).cells f;have rT:(eI a.eval l).run P w=.ok (.value<|.pointer<|some ⟨w.heap.size,0,Q⟩) (w.alloc<|.cells (a.eval k).cells f):=by
    simp[eI,x,Instr.box,newVar,newRow]
   split at e
   .cases e;have⟨g',r1,aF,r3⟩:=i.make t f (A V) 1 V (a.eval k).cells aU (pk w _) (by rw[Nat.one_mul];exact L.1.symm) ys Zo L.2;exact Nk
   cases e;have j:(aR w M g s.n).Ext<|aR (w.alloc<|.cells (a.eval k).cells f) M g s.n:=
    v_ (b':=w.heap.size) (λ_=>bJ _) (λG aX _=>aU.block G aX) (aG<|bJ _) λ_ _ _ _ f=>aG f
   refine⟨_,_,g,rT,i.grow aU,.cp V _ _ (λS=>(a.eval k).cells.getD S eX) (λS d O=>?_) λS d O=>?_⟩
   .have⟨aH,I,_⟩:=L.2 S d O;refine fD ?_ (λG=>?_) λbQ bT u G=>?_
    .rw[pW<|pk w _,ew,I];simp[kQ,I]
    .have au:=(i.m0 _ G).1;omega
    have au:=(i.base _ _ _ _ G).2;omega
   have⟨aH,I,ad⟩:=L.2 S d O;have au:=ad.mono j;simpa[kQ,I]using au
  cases e
 .rename_i f x;split at e
  .rename_i V aA;cases e;obtain⟨R,z,B,X,rfl⟩:=W9 aA;have rT:(eI a.eval l).run P w=.ok (.value<|.pointer<|some ⟨w.heap.size,0,Q⟩) (w.alloc<|.cells z.cells f):=by
    simp[eI,x,Instr.alloc,zeroValue,typeInfo,B,X,newVar,newRow]
   have⟨g',r1,aF,r3⟩:=i.make t f (A<|z.cells.toList.map D.sc) 1 (z.cells.toList.map D.sc) z.cells (wN w _) (pk w _) Zs ys Zs λS d O=>GC z.cells S d O;exact Nk
  cases e
 .rename_i ty r x;split at e
  .cases e;have rT:(eI a.eval l).run P w=.ok (.value<|.map<|some w.heap.size) (w.alloc<|.map #[] 0):=by
    simp[eI,x,Instr.makeMap,newObj];rfl
   obtain⟨r1,aF⟩:=i.rebind (w':=w.alloc<|.map #[] 0) t t w.heap.size 0 #[] {gen:=s.n t,elem:=0,sz:=1,cells:=[],keys:=E []} C (λG aX _=>(wN w _).block G aX) (aG<|bJ _)
    (jh.lt (ob:={gen:=s.n t,elem:=0,sz:=1,cells:=[],keys:=E []}) (vs:=#[]) ⟨#[],0,pk w _,C,C,Zs,Zs⟩) ⟨#[],0,pk w _,C,C,Zs,Zs⟩ (λG=>by cases G) ys Zs Zs C C C Zs
   exact⟨_,_,_,rT,r1,.mp t (s.n t) _ rr (λb u f=>by
    have f:ai (ai g t Q) t (E (s.n t,w.heap.size,0)) t=E (s.n t,b,u):=f;rw[bN]at f;cases f;rfl)⟩
  cases e
 .rename_i ty J parts x;split at e
  .rename_i f sz a7 F;split at e
   .rename_i V aA;cases e;have⟨bG,rT,f2,f3,an,f4⟩:=QZ i x F aA ab;have⟨g',r1,aF,r3⟩:=i.make t f sz J V bG (wN w _) (pk w _) f3 (by have au:J<=J*sz:=MT _ an;simp only[aE];omega) Zo f4;exact⟨_,_,g',rT,r1,uq rr (bJ _) r3⟩
   cases e
  cases e
 .rename_i ty a' u x;split at e
  .rename_i f sz a7 G ap bx m F bl L;cases e;have⟨bq,bp,bf,be⟩:=ab;have⟨R,z,U,B,X,Z,an,am,aK⟩:=sY F;have aY:=i.ev a';rw[bl]at aY;have aW:=i.ev u;rw[L]at aW;generalize bm:a.eval a'=bR at aY;generalize bg:a.eval u=vc at aW;cases aY;cases aW;have rT:(eI a.eval l).run P w=.ok (.value<|.slice (E ⟨w.heap.size,0,Q⟩) ap.toNat m.toNat) (w.alloc<|.cells (madeCells z.cells<|m.toNat*R.size) f):=by
    simp only[eI,x,bm,bg,gr,run_make w ty f R z U B X G bx ap m bp bq ((Yy aK) bf) be];rfl
   have aD:si P f=z.cells.toList.map D.sc:=by simp[si,sg,B,X]
   have bw:A (z.cells.toList.map D.sc)=sz:=Yr Z;obtain⟨g',r1,aF,r3⟩:=i.make t f sz m.toNat (ao<|fu ap.toNat<|si P f) (madeCells z.cells<|m.toNat*R.size) (wN w _) (pk w _) (by rw[size_madeCells,am])
    (by simp only[aE];omega) (by rw[size_madeCells,am,aD];simp[Z];exact wy _ Zo) (λS d O=>by
     rw[aD]at O;have⟨a8,a9⟩:=Lv _ _ _ _ O;rw[bw]at a8 a9;have⟨aH,I,ad⟩:=GC (ay:=aR w M g s.n) z.cells _ _ a9;exact⟨aH,by rw[adD _ _ _ Zo<|(Yy am)<|iR a8<|wy _ Zo,Z];exact I,ad⟩)
   exact⟨_,_,g',rT,r1,uq rr Zo r3⟩
  cases e
 .rename_i u x;split at e
  .rename_i k y ty K aV aT a1;split at e
   .rename_i f sz a7 F;split at e
    .rename_i bs;subst bs;have av:u.args=#[k,y]:=by apply wc;simpa using aT
     have az:u.argTypes=#[K,K]:=by apply wc;simpa using a1
     have j:=i.ev k;have p:=i.ev y;have o:∀v w',(Builtin.append_ #[K,K] l.type #[a.eval k,a.eval y]).run P w=.ok v w'->(eI a.eval l).run P w=.ok (.value v) w':=by
      intro v w' a2;simp[eI,x,resolve,aV,av,az,invoke,builtin,a2]
     have⟨R,z,U,B,X,Z,an,am,aK⟩:=sY F;split at e
     .rename_i t0 bd J q aa;split at e
      .rename_i ob a0;split at e
       .rename_i L;have⟨aN,aO,aP,aQ,aL⟩:=L;cases e;rw[q]at j;rw[aa]at p;generalize aC:a.eval k=a5 at j o;generalize a3:a.eval y=a6 at p o;cases p;have bv:=j;cases j with|ms _ _ _ bH aS _ j=>
        have⟨bL,b,u,vs,bj,aJ,aB,bh,bn,bK⟩:=i.obj t0 ob a0;obtain⟨rfl,rfl⟩:=j b u (by rw[<-aN];exact bj);have aB:=aB aL;have aJ:=aJ.cells aL;rw[aO]at aB;rw[aQ]at aJ;have br:w.ownsRow 0 f sz (.slice (E ⟨b,0,Q⟩) J aS) J<|Y (J*sz) vs.toList:=by
         refine⟨co,aj ⟨b,aS,vs,C,kT _,aJ,?_,bh,aB,C⟩⟩;have au:J*sz<=aS*sz:=by rw[<-aB,<-aP];exact bn
         exact Nat.le_of_mul_le_mul_right au an
        exact⟨_,w,g,o _ _<|run_append_owned_none (P:=P) w 0 K l.type f R sz U B _ J _ br,i,bv⟩
       cases e
      cases e
     .rename_i q aa;cases e;rw[q]at j;rw[aa]at p;generalize aC:a.eval k=a5 at j o;generalize a3:a.eval y=a6 at p o;cases j;cases p;exact⟨_,w,g,o _ _<|run_append_owned_none (P:=P) w 0 K l.type f R sz U B _ 0 []<|World.ownsRow_nil _ _ _ _,i,.sc _⟩
     .rename_i q aa;cases e;rw[q]at j;rw[aa]at p;generalize aC:a.eval k=a5 at j o;generalize a3:a.eval y=a6 at p o;cases j;cases p;exact⟨_,w,g,o _ _ (by simp[Builtin.append_,fJ U,sizeOf,typeInfo,B,Builtin.lenOf,Builtin.firstCells,loadCells,loadCellsFrom]),i,.sc _⟩
     .rename_i q _ _;split at e
      .rename_i m V aZ;cases e;have⟨aM,ar,ae,bB⟩:=ab;have⟨v,w',g',ah,ak,al⟩:=(I0 i F l.type t j p aZ aM).1 q ar ae bB;exact⟨v,w',g',o _ _ ah,ak,al⟩
      cases e
     .rename_i t0 bd J q _;split at e
      .rename_i ob m V a0 aZ;split at e
       .rename_i L;have⟨aN,aO,aP,aQ,aL⟩:=L;cases e;have⟨aM,ar,ae⟩:=ab;have⟨v,w',g',ah,ak,al⟩:=(I0 i F l.type t j p aZ aM).2 t0 J ob (by rw[q,aN]) a0 aO aP aQ aL ar ae;exact⟨v,w',g',o _ _ ah,ak,al⟩
       cases e
      cases e
     .rename_i bb aq q;rw[q]at j;have⟨v,w',g',ah,ak,al⟩:=QF i F l.type t j p e ab;exact⟨v,w',g',o _ _ ah,ak,al⟩
     cases e
    split at e
    .rename_i bb aq aI;split at e
     .rename_i bt;have q:s.ev k=.cs bb aq:=by
       generalize s.ev k=bc at aI;cases bc<;>simp only[JD,reduceCtorEq,eH,Hq]at aI;rw[aI.1,aI.2]
      have av:u.args=#[k,y]:=by apply wc;simpa using aT
      have az:u.argTypes=#[ty,K]:=by apply wc;simpa using a1
      have j:=i.ev k;rw[q]at j;have⟨v,w',g',ah,ak,al⟩:=QF i F l.type t j (i.ev y) e ab;have⟨R,z,U,_⟩:=sY F;have⟨bM,bU,bu,_⟩:=sY bt;refine⟨v,w',g',?_,ak,al⟩;have bC:(Builtin.append_ #[ty,K] l.type #[a.eval k,a.eval y]).run P w=.ok v w':=by
       rw[<-ah];have⟨bP,bO,bI,aC⟩:=ZJ j;rw[aC];simp[Builtin.append_,fJ U,fJ bu,sizeOf,typeInfo]
      simp[eI,x,resolve,aV,av,az,invoke,builtin,bC]
     cases e
    split at e
    .rename_i kI bz ap bk q aa;cases e;have⟨aM,ar,ae⟩:=ab;have av:u.args=#[k,y]:=by apply wc;simpa using aT
     have az:u.argTypes=#[ty,K]:=by apply wc;simpa using a1
     have j:=i.ev k;have p:=i.ev y;have o:∀v w',(Builtin.append_ #[ty,K] l.type #[a.eval k,a.eval y]).run P w=.ok v w'->(eI a.eval l).run P w=.ok (.value v) w':=by
      intro v w' a2;simp[eI,x,resolve,aV,av,az,invoke,builtin,a2]
     have⟨R,z,U,B,X,Z,an,am,aK⟩:=sY F;rw[q]at j;rw[aa]at p;generalize aC:a.eval k=a5 at j o;generalize a3:a.eval y=a6 at p o;cases j;cases p;obtain⟨m,rfl⟩:∃m:Nat,ap=(m:Int):=⟨ap.toNat,Zo⟩;simp only[q_]at ar ae⊢;have rT:=aft (P:=P) w ty K l.type f R z U (abO bk) B X am an bz m Zo ae<|(Yy aK) ar;have bi:=grownCap_ge w m 0 f;have aD:si P f=z.cells.toList.map .sc:=by simp[si,sg,B,X]
     obtain⟨g',r1,aF,r3⟩:=i.make t f sz (grownCap w m 0 f) (ao<|fu m<|si P f) (Builtin.zeroCells z.cells m++Builtin.zeroCells z.cells (grownCap w m 0 f-m)) (Ek w _) (pk w.drew _)
      (by simp only[uH,size_zeroCells,Z,<-sv];congr 1;omega) (grownCap_le_maxLen w m 0 f ae)
      (by rw[uH,size_zeroCells,Z,iY (aq:=fu m<|si P f) (sz:=sz) λr i=>by rw[(MP.1 i).2,aD];simpa using Z,ss];omega) (λS d O=>by
       have⟨I,ad⟩:=Lv _ _ _ _ O;rw[aD]at I ad;simp only[bE,we]at I ad;have⟨aH,bD,bF⟩:=GC (ay:=aR w M g s.n) z.cells _ d ad;refine⟨aH,?_,bF⟩;rw[xS (by rw[size_zeroCells];exact I)];have bo:S%z.cells.size<z.cells.size:=Av _ Zo;rw[<-bD];simp[Builtin.zeroCells,I,bo])
     exact⟨_,_,g',o _ _ rT,r1,uq rr bi r3⟩
    cases e
   cases e
  cases e
 cases e
end
noncomputable section
open Go.RowKit
inductive TL (R:D->aN->List Nat->Prop):List D->List aN->List Nat->Prop
 |nil:TL R [] [] []
 |cons {d:D} {v:aN} {F:List Nat} {ds:List D} {vs:List aN} {F':List Nat} (h:R d v F) (t:TL R ds vs F'):TL R (d::ds) (v::vs) (F++F')
inductive T2 (w:a8):D->aN->List Nat->Prop
 |one {d:D} {v:aN} {F:List Nat} (h:T1 w d v F):T2 w d v F
 |ag {ds:List D} {vs:List aN} {F:List Nat} (h:TL (T1 w) ds vs F):T2 w (.ag ds) (.agg vs.toArray) F
inductive T3 (w:a8):D->aN->List Nat->Prop
 |one {d:D} {v:aN} {F:List Nat} (h:T2 w d v F):T3 w d v F
 |tp {ds:List D} {vs:List aN} {F:List Nat} (h:TL (T2 w) ds vs F):T3 w (.tp ds) (.tuple vs.toArray) F
inductive OL (R:D->D->List TE->Prop):List D->List D->List TE->Prop
 |nil:OL R [] [] []
 |cons {d e:D} {T:List TE} {ds es:List D} {f:List TE} (h:R d e T) (t:OL R ds es f):OL R (d::ds) (e::es) (T++f)
inductive O1:D->D->List TE->Prop
 |sc (v:aN):O1 (.sc v) (.sc v) []
 |sl (sz:Nat) (aq:List (List D)) (a:Option Addr) (n c:Nat) (F:List Nat):O1 (.sl sz aq) (.sc (.slice a n c)) [⟨.slice a n c,.sl sz aq,F⟩]
inductive O2:D->D->List TE->Prop
 |one {d e:D} {T:List TE} (h:O1 d e T):O2 d e T
 |ag {ds es:List D} {T:List TE} (h:OL O1 ds es T):O2 (.ag ds) (.ag es) T
inductive O3:D->D->List TE->Prop
 |one {d e:D} {T:List TE} (h:O2 d e T):O3 d e T
 |tp {ds es:List D} {T:List TE} (h:OL O2 ds es T):O3 (.tp ds) (.tp es) T
abbrev bl(T:cf):ax:=T.flatMap (·.F)
def qy(d U:cf):bl (d++U)=bl d++bl U:=MH
def k8{d:cf}{b:Nat}:b∈bl d↔∃e∈d,b∈e.F:=mem_flatMap
def Wb{R:D->aN->List Nat->Prop}{d:DL}{e:VL}{F:ax}(h:TL R d e F):A d=A e:=by
 induction h with
 |nil=>rfl
 |cons _ _ f=>simp[f]
theorem Wa{R:D->aN->List Nat->Prop}{h:DL}{j:VL}{F:ax}(k:TL R h j F):∀(e:Nat)(d:D)(v:aN),h[e]?=E d->j[e]?=E v->∃f,R d v f/\∀b∈f,b∈F:=by
 induction k with
 |nil=>intro e d v i;simp at i
 |cons i _ p=>
  exact λe d v m o=>Zg
def T1.tf{w:a8}{d:D}{v:aN}{F:ax}(k:T1 w d v F):∃i,O1 d (.sc v) i/\(∀h∈i,T1 w h.d h.u h.F)/\bl i=F:=by
 cases k with
 |sc v=>exact⟨[],.sc v,Zs,C⟩
 |nil f=>exact⟨_,.sl f [] _ _ _ [],λh e=>by simp at e;subst e;exact .nil f,C⟩
 |gv f a j m=>exact⟨_,.sl f [] _ _ _ [],λh e=>by simp at e;subst e;exact .gv f a j m,C⟩
 |sl f o b j B q us p t x m z r y A k=>exact⟨_,.sl f o _ _ _ _,λh e=>by simp at e;subst e;exact .sl f o b j B q us p t x m z r y A k,Zs⟩
theorem Wc{w:a8}{R:D->aN->List Nat->Prop}{aI:D->D->List TE->Prop}(x:∀d v F,R d v F->∃j e,aI d j e/\(∀i,Rd i j v)/\(∀f∈e,T1 w f.d f.u f.F)/\bl e=F){p:DL}{o:VL}{F:ax}(k:TL R p o F):
 ∃h e,OL aI p h e/\A h=A o/\(∀i(m:Nat)(d:D)(v:aN),h[m]?=E d->o[m]?=E v->Rd i d v)/\(∀f∈e,T1 w f.d f.u f.F)/\bl e=F:=by
 induction k with
 |nil=>exact⟨[],[],.nil,C,Zs,Zs,C⟩
 |cons k _ y=>
  have⟨j,e,r,I,J,t⟩:=x _ _ _ k;have⟨h,q,z,B,U,V,G⟩:=y;refine⟨j::h,e++q,.cons r z,Yr B,λi m d v L S=>Zg,λf O=>Zg,by rw[qy,t,G]⟩
def T2.tf{w:a8}{d:D}{v:aN}{F:ax}(f:T2 w d v F):∃o e,O2 d o e/\(∀h,Rd h o v)/\(∀m∈e,T1 w m.d m.u m.F)/\bl e=F:=by
 cases f with
 |one f=>
  have⟨e,i,j,k⟩:=f.tf;exact⟨_,e,.one i,λh=>.sc v,j,k⟩
 |ag f=>
  obtain⟨r,e,i,j,k,p,q⟩:=Wc (w:=w) (aI:=O1) (λd v F f=>let⟨e,i,j,k⟩:=T1.tf f;⟨_,e,i,λh=>.sc v,j,k⟩) f;exact⟨_,e,.ag i,λh=>.ag _ _ j<|k h,p,q⟩
def T3.tf{w:a8}{d:D}{v:aN}{F:ax}(f:T3 w d v F):∃h e,O3 d h e/\(∀i,Rd i h v)/\(∀m∈e,T1 w m.d m.u m.F)/\bl e=F:=by
 cases f with
 |one f=>
  have⟨h,e,j,k⟩:=f.tf;exact⟨h,e,.one j,k⟩
 |tp f=>
  have⟨r,e,j,k,o,p,q⟩:=Wc (w:=w) (aI:=O2) (λd v F f=>T2.tf f) f;exact⟨_,e,.tp j,λi=>.tp _ _ k<|o i,p,q⟩
def T2.rd{w:a8}{M:cG}{g:dZ}{p:bi}{d:D}{v:aN}{F:ax}(e:T2 w d v F)(f:∀b∈F,¬M b/\∀s q c,g s≠E (q,b,c)):Rd (aR w M g p) d v:=by
 cases e with
 |one e=>exact e.rd f
 |ag e=>
  exact .ag _ _ (Wb e) λo d v k m=>by
   have⟨r,h,i⟩:=Wa e o d v k m;exact h.rd λb j=>f b<|i b j
def T3.rd{w:a8}{M:cG}{g:dZ}{p:bi}{d:D}{v:aN}{F:ax}(e:T3 w d v F)(f:∀b∈F,¬M b/\∀s q c,g s≠E (q,b,c)):Rd (aR w M g p) d v:=by
 cases e with
 |one e=>exact e.rd f
 |tp e=>
  exact .tp _ _ (Wb e) λo d v k m=>by
   have⟨r,h,i⟩:=Wa e o d v k m;exact h.rd λb j=>f b<|i b j
def i7:List TE->List D->List TE
 |e::T,d::ds=>{e with d}::i7 T ds
 |_,_=>[]
def G0:∀(e:cf)(f:DL),A f=A e->bl (i7 e f)=bl e
 |[],[],_=>rfl
 |j::e,d::f,h=>by
  have i:=G0 e f<|Yq h;simp only[bl,i7,tq]at*;rw[i]
 |[],_::_,h=>jr
 |_::_,[],h=>jr
abbrev p5(w:a8)(M X:cG):Bs:={w:=w,M:=M,X:=X}
structure dR (P:aH) (f:bI) (eF:List D) (Ts:List TE) (ds:List D) (r:D):Prop where
 ok:pU P f
 len:A ds=Ts.length
 run:∀(w:a8)(M:Nat->Prop)(vs:List aN),MB M w->A eF=A vs->
  (∀(i:Nat)(d:D)(v:aN),eF[i]?=E d->vs[i]?=E v->Rd (aR w (λb=>M b\/∃e∈Ts,b∈e.F) (λ_=>Q) dY) d v)->
  (∀e∈Ts,T1 w e.d e.u e.F/\∀b∈e.F,¬M b)->(bl Ts).Nodup->
  Calls P f vs.toArray w λe w'=>∃v,e=.returned v/\(p5 w M λb=>∃e∈Ts,b∈e.F).Ok w'/\(∀e∈i7 Ts ds,T1 w' e.d e.u e.F)/\∃F,T3 w' r v F/\F.Nodup/\∀b∈F,w.heap.size<=b
def tQ{w i:a8}{M f:cG}(d:(p5 w M f).Ok i)(j:∀b,¬f b):pK w.heap.size w i:=
 ⟨⟨d.os,d.tape,d.output,d.size,λh k=>d.block h λe=>by obtain e|e:=e;exact absurd e wF;exact j h e⟩,d.dr⟩
def XP{w e:a8}{M f:cG}(d:pK w.heap.size w e):(p5 w M f).Ok e:=
 ⟨d.os,d.tape,d.output,d.size,λi h=>d.block i<|Bs.vL h,d.dr⟩
def oU{w:a8}{M e:cG}(h:∀b,e b->M b):(aR w M (λ_=>Q) dY).Ext<|aR w e (λ_=>Q) dY:=
 ⟨λb i j f=>⟨fD (eW f) (λd=>(dQ f).1<|h b d) Zs,ku⟩,λ_=>bJ _,λ_ _ _ _ d _=>absurd d<|x_ _⟩
theorem dR.sp{P:aH}{h:bI}{f:DL}{r:D}(i:dR P h f [] [] r):Sp P h f r:=
 ⟨i.ok,λw M z j q t=>(i.run w M z j q (λx d v m u=>(t x d v m u).mono (oU λb=>cq)) Zs Zs).mono
  λA B⟨v,o,e,_,F,k,_,p⟩=>⟨v,o,tQ e Zs,k.rd λb e=>⟨λy=>by have:=j b y;have:=p b e;omega,Zs⟩⟩⟩
def ZT{o:View}{w:a8}{r:D}{v:aN}(h:(sW r).isSome=W)(y:Rd o r v):T3 w r v []:=by
 have key:∀(f:DL)(us e:VL),f.mapM Cz=E us->A f=A e->(∀(k:Nat)(d:D)(v:aN),f[k]?=E d->e[k]?=E v->Rd o d v)->TL (T2 w) f e []:=by
  intro f
  induction f with
  |nil=>intro us e _ i _;cases e with|nil=>exact .nil|cons=>simp at i
  |cons d f x=>
   intro us e h i j;obtain _|⟨v,e⟩:=e
   .simp at i
   rw[om]at h;simp only[Dg,kU,Dj,eH]at h;obtain⟨B,p,z,m,rfl⟩:=h;have q:=j 0 d v Zs Zs;cases d<;>simp[Cz]at p;subst p;cases q;exact .cons (F:=[]) (.one<|.sc _) (x z e m (Yq i) λk d v t u=>j (k+1) d v (Yq t)<|Yq u)
 cases y<;>simp[sW]at h
 .exact .one<|.one<|.sc _
 rename_i f e i j;have⟨us,m⟩:=sx.1 h;exact .tp<|key f us e m i j
def Sp.g{P:aH}{h:bI}{f:DL}{r:D}(i:Sp P h f r)(e:(sW r).isSome=W):dR P h f [] [] r:=
 ⟨i.ok,C,λw M y j p q _ _=>(i.run w M y j p λu d v e t=>(q u d v e t).mono (oU λb x=>.inl x)).mono
  λz A⟨v,o,m,k⟩=>⟨v,o,XP m,by simp[i7],[],ZT e k,Zs,Zs⟩⟩
inductive Fb (H:Nat->Option Ob) (T:List TE):D->D->Prop
 |fz {d e:D} (h:Fz H d e):Fb H T d e
 |tr (f:TE) (h:f∈T):Fb H T (.sc f.u) f.d
 |ag (ds es:List D) (j:A ds=A es) (h:∀(i:Nat)(d e:D),ds[i]?=E d->es[i]?=E e->Fb H T d e):Fb H T (.ag ds) (.ag es)
def yd(P:aH)(H:a')(T:cf)(f:bI)(eF:DL)(r:D):Prop:=
 (Sp P f eF r/\∀(i:Nat)(d:D),eF[i]?=E d->Cl d)\/
 ∃bs:DL,A bs=A eF/\(∀(i:Nat)(d e:D),eF[i]?=E d->bs[i]?=E e->Fb H T d e)/\Sp P f bs r/\(sW r).isSome=W
def Q6(P:aH)(s:St)(g:bI)(args:DL)(dst:ON)(K:aU):Prop:=
 ∃(eF:DL)(Ts rest:cf)(ds:DL)(r:D),s.T.Perm (Ts++rest)/\A eF=A args/\(∀(i:Nat)(d e:D),args[i]?=E d->eF[i]?=E e->Fb s.H rest d e)/\
  dR P g eF Ts ds r/\∀(e:D)(f:cf),O3 r e f->∃h:cf,h.Perm (i7 Ts ds++rest++f)/\K ({s with T:=h}.put dst e)
def er(P:aH)(s:St)(f:bI)(args:DL)(dst:ON)(K:aU):Prop:=
 ∀(w0:Bs)(M:cG)(g:dZ)(a:dF)(w:a8)(env:fL),ba w0 M g {s with env:=env} a w->∀vs:VL,A args=A vs->
  (∀(i:Nat)(d:D)(v:aN),args[i]?=E d->vs[i]?=E v->Rd (aR w M g s.n) d v)->
  pU P f/\Calls P f vs.toArray w λe w'=>∃(v:aN)(d:D)(H:a')(n:bi)(T:cf)(h:dZ)(M':cG),e=.returned v/\
   ba w0 M' h {s with env:=env,H:=H,n:=n,T:=T} a w'/\Rd (aR w' M' h n) d v/\K ({s with H:=H,n:=n,T:=T}.put dst d)
def jU(P:aH)(s:St)(f:D)(args:List D)(dst:Option Nat)(K:St->Prop):Prop:=
 match f with
 |.fn g aW aV=>(∃r,yd P s.H s.T g (aW++args++aV) r/\K (s.put dst r))\/Q6 P s g (aW++args++aV) dst K\/er P s g (aW++args++aV) dst K
 |_=>False
def wR(P:aH)(s:St)(f:D)(args:List D)(dst:Option Nat)(K:St->Prop):Prop:=
 match f with
 |.fn g aW aV=>∃r,yd P s.H s.T g (aW++args++aV) r/\K (s.put dst r)
 |_=>False
def nC(s:St)(dst:Option Nat)(K:St->Prop):Option D->Prop
 |some d=>K (s.put dst d)
 |none=>False
def n_(dst:Nat)(K:St->Prop):Option (Prop×St×D)->Prop
 |some (p,e,d)=>p/\K (e.put (E dst) d)
 |none=>False
def vV(dst:Option Nat)(K:St->Prop):Option (Prop×St)->Prop
 |some (p,d)=>p/\K (d.put dst<|.sc<|.tuple #[])
 |none=>False
def e_(P:aH)(mu:List Nat)(op:gC)(dst:Option Nat)(K:St->Prop)(s:St):Prop:=
 match op with
 |.call c=>match c.callee with
  |.value f=>jU P s (s.ev f) (c.args.toList.map s.ev) dst K
  |.builtin .append=>match dst with|some t=>n_ t K (hA P mu s t<|.call c)|none=>False
  |_=>nC s dst K (f_ P s<|.call c)
 |.store ty x y=>vV dst K (mV P s<|.store ty x y)
 |.mapUpdate ty m k v=>vV dst K (mV P s<|.mapUpdate ty m k v)
 |.insert ty m k v=>vV dst K (mV P s<|.mapUpdate ty m k v)
 |.box e x=>match dst with|some t=>n_ t K (hA P mu s t<|.box e x)|none=>False
 |.alloc e=>match dst with|some t=>n_ t K (hA P mu s t<|.alloc e)|none=>False
 |.makeMap e r=>match dst with|some t=>n_ t K (hA P mu s t<|.makeMap e r)|none=>False
 |.buildSlice ty l ps=>match dst with|some t=>n_ t K (hA P mu s t<|.buildSlice ty l ps)|none=>False
 |.makeSlice ty l c=>match dst with|some t=>n_ t K (hA P mu s t<|.makeSlice ty l c)|none=>False
 |op=>nC s dst K<|f_ P s op
def v'(P:aH)(op:gC)(dst:Option Nat)(K:St->Prop)(s:St):Prop:=
 match op with
 |.call c=>match c.callee with
  |.value f=>wR P s (s.ev f) (c.args.toList.map s.ev) dst K
  |_=>nC s dst K (f_ P s<|.call c)
 |op=>nC s dst K<|f_ P s op
def nZ(ds:List<|ON)(s:St)(j:Nat):D:=match ds[j]? with|some (E t)=>if t<s.nt then s.env t else .any|_=>.any
def hJ(l:kB):List<|ON:=l.map (·.dst)
def jG(d:D)(f:Bool)(e skip:St->Prop)(s:St):Prop:=
 match d with
 |.sc (.bool b)=>if b=f then e s else skip s
 |.sc (.tuple _)=>skip s
 |_=>False
def vT(dst:ON)(K:aU)(s:St):Prop:=K<|s.put dst<|.sc<|.tuple #[]
def GK(K:aU)(s:St):Prop:=∀(w0:Bs)(M:cG)(g:dZ)(a:dF)(w:a8),ba w0 M g s a w->∃s' d M',K s'/\ba w0 M' d s' a w
def GK.cM{K:aU}{s:St}(d:K s):GK K s:=λ_ _ _ _ _ e=>⟨_,_,_,d,e⟩
def GK.mono{K d:aU}(k:∀s,K s->d s){s:St}(h:GK K s):GK d s:=λw0 M g a w m=>let⟨o,f,e,i,j⟩:=h w0 M g a w m;⟨o,f,e,k _ i,j⟩
def GK.n4{K:aU}{s:St}(d:GK (GK K) s):GK K s:=λw0 M g a w h=>let⟨_,_,_,e,f⟩:=d w0 M g a w h;e _ _ _ _ _ f
def ba.perm{w0:Bs}{M:cG}{g:dZ}{s:St}{a:dF}{w:a8}(d:ba w0 M g s a w){T:cf}(h:T.Perm s.T):ba w0 M g {s with T:=T} a w:=
 ⟨d.defers,d.size,d.env,d.obj,d.base,d.inj,d.below,d.m0,λb=>(d.mm b).trans<|Dn sj ⟨λ⟨e,f,i⟩=>⟨e,h.mem_iff.2 f,i⟩,λ⟨e,f,i⟩=>⟨e,h.mem_iff.1 f,i⟩⟩,d.zm,λe f=>d.tree e<|h.mem_iff.1 f,(h.flatMap_right _).symm.nodup d.nd,d.og,d.wm⟩
def GK.perm{K:aU}{s:St}{T:cf}(e:s.T.Perm T)(d:GK K {s with T:=T}):GK K s:=λw0 M g a w f=>d w0 M g a w<|f.perm e.symm
def gh:List Nat->Option Nat->Bool
 |[],_=>af
 |_::_,Q=>af
 |x::l,E t=>x==t+1000000||gh l (E t)
def za(b:Bool)(X:aU)(s:St):Prop:=match b with|true=>GK X s|false=>X s
def nK(P:aH)(mu:List Nat)(ops:List<|Option Nat):List dU->(St->Prop)->St->Prop
 |[],K,s=>K s
 |o::rest,K,s=>
  match o.guard with
  |none=>za (gh mu o.dst) (e_ P mu o.op o.dst<|nK P mu ops rest K) s
  |some (j,d)=>jG (nZ ops s j) d (e_ P mu o.op o.dst<|nK P mu ops rest K) (vT o.dst<|nK P mu ops rest K) s
def pD(step:dU->(St->Prop)->St->Prop):List dU->(St->Prop)->St->Prop
 |[],K,s=>K s
 |o::l,K,s=>step o (pD step l K) s
def V5(P:aH)(ops:List<|Option Nat)(o:dU)(K:St->Prop)(s:St):Prop:=
 match o.guard with
 |none=>v' P o.op o.dst K s
 |some (j,d)=>jG (nZ ops s j) d (v' P o.op o.dst K) (vT o.dst K) s
def z'(P:aH)(ops:List<|ON):List dU->(aU)->St->Prop:=pD<|V5 P ops
def je(next:St->Prop)(aI:iG->St->Prop):iG->St->Prop
 |.normal,s=>next s
 |e,s=>aI e s
def qz(id:Nat)(aI:iG->St->Prop):iG->St->Prop
 |.exit d,s=>if d=id then aI .normal s else aI (.exit d) s
 |e,s=>aI e s
def qD(d:D)(X e:St->Prop)(s:St):Prop:=
 match d with
 |.sc (.bool b)=>(b=W->X s)/\(b=af->e s)
 |_=>False
def vn(P:aH)(ops:io)(K:aU)(s:St):Prop:=
 P.follows .mixedOrders=W/\∀(w0:Bs)(M:cG)(g:dZ)(a:dF)(w:a8)(aI:iG->dF->a8->Prop),(∀a w,(∃s g M,K s/\ba w0 M g s a w)->aI .normal a w)->ba w0 M g s a w->
  wpAny P .any ops aI ops.size (Array.replicate ops.size af) a w
def Tc:gC->Bool
 |.buildSlice ..|.box ..|.alloc ..|.store ..=>W
 |.call c=>(match c.callee with|.builtin .append=>W|_=>af)
 |_=>af
def F5:List dU->Bool
 |[]=>af
 |o::l=>Tc o.op||F5 l
def s9(bK:ax)(dst:ON):Bool:=match dst with|some t=>bK.contains t|none=>af
def rF:gC->Nat
 |.load ..=>1
 |.buildSlice ..=>3
 |.alloc ..=>3
 |.store ..=>4
 |.lookup ..|.convert ..|.box ..|.makeMap ..|.makeSlice ..|.mapUpdate ..=>5
 |.call c=>match c.callee with|.value _=>2|.builtin .append=>4|_=>0
 |_=>0
def yX(md:Region.Mode)(ops:Array dU):Nat->Nat->Nat->Bool
 |0,_,_=>af
 |f+1,j,i=>match ops[j]? with
  |some d=>d.after.any λe=>Region.binds md e&&(e.on==i||yX md ops f e.on i)
  |none=>af
def ub(P:aH)(_:ax)(ops:io)(K:aU)(s:St):Prop:=vn P ops K s
def zn(F:(St->Prop)->St->Prop):Nat->St->Prop
 |0=>λ_=>False
 |n+1=>F<|zn F n
def T_(F:(aU)->aU)(s:St):Prop:=∃n,zn F n s
def Ua(F:(gg)->aU)(aI:gg)(s:St):Prop:=T_ (λI=>F<|je (GK I) aI) s
def vc(P:aH)(mu:List Nat):dJ->(iG->St->Prop)->St->Prop
 |.skip,aI,s=>aI .normal s
 |.region _ ops d,aI,s=>if d then vn P ops (aI .normal) s else nK P mu (hJ ops.toList) ops.toList (aI .normal) s
 |.seq a b,aI,s=>vc P mu a (je (vc P mu b aI) aI) s
 |.cond c x y,aI,s=>qD (s.ev c) (vc P mu x aI) (vc P mu y aI) s
 |.block id c,aI,s=>vc P mu c (qz id aI) s
 |.loop c,aI,s=>Ua (vc P mu c) aI s
 |.exit id,aI,s=>aI (.exit id) s
 |.ret,aI,s=>aI .ret s
 |_,_,_=>False
variable{P:aH}{w0:Bs}{M:cG}{g:dZ}{s:St}{a:dF}{w:a8}
theorem Er{e:Array MapEntry}{d:Nat}{key val:aN}(h:(e.toList.map (·.born)).Nodup)(i:∀f∈e.toList,f.born<d):((e.push {key,val,born:=d}).toList.map (·.born)).Nodup/\∀f∈(e.push {key,val,born:=d}).toList,f.born<d+1:=Zg
def LY(hr:ba w0 M g s a w){o:dU}{aK:Prop}{aN:St}(e:mV P s o.op=E (aK,aN))(hp:aK):
 ∃w',(eI a.eval o).run P w=.ok .skip w'/\ba w0 M g aN a w':=by
 unfold mV at e;split at e
 .rename_i ty aO k ah;split at e
  .rename_i av ax f ad a' a5 aU a0;split at e
   .rename_i ob y;split at e
    .rename_i D;have⟨D,F⟩:=D;cases e;have⟨bk,aL,a_⟩:=hp;have Z:=hr.ev aO;rw[a5]at Z;generalize a6:a.eval aO=bl at Z;cases Z with|rf _ _ _ be bj Z=>
     have⟨ay,b,c,vs,x,m,vC,O,ao,pj⟩:=hr.obj av ob y;have vC:=vC F;have m:=m.cells F;have t:=Z b c (by rw[<-D];exact x);subst t;have⟨k1,k2⟩:=Jq aU<|hr.ev k;have a2:∀v∈(a.eval k).cells.toList,v.oneCell'=W:=by
      intro v a4;obtain⟨j,hj,rfl⟩:=ec a4;have aA:j<A ad:=by simpa[k1]using hj
      have⟨u,L,aa⟩:=k2 j _<|bL aA;have t:u=(a.eval k).cells.toList[j]:=by
       have h1:(a.eval k).cells.toList[j]?=E u:=Yq L;rw[bL hj]at h1;exact(Aw h1).symm
      rw[<-t];exact Cd (en.1 a_ _<|aD aA) aa
     have ae:f+0+A (a.eval k).cells.toList<=vs.size:=co;have aF:=run_storeCells_at P b f ob.elem (a.eval k).cells.toList 0 vs w m ae a2;simp only[oX]at aF ae;have aB:(Y f vs.toList++(a.eval k).cells.toList++vs.toList.drop (f+A (a.eval k).cells.toList)).toArray.size=vs.size:=by simp at ae⊢;omega
     have a3:A (Y f vs.toList)=f:=by simp at ae⊢;omega
     refine⟨w.setRow b (Y f vs.toList++(a.eval k).cells.toList++vs.toList.drop (f+A (a.eval k).cells.toList)).toArray,?_,?_⟩
     .have a1:¬(a.eval k).cells.size≠a':=Zo;simp only[eI,ah,a6,Instr.storeAt,Instr.sureAddr,storeVar,gr,Sem.run_pure,il,nH a0];rw[aC a1,aF];rfl
     refine(hr.write av b c _ ob {ob with cells:=lc ob.cells f ad} y x C (λi q=>setRow_other w b i _ q) (.of (setRow_heap w b vs _ _ _ m) F) (λ_=>(Yy aB) vC) O ?_ (λj d hj=>?_) C C C Zs).1
     .rw[aB];show A (lc ob.cells f ad)<=_;rw[VS _ _ _ aL];exact ao
     have S:=hj;rw[VR _ _ _ _ aL]at S;rw[C5];by_cases az:f<=j/\j<f+A ad
     .rw[aM az]at S;have⟨u,L,aa⟩:=k2 _ d S;refine⟨u,?_,aa⟩;rw[dy,kR Zo,a3,lY ch];simpa using L
     rw[aC az]at S;have⟨u,L,aa⟩:=pj j d S;refine⟨u,?_,aa⟩;by_cases aZ:j<f
     .rw[dy,lY Zo,wl,aM aZ];simpa using L
     rw[kR ch,An];have t:f+A (a.eval k).cells.toList+(j-(A<|Y f vs.toList++(a.eval k).cells.toList))=j:=co;rw[t];simpa using L
    cases e
   cases e
  cases e
 .rename_i av ak i v ah;split at e
  .rename_i ab ax J aH bd ap q am;split at e
   .rename_i ob y;split at e
    .rename_i a9 F;split at e
     .rename_i hc;have⟨D,aX⟩:=hc;have p:=hr.ev ak;rw[ap]at p;have G:=hr.ev i;rw[q]at G;generalize aq:a.eval ak=bc at p;generalize an:a.eval i=bb at G;cases G;have⟨ay,b,c,vs,x,m,_,O,ao,pj⟩:=hr.obj ab ob y;cases p with|mp _ _ z _ p=>
      have t:=p b c (by rw[<-D];exact x);subst t;have⟨aJ,aS,a8,ar,I,aW,a7⟩:=Uk am;unfold jh at m;rw[F]at m;obtain⟨es,clock,B,rfl,vC,V,U⟩:=m;rcases R:kp aH J (es.toList.map (·.key))with _|r
      .rw[R]at e;cases e
      rw[R]at e;obtain⟨rfl,al⟩|⟨j,aQ,rfl,al,bh,bi⟩:=JR aH J es.toList r R 0
      .simp only[Cj,eH,Hq]at e;obtain⟨rfl,rfl⟩:=e;refine⟨{w with heap:=w.heap.setIfInBounds z (.map (es.push {key:=J,val:=a.eval v,born:=clock})<|clock+1)},?_,?_⟩
       .simp only[eI,ah,aq,an,Instr.mapUpdate,gr,fJ ar,MapKept.run_getObj_map B,il,MapKept.run_checkKey I<|Tm aX,MapKept.run_findKey I al,MapKept.run_setObj_map _ B];rfl
       have X:=MapKept.heap_set (o':=.map (es.push {key:=J,val:=a.eval v,born:=clock})<|clock+1) B;have FB:vs.size=A ob.cells:=Pv;refine(hr.write (w':={w with heap:=w.heap.setIfInBounds z (.map (es.push {key:=J,val:=a.eval v,born:=clock})<|clock+1)}) ab z c (vs.push<|a.eval v) ob {ob with keys:=E (es.toList.map (·.key)++[J]),cells:=ob.cells++[s.ev v]} y x C (λi q=>X.2 i q) ⟨_,_,X.1,Zs,Yr vC,(Er V U).1,(Er V U).2⟩ (λi=>by cases i) O (Yr FB) (λj d hj=>?_) C C C Zs).1;exact N5
      cases e
     cases e
    cases e
   cases e
  .rename_i ab ax b bf ap q;split at e
   .rename_i bd ob am y;split at e
    .rename_i a9 F;split at e
     .rename_i hc;have⟨D,R⟩:=hc;simp only[eH,Hq]at e;obtain⟨rfl,rfl⟩:=e;have p:=hr.ev ak;rw[ap]at p;have G:=hr.ev i;rw[q]at G;generalize aq:a.eval ak=bc at p;generalize an:a.eval i=bb at G;cases G with|pa _ _ us bg aY h1 al=>
      have⟨ay,aP,c,vs,x,m,_,O,ao,pj⟩:=hr.obj ab ob y;cases p with|mp _ _ z _ p=>
      have t:=p aP c (by rw[<-D];exact x);subst t;have⟨aJ,aS,a8,ar,I,aW,a7⟩:=Uj am;unfold jh at m;rw[F]at m;obtain⟨es,clock,B,rfl,vC,V,U⟩:=m;have aT c (hc:c∈ob.cells):∃u,Rd (aR w M g s.n) c u:=Nl;have aV:(Instr.findAsking aJ (.pointer<|some ⟨b,0,Q⟩) es.toList 0).run P w=.ok Q w:=by
       obtain⟨_,au⟩|⟨j,aQ,au,_⟩:=Kv (w':=w) hr I aY (Below.refl _ _) es.toList ob.cells Q 0 R aT
       .exact au
       cases au
      refine⟨{w with heap:=w.heap.setIfInBounds z (.map (es.push {key:=.pointer (E ⟨b,0,Q⟩),val:=a.eval v,born:=clock})<|clock+1)},?_,?_⟩
      .simp only[eI,ah,aq,an,Instr.mapUpdate,gr,fJ ar,MapKept.run_getObj_map B,il,VG I,VK I,aV,MapKept.run_setObj_map _ B];rfl
      have X:=MapKept.heap_set (o':=.map (es.push {key:=.pointer (E ⟨b,0,Q⟩),val:=a.eval v,born:=clock})<|clock+1) B;have FB:vs.size=A ob.cells:=Pv;refine(hr.write (w':={w with heap:=w.heap.setIfInBounds z (.map (es.push {key:=.pointer (E ⟨b,0,Q⟩),val:=a.eval v,born:=clock})<|clock+1)}) ab z c (vs.push<|a.eval v) ob {ob with keys:=E (es.toList.map (·.key)++[.pointer<|some ⟨b,0,Q⟩]),cells:=ob.cells++[s.ev v]} y x C (λi q=>X.2 i q) ⟨_,_,X.1,Zs,Yr vC,(Er V U).1,(Er V U).2⟩ (λi=>by cases i) O (Yr FB) (λj d hj=>?_) C C C Zs).1;exact N5
     cases e
    cases e
   cases e
  cases e
 cases e
def ZR{p o:View}{d:D}{v:aN}(h:(sW d).isSome=W)(z:Rd p d v):Rd o d v:=by
 cases z<;>simp[sW]at h
 .exact .sc _
 rename_i f G r u;have⟨us,j⟩:=sx.1 h;refine .tp f G r λe d v m x=>?_;have A:∀(f:DL)(us:VL),f.mapM Cz=E us->∀(e:Nat)(d:D),f[e]?=E d->∃k,d=.sc k:=by
  intro f
  induction f with
  |nil=>intro us _ e d h;simp at h
  |cons q f y=>
   intro us h e d i;rw[om]at h;simp only[Dg,kU,Dj,eH]at h;obtain⟨k,t,F,j,rfl⟩:=h;cases e with
   |zero=>
    simp at i;subst i;cases q<;>simp[Cz]at t;exact⟨_,C⟩
   |succ e=>exact y F j e d (Yq i)
 obtain⟨k,rfl⟩:=A f us j e d m;have B:=u e _ v m x;cases B;exact .sc _
theorem Fb.rd(h:ba w0 M g s a w){m j:cf}(q:s.T.Perm<|j++m){d e:D}(i:Fb s.H m d e):∀{v:aN},Rd (aR w M g s.n) d v->Rd (aR w (λb=>w0.M b\/∃e∈j,b∈e.F) (λ_=>Q) dY) e v:=by
 induction i with
 |fz i=>
  intro v f;refine(Rd.freeze h i f).mono (oU λb r=>(h.mm b).2 Zg)
 |tr I B=>
  intro v f;cases f;have⟨x,y⟩:=h.tree I<|q.mem_iff.2<|gq _ B;refine x.rd λb z=>⟨?_,Zs⟩;rintro(r|⟨e,o,L⟩)
  .exact h.zm b r<|y b z
  have S:(bl<|j++m).Nodup:=(q.flatMap_right _).nodup h.nd;exact Zg
 |ag t u O i G=>
  intro v f;cases f with|ag _ J R f=>
  refine .ag u J Zo λk e v o C=>?_;have p:k<A t:=cq;exact G k _ e (bL p) o<|f k _ v (bL p) C
def Q_(m:ba w0 M g s a w){x:bI}{q:DL}{r:D}(i:yd P s.H s.T x q r){p:VL}(S:A q=A p)
 (I:∀(h:Nat)(d:D)(v:aN),q[h]?=E d->p[h]?=E v->Rd (aR w M g s.n) d v):
 pU P x/\Calls P x p.toArray w λf u=>∃v,f=.returned v/\pK w.heap.size w u/\Rd (aR u M g s.n) r v:=by
 obtain⟨i,L⟩|⟨bs,J,R,i,O⟩:=i
 .refine⟨i.ok,(i.run w (λb=>M b\/∃o k c,g o=E (k,b,c)) p ?_ S λh d v C B=>?_).mono λf u⟨v,j,z,y⟩=>⟨v,j,z,y.mono ?_⟩⟩
  .refine ?_;rintro b(e|⟨o,k,c,e⟩)
   .exact(m.m0 b e).1
   exact(m.base _ _ _ _ e).2
  .refine(I h d v C B).closed (λb X Y f=>⟨?_,ku⟩)<|L h d C;have⟨t,V⟩:=dQ f;exact fD (eW f) (λe=>e.elim t λ⟨o,k,c,e⟩=>V _ _ _ e) Zs
  refine⟨λb X Y f=>⟨?_,ku⟩,λ_=>kT _,λs k b c U f=>absurd U<|x_ _⟩;have⟨t,_⟩:=dQ f;exact fD (eW f) (λe=>t<|.inl e) λo k c e=>t<|.inr ⟨o,k,c,e⟩
 refine⟨i.ok,(i.run w (λb=>w0.M b\/∃f∈([]:cf),b∈f.F) p ?_ Zo λh f v j B=>?_).mono λf u⟨v,j,z,y⟩=>⟨v,j,z,ZR O y⟩⟩
 .refine ?_;rintro b(e|⟨_,e,_⟩)
  .exact(m.m0 b<|(m.mm b).2<|.inl e).1
  cases e
 have G:h<A q:=by rw[<-J];exact(dX.1 j).1
 exact(R h _ f (bL G) j).rd m (Hc _)<|I h _ v (bL G) B
def LQ(w0:Bs)(aI:gg):iG->dF->a8->Prop:=λe a w=>∃s g M,aI e s/\ba w0 M g s a w
def LK(w0:Bs)(K:aU):dF->a8->Prop:=λa w=>∃s g M,K s/\ba w0 M g s a w
def ba.called(f:ba w0 M g s a w){i t:cf}(q:s.T.Perm<|i++t){r:DL}(aa:A r=i.length){y:a8}(o:(p5 w w0.M λb=>∃e∈i,b∈e.F).Ok y)(am:∀e∈i7 i r,T1 y e.d e.u e.F)
 {m:cf} (X:∀G∈m,T1 y G.d G.u G.F) (S:(bl m).Nodup) (I:∀b∈bl m,w.heap.size<=b) {J:cf} (V:J.Perm<|i7 i r++t++m):
 ba w0 (λb=>M b\/b∈bl m) g {s with T:=J} a y:=by
 have L:∀b,(∃e∈i,b∈e.F)->M b:=λb⟨e,he,h⟩=>(f.mm b).2<|.inr ⟨e,q.mem_iff.2<|gf _ he,h⟩;have B b (h:b<w.heap.size) (S:¬(∃e∈i,b∈e.F)):y.heap[b]?=w.heap[b]?:=o.block b λk=>by
  obtain k|k:=k
  .exact absurd k wF
  exact S k
 have ad:∀p j b c,g p=E (j,b,c)->¬M b:=λp j b c e k=>(f.m0 b k).2 _ _ _ e;have D:(aR w M g s.n).Ext<|aR y (λb=>M b\/b∈bl m) g s.n:=by
  refine⟨λb au av e=>⟨?_,λ⟨us,z,aq⟩=>⟨us,z,(B b (tb<|eW e) λk=>(dQ e).1<|L b k).trans aq⟩⟩,λ_=>bJ _,λ_ _ _ _ _ e=>e⟩;have h:=tb<|eW e;refine fD ((vg (B b h λk=>(dQ e).1<|L b k)).trans<|eW e) ?_ (dQ e).2;rintro(k|k)
  .exact(dQ e).1 k
  have x:=I b k;omega
 have U:(bl<|i++t).Nodup:=(q.flatMap_right _).nodup f.nd;have Y:bl (i7 i r++t++m)=bl (i++t)++bl m:=by rw[qy,qy,qy,G0 i r aa]
 have ae b (h:b∈bl (i++t)):b<w.heap.size:=by
  have⟨e,he,h⟩:=k8.1 h;exact(f.tree e<|q.mem_iff.2 he).1.lt b h
 refine⟨f.defers,f.size,λao=>(f.env ao).mono D,λp ap ak=>(f.obj p ap ak).mono D λj b c e=>⟨e,B b (f.base _ _ _ _ e).2 λk=>ad _ _ _ _ e<|L b k⟩,
  λp j b c e=>⟨(f.base p j b c e).1,iR (f.base p j b c e).2 o.size⟩,f.inj,f.below.step o.os o.tape o.output o.size (λk Z=>?_) o.dr,λb k=>?_,λb=>?_,f.zm,λe he=>?_,?_,?_,f.wm⟩
 .exact B k (iR (Bs.vL Z) f.below.size) λ⟨e,he,h⟩=>Z<|(f.tree e<|q.mem_iff.2<|gf _ he).2 k h
 .obtain k|k:=k
  .exact⟨iR (f.m0 b k).1 o.size,(f.m0 b k).2⟩
  have⟨G,al,h⟩:=k8.1 k;exact⟨(X G al).lt b h,λp j c e=>by have x:=(f.base _ _ _ _ e).2;have x:=I b k;omega⟩
 .have ah:(∃e∈J,b∈e.F)↔(∃e∈s.T,b∈e.F)\/b∈bl m:=by
   rw[<-k8,<-k8,(V.flatMap_right λe:TE=>e.F).mem_iff,(q.flatMap_right λe:TE=>e.F).mem_iff];show b∈bl _↔b∈bl _\/_;rw[Y,ca]
  rw[ah,f.mm b,or_assoc]
 .obtain he|he:=ca.1<|V.mem_iff.1 he
  .obtain he|he:=ca.1 he
   .refine⟨am e he,λb h=>?_⟩;have x:b∈bl i:=by rw[<-G0 i r aa];exact k8.2 ⟨e,he,h⟩
    have⟨z,R,O⟩:=k8.1 x;exact(f.tree z<|q.mem_iff.2<|gf _ R).2 b O
   have⟨ab,ar⟩:=f.tree e<|q.mem_iff.2<|gq _ he;refine⟨ab.mono λb h=>B b (ab.lt b h) λ⟨z,R,O⟩=>?_,ar⟩;rw[qy,iQ]at U;exact U.2.2 b (k8.2 ⟨z,R,O⟩) b (k8.2 ⟨e,he,h⟩) C
  exact⟨X e he,λb h=>.inl<|gS f.below.size<|I b<|k8.2 ⟨e,he,h⟩⟩
 .apply(V.flatMap_right _).symm.nodup;show(bl _).Nodup;rw[Y,iQ];exact⟨U,S,λj D ax an e=>by subst e;have x:=ae j D;have x:=I j an;omega⟩
 exact f.og.ext D
theorem Yg(e:ba w0 M g s a w){m:bI}{args:DL}{dst:ON}{K:aU}(C:Q6 P s m args dst K){k:VL}(ak:A args=A k)
 (Y:∀(i:Nat)(d:D)(v:aN),args[i]?=E d->k[i]?=E v->Rd (aR w M g s.n) d v):
 pU P m/\Calls P m k.toArray w λf y=>∃v,f=.returned v/\LK w0 K (a.put dst v) y:=by
 have⟨ad,B,aa,ae,r,j,ah,O,q,J⟩:=C;refine⟨q.ok,(q.run w w0.M k (λb t=>(e.m0 b<|(e.mm b).2<|.inl t).1) Zo (λi f v h Z=>?_) (λf h=>?_) ?_).mono λf y⟨v,h,U,X,F,I,x,R⟩=>⟨v,h,?_⟩⟩
 .have u:i<A args:=by have:=(dX.1 h).1;omega
  exact(O i _ f (bL u) h).rd e j<|Y i _ v (bL u) Z
 .have⟨o,p⟩:=e.tree f<|j.mem_iff.2<|gf _ h;exact⟨o,λb L t=>e.zm b t<|p b L⟩
 .have x:(bl<|B++aa).Nodup:=(j.flatMap_right _).nodup e.nd;exact Zg
 obtain⟨d,z,o,p,G,rfl⟩:=I.tf;have⟨ab,V,S⟩:=J d z o;exact⟨_,_,_,S,(e.called j q.len U X G x R V).put (p _) dst⟩
theorem Jj{o:dU}{c:Call}{f:gK}{d:bI}{aW aV:VL}(t:o.op=.call c)(p:c.callee=.value f)(r:a.eval f=.func (.func d) aW.toArray aV.toArray)(q:pU P d)(w:a8):
 (eI a.eval o).run P w=.ok (.enter d (aW++c.args.toList.map a.eval++aV).toArray) w:=by
 have⟨e,i,j,u⟩:=q;have h:(aW.toArray++c.args.map a.eval++aV.toArray)=(aW++c.args.toList.map a.eval++aV).toArray:=cq;have k:e.name≠ "runtime.NumGoroutine":=Yq j;have m:e.body≠Q:=cq;have x:(callFunc d (aW++c.args.toList.map a.eval++aV).toArray).run P w=.ok (.enter d (aW++c.args.toList.map a.eval++aV).toArray) w:=by
  simp[callFunc,i,k,m]
 simp only[eI,t,gr,resolve,p,r,Deferred.ofValue,Sem.run_pure,il,invoke];rwa[h]
def E7{h:View}{i:bI}{aW aV:DL}{v:aN}(j:Rd h (.fn i aW aV) v):∃us f:VL,v=.func (.func i) us.toArray f.toArray/\A aW=A us/\A aV=A f/\
 (∀(e:Nat)(d:D)(v:aN),aW[e]?=E d->us[e]?=E v->Rd h d v)/\∀(e:Nat)(d:D)(v:aN),aV[e]?=E d->f[e]?=E v->Rd h d v:=by
 cases j with|fn _ _ _ us f k m o p=>exact⟨us,f,C,k,m,o,p⟩
theorem Ee{i:View}{f bs:DL}{us h:VL}(j:A f=A us)(k:∀(e:Nat)(d:D)(v:aN),f[e]?=E d->us[e]?=E v->Rd i d v)
 (m:A bs=A h) (o:∀(e:Nat)(d:D)(v:aN),bs[e]?=E d->h[e]?=E v->Rd i d v):
 A (f++bs)=A (us++h)/\∀(e:Nat)(d:D)(v:aN),(f++bs)[e]?=E d->(us++h)[e]?=E v->Rd i d v:=Zg
def Gl(i:ba w0 M g s a w){f:dU}{K:aU}{aI:iG->dF->a8->Prop}(e:nC s f.dst K<|f_ P s f.op):f.wp P a w (LK w0 K) aI:=by
 rcases h:f_ P s f.op with _|d
 .rw[h]at e;exact e.elim
 rw[h]at e;have⟨v,j,k⟩:=V4 i h;have m:=k w<|Below.refl _ _;simp only[Oper.wp,m,Oper.upon_value];exact⟨_,g,M,e,i.put j _⟩
def zu(q:ba w0 M g s a w){mu:ax}{o:dU}{f:Nat}(r:o.dst=E f){K:aU}{aI:iG->dF->a8->Prop}(e:n_ f K<|hA P mu s f o.op):o.wp P a w (LK w0 K) aI:=by
 rcases i:hA P mu s f o.op with _|x
 .rw[i]at e;exact e.elim
 have⟨t,u,d⟩:=x;rw[i]at e;have⟨v,y,j,k,m,p⟩:=afW q i e.1;simp only[Oper.wp,k,Oper.upon_value];exact⟨_,j,M,e.2,(Yy r)<|m.put p _⟩
def CO(e:ba w0 M g s a w){mu:ax}{o:dU}{K:aU}{aI:iG->dF->a8->Prop}(h:e_ P mu o.op o.dst K s):o.wp P a w (LK w0 K) aI:=by
 have⟨dst,op,ty,pos,i,guard⟩:=o;cases op
 case call c=>
  have⟨V,args,z⟩:=c;cases V
  case value A=>
   simp only[e_]at h;have O:=e.ev A;unfold jU at h;split at h
   .rename_i B aW aV ab;rw[ab]at O;have⟨us,ay,f,ah,ak,aq,ar⟩:=E7 O;have⟨al,au⟩:=FX e args.toList;have⟨am,av⟩:=Ee ah aq al au;have⟨I,J⟩:=Ee am av ak ar;obtain⟨r,Z,D⟩|h:=h
    .have⟨F,G⟩:=Q_ e Z I J;simp only[Oper.wp,Jj (a:=a) (o:=⟨dst,.call ⟨.value A,args,z⟩,ty,pos,i,guard⟩) C C f F w,Oper.upon_enter];refine G.mono λX m⟨v,x,L,Y⟩=>?_;subst x;exact⟨_,g,M,D,(e.grow L.toBelow L.dr).put Y _⟩
    have ad:pU P B/\Calls P B (us++args.toList.map a.eval++ay).toArray w λf m=>∃v,f=.returned v/\LK w0 K (a.put dst v) m:=by
     obtain h|h:=h
     .exact Yg e h I J
     have⟨ao,ap⟩:=h _ _ _ _ _ s.env e _ I J;exact⟨ao,ap.mono λf m⟨v,d,az,aC,aB,B,aA,x,ae,aa,D⟩=>⟨v,x,_,_,_,D,ae.put aa dst⟩⟩
    have⟨F,G⟩:=ad;simp only[Oper.wp,Jj (a:=a) (o:=⟨dst,.call ⟨.value A,args,z⟩,ty,pos,i,guard⟩) C C f F w,Oper.upon_enter];refine G.mono λX m⟨v,x,h⟩=>?_;subst x;exact h
   exact h.elim
  case invoke=>exact Gl e h
  case builtin b=>
   cases b
   case append=>
    simp only[e_]at h;obtain _|t:=dst
    .exact h.elim
    exact zu e (o:=⟨E t,.call ⟨.builtin .append,args,z⟩,ty,pos,i,guard⟩) C h
   all_goals exact Gl e h
 case store k y U=>
  simp only[e_]at h;rcases j:mV P s (.store k y U)with _|q
  .rw[j]at h;exact h.elim
  have⟨R,S⟩:=q;rw[j]at h;have⟨m,h1,h2⟩:=LY e (o:=⟨dst,.store k y U,ty,pos,i,guard⟩) j h.1;exact HI
 case mapUpdate k u p v=>
  simp only[e_]at h;rcases j:mV P s (.mapUpdate k u p v)with _|q
  .rw[j]at h;exact h.elim
  have⟨R,S⟩:=q;rw[j]at h;have⟨m,h1,h2⟩:=LY e (o:=⟨dst,.mapUpdate k u p v,ty,pos,i,guard⟩) j h.1;exact HI
 case insert k u p v=>
  simp only[e_]at h;rcases j:mV P s (.mapUpdate k u p v)with _|q
  .rw[j]at h;exact h.elim
  have⟨R,S⟩:=q;rw[j]at h;have⟨m,h1,h2⟩:=LY e (o:=⟨dst,.mapUpdate k u p v,ty,pos,i,guard⟩) j h.1;have h1:Sem.run P (eI a.eval ⟨dst,.insert k u p v,ty,pos,i,guard⟩) w=.ok .skip m:=h1;exact HI
 case box f y=>
  simp only[e_]at h;obtain _|t:=dst
  .exact h.elim
  exact zu e (o:=⟨E t,.box f y,ty,pos,i,guard⟩) C h
 case alloc f=>
  simp only[e_]at h;obtain _|t:=dst
  .exact h.elim
  exact zu e (o:=⟨E t,.alloc f,ty,pos,i,guard⟩) C h
 case makeMap f r=>
  simp only[e_]at h;obtain _|t:=dst
  .exact h.elim
  exact zu e (o:=⟨E t,.makeMap f r,ty,pos,i,guard⟩) C h
 case buildSlice f l an=>
  simp only[e_]at h;obtain _|t:=dst
  .exact h.elim
  exact zu e (o:=⟨E t,.buildSlice f l an,ty,pos,i,guard⟩) C h
 case makeSlice f l c=>
  simp only[e_]at h;obtain _|t:=dst
  .exact h.elim
  exact zu e (o:=⟨E t,.makeSlice f l c,ty,pos,i,guard⟩) C h
 all_goals exact Gl e h
theorem SK(r:ba w0 M g s a w){ops:io}{f:Nat}{q:Bool}{x skip:aU}(e:jG (nZ (hJ ops.toList) s f) q x skip s):
 ((yielded ops a.tmps f==E q)=W/\x s)\/((yielded ops a.tmps f==E q)=af/\skip s):=by
 unfold nZ at e;have y:(hJ ops.toList)[f]?=(ops[f]?).map (·.dst):=by simp[hJ]
 rw[y]at e;rcases i:(ops[f]?).bind (·.dst)with _|t
 .rcases j:ops[f]? with _|A
  .rw[j]at e;exact e.elim
  rw[j]at e i;simp only[mq]at i;simp only[eE,i]at e;exact e.elim
 cases j:ops[f]? with
 |none=>rw[j]at i;cases i
 |some A=>
 rw[j]at e;have o:=i;rw[j]at o;simp only[mq]at o;simp only[eE,o]at e;by_cases p:t<s.nt
 .rw[aM p]at e;have z:t<a.tmps.size:=(Yy r.size) p;have k:=r.env t;have m:a.tmps[t]?=E (a.tmps.getD t eX):=by simp[kQ,z]
  generalize a.tmps.getD t eX=v at k m;generalize B:s.env t=d at e k;unfold jG at e;split at e
  .rename_i b;cases k;have u:yielded ops a.tmps f=E b:=by simp[yielded,i,m]
   exact Zg
  .cases k;have u:yielded ops a.tmps f=Q:=by simp[yielded,i,m]
   rw[u];exact .inr ⟨by rfl,e⟩
  exact e.elim
 rw[aC p]at e;exact e.elim
def G5{mu:ax}{ops:io}{K:aU}{aI:iG->dF->a8->Prop}(o:∀a w,LK w0 K a w->aI .normal a w):
 ∀(l:kB){M:cG}{g:dZ}{s:St}{a:dF}{w:a8},ba w0 M g s a w->nK P mu (hJ ops.toList) l K s->lF P ops aI l a w
 |[],M,g,s,a,w,e,d=>o a w ⟨s,g,M,d,e⟩
 |p::f,M,g,s,a,w,e,d=>by
  simp only[nK]at d;unfold lF;have next:∀i q,LK w0 (nK P mu (hJ ops.toList) f K) i q->lF P ops aI f i q:=λi q⟨x,t,r,k,m⟩=>G5 o f m k
  have lift:∀{K':aU},p.wp P a w (LK w0<|nK P mu (hJ ops.toList) f K) aI->p.wp P a w (lF P ops aI f) aI:=λu=>Oper.wp_mono next u
  split at d
  .rename_i h;rw[aM (by simp[Region.wanted,h])];unfold za at d;split at d
   .have⟨x,t,r,k,m⟩:=d _ _ _ _ _ e;exact .inl<|lift (K':=K)<|CO m k
   exact .inl<|lift (K':=K)<|CO e d
  rename_i y z h;obtain⟨j,d⟩|⟨j,d⟩:=SK e d
  .rw[aM (by simp only[Region.wanted,h];exact j)];exact .inl<|lift (K':=K)<|CO e d
  rw[aC (by simp only[Region.wanted,h];rw[j];simp)];exact G5 o f (e.put (.sc eX) p.dst) d
def nN(P:aH)(s:St)(op:gC)(d:D):Prop:=
 match op with
 |.call c=>match c.callee with
  |.value f=>match s.ev f with
   |.fn g aW aV=>yd P s.H s.T g (aW++c.args.toList.map s.ev++aV) d
   |_=>False
  |_=>f_ P s (.call c)=E d
 |.buildSlice ty len parts=>∃p,tU P s ty len parts=E (p,d)/\p
 |op=>f_ P s op=E d
def Ae(P:aH)(ops:Array dU)(s:St)(o:dU)(d:D):Prop:=
 match o.guard with
 |none=>nN P s o.op d
 |some (j,e)=>jG (nZ (hJ ops.toList) s j) e (λs=>nN P s o.op d) (λ_=>d=.sc eX) s
variable{P:aH}{w0:Bs}{M:cG}{g:dZ}{s:St}{a:dF}{w:a8}{md:Region.Mode}{ops:io}
def W6(h:ba w0 M g s a w){o:dU}{d:D}{K:aU}{aI:iG->dF->a8->Prop}(e:nN P s o.op d)(f:K<|s.put o.dst d):o.wp P a w (LK w0 K) aI:=by
 have i:f_ P s o.op=E d->o.wp P a w (LK w0 K) aI:=λe=>Gl h (by rw[e];exact f);have⟨dst,op,ty,pos,j,guard⟩:=o;cases op
 case call c=>
  have⟨m,args,z⟩:=c;cases m
  case value A=>
   apply CO h (mu:=[]);simp only[nN]at e;simp only[e_,jU];split at e
   .first|exact .inl ⟨d,e,f⟩|(rename_i B aW aV q;first|exact .inl ⟨d,e,f⟩|(rw[q];exact .inl ⟨d,e,f⟩))
   exact e.elim
  all_goals exact i e
 case buildSlice k t parts=>
  have⟨F,p,r⟩:=e;have⟨v,G,u,x,y⟩:=Y0 (o:=⟨dst,.buildSlice k t parts,ty,pos,j,guard⟩) h C p r;simp only[Oper.wp,u,Oper.upon_value];exact⟨_,g,M,f,x.put y _⟩
 all_goals exact i e
def Vi{s:St}{dst:ON}{d:D}{x:gK}(f:∀t,dst=E t->x≠.tmp t):(s.put dst d).ev x=s.ev x:=by
 obtain _|t:=dst
 .rfl
 unfold St.put;simp only;split
 .cases x with
  |tmp h=>simp only[St.ev,aw];rw[aC];intro e;subst e;exact f _ C C
  |_=>rfl
 rfl
def qT{s:St}{dst:ON}{d:D}:(s.put dst d).H=s.H:=D0
def Cm{s:St}{dst:ON}{d:D}:(s.put dst d).T=s.T:=D0
def Gp{s:St}{dst:ON}{d:D}:(s.put dst d).nt=s.nt:=D0
theorem put_comm(s:St){x y:ON}(d e:D)(f:∀t,x=E t->y≠E t):(s.put x d).put y e=(s.put y e).put x d:=by
 obtain _|t:=x
 .rfl
 obtain _|u:=y
 .rfl
 have k:t≠u:=λj=>f t C (Yw j);simp only[St.put];by_cases h:t<s.nt<;>by_cases i:u<s.nt<;>simp only[h,i,bx,bT];congr 1;funext m;simp only[aw];exact Zg
def ET{s d:St}:∀{l:List gK},(∀e∈l,d.ev e=s.ev e)->l.map d.ev=l.map s.ev:=λf=>jn f
def T6{P:aH}{s e:St}(h:e.H=s.H){f:a6}{d:D}:um P e f d=um P s f d:=by cases d<;>simp only[um,h]
def adr{P:aH}{s i:St}(f:i.H=s.H){j:a6}{h:Bool}{d e:D}:xq P i j h d e=xq P s j h d e:=by cases d<;>cases e<;>simp only[xq,f,Ku f]
def X'{P:aH}{s e:St}(i:e.H=s.H){f h:a6}{d:D}:u9 P e f h d=u9 P s f h d:=by cases d<;>simp only[u9,i]
theorem LW{P:aH}{s f:St}(j:f.H=s.H){op:gC}(e:∀d∈op.operands,f.ev d=s.ev d):sd P f op=sd P s op:=by
 cases op<;>simp only[Op.operands]at e<;>simp only[sd]
 case call c=>
  have⟨m,args,k⟩:=c;have o:∀d∈args.toList,f.ev d=s.ev d:=λd h=>e d (by simp[Call.operands];exact .inr<|Yq h);exact Zg
 case makeFunc i aW aV=>
  cases i<;>simp only;rw[ET λd h=>e d Zg,ET λd h=>e d Zg]
 all_goals(first|rfl|(simp_all[T6 j];done))
theorem Lm{s s':St}:∀{l:List (Nat×gK)},(∀d∈l.map (·.2),s'.ev d=s.ev d)->l.map (λd=>(d.1,s'.ev d.2))=l.map λd=>(d.1,s.ev d.2):=λe=>
 jn λh f=>cq
theorem LV{P:aH}{s s':St}(f:s'.H=s.H){op:gC}(e:∀d∈op.operands,s'.ev d=s.ev d):f_ P s' op=f_ P s op:=by
 cases op
 case build i x=>simp only[f_];rw[Lm λd h=>e d (by simpa[Op.operands]using h)]
 case convert src dst d=>(have j:=LW (P:=P) f (op:=.convert src dst d) e;simp only[f_,j];simp only[Op.operands]at e;rw[e d Zs,X' f])
 case lookup i d t u=>simp only[Op.operands]at e;simp_all[f_,adr f]
 case slice i d m k o=>simp only[Op.operands]at e;cases m<;>cases k<;>cases o<;>simp_all[f_]
 case call c=>
  have⟨q,args,p⟩:=c;have r:∀d∈args.toList,s'.ev d=s.ev d:=λd h=>e d (by simp[Op.operands,Call.operands];exact .inr<|Yq h);simp only[f_,LW (P:=P) f e];exact Zg
 all_goals exact LW (P:=P) f e
def W5{P:aH}{s s':St}(j:s'.H=s.H)(p:s'.T=s.T){op:gC}{d:D}(h:∀e∈op.operands,s'.ev e=s.ev e)(f:nN P s op d):nN P s' op d:=by
 have k:=LV (P:=P) j h;cases op
 case call c=>
  have⟨m,args,r⟩:=c;cases m
  case value o=>
   have q e (i:e∈args.toList):s'.ev e=s.ev e:=h e (by simp[Op.operands,Call.operands];exact .inr (by simpa using i));simp only[nN]at f⊢;rwa[h o (by simp[Op.operands,Call.operands]),ET q,j,p]
  all_goals(simp only[nN]at f⊢;rw[k];exact f)
 case buildSlice ty t parts=>
  simp only[nN,tU]at f⊢;rwa[Lm (s:=s) (s':=s') λe i=>h e (by simpa[Op.operands]using i)]
 all_goals(simp only[nN]at f⊢;rw[k];exact f)
def adq{ops:io}{e:dU}{f:gK}{d:Nat}(i:f∈e.op.operands)(h:f=.tmp d):d∈e.looksAt ops:=by
 subst h;exact gf _<|C_.2 ⟨.tmp d,Yq i,C⟩
def R'{s h:St}{f:dU}{ops:io}(i:∀d∈f.looksAt ops,h.env d=s.env d):∀e∈f.op.operands,h.ev e=s.ev e:=λe j=>by
 cases e with
 |tmp d=>exact i d (adq j C)
 |_=>rfl
theorem aiA{P:aH}{ops:io}{s f:St}{i:dU}{d:D}(x:f.nt=s.nt)(m:f.H=s.H)(o:f.T=s.T)(k:∀t∈i.looksAt ops,f.env t=s.env t)(e:Ae P ops s i d):Ae P ops f i d:=by
 have z:nN P s i.op d->nN P f i.op d:=W5 m o<|R' k;unfold Ae at e⊢;split at e
 .exact z e
 rename_i h A q;have r:nZ (hJ ops.toList) f h=nZ (hJ ops.toList) s h:=by
  unfold nZ;have p:(hJ ops.toList)[h]?=(ops[h]?).map (·.dst):=by simp[hJ]
  rw[p,x];rcases u:ops[h]? with _|y
  .rfl
  rcases j:y.dst with _|t
  .simp[j]
  simp only[eE,j,k t (by simp[Oper.looksAt,q,u,j])]
 rw[r];unfold jG at e⊢;split at e
 .exact Zg
 .exact e
 exact e
def ahT{P:aH}{s:St}{op:gC}{dst:ON}{K:aU}(e:v' P op dst K s):∃d,nN P s op d/\K (s.put dst d):=by
 have f:nC s dst K (f_ P s op)->∃d,f_ P s op=E d/\K (s.put dst d):=λe=>by
  rcases h:f_ P s op with _|d
  .rw[h]at e;exact e.elim
  rw[h]at e;exact⟨d,C,e⟩
 cases op
 case call c=>
  have⟨i,args,k⟩:=c;cases i
  case value m=>
   simp only[v',wR]at e;simp only[nN];split at e
   .exact e
   exact e.elim
  all_goals exact f e
 case buildSlice=>obtain⟨d,j,_⟩:=f e;cases j
 all_goals exact f e
def afV{P:aH}{mu:ax}{s:St}{i:Nat}{op:gC}{h:Prop}{f:St}{d:D}(e:hA P mu s i op=E (h,f,d)):{s with H:=f.H,n:=f.n}=f:=by
 unfold hA at e
 repeat' split at e
 all_goals(try unfold wL at e)
 repeat' split at e
 all_goals first
  |(cases e;done)
  |(cases e;rfl)
def af0{P:aH}{s:St}{op:gC}{f:Prop}{e:St}(d:mV P s op=E (f,e)):{s with H:=e.H,n:=e.n}=e:=by
 unfold mV at d
 repeat' split at d
 all_goals first
  |(cases d;done)
  |(cases d;rfl)
  |(unfold Cj at d;split at d<;>first|(cases d;done)|(cases d;rfl))
def afX{P:aH}{s s':St}{op:gC}(f:rF op=0)(j:∀d∈op.operands,s'.ev d=s.ev d):f_ P s' op=f_ P s op:=by
 have e:=LV (P:=P) (s:=s) (s':={s with env:=s'.env}) C (op:=op) (by
  intro d m;have e:=j d m;cases d<;>first|exact e|rfl)
 have h:∀(H:a')(n:bi)(nt:Nat)(T:cf)(N:Nat),f_ P {s' with H,n,nt,T,N} op=f_ P s' op:=by
  intro H n nt T N;have k:({s' with H,n,nt,T,N}:St).ev=s'.ev:=by funext d;cases d<;>rfl
  cases op<;>simp only[rF]at f<;>first|(exact absurd f Zd)|rfl|skip
  case makeFunc i aW aV=>cases i<;>simp only[f_,sd,k]
 rw[<-e,<-h s.H s.n s.nt s.T s.N]
def UH{s f:St}(i:f.H=s.H){e:a6}{h:Nat}{d:D}:dS f e h d=dS s e h d:=by
 cases d<;>simp only[dS,i]
def Cp{s:St}{dst:ON}{d:D}:(s.put dst d).n=s.n:=D0
theorem JG{md:Region.Mode}{ops:io}{i:ql}(p:∀d k,ops[d]?=E k->i.getD d af=W->∀j∈k.after,Region.binds md j=W->i.getD j.on af=W){o:Nat}(m:i.getD o af=af):
 ∀(f:Nat)(d:Nat),yX md ops f d o=W->d∉Region.ready md ops i/\i.getD d af=af
 |0,_,e=>by simp[yX]at e
 |f+1,d,e=>by
  simp only[yX]at e;split at e
  .rename_i k x;have⟨j,u,h⟩:=Array.any_eq_true'.1 e;simp only[cy,tm,ot]at h;have⟨t,h⟩:=h;have z:i.getD j.on af=af:=by
    obtain rfl|h:=h
    .exact m
    exact(JG p m f j.on h).2
   refine⟨λq=>?_,?_⟩
   .have⟨_,A,y,r⟩:=mem_ready.1 q;exact Zg
   exact Zg
  cases e
def aaM{i:ql}{e d:Nat}(h:(i.setIfInBounds e W).getD d af=W):d=e\/i.getD d af=W:=by
 by_cases f:e=d
 .exact .inl f.symm
 rw[getD_set_ne af f]at h;exact .inr h
theorem Jv{md:Region.Mode}{ops:io}{h:ql}(m:∀e f,ops[e]?=E f->h.getD e af=W->∀d∈f.after,Region.binds md d=W->h.getD d.on af=W){j:Nat}(p:j∈Region.ready md ops h):
 ∀e f,ops[e]?=E f->(h.setIfInBounds j W).getD e af=W->∀d∈f.after,Region.binds md d=W->(h.setIfInBounds j W).getD d.on af=W:=by
 refine λe f q i d o k=>getD_set_true ?_;obtain rfl|i:=aaM i
 .have⟨_,u,t,r⟩:=mem_ready.1 p;exact Zg
 exact m e f q i d o k
def aaL(e d:Nat):(Array.replicate e af).getD d af=af:=by
 obtain h|h:=Hm d e
 .simp[h]
 simp[h]
def pG{mu:ax}:∀(c:dJ)(aI:gg){M:cG}{g:dZ}{s:St}{a:dF}{w:a8},ba w0 M g s a w->vc P mu c aI s->c.wp P (LQ w0 aI) a w
 |.skip,aI,M,g,s,a,w,d,h=>wp_skip ⟨s,g,M,h,d⟩
 |.region id ops q,aI,M,g,s,a,w,d,h=>by
  obtain _|_:=q
  .exact wp_region_list<|G5 (K:=aI .normal) (λa w⟨s,g,M,h1,h2⟩=>⟨s,g,M,h1,h2⟩) ops.toList d h
  exact wp_region_any h.1<|h.2 _ _ _ _ _ _ (λa w⟨s,g,M,j,k⟩=>⟨s,g,M,j,k⟩)<|d.grow OG
 |.seq m o,aI,M,g,s,a,w,d,h=>by
  refine wp_seq (wp_mono (pG m _ d h) λe a w⟨s,g,M,h1,h2⟩=>?_);cases e
  case normal=>exact pG o aI h2 h1
  all_goals exact⟨s,g,M,h1,h2⟩
 |.cond c m o,aI,M,g,s,a,w,d,h=>by
  have i:=d.ev c;simp only[vc,qD]at h;split at h
  .rename_i b r;rw[r]at i;generalize p:a.eval c=v at i;cases i;cases b
   .exact wp_cond_false p<|pG o aI d<|h.2 C
   exact wp_cond_true p<|pG m aI d<|h.1 C
  exact h.elim
 |.block id c,aI,M,g,s,a,w,d,h=>by
  refine wp_block (wp_mono (pG c _ d h) λe a w⟨s,g,M,h1,h2⟩=>?_);exact OK
 |.loop c,aI,M,g,s,a,w,d,h=>by
  have⟨f,t⟩:=h;apply wp_loop_rounds f;have x:∀(f:Nat){M:cG}{g:dZ}{s:St}{a:dF}{w:a8},ba w0 M g s a w->zn (λI=>vc P mu c<|je (GK I) aI) f s->Code.rounds P c (LQ w0 aI) f a w:=by
   intro f
   induction f with
   |zero=>intro M g s a w _ h;exact h.elim
   |succ f u=>
    intro M g s a w d h;rw[rounds_succ];refine wp_mono (pG c _ d h) λe a w⟨s,g,M,h1,h2⟩=>?_;cases e
    case normal=>
     have⟨A,z,y,j,k⟩:=h1 _ _ _ _ _ h2;exact u k j
    all_goals exact⟨s,g,M,h1,h2⟩
  exact x f d t
 |.exit id,aI,M,g,s,a,w,d,h=>wp_exit ⟨s,g,M,h,d⟩
 |.ret,aI,M,g,s,a,w,d,h=>wp_ret ⟨s,g,M,h,d⟩
 |.rangeFunc ..,_,_,_,_,_,_,_,h=>h.elim
 |.scope _,_,_,_,_,_,_,_,h=>h.elim
 |.label _,_,_,_,_,_,_,_,h=>h.elim
 |.goto _,_,_,_,_,_,_,_,h=>h.elim
 |.refuse _,_,_,_,_,_,_,_,h=>h.elim
def iF(P:aH)(s:St):lC->Option D
 |.tmp t=>E (s.env t)
 |.cell d t=>um P s t<|s.env d
def d_(P:aH)(s:St)(d:List lC):Option D:=
 match d with
 |[r]=>iF P s r
 |d=>(d.mapM<|iF P s).map .tp
def nF(P:aH)(e:List lC)(r:D):iG->St->Prop
 |.normal,s=>∃d,d_ P s e=E d/\Fz s.H d r
 |.ret,s=>∃d,d_ P s e=E d/\Fz s.H d r
 |_,_=>False
def ej(eF:DL):Nat->D:=λi=>eF.getD i<|.sc<|.tuple #[]
def ma:Nat->sC:=λ_=>Q
def mU(eF:DL)(nt:Nat):St:={env:=ej eF,H:=ma,n:=dY,nt}
def zG(tmps:Array aN):lC->Sem aN
 |.tmp t=>pure (tmps.getD t eX)
 |.cell d t=>do loadVar t (<-asAddr (tmps.getD d eX))
def afe(i:hC)(d:ky):results i d=(do let f<-i.results.mapM (zG d);pure (if k:f.size=1 then f[0]else .tuple f)):=by
 have j:(λh:lC=>(match h with|.tmp e=>pure (d.getD e eX)|.cell a e=>do loadVar e (<-asAddr (d.getD a eX)):Sem aN))=zG d:=by funext h;cases h<;>rfl
 unfold results;rw[<-j];rfl
def Vt(i:ba w0 M g s a w){x:lC}{d:D}(f:iF P s x=E d):
 ∃v,Rd (aR w M g s.n) d v/\(zG a.tmps x).run P w=.ok v w:=by
 cases x with
 |tmp k=>simp only[iF,eH]at f;subst f;exact⟨_,i.env k,C⟩
 |cell h k=>
  simp only[iF]at f;have⟨v,m,o⟩:=T8 (x:=.tmp h) i f;refine⟨v,m,?_⟩;have e:=o w<|Below.refl _ _;simp only[Act.eval]at e;simp only[zG];generalize a.tmps.getD h eX=p at e⊢;simp only[Instr.loadAt,gr]at e;cases p<;>simp only[Instr.sureAddr,stuck,Sem.run]at e
  all_goals first
   |(cases e;done)
   |skip
  rename_i j;obtain _|j:=j
  .simp only[Sem.run,Result.andThen]at e;cases e
  simpa[asAddr]using e
def vS(I:ba w0 M g s a w){i:hC}{d:D}(e:d_ P s i.results.toList=E d):∃v,Rd (aR w M g s.n) d v/\(results i a.tmps).run P w=.ok v w:=by
 have X:∀(l:hV)(h:DL),l.mapM (iF P s)=E h->∃f:VL,A h=A f/\(∀(m:Nat)(d:D)(v:aN),h[m]?=E d->f[m]?=E v->Rd (aR w M g s.n) d v)/\
  (l.mapM<|zG a.tmps).run P w=.ok f w:=by
  intro l
  induction l with
  |nil=>intro h e;simp at e;subst e;exact⟨[],C,Zs,C⟩
  |cons G l x=>
   intro h e;rw[om]at e;simp only[Dg,kU,Dj,eH]at e;obtain⟨d,j,q,k,rfl⟩:=e;have⟨v,B,F⟩:=Vt I j;have⟨f,p,y,z⟩:=x q k;refine⟨v::f,Yr p,λm d v j u=>?_,?_⟩
   .cases m with
    |zero=>simp at j u;subst j;subst u;exact B
    |succ m=>exact y m d v (Yq j) (Yq u)
   rw[om];simp only[gr];rw[F];simp only[il];rw[z];rfl
 have J:∀(f:VL),(i.results.toList.mapM<|zG a.tmps).run P w=.ok f w->
  (results i a.tmps).run P w=.ok (if e:f.toArray.size=1 then f.toArray[0]else .tuple f.toArray) w:=by
  intro f V;rw[afe,gr,<-Array.toArray_toList (xs:=i.results),mapM_toArray,<-bind_pure_comp,gr,V];rfl
 unfold d_ at e;split at e
 .rename_i r U;have⟨v,B,F⟩:=Vt I e;refine⟨v,B,?_⟩;have Y:=J [v] (by rw[U,om];simp only[gr];rw[F];rfl);rw[Y];rfl
 rename_i Z S;simp only[jP]at e;obtain⟨h,k,rfl⟩:=e;have⟨f,p,y,z⟩:=X _ _ k;refine⟨.tuple f.toArray,.tp h f p y,?_⟩;rw[J f z];have R:∀(l:hV)(h:DL),l.mapM (iF P s)=E h->A h=A l:=by
  intro l
  induction l with
  |nil=>intro h e;simp at e;subst e;rfl
  |cons G l x=>
   intro h e;rw[om]at e;simp only[Dg,kU,Dj,eH]at e;obtain⟨d,j,q,k,rfl⟩:=e;simp[x q k]
 have O:¬f.toArray.size=1:=by
  intro L;have o:=R _ _ k;simp only[tw]at L;rw[p,L]at o;rcases t:i.results.toList with _|⟨G,l⟩
  .rw[t]at o;simp at o
  obtain _|⟨aa,l⟩:=l
  .exact S G t
  rw[t]at o;simp at o
 rw[dif_neg O]
def qW(eF:DL)(nt:Nat)(Ts:cf):St:={env:=ej eF,H:=ma,n:=dY,nt,T:=Ts}
theorem ba.start{w:a8}{M:cG}{eF:DL}{vs:VL}{Ts:cf}{k:Nat}(r:Option<|Nat×Nat)(B:r=Q)(p:MB M w)(G:A eF=A vs)(I:A eF<=k)
 (z:∀(i:Nat)(d:D)(v:aN),eF[i]?=E d->vs[i]?=E v->Rd (aR w (λb=>M b\/∃e∈Ts,b∈e.F) (λ_=>Q) dY) d v)
 (m:∀e∈Ts,T1 w e.d e.u e.F/\∀b∈e.F,¬M b) (y:(bl Ts).Nodup):
 ba (p5 w M λb=>∃e∈Ts,b∈e.F) (λb=>M b\/∃e∈Ts,b∈e.F) (λ_=>Q) (qW eF k Ts) {tmps:=vs.toArray++Array.replicate (k-vs.toArray.size) eX,defers:=[]} w:=by
 refine⟨C,by simp[qW];omega,λi=>?_,by simp[qW,ma],Zs,Zs,⟨C,C,C,bJ _,λ_ _=>C,bJ _⟩,λb h=>⟨?_,Zs⟩,λb=>sj,λb h o=>?_,λe f=>⟨(m e f).1,λb j=>.inr ⟨e,f,j⟩⟩,y,.none C,λ_ _=>kT _⟩
 .show Rd _ (eF.getD i<|.sc<|.tuple #[]) _;by_cases q:i<A eF
  .have h1:eF[i]?=E eF[i]:=bL q;have h2:vs[i]?=E (vs[i]'Zo):=bL Zo;have:=z i _ _ h1 h2;show Rd (aR w (λb=>M b\/∃e∈Ts,b∈e.F) (λ_=>Q) dY) _ _;exact NQ
  have t:eF.getD i (.sc<|.tuple #[])=.sc (.tuple #[]):=by simp[List.getD,sq<|Nat.le_of_not_lt q]
  have x:(vs.toArray++Array.replicate (k-vs.toArray.size) eX).getD i eX=eX:=by
   rw[kQ,CS ch];exact Zg
  rw[t,x];exact .sc eX
 .obtain h|⟨e,f,j⟩:=h
  .exact p b h
  exact(m e f).1.lt b j
 obtain o|⟨e,f,j⟩:=o
 .have:w.heap.size<=b:=o;have:=p b h;omega
 exact(m e f).2 b j h
theorem Sp.ey{m:bI}{f:hC}{c:dJ}{j:DL}{r:D}{k:Nat}(mu:ax)(q:hV)(p:P.funcs[m]?=E f)(o:f.body=E c)(F:(f.name== "runtime.NumGoroutine")=af)
 (G:f.ntmps=k) (I:f.results.toList=q) (B:A j<=k) (x:vc P mu c (nF P q r)<|mU j k):Sp P m j r:=by
 subst I;refine⟨⟨f,p,F,Yf o⟩,λw M Y y z J=>?_⟩;subst G;refine calls_of_wp p o (wp_mono (pG c _ (ba.start (Ts:=[]) Q C y z B (λO d v hd L=>(J O d v hd L).mono (oU λb=>cq)) Zs Zs) x) λe a i⟨t,X,V,h1,h⟩=>?_);have fin:∀d,d_ P t f.results.toList=E d->Fz t.H d r->a.defers=[]/\∃v,(results f a.tmps).run P i=.ok v i/\∃u,Ending.returned v=.returned u/\pK w.heap.size w i/\Rd (aR i M (λ_=>Q) dY) r u:=by
  intro d hd hz;have⟨v,S,U⟩:=vS h hd;exact⟨h.defers,v,U,v,C,tQ h.below Zs,(Rd.freeze h hz S).mono (oU λb R=>(h.mm b).2<|.inl R)⟩
 exact IM
abbrev Us:=List<|TE⊕Nat
def o7(g:Nat->Option (Nat×Nat×Nat)):TE⊕Nat->List Nat
 |.inl d=>d.F
 |.inr t=>match g t with|some (_,b,_)=>[b]|none=>[]
def fp:Us->List TE
 |[]=>[]
 |.inl d::us=>d::fp us
 |.inr _::us=>fp us
def iw:Us->List Nat
 |[]=>[]
 |.inl _::us=>iw us
 |.inr t::us=>t::iw us
def B1{d:TE}:∀{us:Us},Sum.inl d∈us↔d∈fp us
 |[]=>by simp[fp]
 |.inl f::us=>by simp[fp,B1 (us:=us)]
 |.inr e::us=>by simp[fp,B1 (us:=us)]
def KV{d:Nat}:∀{us:Us},Sum.inr d∈us↔d∈iw us
 |[]=>uV
 |.inl e::us=>by simp[iw,KV (us:=us)]
 |.inr d::us=>by simp[iw,KV (us:=us)]
inductive C1 (H:Nat->Option Ob):D->D->Us->Prop
 |sc (v:aN):C1 H (.sc v) (.sc v) []
 |tr (e:TE):C1 H (.sc e.u) e.d [.inl e]
 |nil (sz:Nat):C1 H (.sc (.slice Q 0 0)) (.sl sz []) []
 |gv (sz:Nat):C1 H (.sl sz []) (.sl sz []) []
 |ms (t:Nat) (ob:Ob) (aq:List (List D)) (es:Nat->D) (f:Nat->Us) (o:H t=E ob) (k:ob.keys=Q) (p:0<ob.sz) (m:∀r∈aq,A r=ob.sz)
  (i:∀(j:Nat)(d:D),(ao aq)[j]?=E d->ob.cells[j]?=E (es j)) (h:∀(j:Nat)(d:D),(ao aq)[j]?=E d->C1 H (es j) d (f j)):
  C1 H (.ms t ob.gen (A aq)) (.sl ob.sz aq) (.inr t::(cz (A (ao aq))).flatMap f)
inductive CL (R:D->D->Us->Prop):List D->List D->Us->Prop
 |nil:CL R [] [] []
 |cons {d e:D} {us:Us} {ds es:List D} {Ma:Us} (h:R d e us) (t:CL R ds es Ma):CL R (d::ds) (e::es) (us++Ma)
inductive C2 (H:Nat->Option Ob):D->D->Us->Prop
 |one {d e:D} {us:Us} (h:C1 H d e us):C2 H d e us
 |ag {ds es:List D} {us:Us} (h:CL (C1 H) ds es us):C2 H (.ag ds) (.ag es) us
inductive C3 (H:Nat->Option Ob):D->D->Us->Prop
 |one {d e:D} {us:Us} (h:C2 H d e us):C3 H d e us
 |tp {ds es:List D} {us:Us} (h:CL (C2 H) ds es us):C3 H (.tp ds) (.tp es) us
theorem C1.sound(J:ba w0 M g s a w){d B:D}{us:Us}(C:C1 s.H d B us):(∀j∈fp us,j∈s.T)->∀{v:aN},Rd (aR w M g s.n) d v->T1 w B v (us.flatMap<|o7 g):=by
 induction C with
 |sc v=>intro _ v f;cases f;exact .sc _
 |tr j=>
  intro q v f;cases f;have x:=(J.tree j<|q j (by simp[fp])).1;simpa[o7]using x
 |nil i=>intro _ v f;cases f;exact .nil i
 |gv i=>
  intro _ v f;generalize V:D.sl i []=d at f;cases f<;>cases V
  .exact .nil i
  .rename_i a k r;exact .gv i a k r
  rename_i r _ _ _ _;exact .gv i _ _ r
 |ms u m o L z aa I ab Z h1 C ah=>
  intro q v f;have⟨al,b,c,y,G,Y,ae,S,am,U⟩:=J.obj u m aa;cases f with|ms _ _ _ ak k _ f=>
  obtain⟨rfl,rfl⟩:=f b c G;have F (e:Nat) (d:D) (h:(ao o)[e]?=E d):∃p,y[e]?=E p/\Rd (aR w M g s.n) (L e) p:=U _ _<|h1 e d h;have X:g u=E (m.gen,b,k):=G;have O:(Sum.inr u::(cz<|A<|ao o).flatMap z:Us).flatMap (o7 g)=b::(cz<|A<|ao o).flatMap λe=>(z e).flatMap<|o7 g:=by
   rw[tq,flatMap_assoc];simp[o7,X]
  rw[O];refine .sl m.sz o b k y m.elem (λe=>y.getD e eX) _ (Y.cells I) Zg S (ae I) ab Z (λe d h=>?_) λe d h=>?_
  .have⟨p,t,_⟩:=F e d h;simp[kQ,t]
  have⟨p,t,R⟩:=F e d h;have x:=ah e d h (λj ad=>q j<|B1.1<|mo _<|Da.2 ⟨e,oo.2 (dX.1 h).1,B1.2 ad⟩) R;simpa[kQ,t]using x
def Rq{R:D->D->Us->Prop}{aI:D->aN->List Nat->Prop}{q:View}(u:TE->Prop)(C:∀d r us,R d r us->(∀f∈fp us,u f)->∀v,Rd q d v->aI r v (us.flatMap<|o7 g)){j t:DL}{us:Us}(k:CL R j t us):
 (∀f∈fp us,u f)->∀(e:VL),A j=A e->(∀(i:Nat)(d:D)(v:aN),j[i]?=E d->e[i]?=E v->Rd q d v)->TL aI t e (us.flatMap<|o7 g):=by
 have y:∀(a b:Us),fp (a++b)=fp a++fp b:=by
  intro a b
  induction a with
  |nil=>rfl
  |cons F a o=>cases F<;>simp[fp,o]
 induction k with
 |nil=>intro _ e h _;cases e with|nil=>exact .nil|cons=>simp at h
 |cons k _ o=>
  intro m e h x;obtain _|⟨v,e⟩:=e
  .simp at h
  rw[MH];rw[y]at m;exact .cons (C _ _ _ k (λf p=>m f<|gf _ p) v<|x 0 _ _ Zs Zs) (o (λf p=>m f<|gq _ p) e (Yq h) λi d v z B=>x (i+1) d v (Yq z)<|Yq B)
def C2.sound(j:ba w0 M g s a w){d i:D}{us:Us}(e:C2 s.H d i us)(h:∀m∈fp us,m∈s.T){v:aN}(f:Rd (aR w M g s.n) d v):T2 w i v<|us.flatMap<|o7 g:=by
 cases e with
 |one e=>exact .one (e.sound j h f)
 |ag e=>cases f with|ag _ o k f=>exact .ag (Rq (·∈s.T) (λd i us e h v f=>e.sound j h f) e h o k f)
def C3.sound(j:ba w0 M g s a w){d i:D}{us:Us}(e:C3 s.H d i us)(h:∀m∈fp us,m∈s.T){v:aN}(f:Rd (aR w M g s.n) d v):T3 w i v<|us.flatMap<|o7 g:=by
 cases e with
 |one e=>exact .one (e.sound j h f)
 |tp e=>cases f with|tp _ o k f=>exact .tp (Rq (·∈s.T) (λd i us e h v f=>e.sound j h f) e h o k f)
def KU(m:ba w0 M g s a w):∀(us:Us),(∀e∈fp us,e∈s.T)->∀b∈us.flatMap (o7 g),(M b/\∃e∈fp us,b∈e.F)\/∃t f c,t∈iw us/\g t=E (f,b,c):=λus k b d=>by
 have⟨o,i,d⟩:=Da.1 d;obtain e|t:=o
 .have h:=B1.1 i;exact .inl ⟨(m.mm b).2<|.inr ⟨e,k e h,d⟩,e,h,d⟩
 simp only[o7]at d;split at d
 .rename_i f p c j;simp only[dg]at d;subst d;exact .inr ⟨t,f,c,KV.1 i,j⟩
 cases d
def K4(d:ba w0 M g s a w):∀(us:Us),(∀j∈fp us,j∈s.T)->(bl<|fp us).Nodup->(iw us).Nodup->(us.flatMap<|o7 g).Nodup
 |[],_,_,_=>by simp
 |.inl j::us,h,p,q=>by
  have z k (i:k∈fp us):k∈s.T:=h k (by simp[fp,i]);have m:(j.F++bl (fp us)).Nodup:=by simpa[fp,bl]using p
  rw[iQ]at m;rw[tq,iQ];refine⟨m.1,K4 d us z m.2.1 q,λf e G r o=>?_⟩;subst o;obtain⟨_,k,t,u⟩|⟨A,D,c,_,i⟩:=KU d us z f r
  .exact m.2.2 f e f (k8.2 ⟨k,t,u⟩) C
  exact(d.m0 f<|(d.mm f).2<|.inr ⟨j,h j (by simp[fp]),e⟩).2 _ _ _ i
 |.inr A::us,h,p,q=>by
  have x:=lg.1 (show(A::iw us).Nodup from q);rw[tq,iQ];refine⟨?_,K4 d us h p x.2,λf e G r o=>?_⟩
  .simp only[o7];split<;>simp
  subst o;simp only[o7]at e;split at e
  .rename_i D I J y;simp only[dg]at e;subst e;obtain⟨i,_⟩|⟨L,O,c,t,u⟩:=KU d us h f r
   .exact(d.m0 f i).2 _ _ _ y
   have B:=d.inj _ _ _ _ _ _ _ y u;subst B;exact x.1 t
  cases e
def mF(Ts:cf)(ds:DL)(r:D)(s:St)(d:D):Prop:=
 ∃(us:Us)(rest:cf),C3 s.H d r us/\s.T.Perm (i7 Ts ds++fp us++rest)/\(iw us).Nodup
def xI(P:aH)(e:List lC)(Ts:List TE)(ds:List D)(r:D):iG->St->Prop
 |.normal,s=>∃d,d_ P s e=E d/\mF Ts ds r s d
 |.ret,s=>∃d,d_ P s e=E d/\mF Ts ds r s d
 |_,_=>False
def dR.ey{J:bI}{j:hC}{c:dJ}{x:DL}{h:cf}{i:DL}{r:D}{G:Nat}(mu:ax)(V:hV)(O:P.funcs[J]?=E j)(p:j.body=E c)(ah:(j.name== "runtime.NumGoroutine")=af)
 (am:j.ntmps=G) (an:j.results.toList=V) (ae:A x<=G) (R:A i=h.length) (Y:vc P mu c (xI P V h i r)<|qW x G h):dR P J x h i r:=by
 subst an;refine⟨⟨j,O,ah,Yf p⟩,R,λw M aA Z ad ap ao ak=>?_⟩;subst am;refine calls_of_wp O p (wp_mono (pG c _ (ba.start Q C Z ad ae ap ao ak) Y) λe a o⟨I,ay,av,h1,f⟩=>?_);have fin:∀d,d_ P I j.results.toList=E d->mF h i r I d->a.defers=[]/\∃v,(results j a.tmps).run P o=.ok v o/\∃X,Ending.returned v=.returned X/\(p5 w M λb=>∃e∈h,b∈e.F).Ok o/\(∀e∈i7 h i,T1 o e.d e.u e.F)/\∃F,T3 o r X F/\F.Nodup/\∀b∈F,w.heap.size<=b:=by
  rintro d hd⟨us,aq,ab,t,al⟩;have⟨v,ar,au⟩:=vS f hd;have q m (k:m∈fp us):m∈I.T:=t.mem_iff.2<|Yr k;have z:(bl<|i7 h i++fp us++aq).Nodup:=(t.flatMap_right _).nodup f.nd;rw[qy,qy,iQ,iQ]at z;have L b (k:(∃e∈h,b∈e.F)):b∈bl (i7 h i):=by rw[G0 h i R];exact k8.2 k
  refine⟨f.defers,v,au,v,C,⟨f.below.os,f.below.tape,f.below.output,f.below.size,f.below.block,f.below.dr⟩,λe y=>(f.tree e<|t.mem_iff.2<|Yr y).1,_,ab.sound f q ar,K4 f us q z.1.2.1 al,λb p=>?_⟩;obtain⟨_,m,S,U⟩|⟨az,aB,c,_,k⟩:=KU f us q b p
  .obtain k|k:=(f.tree m<|q m S).2 b U
   .exact k
   exact absurd C (z.1.2.2 b (L b k) b<|k8.2 ⟨m,S,U⟩)
  obtain B|B:=(f.base _ _ _ _ k).1
  .exact B
  have⟨e,y,aa⟩:=k8.1<|L b B;exact absurd k<|(f.m0 b<|(f.mm b).2<|.inr ⟨e,t.mem_iff.2<|Yr y,aa⟩).2 _ _ _
 exact IM
def G2(P:aH)(mu:ax)(c:dJ)(aI:gg):St->Prop:=vc P mu c aI
def Gh(P:aH)(mu:ax)(ops:List<|ON)(l:kB)(K:aU):St->Prop:=nK P mu ops l K
def Gi(P:aH)(ops:List<|ON)(l:kB)(K:aU):St->Prop:=z' P ops l K
def eC(P:aH)(mu:ax)(op:gC)(dst:ON)(K:aU):St->Prop:=e_ P mu op dst K
def UY(P:aH)(op:gC)(dst:ON)(K:aU):St->Prop:=v' P op dst K
def Cf(aI:gg)(e:iG):St->Prop:=aI e
def oG(P:aH)(mu:ax)(c:dJ)(aI:gg)(s:St):Prop:=Ua (vc P mu c) aI s
variable{P:aH}{mu:ax}{ops:List (ON)}{l:kB}{K:aU}{aI:gg}{s:St}{a b c:dJ}{op:gC}{dst:ON}
def ahR:G2 P mu c aI s=vc P mu c aI s:=cQ C C
def aeF:Gh P mu ops l K s=nK P mu ops l K s:=cQ C C
def aeG:Gi P ops l K s=z' P ops l K s:=cQ C C
def aey:eC P mu op dst K s=e_ P mu op dst K s:=cQ C C
def aez:UY P op dst K s=v' P op dst K s:=cQ C C
def aeP{d:iG}:Cf aI d s=aI d s:=cQ C C
def aie:vc P mu .skip aI s=aI .normal s:=cQ C C
def aib{id:Nat}{d:io}:vc P mu (.region id d af) aI s=nK P mu (hJ d.toList) d.toList (Cf aI .normal) s:=cQ C C
def ah8{id:Nat}{d:io}(_:F5 d.toList=W):vc P mu (.region id d W) aI s=ub P mu d (Cf aI .normal) s:=cQ C C
def aid:vc P mu (.seq a b) aI s=vc P mu a (je (G2 P mu b aI) aI) s:=cQ C C
def ah6{d:gK}:vc P mu (.cond d a b) aI s=qD (s.ev d) (G2 P mu a aI) (G2 P mu b aI) s:=cQ C C
def ah5{id:Nat}:vc P mu (.block id c) aI s=vc P mu c (qz id aI) s:=cQ C C
def aia:vc P mu (.loop c) aI s=oG P mu c aI s:=cQ C C
def ah9{id:Nat}:vc P mu (.exit id) aI s=aI (.exit id) s:=cQ C C
def aic:vc P mu .ret aI s=aI .ret s:=cQ C C
def aeM:nK P mu ops [] K s=K s:=cQ C C
def aeK{d:ON}{ty:a6}{pos:String}{f:Array Edge}{e:kB}:nK P mu ops (⟨d,op,ty,pos,f,Q⟩::e) K s=za (gh mu d) (eC P mu op d<|Gh P mu ops e K) s:=cQ C C
def aaR{d:ON}:gh [] d=af:=cQ C C
def aaS{d:Nat}{l:ax}:gh (d::l) Q=af:=cQ C C
def aaQ{e d:Nat}{l:ax}:gh (e::l) (E d)=(e==d+1000000||gh l (E d)):=cQ C C
def aaO{d:aU}:za af d s=d s:=cQ C C
def aaP{d:aU}:za W d s=GK d s:=cQ C C
def aeL{d:ON}{ty:a6}{pos:String}{i:Array Edge}{e:kB}{f:Nat}{h:Bool}:
 nK P mu ops (⟨d,op,ty,pos,i,E (f,h)⟩::e) K s=jG (nZ ops s f) h (eC P mu op d<|Gh P mu ops e K) (vT d<|Gh P mu ops e K) s:=cQ C C
def aeJ:z' P ops [] K s=K s:=cQ C C
def aeH{d:ON}{ty:a6}{pos:String}{f:Array Edge}{e:kB}:z' P ops (⟨d,op,ty,pos,f,Q⟩::e) K s=v' P op d (Gi P ops e K) s:=cQ C C
def aeI{d:ON}{ty:a6}{pos:String}{i:Array Edge}{e:kB}{f:Nat}{h:Bool}:
 z' P ops (⟨d,op,ty,pos,i,E (f,h)⟩::e) K s=jG (nZ ops s f) h (UY P op d<|Gi P ops e K) (vT d<|Gi P ops e K) s:=cQ C C
def GN{next:aU}:je next aI .normal s=next s:=cQ C C
def agT{next:aU}{id:Nat}:je next aI (.exit id) s=aI (.exit id) s:=cQ C C
def agU{next:aU}:je next aI .ret s=aI .ret s:=cQ C C
def XU{id:Nat}:qz id aI .normal s=aI .normal s:=cQ C C
def XV{id:Nat}:qz id aI .ret s=aI .ret s:=cQ C C
def XT{id d:Nat}:qz id aI (.exit d) s=if d=id then aI .normal s else aI (.exit d) s:=cQ C C
def afR{k:fL}{h:a'}{m:bi}{e f:Nat}{j:cf}{i:Nat}{d:D}(o:f<e):St.put ⟨k,h,m,e,j,i⟩ (E f) d=⟨aw k f d,h,m,e,j,i⟩:=by simp[St.put,o]
def afS{s:St}{d:D}:St.put s Q d=s:=cQ C C
def ae2{d:D}:nC s dst K (E d)=K (s.put dst d):=cQ C C
def adQ{h:Nat}{e:Prop}{f:St}{d:D}:n_ h K (E (e,f,d))=(e/\K (f.put (E h) d)):=cQ C C
def af3{d:Prop}{e:St}:vV dst K (E (d,e))=(d/\K (e.put dst<|.sc<|.tuple #[])):=cQ C C
def afF:vT dst K s=K (s.put dst<|.sc<|.tuple #[]):=cQ C C
theorem oC{b d:Bool}{f skip:aU}{s:St}(h:b=d->f s)(i:b=!d->skip s):jG (.sc<|.bool b) d f skip s:=by
 unfold jG;by_cases e:b=d
 .simpa[e]using h e
 simp only[e,bT];exact i (by cases b<;>cases d<;>simp_all)
def aa0{d skip:aU}{s:St}:jG (.sc<|.bool W) W d skip s=d s:=by simp[jG]
def aaW{d skip:aU}{s:St}:jG (.sc<|.bool af) af d skip s=d s:=by simp[jG]
def aaZ{d skip:aU}{s:St}:jG (.sc<|.bool W) af d skip s=skip s:=by simp[jG]
def aaX{d skip:aU}{s:St}:jG (.sc<|.bool af) W d skip s=skip s:=by simp[jG]
def aa1{f:Bool}{d skip:aU}{s:St}{e:ky}:jG (.sc<|.tuple e) f d skip s=skip s:=cQ C C
def Zq{d e:aU}{s:St}:qD (.sc<|.bool W) d e s=d s:=by simp[qD]
def Zp{e d:aU}{s:St}:qD (.sc<|.bool af) e d s=d s:=by simp[qD]
def Fz.aK{e:a'}{b d:Bool}(h:b=d):Fz e (.sc<|.bool b)<|.sc<|.bool d:=IA
def Fz.di{i:a'}{d:IntKind}{f e:Int}(h:f=e):Fz i (.sc<|.int d f)<|.sc<|.int d e:=IA
def Fz.val{f:a'}{e d:aN}(h:e=d):Fz f (.sc e)<|.sc d:=IA
def Fz.lR{f:a'}{d e:D}(h:d=e)(i:Cl d):Fz f d e:=by rw[<-h];exact .cl _ i
theorem Fz.lT{e:a'}{a b f h:D}(j:Fz e a f)(p:Fz e b h):Fz e (.tp [a,b])<|.tp [f,h]:=
 .tp _ _ C λo d i k m=>Zg
def fx{b:Bool}{d e:aU}{s:St}(f:b=W->d s)(h:b=af->e s):qD (.sc<|.bool b) d e s:=⟨f,h⟩
def bR{P:aH}{s:St}{e:bI}{aW aV args:DL}{dst:ON}{K:aU}(r:D)(f:Sp P e (aW++args++aV) r)(i:∀d∈aW++args++aV,Cl d)(h:K<|s.put dst r):
 jU P s (.fn e aW aV) args dst K:=.inl ⟨r,.inl ⟨f,λ_ d j=>i d<|fE j⟩,h⟩
def fS{P:aH}{s:St}{e:bI}{aW aV args:DL}{dst:ON}{K:aU}(r:D)(f:Sp P e (aW++args++aV) r)(i:∀d∈aW++args++aV,Cl d)(_:r=r)(h:K<|s.put dst r):
 wR P s (.fn e aW aV) args dst K:=⟨r,.inl ⟨f,λ_ d j=>i d<|fE j⟩,h⟩
theorem Yj{P:aH}{s:St}{e:bI}{aW aV args:DL}{dst:ON}{K:aU}(bs:DL)(r:D)(i:Sp P e bs r)(o:A bs=A (aW++args++aV))
 (m:∀f∈(aW++args++aV).zip bs,Fb s.H s.T f.1 f.2) (k:(sW r).isSome=W) (j:K<|s.put dst r):wR P s (.fn e aW aV) args dst K:=
 ⟨r,.inr ⟨bs,o,λp d h q t=>m (d,h)<|jg.2 ⟨p,cq⟩,i,k⟩,j⟩
def adt{F:(aU)->aU}(j:∀(I i:aU)(s:St),(∀s,I s->i s)->F I s->F i s)(I:aU)(h:St->Nat){s:St}(k:I s)(round:∀s,I s->F (λe=>I e/\h e<h s) s):T_ F s:=by
 have r:∀d s,h s<=d->I s->zn F (d+1) s:=by
  intro d
  induction d with
  |zero=>
   exact λs p f=>j _ _ s (λe⟨_,o⟩=>by omega)<|round s f
  |succ d q=>
   exact λs p f=>j _ _ s (λe⟨m,o⟩=>q e Zo m)<|round s f
 exact⟨_,r _ s (bJ _) k⟩
def z8{P:aH}{mu:ax}{op:gC}{dst:ON}{K f:aU}(i:∀s,K s->f s){s:St}(h:e_ P mu op dst K s):e_ P mu op dst f s:=by
 have x e (h:nC s dst K e):nC s dst f e:=by cases e<;>first|exact h|exact i _ h
 have j t e (h:n_ t K e):n_ t f e:=by
  obtain _|q:=e
  .exact h
  exact⟨h.1,i _ h.2⟩
 have y e (h:vV dst K e):vV dst f e:=by
  obtain _|q:=e
  .exact h
  exact⟨h.1,i _ h.2⟩
 have J k args (h:jU P s k args dst K):jU P s k args dst f:=by
  unfold jU at*;split at h
  .obtain⟨r,m,o⟩|⟨I,G,ak,O,r,m,o,U,V,X⟩|h:=h
   rotate_left 2
   .refine .inr (.inr λw0 M g a w R ab al aa ae=>?_);have⟨p,u⟩:=h w0 M g a w R ab al aa ae;exact⟨p,u.mono λz an⟨v,d,A,ah,C,S,B,Z,ad,Y,q⟩=>⟨v,d,A,ah,C,S,B,Z,ad,Y,i _ q⟩⟩
   .exact .inl ⟨r,m,i _ o⟩
   exact .inr<|.inl ⟨I,G,ak,O,r,m,o,U,V,λz D h=>let⟨F,p,u⟩:=X z D h;⟨F,p,i _ u⟩⟩
  exact h
 cases op
 case call c=>
  have⟨L,args,am⟩:=c;cases L
  case value k=>(simp only[e_]at h⊢;exact J _ _ h)
  case builtin b=>
   cases b
   case append=>
    obtain _|t:=dst
    .exact h
    (simp only[e_]at h⊢;exact j _ _ h)
   all_goals(simp only[e_]at h⊢;exact x _ h)
  all_goals(simp only[e_]at h⊢;exact x _ h)
 case store=>(simp only[e_]at h⊢;exact y _ h)
 case mapUpdate=>(simp only[e_]at h⊢;exact y _ h)
 case insert=>(simp only[e_]at h⊢;exact y _ h)
 case box=>cases dst with|none=>exact h|some t=>(simp only[e_]at h⊢;exact j _ _ h)
 case alloc=>cases dst with|none=>exact h|some t=>(simp only[e_]at h⊢;exact j _ _ h)
 case makeMap=>cases dst with|none=>exact h|some t=>(simp only[e_]at h⊢;exact j _ _ h)
 case buildSlice=>cases dst with|none=>exact h|some t=>(simp only[e_]at h⊢;exact j _ _ h)
 case makeSlice=>cases dst with|none=>exact h|some t=>(simp only[e_]at h⊢;exact j _ _ h)
 all_goals(simp only[e_]at h⊢;exact x _ h)
theorem aaY{d:D}{j:Bool}{f h skip i:aU}{s:St}(m:f s->h s)(k:skip s->i s)(e:jG d j f skip s):jG d j h i s:=by
 unfold jG at*;split at e
 .exact Zg
 .exact k e
 exact e
def CP{P:aH}{mu:ax}{ops:List (ON)}{K j:aU}(e:∀s,K s->j s):∀(l:kB){s:St},nK P mu ops l K s->nK P mu ops l j s
 |[],s,d=>e s d
 |m::f,s,d=>by
  simp only[nK]at d⊢;split
  .rename_i i;simp only[i]at d;unfold za at d⊢;split
   .rename_i h;simp only[h]at d;exact GK.mono (λs d=>z8 (λs=>CP e f) d) d
   rename_i h;simp only[h]at d;exact z8 (λs=>CP e f) d
  rename_i k o i;simp only[i]at d;exact aaY (z8 λs=>CP e f) (CP e f) d
def JL{P:aH}{ops:io}{K d:aU}(f:∀s,K s->d s){s:St}(e:vn P ops K s):vn P ops d s:=
 ⟨e.1,λw0 M g a w aI h i=>e.2 w0 M g a w aI (λa w⟨s,g,M,j,k⟩=>h a w ⟨s,g,M,f _ j,k⟩) i⟩
theorem lW{P:aH}{mu:ax}:∀(c:dJ){aI i:gg}(_:∀e s,aI e s->i e s){s:St},vc P mu c aI s->vc P mu c i s
 |.skip,_,_,d,s,h=>d _ _ h
 |.region id ops m,_,_,d,s,h=>by
  obtain _|_:=m
  .exact CP (d .normal) _ h
  exact JL (d .normal) h
 |.seq j k,_,_,d,s,h=>lW j (λe s h=>by
  cases e
  case normal=>exact lW k d h
  all_goals exact d _ _ h) h
 |.cond c j k,_,_,d,s,h=>by
  simp only[vc,qD]at h⊢;split
  .rename_i b o;simp only[o]at h;exact⟨λe=>lW j d<|h.1 e,λe=>lW k d<|h.2 e⟩
  exact Zg
 |.block id c,_,_,d,s,h=>lW c (λe s h=>by
  cases e
  case exit t=>
   simp only[qz]at h⊢;split
   .exact Zg
   exact Zg
  all_goals exact d _ _ h) h
 |.loop c,aI,i,d,s,h=>by
  have⟨f,p⟩:=h;refine⟨f,?_⟩;have r:∀f s,zn (λI=>vc P mu c<|je (GK I) aI) f s->zn (λI=>vc P mu c<|je (GK I) i) f s:=by
   intro f
   induction f with
   |zero=>intro s h;exact h
   |succ f q=>
    exact λs h=>lW c (λe s h=>by
     cases e
     case normal=>exact GK.mono (λs h=>q s h) h
     all_goals exact d _ _ h) h
  exact r f s p
 |.exit id,_,_,d,s,h=>d _ _ h
 |.ret,_,_,d,s,h=>d _ _ h
 |.rangeFunc ..,_,_,_,_,h=>h.elim
 |.scope _,_,_,_,_,h=>h.elim
 |.label _,_,_,_,_,h=>h.elim
 |.goto _,_,_,_,_,h=>h.elim
 |.refuse _,_,_,_,_,h=>h.elim
def Ub{P:aH}{mu:ax}{c:dJ}{aI:gg}(I:aU)(e:St->Nat){s:St}(k:I s)(m:∀s,I s->vc P mu c (je (GK λh=>I h/\e h<e s) aI) s):
 oG P mu c aI s:=
 adt (F:=λf=>vc P mu c<|je (GK f) aI) (λI f s j d=>lW c (λi s d=>by
  cases i
  case normal=>exact GK.mono j d
  all_goals exact d) d) I e k m
def adw{P:aH}{mu:ax}{c:dJ}{aI:gg}(I:aU)(d:St->Nat){s:St}(j:I s)(round:∀s,I s->vc P mu c (je (λf=>I f/\d f<d s) aI) s):
 oG P mu c aI s:=
 Ub I d j λs i=>lW c (λh s e=>by
  cases h
  case normal=>exact GK.cM e
  all_goals exact e)<|round s i
def Inv(nt:Nat)(d:List<|Nat×D)(p:Prop)(s:St):Prop:=s.nt=nt/\(∀x∈d,s.env x.1=x.2)/\p
def Hs(nt:Nat)(d:List<|Nat×D)(p:(a')->(fL)->(bi)->Prop)(s:St):Prop:=s.nt=nt/\(∀x∈d,s.env x.1=x.2)/\p s.H s.env s.n
def uu(e k len:Nat)(d:Nat->aU)(s:St):Prop:=s.env e=.sc (.int .i64 ((k+1:Nat):Int))/\k<len/\d (k+1) s
def F9(d:aU)(e:St->Nat)(m:Nat)(s:St):Prop:=d s/\e s<m
def l'{P:aH}{mu:ax}{c:dJ}{aI:gg}{s:St}(d:aU)(e:St->Nat)(f:d s)(h:∀s,d s->vc P mu c (je (F9 d e<|e s) aI) s):oG P mu c aI s:=
 adw d e f h
def ad5(e k len:Nat)(d:Nat->aU):St->Prop:=GK<|uu e k len d
theorem adv{P:aH}{mu:ax}{c:dJ}{aI:gg}{s:St}(e i:Nat)(f:Nat->aU)(m:s.env e=.sc (.int .i64 0))(j:f 0 s)
 (round:∀(d:Nat)(s:St),d<=i->s.env e=.sc (.int .i64 (d:Int))->f d s->vc P mu c (je (ad5 e d i f) aI) s):oG P mu c aI s:=by
 refine Ub (λs=>∃d:Nat,d<=i/\s.env e=.sc (.int .i64 (d:Int))/\f d s) (λs=>match s.env e with|.sc (.int _ r)=>i-r.toNat|_=>0) ⟨0,kT _,m,j⟩ ?_;rintro s⟨d,p,q,o⟩;refine lW c (λk t h=>?_)<|round d s p q o;cases k
 case normal=>
  refine GK.mono (λt h=>?_) h;have⟨j,u,x⟩:=h;exact Zg
 all_goals exact h
def jH{P:aH}{mu:ax}{c:dJ}{aI:gg}{s:St}(f h:Nat)(e:Nat->aU)(j:s.env f=.sc (.int .i64 0))(k:e 0 s)
 (round:∀(d:Nat)(s:St),d<=h->s.env f=.sc (.int .i64 (d:Int))->e d s->vc P mu c (je (uu f d h e) aI) s):oG P mu c aI s:=
 adv f h e j k λd s o p m=>lW c (λi s d=>by
  cases i
  case normal=>exact GK.cM d
  all_goals exact d)<|round d s o p m
def ov(d:List<|Nat×D)(e:Nat->D)(t:Nat):D:=match d with
 |[]=>e t
 |x::r=>if t=x.1 then x.2 else ov r e t
@[simp] theorem eQ (d:fL) (e:Nat):ov [] d e=d e:=cQ C C
@[simp] def e7 (a:Nat) (v:D) (l:List<|Nat×D) (e:fL) (d:Nat):ov ((a,v)::l) e d=if d=a then v else ov l e d:=cQ C C
attribute [go_sem] eQ e7
def U4{f:List (Nat×D)}{e:fL}(i:∀d∈f,e d.1=d.2):ov f e=e:=by
 induction f with
 |nil=>rfl
 |cons d r k=>
  funext h;show(if h=d.1 then d.2 else ov r e h)=e h;rw[k λo j=>i o<|mo _ j];split
  .rename_i m;rw[m];exact(i d Zs).symm
  rfl
class yg (Xd:Nat->St->Prop) (nt:outParam Nat) (fs:outParam (Nat->List (Nat×D))) (p:outParam (Nat->(Nat->D)->(Nat->Option Ob)->(Nat->Nat)->List TE->Nat->Prop)):Prop where
 out:∀q s,Xd q s->s.nt=nt/\(∀x∈fs q,s.env x.1=x.2)/\p q s.env s.H s.n s.T s.N
theorem fG{P:aH}{mu:ax}{c:dJ}{aI:gg}{s:St}(f i:Nat)(e:Nat->aU){r:Nat}{p:Nat->List (Nat×D)}{t:Nat->(fL)->(a')->(bi)->List TE->cG}[y:yg e r p t](u:s.env f=.sc (.int .i64 0))(h:e 0 s)
 (B:∀(d:Nat)(o:fL)(j:a')(q:bi)(m:cf)(k:Nat),d<=i->t d o j q m k->vc P mu c (je (uu f d i e) aI) ⟨ov ((f,.sc<|.int .i64 (d:Int))::p d) o,j,q,r,m,k⟩):oG P mu c aI s:=
 jH f i e u h λd s A G z=>by
  have⟨h,F,x⟩:=y.out d s z;have C:=B d s.env s.H s.n s.T s.N A x;rwa[U4 Zg,<-h]at C
instance(nt:Nat)(d:Nat->List (Nat×D))(p:Nat->Prop):yg (λq=>Inv nt (d q) (p q)) nt d λq _ _ _ _ _=>p q:=⟨λ_ _ h=>h⟩
instance(nt:Nat)(d:Nat->List (Nat×D))(p:Nat->(Nat->Option Ob)->(Nat->D)->(Nat->Nat)->Prop):yg (λq=>Hs nt (d q) (p q)) nt d λq e H n _ _=>p q H e n:=⟨λ_ _ h=>h⟩
def aiR{P:aH}{mu:ax}{c:dJ}{aI:gg}{s:St}:oG P mu c aI s=oG P mu c aI s:=rfl
def jW{h d f:Nat}{e:Nat->aU}{s:St}(i:s.env h=.sc (.int .i64 ((d+1:Nat):Int)))(j:d<f)(k:e (d+1) s):uu h d f e s:=⟨i,j,k⟩
def nn(d:Nat):(0<=(d:Int))=True:=dM<|Int.natCast_nonneg d
theorem gJ(d:Nat)(f:(d:Int)<9223372036854775807):cb.wrap ((d:Int)+1)=((d+1:Nat):Int):=by
 have e:=dE ((d:Int)+1) Zo;rw[e];omega
def gY{h d f:Nat}{e:Nat->St->Prop}{s:St}(j:d<f)(k:e (d+1) s)(i:s.env h=.sc (.int .i64 ((d+1:Nat):Int)):=by simp(disch:=omega) [aw,gJ]):uu h d f e s:=⟨i,j,k⟩
def rv{a b:Nat}(d:ah ((a:Int)<(b:Int))=W):a<b:=by simpa using d
def yF{a b:Nat}(d:ah ((a:Int)<(b:Int))=af)(e:a<=b:=by omega):a=b:=by simp at d;omega
def Zx{e:Type}(a:e):∃d,a=d:=⟨_,C⟩
def nM{h d f:Nat}{e:Nat->aU}{s:St}(k:e (d+1) s)(j:d<f:=by first|assumption|omega)(i:s.env h=.sc (.int .i64 ((d+1:Nat):Int)):=by simp[aw];exact dE _ Zo):uu h d f e s:=⟨i,j,k⟩
def xm(K:ax)(e:fL):List<|Nat×D:=K.map λt=>(t,e t)
@[simp] def acj (a:Nat) (K:ax) (d:fL):xm (a::K) d=(a,d a)::xm K d:=cQ C C
@[simp] def ack (d:fL):xm [] d=[]:=cQ C C
attribute [go_sem] acj ack
def KM(nt:Nat)(d:List<|Nat×D)(p:Nat->(fL)->(a')->(bi)->List TE->Prop)(k:Nat)(s:St):Prop:=s.nt=nt/\(∀x∈d,s.env x.1=x.2)/\p k s.env s.H s.n s.T
def lp{P:aH}{mu:ax}{c:dJ}{aI:gg}{s:St}(h k:Nat)(K:ax)(f:Nat->(fL)->(a')->(bi)->List TE->Prop)(i:f 0 s.env s.H s.n s.T)
 (F:∀(e:Nat)(p:fL)(m:a')(q:bi)(o:cf)(t:Nat),e<=k->f e p m q o->vc P mu c (je (uu h e k<|KM s.nt (xm K s.env) f) aI) ⟨ov ((h,.sc<|.int .i64 (e:Int))::xm K s.env) p,m,q,s.nt,o,t⟩) (x:s.env h=.sc (.int .i64 0):=by rfl):oG P mu c aI s:=
 jH h k (KM s.nt (xm K s.env) f) x ⟨C,by simp[xm],i⟩ λe d B D A=>by
  have⟨i,y,z⟩:=A;have r:=F e d.env d.H d.n d.T d.N B z;rw[U4 (by intro G j;obtain rfl|j:=cF.1 j;exact D;exact y G j)]at r;have u:(⟨d.env,d.H,d.n,s.nt,d.T,d.N⟩:St)=d:=by rw[<-i]
  rwa[u]at r
def dI{j d f h:Nat}{e:List (Nat×D)}{i:Nat->(fL)->(a')->(bi)->List TE->Prop}{s:St}(p:i (d+1) s.env s.H s.n s.T)(o:d<f:=by omega)
 (m:s.env j=.sc (.int .i64 ((d+1:Nat):Int)):=by simp[aw];exact dE _ Zo) (q:s.nt=h:=by rfl) (r:∀k∈e,s.env k.1=k.2:=by first|simp[aw]|simp[aw, *]):uu j d f (KM h e i) s:=⟨m,o,q,r,p⟩
def cL{e f:Nat}{h i:aU}{s:St}(j:e<f->h s)(k:¬e<f->i s):qD (.sc<|.bool<|ah<|(e:Int)<(f:Int)) h i s:=fx (λd=>j<|Yq d) λd=>k<|Yq d
@[simp] theorem bc (v:aN):Cl<|.sc v:=.sc v
inductive hD:List D->Prop
 |n:hD []
 |c {d:D} {l:List D} (h:Cl d) (t:hD l):hD (d::l)
variable {a9 g6:DL}{am a0 a2 a4:Nat}{ip:cB}{g5:bI}{fd:a'}{g3:aH}{bv:St}{acc ajk ajn ajp:lC}{eq:D}{g7:ON}{c2:aU}{g2:Type}{i3:cf}
def Zc(a:hD a9:=by repeat first|exact .n|refine .c Zs ?_):hD a9:=a
def hD.all(a:hD a9):∀d∈a9,Cl d:=by
 induction a with
 |n=>simp
 |c a _ e=>intro d b;obtain rfl|b:=cF.1 b;exact a;exact e d b
theorem Cl.bC(a:∀d∈a9,Cl d):Cl<|.ag a9:=.ag a9 λ_ d b=>a d<|fE b
theorem Cl.eT(a:∀d∈a9,Cl d):Cl<|.cp a9:=.cp a9 λ_ d b=>a d<|fE b
def Cl.jf(a:∀d∈a9,Cl d):Cl<|.tp a9:=.tp a9 λ_ d b=>a d<|fE b
def Cl.jd(a:∀r∈ip,∀d∈r,Cl d):Cl<|.sl am ip:=.sl am ip λ_ r _ d e b=>a r (fE e) d<|fE b
def Cl.ue(b:∀d∈a9,Cl d)(e:∀d∈g6,Cl d):Cl<|.fn g5 a9 g6:=.fn g5 a9 g6 (λ_ d a=>b d<|fE a) λ_ d a=>e d<|fE a
@[simp] def aiC:Cl (.ag a9)↔∀d∈a9,Cl d:=⟨λa d b=>by cases a with|ag _ a=>obtain⟨f,e⟩:=jg.1 b;exact a f d e,Cl.bC⟩
@[simp] def aiD:Cl (.cp a9)↔∀d∈a9,Cl d:=⟨λa d b=>by cases a with|cp _ a=>obtain⟨f,e⟩:=jg.1 b;exact a f d e,Cl.eT⟩
@[simp] def aiE:Cl (.tp a9)↔∀d∈a9,Cl d:=⟨λa d b=>by cases a with|tp _ a=>obtain⟨f,e⟩:=jg.1 b;exact a f d e,Cl.jf⟩
@[simp] theorem db:Cl (.sl am ip)↔∀r∈ip,∀d∈r,Cl d:=
 ⟨λa r g d b=>by cases a with|sl _ _ a=>obtain⟨h,e⟩:=jg.1 g;obtain⟨i,f⟩:=jg.1 b;exact a h r i d e f,Cl.jd⟩
@[simp] def YN:Cl (.fn g5 a9 g6)↔(∀d∈a9,Cl d)/\∀d∈g6,Cl d:=
 ⟨λa=>by cases a with|fn _ _ _ a g=>exact⟨λd b=>by obtain⟨f,e⟩:=jg.1 b;exact a f d e,λd b=>by obtain⟨f,e⟩:=jg.1 b;exact g f d e⟩,λa=>Cl.ue a.1 a.2⟩
def afB{a b:cB}{r:DL}(d:∀r∈a,A r=am)(e:a0=A a*am)(g:A a9=am)(f:A r=am):lc (ao (a++a9::b)) a0 r=ao (a++r::b):=by
 subst e;unfold lc;simp only[eR,dT];rw[<-(iY d),take_left,drop_append,drop_eq_nil_of_le Zo,aY,show A (ao a)+A r-(A<|ao a)=A a9 by omega,drop_left];simp
def Fz.aq{ob:Ob}{aq:cB}(m:fd am=E ob)(j:ob.gen=a0)(o:ob.sz=a4)(p:0<a4)(l:a2=A aq)(g:∀r∈aq,A r=a4)(h:ob.cells=ao aq)
 (i:∀r∈aq,∀d∈r,Cl d) (k:ob.keys=Q:=by rfl):Fz fd (.ms am a0 a2)<|.sl a4 aq:=by
 subst j;subst l;subst o;refine .ms am ob aq (λe f=>(aq.getD e []).getD f .any) m k p (λe r a=>g r<|fE a) (λe r f d a b=>?_) λe r f d a b=>?_
 .rw[h,mJ g a b];simp[List.getD,a,b]
 simp only[List.getD,a,b,kx];exact .cl _<|i r (fE a) d<|fE b
theorem Fz.Xp{a b:DL}(g:∀e∈a.zip b,Fz fd e.1 e.2)(h:A a=A b):Fz fd (.ag a)<|.ag b:=
 .ag a b h λi d f j k=>g (d,f)<|jg.2 ⟨i,cq⟩
abbrev I(n:Int):D:=.sc<|.int .i64 n
abbrev B(b:Bool):D:=.sc<|.bool b
abbrev S(s:BA):D:=.sc<|.string s
def bm(l:IL):D:=.sl 1 (l.map λn=>[I n])
def bG(l:aX):D:=.sl 1 (l.map λs=>[S s])
@[simp] def kY (a:IL):Cl<|bm a:=by simp[bm]
@[simp] def mE (a:aX):Cl<|bG a:=by simp[bG]
def Lx(x:Option D)(H:a')(r:D):Prop:=match x with|some d=>Fz H d r|none=>False
theorem afk{a:hV}{r:D}:nF g3 a r .ret bv=Lx (d_ g3 bv a) bv.H r:=by
 apply propext;simp only[nF,Lx];exact Zg
def afd{d r:D}:Lx (E d) fd r=Fz fd d r:=cQ C C
def ae9:d_ g3 bv [acc]=iF g3 bv acc:=cQ C C
def afb{a:St}:d_ g3 a [acc,ajk]=(match iF g3 a acc,iF g3 a ajk with|some d,E b=>E (.tp [d,b])|_,_=>Q):=by
 simp only[d_,om,mapM_nil];cases iF g3 a acc<;>cases iF g3 a ajk<;>rfl
def afa{a:aH}{d:St}:d_ a d [acc,ajk,ajn]=(match iF a d acc,iF a d ajk,iF a d ajn with|some e,E b,E f=>E (.tp [e,b,f])|_,_,_=>Q):=by
 simp only[d_,om,mapM_nil];cases iF a d acc<;>cases iF a d ajk<;>cases iF a d ajn<;>rfl
def ae8{a:aH}{e:St}:d_ a e [acc,ajk,ajn,ajp]=(match iF a e acc,iF a e ajk,iF a e ajn,iF a e ajp with|some f,E b,E g,E d=>E (.tp [f,b,g,d])|_,_,_,_=>Q):=by
 simp only[d_,om,mapM_nil];cases iF a e acc<;>cases iF a e ajk<;>cases iF a e ajn<;>cases iF a e ajp<;>rfl
def ic(a b:BA):(a.toList==b.toList)=ah (a=b):=by
 have f:∀d:BA,d.toList=d.data.toList:=λd=>ByteArray.toList_eq d;by_cases e:a=b
 .subst e;simp
 have h:a.toList≠b.toList:=by
  rw[f,f];intro g;apply e;cases a;cases b;congr 1;exact wc g
 simp[e,h]
def gi(d e:D):Prop:=∀(ay:View)(v:aN),Rd ay d v->Rd ay e v
theorem gi.rfl{d:D}:gi d d:=λ_ _ a=>a
def gi.cp{f:DL}(k:Nat)(g:Y k a9=f):gi (.cp a9)<|.cp f:=λm v j=>by
 cases j with
 |cp _ b l us h i=>
  have key:∀(a:Nat)(d:D),f[a]?=E d->a9[a]?=E d:=λa d e=>by
   rw[<-g,wl]at e;split at e
   .exact e
   cases e
  exact .cp f b l us (λa d e=>h a d<|key a d e) λa d e=>i a d<|key a d e
def Sp.le{b bs:DL}{r:D}(f:Sp g3 g5 bs r)(l:A b=A bs)(m:∀(a:Nat)(d e:D),b[a]?=E d->bs[a]?=E e->gi d e):Sp g3 g5 b r:=
 ⟨f.ok,λq i p j s k=>f.run q i p j Zo λa d v g o=>by
  have h:a<A b:=by rw[l];exact(dX.1 g).1
  exact m a _ d (bL h) g _ _<|k a _ v (bL h) o⟩
def Sp.FV{b f d r:D}(g:Sp g3 g5 [f,d] r)(h:gi eq f)(i:gi b d):Sp g3 g5 [eq,b] r:=g.le Zs λj k l a e=>by
 match j,a,e with
 |0,a,e=>simp at a e;subst a;subst e;exact h
 |1,a,e=>simp at a e;subst a;subst e;exact i
def Fz.cell{ob:Ob}{a:DL}(k:fd am=E ob)(i:ob.gen=a0)(g:ob.cells=a)(h:∀d∈a,Cl d)(j:ob.keys=Q:=by rfl):Fz fd (.rf am a0 0)<|.cp a:=by
 subst i;refine .rf am ob 0 a (λe=>a.getD e .any) k j (λe f b=>?_) λe f b=>?_
 .rw[g,ew,b];simp[List.getD,b]
 simp only[List.getD,b,kx];exact .cl _<|h f<|fE b
def aaH{bs:DL}(f:∀e∈a9.zip bs,Fz fd e.1 e.2):∀(b:Nat)(d a:D),a9[b]?=E d->bs[b]?=E a->Fz fd d a:=λb d a g h=>
 f (d,a) (jg.2 ⟨b,by rw[ML];exact⟨g,h⟩⟩)
def yO{s:St}{aW aV args:DL}(bs:DL)(r:D)(e:Sp g3 g5 bs r)(j:A bs=A (aW++args++aV))
 (k:∀a∈(aW++args++aV).zip bs,Fz s.H a.1 a.2) (h:(sW r).isSome=W) (f:c2<|s.put g7 r):jU g3 s (.fn g5 aW aV) args g7 c2:=
 aG ⟨r,aj ⟨bs,j,λl d b g i=>.fz<|aaH k l d b g i,e,h⟩,f⟩
section
open Go.ChangeShapes Go.WideShapes
abbrev V0(jB:a8):View:=aR jB (λ_=>False) (λ_=>Q) dY
def tE(ay:View)(ds:DL)(cs:VL):Prop:=A ds=A cs/\∀(i:Nat)(d:D)(v:aN),ds[i]?=E d->cs[i]?=E v->Rd ay d v
def kh(ay:View)(ds:DL)(cs:VL)(o:Nat):Prop:=∀(i:Nat)(d:D),ds[i]?=E d->∃v,cs[o+i]?=E v/\Rd ay d v
theorem kh.append{f:View}{a b:DL}{g:VL}{h j:Nat}(l:kh f a g h)(p:kh f b g j)(k:j=h+A a):kh f (a++b) g h:=λi d e=>by
 subst k;by_cases o:i<A a
 .rw[lY o]at e;exact l i d e
 rw[kR Zo]at e;have⟨v,q,m⟩:=p _ d e;exact⟨v,cq,m⟩
def tE.of{e:View}{b:DL}{a:VL}(j:A b=A a)(g:kh e b a 0):tE e b a:=⟨j,λl d v i k=>by
 have⟨m,f,h⟩:=g l d i;rw[ew,k]at f;cases f;exact h⟩
theorem tE.one{e:View}{d:D}{v:aN}(f:Rd e d v):tE e [d] [v]:=⟨C,λg h i a b=>by
 match g,a,b with
 |0,a,b=>simp at a b;subst a;subst b;exact f⟩
def tE.ag{e:View}{b:DL}{a:ky}(f:tE e b a.toList):Rd e (.ag b)<|.agg a:=by
 have g:=Rd.ag b a.toList f.1 f.2;simpa using g
def ef(P:aH)(n:Nat)(t:a6){X:Type}(ds:X->DL)(ok:X->Prop):Prop:=
 ∀{H:Type}(enc:a6×aN->H)(jB:a8)(base:Nat)(spare:Nat->Bool)(held:Bool)(b:Nat)(cs:VL)(x:DataW H×List MemPlace),b<=n->
  DataW.trod enc P jB base spare held b t cs=E x->∃a:X,ok a/\tE (V0 jB) (ds a) cs
variable{P:aH}{n:Nat}{t:a6}
def ef.int{b:IntKind}(f:P.underlying t=E (.int b)):ef P n t (λa:Int=>[.sc<|.int b a]) λa=>(Lit.int b a).wf=W:=λenc jB base spare held i h j _ e=>by
 obtain⟨a,rfl,_,g⟩:=DataW.trod_int f e;exact⟨a,g,.one<|.sc _⟩
def ef.str(e:P.underlying t=E .string):ef P n t (λa:BA=>[.sc<|.string a]) λa=>a.size<=aE:=λenc jB base spare held h g i _ b=>by
 obtain⟨a,rfl,_,f⟩:=DataW.trod_string e b;exact⟨a,f,.one<|.sc _⟩
def ef.mono{a:Type}{b:a->DL}{f:a->Prop}{e:Nat}(i:ef P n t b f)(m:e<=n):ef P e t b f:=λenc jB base spare held h g k l j=>i enc jB base spare held h g k Zo j
theorem T5{g:Type}{i:Nat->g->Prop}:∀(n:Nat),(∀a,a<n->∃e,i a e)->∃f:List g,A f=n/\∀(a:Nat)(e:g),f[a]?=E e->i a e
 |0,_=>⟨[],C,Zs⟩
 |n+1,h=>by
  have⟨f,j,k⟩:=T5 n λa o=>h a Zo;have⟨e,l⟩:=h n Zo;refine⟨f++[e],Yr j,λa b m=>Zg⟩
def ef.slice{p:Type}{j:p->DL}{F:p->Prop}{w:a6}{sz:Nat}(ak:P.underlying t=E (.slice w))(ah:P.cellsOf w=sz)(V:0<sz)(O:∀g,A (j g)=sz)(U:ef P n w j F):
 ef P (n+1) t (λl:List p=>[.sl sz<|l.map j]) λl=>A l<=aE/\∀g∈l,F g:=λenc jB base spare held ar aq aB ay an=>by
 obtain⟨rfl,_⟩|⟨g,B,G,K,az,ap,rfl,rfl,_,au,ax,R,av,Z,_,_⟩:=DataW.trod_slice ak an
 .exact⟨[],⟨ys,Zs⟩,.one<|.nil sz⟩
 have J i (x:i<B):∃y:p,F y/\∃h,tE (V0 jB) (j y) h/\A h=sz/\∀a,a<sz->jB.cell? ((g.add<|i*sz).add a)=h[a]?:=by
  have L:=Z i x;have Y:K[i]?=E (K[i]'Zo):=bL Zo;rw[Y,ah,kU]at L;have⟨h,am,al⟩:=L;have⟨_,z,m⟩:=World.cells?_some am;have⟨y,f,s⟩:=U enc jB base spare held ap h _ Zo al;exact⟨y,f,h,s,z,m⟩
 by_cases ao:B=0
 .subst ao;exact⟨[],⟨ys,Zs⟩,.one<|Yq<|Rd.gv sz g G R⟩
 have⟨l,ab,M⟩:=T5 B J;have S:g.spot=Q:=by
  have⟨y,_,h,s,z,m⟩:=J 0 Zo;have o:=m 0 V;rw[bL Zo]at o;have ae:=World.cell?_spot o;simpa[Addr.add]using ae
 have⟨b,C,aA⟩:=g;simp only at S;subst S;have I:∀(i:Nat)(r:DL)(a:Nat)(d:D),(l.map j)[i]?=E r->r[a]?=E d->∃u,jB.cell? ⟨b,C+i*sz+a,Q⟩=E u/\Rd (V0 jB) d u:=by
  intro i r a d e k;rw[fP]at e;rcases f:l[i]? with _|y
  .rw[f]at e;cases e
  rw[f]at e;cases e;have⟨_,h,s,z,m⟩:=M i y f;have aa:a<sz:=by rw[<-O y];exact(dX.1 k).1
  have o:=m a aa;rw[add_lit,add_lit,bL Zo]at o;exact⟨_,o,s.2 a d _ k<|bL Zo⟩
 have ad:A l=A (l.map j):=Zs;refine⟨l,⟨by unfold aE at*;omega,λy f=>?_⟩,.one ?_⟩
 .have⟨i,x⟩:=jg.1 f;exact(M i y x).1
 rw[<-ab,ad];refine .sl sz _ b C G (λi a=>(jB.cell? ⟨b,C+i*sz+a,Q⟩).getD eX) ch R (λi r e=>?_) (λi r a d e k=>?_) λi r a d e k=>?_
 .rw[fP]at e;rcases f:l[i]? with _|y
  .rw[f]at e;cases e
  rw[f]at e;cases e;exact O y
 .have⟨u,q,_⟩:=I i r a d e k;rw[q];exact fD q Zs Zs
 have⟨u,q,X⟩:=I i r a d e k;rw[q];exact X
theorem ef.field{H:Type}{enc:a6×aN->H}{jB:a8}{base:Nat}{spare:Nat->Bool}{held:Bool}{f:Type}{g:f->DL}{k:f->Prop}(o:ef P n t g k){b e j i:Nat}{cs:VL}{l:List (DataW H×List MemPlace)}(s:b<=n)
 (h:DataW.trod enc P jB base spare held b t (Y j<|cs.drop e)=l[i]?) (p:i<A l):∃a,k a/\kh (V0 jB) (g a) cs e:=by
 rw[bL p]at h;have⟨a,m,w,x⟩:=o enc jB base spare held b _ _ s h;refine⟨a,m,λu d y=>?_⟩;have q:u<A (Y j<|cs.drop e):=cq;have z:=bL q;exact Zg
variable{H:Type}{enc:a6×aN->H}{P:aH}{jB:a8}{base b0:Nat}{spare:Nat->Bool}{held:Bool}{r:Reach}{t:a6}{v:aN}{d:DataW H}{ps:List MemPlace}
def XB{h:Array Field}{b:Type}{e:b->DL}{g:b->Prop}(o:P.underlying t=E (.struct h))(l:∀n,ef P n t e g)(p:Value.okWide P jB r b0 t v)(i:DataW.Trod enc P jB base spare held t v d ps):∃a,g a/\Rd (V0 jB) (.ag<|e a) v:=by
 obtain⟨q,rfl,_⟩:=okWide_struct o p;have⟨f,m⟩:=i;have⟨a,j,k⟩:=l f enc jB base spare held f _ _ (bJ _) m;exact⟨a,j,tE.ag (by simpa[Value.cells]using k)⟩
def ahf(a:DataW.Trod enc P jB base spare held t v d ps):∀f∈ps,f.block<jB.heap.size:=by
 have⟨e,b⟩:=a;exact DataW.trod_lt e _ _ _ b
theorem ae5{b:View}{e:DL}{f:VL}(h:∀g∈e.zip f,Rd b g.1 g.2):∀(a:Nat)(d:D)(v:aN),e[a]?=E d->f[a]?=E v->Rd b d v:=λa d v i j=>
 h (d,v) (jg.2 ⟨a,cq⟩)
def ae4{a:View}{b:Bool}{v:aN}(h:Rd a (.sc<|.bool b) v):v=.bool b:=uW
end
def fT{X:Type}(p:X->Bool):List X->Int
 |[]=>-1
 |x::l=>if p x then 0 else(if fT p l<0 then-1 else fT p l+1)
def FD{d:g2->Bool}:∀{b:List g2},b.any d=af->fT d b=-1
 |[],_=>rfl
 |x::b,a=>by
  simp only[xV,xU]at a;simp[fT,a.1,FD a.2]
def n3{p:g2->Bool}:∀{l:List g2}{k:Nat}(h:k<A l),(Y k l).any p=af->p l[k]=W->fT p l=k
 |[],k,h,_,_=>jr
 |x::l,0,_,_,h=>by simp at h;simp[fT,h]
 |x::l,k+1,b,h,a=>by
  simp only[jz,xV,xU]at h;have d:=n3 (p:=p) (l:=l) (k:=k) (by simpa using b) h.2 (by simpa using a);simp only[fT,h.1,d];simp;omega
def zj{p:g2->Bool}(a:List g2):ah (fT p a>=0)=a.any p:=by
 induction a with
 |nil=>rfl
 |cons f a g=>
  rw[xV,<-g];by_cases d:p f=W
  .simp[fT,d]
  have e:p f=af:=by simpa using d
  by_cases b:fT p a<0
  .simp[fT,e,b]
  simp[fT,e,b];omega
def o6{p:g2->Bool}{a:List g2}(b:am<A a):(Y (am+1) a).any p=((Y am a).any p||p a[am]):=by
 rw[dm b,any_append];simp only[xV,any_nil,Mx]
def lK{b:g2->Bool}{a:List g2}(d:am<A a):(Y (am+1) a).all b=((Y am a).all b&&b a[am]):=by
 rw[dm d,Ai];simp only[Aj,Ak,xT]
theorem u4{b:g2->Bool}{a:List g2}(d:am<A a)(e:b a[am]=af):a.all b=af:=cq
def bY(n b a:Int):Bool:=ah<|b<=n/\n<=a
def Gq{e:Type}(n:Nat)(b:Nat->List e):(cz<|n+1).flatMap b=b 0++(cz n).flatMap λd=>b<|d+1:=by
 rw[Ar,tq,flatMap_map]
theorem Lf{w:a8}:∀(e:DL)(us:Nat->aN)(f:Nat->ax),(∀(b:Nat)(d:D),e[b]?=E d->T1 w d (us b) (f b))->
 ∃g,OL O1 e ((cz<|A e).map λb=>.sc<|us b) g/\(∀h∈g,T1 w h.d h.u h.F)/\bl g=(cz<|A e).flatMap f
 |[],us,f,_=>⟨[],.nil,Zs,C⟩
 |d::e,us,f,i=>by
  have⟨j,k,q,l⟩:=(i 0 d C).tf;have⟨g,o,s,p⟩:=Lf e (λb=>us<|b+1) (λb=>f<|b+1) λb d m=>i (b+1) d<|Yq m;refine⟨j++g,?_,λh r=>?_,?_⟩
  .rw[dC,Ar,b4,eu];exact .cons k o
  .exact Zg
  rw[qy,l,p,dC,Gq]
def aes{w:a8}{i l:DL}{h:cf}(j:OL O1 i l h):(∀g∈h,T1 w g.d g.u g.F)->
 ∃(us:Nat->aN)(f:Nat->ax),bl h=(cz<|A i).flatMap f/\∀(b:Nat)(d:D),i[b]?=E d->l[b]?=E (.sc<|us b)/\T1 w d (us b) (f b):=by
 induction j with
 |nil=>intro _;exact⟨λ_=>eX,λ_=>[],C,Zs⟩
 |cons j _ r=>
  intro p;have⟨us,f,m,o⟩:=r λg s=>p g<|gq _ s;cases j with
  |sc v=>
   refine⟨λb=>match b with|0=>v|b+1=>us b,λb=>match b with|0=>[]|b+1=>f b,?_,λb d e=>?_⟩
   .rw[dC,Gq];simpa using m
   cases b with
   |zero=>simp at e;subst e;exact⟨C,.sc v⟩
   |succ b=>simpa using o b d (Yq e)
  |sl x t a q k F=>
   refine⟨λb=>match b with|0=>.slice a q k|b+1=>us b,λb=>match b with|0=>F|b+1=>f b,?_,λb d e=>?_⟩
   .rw[dC,Gq,<-m];simp[bl]
   cases b with
   |zero=>simp at e;subst e;exact⟨C,p ⟨.slice a q k,.sl x t,F⟩ Zs⟩
   |succ b=>simpa using o b d<|Yq e
variable{P:aH}{w:a8}{M X:cG}{a:dF}
def ba.aeB{J:cG}{x:DL}{nt b h sz:Nat}{f:cB}{I:ky}{j:a6}{us:Nat->aN}{t:Nat->ax}
 (g:ba (p5 w M X) J (λ_=>Q) (qW (.sc (.slice (E ⟨b,0,Q⟩) (A f) h)::x) nt [⟨.slice (E ⟨b,0,Q⟩) (A f) h,.sl sz f,b::(cz<|A<|ao f).flatMap t⟩]) a w)
 (U:w.heap[b]?=E (.cells I j (0,0))) (V:A f<=h) (ar:h<=aE) (ad:I.size=h*sz) (ap:∀r∈f,A r=sz)
 (au:∀(l:Nat)(d:D),(ao f)[l]?=E d->I[l]?=E (us l)) (ak:∀(l:Nat)(d:D),(ao f)[l]?=E d->T1 w d (us l) (t l)):
 ∃cells T,OL O1 (ao f) cells T/\bl T=(cz<|A<|ao f).flatMap t/\
  ba ⟨w,M,X,ai (λ_=>Q) 0<|some (0,b,h),eP dY 0,[]⟩ (λe=>M e\/∃j∈T,e∈j.F) (ai (λ_=>Q) 0<|some (0,b,h)) {env:=ej (.ms 0 0 (A f)::x),H:=ai ma 0 (E {gen:=0,elem:=j,sz,cells}),n:=eP dY 0,nt,T} a w:=by
 have⟨T,al,am,G⟩:=Lf (ao f) us t ak;refine⟨_,T,al,G,?_⟩;have an e:(∃j∈[(⟨.slice (E ⟨b,0,Q⟩) (A f) h,.sl sz f,b::(cz<|A<|ao f).flatMap t⟩:TE)],e∈j.F)↔e=b\/e∈bl T:=by
  rw[G];simp
 have L e:J e↔M e\/e=b\/e∈bl T:=by rw[g.mm e];exact Dn sj<|an e
 have O e (k:e=b\/e∈bl T):Bs.own (p5 w M X) e:=(g.tree _<|dg.2 C).2 e (by
  obtain rfl|k:=k
  .simp
  rw[G]at k;exact mo _ k)
 have aa:(b::bl T).Nodup:=by
  have S:=g.nd;simpa[qW,G]using S
 have R:(aR w J (λ_=>Q) dY).Ext<|aR w (λe=>M e\/∃j∈T,e∈j.F) (ai (λ_=>Q) 0<|some (0,b,h))<|eP dY 0:=by
  refine⟨λu aA aB k=>⟨fD (eW k) (λq=>?_) λav e y q=>?_,ku⟩,λ_=>kT _,λ_ _ _ _ k _=>absurd k<|x_ _⟩
  .refine(dQ k).1<|(L u).2 ?_;obtain q|q:=q
   .exact aG q
   exact aj<|aj<|k8.2 q
  refine(dQ k).1<|(L u).2 ?_;by_cases i:av=0
  .subst i;rw[bN]at q;cases q;exact aj (aG C)
  rw[a_ _ _ i]at q;cases q
 have aq:=(nO.1 U).1;refine⟨g.defers,g.size,λp=>?_,λo ae m=>?_,λo e u y k=>?_,λo ay e u y aC az k s=>?_,⟨g.below.os,g.below.tape,g.below.output,g.below.size,g.below.block,g.below.dr⟩,λe k=>⟨(g.m0 e<|(L e).2 ?_).1,λo aD y s=>?_⟩,λe=>sj,g.zm,λj Y=>⟨am j Y,λe R=>O e<|aj<|k8.2 ⟨j,Y,R⟩⟩,(lg.1 aa).2,Og.start,λ_ _=>kT _⟩
 .by_cases Z:p=0
  .subst Z;have B:=g.env 0;have B:=B;generalize a.tmps.getD 0 eX=v at B;cases B;exact .ms 0 0 _ _ _ ⟨Ik,V⟩ λu y k=>by
    have k:ai (λ_=>Q) 0 (E (0,b,h)) 0=E (0,u,y):=k;rw[bN]at k;cases k;exact⟨C,C⟩
  have ah:ej (.ms 0 0 (A f)::x) p=(qW (.sc (.slice (E ⟨b,0,Q⟩) (A f) h)::x) nt [⟨.slice (E ⟨b,0,Q⟩) (A f) h,.sl sz f,b::(cz<|A<|ao f).flatMap t⟩]).env p:=by
   show List.getD _ _ _=List.getD _ _ _;cases p with
   |zero=>exact absurd C Z
   |succ p=>simp
  show Rd _ (ej (.ms 0 0 (A f)::x) p) _;rw[ah];exact Rd.mono R<|g.env p
 .by_cases i:o=0
  .subst i;have m:ai ma 0 _ 0=E ae:=m;rw[bN]at m;cases m;refine⟨Ik,b,h,I,by show ai (λ_=>Q) 0 (E (0,b,h)) 0=_;rw[bN],.of U C,λ_=>ad,ar,?_,λl d z=>?_⟩
   .have S:=iY ap;simp only[bE,length_range];rw[S,ad];exact wy _ V
   simp only[fP]at z;by_cases K:l<A (ao f)
   .rw[xZ K]at z;cases z;exact⟨_,au l _<|bL K,.sc _⟩
   rw[sq<|Yq K]at z;cases z
  have m:ai ma 0 _ o=E ae:=m;rw[a_ _ _ i]at m;cases m
 .by_cases i:o=0
  .subst i;rw[bN]at k;cases k;exact⟨O b (aG C),aq⟩
  rw[a_ _ _ i]at k;cases k
 .by_cases i:o=0
  .by_cases ab:ay=0
   .rw[i,ab]
   rw[a_ _ _ ab]at s;cases s
  rw[a_ _ _ i]at k;cases k
 .obtain k|k:=k
  .exact aG k
  exact aj<|aj<|k8.2 k
 by_cases i:o=0
 .subst i;rw[bN]at s;cases s;obtain k|k:=k
  .exact g.zm b k<|O b<|aG C
  exact(lg.1 aa).1<|k8.2 k
 rw[a_ _ _ i]at s;cases s
def A9(T:cf)(sz:Nat)(aq:cB)(s:St):Prop:=
 ∃ob,s.H 0=E ob/\ob.gen=0/\ob.keys=Q/\ob.sz=sz/\OL O1 (ao aq) ob.cells s.T/\bl s.T=bl T
def Gu(P:aH)(b:List lC)(T:List TE)(sz:Nat)(aq:List<|List D)(r:aN):iG->St->Prop
 |.normal,s=>d_ P s b=E (.sc r)/\A9 T sz aq s
 |.ret,s=>d_ P s b=E (.sc r)/\A9 T sz aq s
 |_,_=>False
def Gv(P:aH)(b:List lC)(T:List TE)(r:aN):iG->St->Prop
 |.normal,s=>d_ P s b=E (.sc r)/\s.T=T
 |.ret,s=>d_ P s b=E (.sc r)/\s.T=T
 |_,_=>False
def Xj.ey{an:bI}{j:hC}{s:dJ}{eF:DL}{sz:Nat}{g k:cB}{r:aN}{nt:Nat}(az:ax)(ab:hV)(U:P.funcs[an]?=E j)(D:j.body=E s)(aS:(j.name== "runtime.NumGoroutine")=af)
 (aT:j.ntmps=nt) (aX:j.results.toList=ab) (au:A eF+1<=nt) (ay:A k=A g) (aQ:∀r∈k,A r=sz)
 (aJ:g=[]->∀T,vc P az s (Gv P ab T r)<|qW (.sl sz []::eF) nt T)
 (h1:g≠[]->∀f cells T,OL O1 (ao g) cells T->vc P az s (Gu P ab T sz k r) {env:=ej (.ms 0 0 (A g)::eF),H:=ai ma 0 (E {gen:=0,elem:=f,sz,cells}),n:=eP dY 0,nt,T}) (l:aN) (F:ax):
 dR P an (.sc l::eF) [⟨l,.sl sz g,F⟩] [.sl sz k] (.sc r):=by
 subst aX;refine⟨⟨j,U,aS,Yf D⟩,C,λw M ah ap ar Z Y av=>?_⟩;subst aT;have J:=(Y _<|dg.2 C).1;by_cases O:g=[]
 .subst O;obtain rfl:k=[]:=Yq ay;have aW aF:Rd aF (.sl sz []) l:=by
   simp only at J;cases J with
   |nil=>exact .nil sz
   |gv _ a m q=>exact .gv sz a m q
   |sl _ _ b m ah f us B D aq q=>exact .gv sz _ m q
  have aU:=ba.start (eF:=.sl sz []::eF) (Ts:=[⟨l,.sl sz [],F⟩]) Q C ap (Yq ar) (Yq au) (λaa d v p K=>by
   cases aa with
   |zero=>
    simp at p;subst p;obtain _|⟨bb,ah⟩:=ah
    .simp at K
    simp at K;subst K;have a9:=Z 0 (.sc l) bb Zs Zs;cases a9;exact aW _
   |succ aa=>exact Z (aa+1) d v (Yq p) K) Y av
  refine calls_of_wp U D (wp_mono (pG s _ aU<|aJ C _) λf a h⟨y,aI,aD,i,e⟩=>?_);have t:d_ P y j.results.toList=E (.sc r)->y.T=[⟨l,.sl sz [],F⟩]->a.defers=[]/\∃v,(results j a.tmps).run P h=.ok v h/\∃z,Ending.returned v=.returned z/\(p5 w M λb=>∃f∈[(⟨l,.sl sz [],F⟩:TE)],b∈f.F).Ok h/\
   (∀f∈i7 [(⟨l,.sl sz [],F⟩:TE)] [.sl sz []],T1 h f.d f.u f.F)/\∃o,T3 h (.sc r) z o/\o.Nodup/\∀b∈o,w.heap.size<=b:=by
   intro p S;have⟨v,ad,ae⟩:=vS e p;refine⟨e.defers,v,ae,v,C,⟨e.below.os,e.below.tape,e.below.output,e.below.size,e.below.block,e.below.dr⟩,λf x=>?_,[],?_,Zs,Zs⟩
   .simp only[i7,dg]at x;subst x;exact(e.tree _<|Yx S).1
   cases ad;exact .one (.one (.sc _))
  cases f
  case normal=>exact t i.1 i.2
  case ret=>exact t i.1 i.2
  all_goals exact i.elim
 simp only at J;cases J with
 |nil=>exact absurd C O
 |gv=>exact absurd C O
 |sl _ _ b m bi f us B aM aq q aY aK aR aZ S=>
  obtain⟨cells,T,a1,a2,aV⟩:=(ba.start Q C ap ar (Yq au) Z Y av).aeB aM aq q aY aR aZ S;refine calls_of_wp U D (wp_mono (pG s _ aV<|h1 O f cells T a1) λaH a h⟨y,aI,aD,i,e⟩=>?_);have t:d_ P y j.results.toList=E (.sc r)->A9 T sz k y->a.defers=[]/\∃v,(results j a.tmps).run P h=.ok v h/\∃z,Ending.returned v=.returned z/\
   (p5 w M λbd=>∃f∈[(⟨.slice (E ⟨b,0,Q⟩) (A g) m,.sl sz g,b::(cz<|A<|ao g).flatMap B⟩:TE)],bd∈f.F).Ok h/\
   (∀f∈i7 [(⟨.slice (E ⟨b,0,Q⟩) (A g) m,.sl sz g,b::(cz<|A<|ao g).flatMap B⟩:TE)] [.sl sz k],T1 h f.d f.u f.F)/\∃o,T3 h (.sc r) z o/\o.Nodup/\∀b∈o,w.heap.size<=b:=by
   rintro p⟨aA,a3,a4,aB,a5,a6,a7⟩;have⟨v,ad,ae⟩:=vS e p;refine⟨e.defers,v,ae,v,C,⟨e.below.os,e.below.tape,e.below.output,e.below.size,e.below.block,e.below.dr⟩,λf x=>?_,[],?_,Zs,Zs⟩
   .simp only[i7,dg]at x;subst x;have⟨_,al,am,bc,I,aP,L,bg,bh,aO⟩:=e.obj 0 aA a3;have I:=I;rw[a4]at I;have G:=e.og.2 0 0 al am Ik I;have G:ai (λ_=>Q) 0 (E (0,b,m)) 0=E (0,al,am):=G;rw[bN]at G;cases G;have L:=L aB;rw[a5]at L;have⟨a_,ak,a8,aC⟩:=aes (w:=h) a6 λa' a0=>(e.tree a' a0).1;have aL:b::(cz<|A<|ao g).flatMap B=b::(cz<|A<|ao k).flatMap ak:=by rw[<-a8,a7,a2]
    rw[aL,<-ay];refine .sl sz k b m bc aA.elem a_ ak (aP.cells aB) Zo q L aK aQ (λR d V=>?_) λR d V=>(aC R d V).2;have⟨l,be,bf⟩:=aO R _ (aC R d V).1;cases bf;exact be
   cases ad;exact .one (.one (.sc _))
  cases aH
  case normal=>exact t i.1 i.2
  case ret=>exact t i.1 i.2
  all_goals exact i.elim
def M1(nt:Nat)(a:List<|Nat×D)(p:(a')->(bi)->List TE->Prop)(s:St):Prop:=s.nt=nt/\(∀x∈a,s.env x.1=x.2)/\p s.H s.n s.T
instance(nt:Nat)(a:Nat->List (Nat×D))(p:Nat->(Nat->Option Ob)->(Nat->Nat)->List TE->Prop):yg (λq=>M1 nt (a q) (p q)) nt a λq _ H n T _=>p q H n T:=⟨λ_ _ h=>h⟩
def OL.eS{R:D->D->List TE->Prop}{b f d:DL}{T e:cf}(a:OL R a9 b T)(h:OL R f d e):OL R (a9++f) (b++d)<|T++e:=by
 induction a with
 |nil=>exact h
 |cons a _ g=>rw[bg,bg,dy];exact .cons a g
def OL.len{R:D->D->List TE->Prop}{b:DL}(a:OL R a9 b i3):A b=A a9:=by
 induction a with
 |nil=>rfl
 |cons _ _ d=>simp[d]
theorem OL.split{R:D->D->List TE->Prop}:∀(g:DL){h e:DL}{a:cf},OL R (g++h) e a->∃b d T1 T2,e=b++d/\a=T1++T2/\OL R g b T1/\OL R h d T2
 |[],h,e,a,f=>⟨[],e,[],a,C,C,.nil,f⟩
 |x::g,h,e,a,f=>by
  cases f with
  |cons f k=>
   obtain⟨b,d,T1,T2,rfl,rfl,i,j⟩:=OL.split g k;exact⟨_::b,d,_++T1,T2,C,cq,.cons f i,j⟩
def mc:OL O1 [] a9 i3↔a9=[]/\i3=[]:=⟨λa=>by cases a;exact⟨C,C⟩,λa=>by rw[a.1,a.2];exact .nil⟩
def r5{v:aN}{T:cf}:OL O1 (.sc v::a9) g6 T↔∃b,g6=.sc v::b/\OL O1 a9 b T:=
 ⟨λa=>by cases a with|cons a e=>cases a;exact⟨_,C,Yq e⟩,λ⟨b,d,a⟩=>(Yy d)<|OL.cons (T:=[]) (.sc v) a⟩
def oP{T:cf}:OL O1 (.sl am ip::a9) g6 T↔∃a d b F g f,g6=.sc (.slice a d b)::g/\T=⟨.slice a d b,.sl am ip,F⟩::f/\OL O1 a9 g f:=
 ⟨λe=>by cases e with|cons e j=>cases e with|sl _ _ a d b F=>exact⟨a,d,b,F,_,_,C,Zs,j⟩,λ⟨a,d,b,F,g,f,h,i,e⟩=>by rw[h,i];exact OL.cons (T:=[_]) (.sl am ip a d b F) e⟩
theorem OL.one(a:OL O1 a9 g6 i3)(e:∀d∈a9,cO d=W):∀b∈g6,cO b=W:=by
 induction a with
 |nil=>simp
 |cons a _ f=>
  intro b he;obtain rfl|he:=cF.1 he
  .cases a with
   |sc v=>exact e _ Zs
   |sl=>rfl
  exact Zg
def aeo(a:O3 (.sl am ip) eq i3):∃b e d F,eq=.sc (.slice b e d)/\i3=[⟨.slice b e d,.sl am ip,F⟩]:=by
 cases a with|one a=>cases a with|one a=>cases a with|sl _ _ b e d F=>exact⟨b,e,d,F,C,C⟩
def xD(a:O3 (.ag a9) eq i3):∃b,eq=.ag b/\OL O1 a9 b i3:=by
 cases a with|one a=>cases a with
  |one a=>cases a
  |ag a=>exact⟨_,C,a⟩
def aen{v:aN}(a:O3 (.sc v) eq i3):eq=.sc v/\i3=[]:=by
 cases a with|one a=>cases a with|one a=>cases a;exact⟨C,C⟩
def aep{v:aN}(a:O3 (.tp [.ag a9,.sc v]) eq i3):∃e,eq=.tp [.ag e,.sc v]/\OL O1 a9 e i3:=by
 cases a with
 |one a=>cases a with|one a=>cases a
 |tp a=>cases a with|cons a d=>cases d with|cons b d=>cases d;cases a with
  |one a=>cases a
  |ag a=>cases b with|one b=>cases b;exact⟨_,C,Yq a⟩
def aeq{v:aN}(a:O3 (.tp [.sl am ip,.sc v]) eq i3):∃b e d F,eq=.tp [.sc<|.slice b e d,.sc v]/\i3=[⟨.slice b e d,.sl am ip,F⟩]:=by
 cases a with
 |one a=>cases a with|one a=>cases a
 |tp a=>cases a with|cons a g=>cases g with|cons f g=>cases g;cases a with
  |one a=>cases a with|sl _ _ b e d F=>cases f with|one f=>cases f;exact⟨b,e,d,F,C,C⟩
def OL.jZ{v:aN}{T:cf}(a:OL O1 a9 g6 T):OL O1 (.sc v::a9) (.sc v::g6) T:=OL.cons (T:=[]) (.sc v) a
def OL.qf{a:Option Addr}{F:ax}{T:cf}(b:OL O1 a9 g6 T):OL O1 (.sl am ip::a9) (.sc (.slice a a0 a2)::g6) (⟨.slice a a0 a2,.sl am ip,F⟩::T):=OL.cons (T:=[_]) (.sl am ip a a0 a2 F) b
def Fz.Jt{d:D}(a:Cl d):Fz fd d d:=.cl d a
def vb{b:St}{aW aV args:DL}(r:D)(e:dR g3 g5 (aW++args++aV) [] [] r)(SU:∀d∈aW++args++aV,Cl d)
 (f:∀a T,O3 r a T->c2 ({b with T:=b.T++T}.put g7 a)):jU g3 b (.fn g5 aW aV) args g7 c2:=
 .inr<|.inl ⟨_,[],b.T,[],r,Zs,C,λh d a hd he=>OI,e,λa T g=>⟨b.T++T,by simp[i7],f a T g⟩⟩
theorem Sf{bs:DL}(f:∀e∈a9.zip bs,Fb fd i3 e.1 e.2):∀(b:Nat)(d a:D),a9[b]?=E d->bs[b]?=E a->Fb fd i3 d a:=λb d a g h=>
 f (d,a) (jg.2 ⟨b,cq⟩)
def Q'{a:St}{aW aV args:DL}(b:DL)(r:D)(f:dR g3 g5 b [] [] r)(i:A b=A (aW++args++aV))
 (h:∀e∈(aW++args++aV).zip b,Fb a.H a.T e.1 e.2) (g:∀d T,O3 r d T->c2 ({a with T:=a.T++T}.put g7 d)):jU g3 a (.fn g5 aW aV) args g7 c2:=
 .inr<|.inl ⟨b,[],a.T,[],r,Zs,i,Sf h,f,λd T j=>⟨a.T++T,by simp[i7],g d T j⟩⟩
def Jf{aW aV args:DL}(a f b:cf)(e:DL)(r:aN)(h:dR g3 g5 (aW++args++aV) a e<|.sc r)(SU:∀d∈aW++args++aV,Cl d)
 (k:bv.T.Perm<|a++f) (j:b.Perm<|i7 a e++f) (i:c2<|{bv with T:=b}.put g7<|.sc r):jU g3 bv (.fn g5 aW aV) args g7 c2:=
 .inr<|.inl ⟨_,a,f,e,_,k,C,λm d g hd he=>OI,h,λg T l=>by
  obtain⟨rfl,rfl⟩:=aen l;exact⟨b,Yq j,i⟩⟩
theorem BJ:∀(a b:Us),fp (a++b)=fp a++fp b
 |[],b=>rfl
 |.inl e::a,b=>by simp[fp,BJ a b]
 |.inr d::a,b=>by simp[fp,BJ a b]
theorem BM:∀(a b:Us),iw (a++b)=iw a++iw b
 |[],b=>rfl
 |.inl e::a,b=>by simp[iw,BM a b]
 |.inr d::a,b=>by simp[iw,BM a b]
def BK:∀a:cf,fp (a.map Sum.inl)=a
 |[]=>rfl
 |b::a=>by simp[fp,BK a]
def xj:∀a:cf,iw (a.map Sum.inl)=[]
 |[]=>rfl
 |b::a=>by simp[iw,xj a]
def O1.c1{d a:D}{T:cf}(f:O1 d a T):C1 fd a d<|T.map .inl:=by
 cases f with
 |sc v=>exact .sc v
 |sl i h b g e F=>exact .tr ⟨.slice b g e,.sl i h,F⟩
theorem OL.cl{T:cf}(a:OL O1 a9 g6 T):CL (C1 fd) g6 a9<|T.map .inl:=by
 induction a with
 |nil=>exact .nil
 |cons a _ b=>rw[bX];exact .cons a.c1 b
def OL.idx{H:a'}{e g:DL}(h:OL O1 e g i3):∃(f:fL)(b:Nat->Us),(i3.map Sum.inl:Us)=(cz<|A e).flatMap b/\∀(a:Nat)(d:D),e[a]?=E d->g[a]?=E (f a)/\C1 H (f a) d (b a):=by
 induction h with
 |nil=>exact⟨λ_=>.any,λ_=>[],C,Zs⟩
 |@cons d k i3 e g p h _ o=>
  have⟨f,b,l,m⟩:=o;refine⟨λa=>match a with|0=>k|a+1=>f a,λa=>match a with|0=>i3.map .inl|a+1=>b a,?_,λa j i=>?_⟩
  .rw[bX,dC,Gq,l]
  cases a with
  |zero=>simp at i;subst i;exact⟨C,h.c1⟩
  |succ a=>simpa using m a j<|Yq i
def C1.rows{H:a'}{a:Ob}{b:cB}(q:H am=E a)(k:a.gen=a0)(s:a.sz=a4)(t:0<a4)(o:a2=A b)(m:∀r∈b,A r=a4)(p:OL O1 (ao b) a.cells i3)(l:a.keys=Q:=by rfl):
 C1 H (.ms am a0 a2) (.sl a4 b) (.inr am::i3.map .inl):=by
 subst k;subst s;subst o;have⟨i,h,j,g⟩:=p.idx (H:=H);rw[j];exact .ms am a b i h q l t m (λf d e=>(g f d e).1) λf d e=>(g f d e).2
def Rx{a:Ob}(h:bv.H am=E a)(b:a.gen=a0)(i:a.sz=a4)(j:0<a4)(f:a2=A ip)(e:∀r∈ip,A r=a4)(g:OL O1 (ao ip) a.cells bv.T)(d:a.keys=Q:=by rfl):
 mF [] [] (.sl a4 ip) bv (.ms am a0 a2):=
 ⟨_,[],.one<|.one<|C1.rows h b i j f e g d,Ij,by simp[iw,xj]⟩
def Rw(a:OL O1 a9 g6 bv.T):mF [] [] (.ag a9) bv<|.ag g6:=
 ⟨_,[],.one<|.ag a.cl,by simp[i7,BK],by simp[xj]⟩
def afg{a:hV}{r:D}:xI g3 a i3 a9 r .ret bv=∃d,d_ g3 bv a=E d/\mF i3 a9 r bv d:=cQ C C
def aiU{a:hV}{r:D}:xI g3 a i3 a9 r .normal bv=∃d,d_ g3 bv a=E d/\mF i3 a9 r bv d:=cQ C C
def r8(x:Option D)(K:D->Prop):Prop:=match x with|some d=>K d|none=>False
def afh{P:aH}{rs:hV}{r:D}{s:St}:xI P rs i3 a9 r .ret s=r8 (d_ P s rs) (mF i3 a9 r s):=by
 apply propext;rw[afg];exact DA
def afc{d:D}{a:D->Prop}:r8 (E d) a=a d:=cQ C C
def aiW{a:hV}{r:aN}:Gu g3 a i3 am ip r .ret bv=(d_ g3 bv a=E (.sc r)/\A9 i3 am ip bv):=cQ C C
def aiV{a:hV}{r:aN}:Gu g3 a i3 am ip r .normal bv=(d_ g3 bv a=E (.sc r)/\A9 i3 am ip bv):=cQ C C
def aiY{a:hV}{r:aN}:Gv g3 a i3 r .ret bv=(d_ g3 bv a=E (.sc r)/\bv.T=i3):=cQ C C
def aiX{a:hV}{r:aN}:Gv g3 a i3 r .normal bv=(d_ g3 bv a=E (.sc r)/\bv.T=i3):=cQ C C
def Ju{us:Us}(a:CL (C1 bv.H) g6 a9 us)(b:fp us=bv.T)(d:(iw us).Nodup):mF [] [] (.ag a9) bv<|.ag g6:=
 ⟨us,[],.one<|.ag a,by simp[i7,b],d⟩
def fF(nt:Nat)(a:List<|Nat×D)(p:(fL)->(a')->(bi)->List TE->Prop)(s:St):Prop:=s.nt=nt/\(∀x∈a,s.env x.1=x.2)/\p s.env s.H s.n s.T
instance(nt:Nat)(a:Nat->List (Nat×D))(p:Nat->(Nat->D)->(Nat->Option Ob)->(Nat->Nat)->List TE->Prop):yg (λq=>fF nt (a q) (p q)) nt a λq e H n T _=>p q e H n T:=⟨λ_ _ h=>h⟩
def sD(w:a8)(M:Nat->Prop)(e:a6)(sz:Nat)(aq:List<|List D)(v:aN):Option Nat->Prop
 |none=>aq=[]/\v=.slice Q 0 0
 |some b=>∃c us,v=.slice (E ⟨b,0,Q⟩) (A aq) c/\w.heap[b]?=E (.cells us e (0,0))/\us.size=c*sz/\(c<=aE/\A aq<=c)/\A (ao aq)<=us.size/\
  ∀(j:Nat)(d:D),(ao aq)[j]?=E d->∃u,us[j]?=E u/\Rd (aR w (λk=>M k\/k=b) (λ_=>Q) dY) d u
def aL(S:ax)(H:a')(e:a6)(sz:Nat)(aq:cB)(x:D):Prop:=
 (aq=[]/\x=bp)\/∃t gn,t∈S/\x=.ms t gn (A aq)/\H t=E ⟨gn,e,sz,ao aq,Q⟩
def aL.aA{S:ax}{H H':a'}{e:a6}{i:Nat}{h:cB}{j:D}(d:aL S H e i h j)(o:∀b∈S,H' b=H b):aL S H' e i h j:=by
 obtain d|⟨b,k,f,l,m⟩:=d
 .exact aG d
 exact aj ⟨b,k,f,l,(o b f).trans m⟩
def aL.sub{S S':ax}{e:a'}{f:a6}{i:Nat}{h:cB}{j:D}(d:aL S e f i h j)(p:∀b∈S,b∈S'):aL S' e f i h j:=by
 obtain d|⟨b,k,l,m,o⟩:=d
 .exact aG d
 exact aj ⟨b,k,p b l,m,o⟩
def afN{pre post:DL}{m:D}{vs:VL}{j:View}(k:A (pre++m::post)=A vs)(l:∀(b:Nat)(d:D)(v:aN),(pre++m::post)[b]?=E d->vs[b]?=E v->Rd j d v):
 ∃us e f,vs=us++e::f/\A pre=A us/\A post=A f/\Rd j m e/\(∀(b:Nat)(d:D)(v:aN),pre[b]?=E d->us[b]?=E v->Rd j d v)/\∀(b:Nat)(d:D)(v:aN),post[b]?=E d->f[b]?=E v->Rd j d v:=by
 induction pre generalizing vs with
 |nil=>
  obtain _|⟨e,f⟩:=vs
  .simp at k
  exact⟨[],e,f,C,C,Yq k,l 0 m e C C,Zs,λb d v h i=>l (b+1) d v (Yq h)<|Yq i⟩
 |cons d pre x=>
  obtain _|⟨v,vs⟩:=vs
  .simp at k
  obtain⟨us,e,f,rfl,h,i,r,t,u⟩:=x (vs:=vs) (Yq k) λb d v h i=>l (b+1) d v (Yq h)<|Yq i;refine⟨v::us,e,f,C,Yr h,i,r,λb q y o p=>?_,u⟩;cases b with
  |zero=>simp at o p;subst o;subst p;exact l 0 _ _ C C
  |succ b=>exact t b q y (Yq o)<|Yq p
def tT(e:a6)(sz:Nat)(aq:cB)(s:St)(d:D):Prop:=(aq=[]/\d=bp)\/∃t ob,d=.ms t ob.gen (A aq)/\s.H t=E ob/\ob.elem=e/\ob.sz=sz/\(∃r,ob.cells=ao aq++r)/\ob.keys=Q
def Vv(P:aH)(b:List lC)(e:a6)(sz:Nat)(aq:List<|List D):iG->St->Prop
 |.normal,s=>∃d,d_ P s b=E d/\tT e sz aq s d
 |.ret,s=>∃d,d_ P s b=E d/\tT e sz aq s d
 |_,_=>False
def aL.fz{S:ax}{f:a'}{i:a6}{b:Nat}{e:cB}{h:D}(j:aL S f i b e h)(o:0<b)(m:∀r∈e,A r=b)(l:∀r∈e,∀d∈r,Cl d):Fz f h<|.sl b e:=by
 obtain⟨rfl,rfl⟩|⟨q,p,-,rfl,k⟩:=j
 .exact .nil b
 exact Fz.aq k C C o C m C l
def aL.close{S:ax}{s:St}{b:a6}{e:Nat}{d:cB}{f:D}(h:aL S s.H b e d f):tT b e d s f:=by
 obtain⟨rfl,rfl⟩|⟨j,k,-,rfl,i⟩:=h
 .exact aG ⟨C,C⟩
 exact aj ⟨j,_,C,i,C,C,⟨[],Zs⟩,C⟩
theorem aL.nil{S:ax}{b:a'}{d:a6}{e:Nat}:aL S b d e []<|.sc<|.slice Q 0 0:=aG ⟨C,C⟩
def b5(bK:ax)(H:a'):Nat->sC:=λt=>if t∈bK then H t else Q
def aT{b:Type}(bK:ax)(H:Nat->Option b):Nat->Option b:=λt=>if t∈bK then Q else H t
def kK{e:ax}{d:Nat}{f:Hv}(b:aT e g d=E f):d∉e/\g d=E f:=by
 unfold aT at b;split at b
 .cases b
 rename_i h;exact⟨h,b⟩
def ba.aT(d:ba w0 M g s a w)(i:ax):ba w0 M (Fw.aT i g) {s with H:=Fw.aT i s.H} a w:=by
 have m:(aR w M g s.n).Ext<|aR w M (Fw.aT i g) s.n:=
  ⟨λb u y e=>⟨fD (eW e) (dQ e).1 λf l j h=>(dQ e).2 _ _ _ (kK h).2,ku⟩,λ_=>bJ _,λ_ _ _ _ _ e=>(kK e).2⟩
 refine⟨d.defers,d.size,λr=>(d.env r).mono m,λf o q=>?_,λf l b j e=>d.base _ _ _ _ (kK e).2,λf x l b j z t e p=>d.inj _ _ _ _ _ _ _ (kK e).2 (kK p).2,d.below,
  λb h=>⟨(d.m0 b h).1,λf l j e=>(d.m0 b h).2 _ _ _ (kK e).2⟩,d.mm,d.zm,d.tree,d.nd,d.og.ext m,d.wm⟩
 have k:Fw.aT i s.H f=E o:=q;unfold Fw.aT at k;split at k
 .cases k
 rename_i h;refine(d.obj f o k).mono m λl b j e=>⟨?_,C⟩;show Fw.aT i g f=_;unfold Fw.aT;rw[aC h];exact e
def Rd.JZ(V:ba w0 M g s a w)(L:ax){d h:D}(ay:Fz (b5 L s.H) d h):∀{v:aN},Rd (aR w M g s.n) d v->Rd (aR w (λb=>M b\/∃k G p,aT L g k=E (G,b,p)) (λ_=>Q) dY) h v:=by
 have am:∀{k:Nat}{x:Ob},b5 L s.H k=E x->k∈L/\s.H k=E x:=λ{k x}q=>by
  unfold b5 at q;split at q
  .rename_i t;exact⟨t,q⟩
  cases q
 have ak:∀{k G b p:Nat},k∈L->g k=E (G,b,p)->¬(M b\/∃k G p,aT L g k=E (G,b,p)):=λ{k G b p}aB h=>by
  rintro(t|⟨aM,aO,aJ,t⟩)
  .exact(V.m0 b t).2 _ _ _ h
  have⟨F,u⟩:=kK t;have C:=V.inj _ _ _ _ _ _ _ h u;subst C;exact F aB
 induction ay with
 |cl d q=>
  refine λv f=>f.closed (λb aI m t=>⟨?_,ku⟩) q;have⟨F,u⟩:=dQ t;refine fD (eW t) ?_ Zs;rintro(K|⟨k,G,p,K⟩)
  .exact F K
  exact u _ _ _ (kK K).2
 |cs ao ab q=>
  intro v f;cases f with|cs _ _ _ ad _=>
  refine ad.closed (λb aI m t=>⟨?_,ku⟩) q;have⟨F,u⟩:=dQ t;refine fD (eW t) ?_ Zs;rintro(K|⟨k,G,p,K⟩)
  .exact F K
  exact u _ _ _ (kK K).2
 |nil ao=>intro v f;cases f;exact .nil ao
 |ms k x ab I J Z aL U h1 av B=>
  intro v f;have⟨aa,J⟩:=am J;have⟨az,b,p,y,z,Y,aC,ah,aA,S⟩:=V.obj k x J;have z:=z;cases f with|ms _ _ _ ap ar al f=>
  obtain⟨rfl,rfl⟩:=f b p z;have ae (e:Nat) (r:DL) (j:Nat) (d:D) (i:ab[e]?=E r) (R:r[j]?=E d):∃m,y[e*x.sz+j]?=E m/\Rd (aR w M g s.n) (I e j) m:=S _ _<|h1 e r j d i R;refine .sl x.sz ab b 0 ar (λe j=>y.getD (e*x.sz+j) eX) al.2 ah U (λe r j d i R=>?_) λe r j d i R=>?_
  .have⟨m,o,_⟩:=ae e r j d i R;refine fD ?_ (ak aa z) Zs;rw[ew,pW<|Y.cells Z];simp[kQ,o]
  have⟨m,o,X⟩:=ae e r j d i R;have C:=B e r j d i R X;simpa[kQ,o]using C
 |rf k x an I O J Z h1 av B=>
  intro v f;have⟨aa,J⟩:=am J;have⟨az,b,p,y,z,Y,aC,ah,aA,S⟩:=V.obj k x J;have z:=z;cases f with|rf _ _ _ ap al f=>
  have C:=f b p z;subst C;refine .cp I b an (λj=>y.getD (an+j) eX) (λj h l=>?_) λj h l=>?_
  .have⟨m,o,_⟩:=S _ _<|h1 j h l;refine fD ?_ (ak aa z) Zs;rw[pW<|Y.cells Z];simp[kQ,o]
  have⟨m,o,X⟩:=S _ _<|h1 j h l;have C:=B j h l X;simpa[kQ,o]using C
 |fn au aq bs cs O U aK q ad B aD=>
  intro v f;cases f with|fn _ _ _ us y F u aF aH=>
  refine .fn au bs O us y Zo Zo (λe h m l o=>?_) λe h m l o=>?_
  .have i:e<A aq:=by have C:=(dX.1 l).1;omega
   exact B e _ h (bL i) l<|aF e _ m (bL i) o
  have i:e<A cs:=by have C:=(dX.1 l).1;omega
  exact aD e _ h (bL i) l<|aH e _ m (bL i) o
 |ag O I U q B=>
  intro v f;cases f with|ag _ y F u=>
  refine .ag I y Zo λe h m l o=>?_;have i:e<A O:=Yo<|(dX.1 l).1;exact B e _ h (bL i) l<|u e _ m (bL i) o
 |tp O I U q B=>
  intro v f;cases f with|tp _ y F u=>
  refine .tp I y Zo λe h m l o=>?_;have i:e<A O:=Yo<|(dX.1 l).1;exact B e _ h (bL i) l<|u e _ m (bL i) o
theorem Q9{P:aH}{s:St}{i:bI}{aW aV args:DL}{h:ON}{f:aU}(d:ax)(bs:DL)(r:D)(j:Sp P i bs r)(K:A bs=A (aW++args++aV))
 (G:∀x∈(aW++args++aV).zip bs,Fz (b5 d s.H) x.1 x.2) (u:Cl r) (o:f<|{s with H:=aT d s.H}.put h r):jU P s (.fn i aW aV) args h f:=by
 refine aj (aj λw0 M g a w J hr I L B=>⟨j.ok,(j.run w (λb=>M b\/∃t x c,aT d g t=E (x,b,c)) I M9 Zo λe m v y C=>?_).mono λx S⟨v,F,l,p⟩=>⟨v,r,aT d s.H,s.n,s.T,aT d g,M,F,(hr.aT d).grow l.toBelow l.dr,?_,o⟩⟩)
 .have z:e<A (aW++args++aV):=by have:=(dX.1 y).1;omega
  refine Rd.JZ hr d (G ((aW++args++aV)[e],m)<|jg.2 ⟨e,?_⟩)<|B e _ v (bL z) C;exact Zg
 refine p.closed (λb O R k=>⟨?_,ku⟩) u;exact P8
def afj{P:aH}{rs:hV}{b:a6}{f:Nat}{e:cB}{s:St}:Vv P rs b f e .ret s=r8 (d_ P s rs) (tT b f e s):=by
 apply propext;show(∃d,d_ P s rs=E d/\tT b f e s d)↔_;exact DA
inductive HE (u:Int->List Int):Int->Int->Prop
 |refl (i:Int):HE u i i
 |step {i j k:Int} (h:j∈u i) (t:HE u j k):HE u i k
variable{u:Int->IL}{at':Int}{n:Nat}
def qp(l:IL):Prop:=l.Pairwise (·<=·)
def V3:∀{a b:IL},qp a->qp b->a.Perm b->a=b
 |[],b,_,_,h=>(List.nil_perm.1 h).symm
 |x::a,[],_,_,h=>absurd h.length_eq Zs
 |x::a,d::b,i,j,h=>by
  have f:=Db.1 i;have g:=Db.1 j;obtain rfl:x=d:=by
   have k:x<=d:=by
    obtain e|e:=cF.1<|h.mem_iff.2 (show d∈d::b by simp)
    .omega
    exact f.1 d e
   have l:d<=x:=by
    obtain e|e:=cF.1<|h.mem_iff.1 (show x∈x::a by simp)
    .omega
    exact g.1 x e
   omega
  rw[V3 f.2 g.2 (perm_cons x|>.1 h)]
def r_(l:IL):IL:=l.mergeSort λa b=>ah<|a<=b
def afO(d:IL):qp<|r_ d:=by
 have f:=MR (le:=λa b:Int=>ah<|a<=b) (λa b g h i=>by simp at*;omega) (λa b=>co) d;exact f.imp λe=>Yq e
def LN(a:IL):(r_ a).Perm a:=Hl a _
def VW{a b:IL}(d:qp b)(e:b.Perm a):r_ a=b:=V3 (afO a) d<|(LN a).trans e.symm
def vP(op:gC):Bool:=rF op==0||rF op==1
def FT(bz:List Nat)(s:St):gC->Prop
 |.load _ x=>match s.ev x with|.rf a _ _=>a∈bz|_=>True
 |_=>True
def y9(bz:ax)(dst:ON)(s s':St):Prop:=s'.nt=s.nt/\(∀t,dst≠E t->s'.env t=s.env t)/\∀a∈bz,s'.H a=s.H a
def FR(b:Bool)(bz:ax)(s:St)(op:gC):Prop:=match b with|true=>True|false=>FT bz s op
def LP(op:gC):Bool:=match op with|.store ..=>W|.mapUpdate ..=>W|.insert ..=>W|_=>af
def xF(op:gC)(bz:ax):ax:=match op with|.store ..=>[]|.mapUpdate ..=>[]|.insert ..=>[]|_=>bz
def aeY{op:gC}(a:LP op=af)(bz:ax):xF op bz=bz:=by cases op<;>first|rfl|(simp[LP]at a)
def yP(P:aH)(s:St)(f:D)(args:List D)(dst:Option Nat)(K:St->Prop):Prop:=
 match f with
 |.fn g aW aV=>∃r,(Sp P g (aW++args++aV) r/\∀d∈aW++args++aV,Cl d)/\K (s.put dst r)
 |_=>False
def Jw(s:St)(dst:Option Nat)(K:St->Prop):Option (Prop×D)->Prop
 |some (p,d)=>p/\K (s.put dst d)
 |none=>False
def A0(P:aH)(op:gC)(dst:Option Nat)(K:St->Prop)(s:St):Prop:=
 match op with
 |.call ⟨.value f,args,_⟩=>yP P s (s.ev f) (args.toList.map s.ev) dst K
 |.buildSlice ty len parts=>Jw s dst K (tU P s ty len parts)
 |_=>False
def lx(P:aH)(mu bz:ax)(b a:Bool)(op:gC)(dst:ON)(K:aU)(s:St):Prop:=
 if b=W then FR a bz s op/\nC s dst K (f_ P s op)else if a=W then A0 P op dst K s else e_ P mu op dst (λs'=>y9 (xF op bz) dst s s'/\K s') s
def CC(P:aH)(mu bz dB:List Nat)(ops:List<|Option Nat)(o:dU)(K:St->Prop)(s:St):Prop:=
 match o.guard with
 |none=>lx P mu bz (vP o.op) (s9 dB o.dst) o.op o.dst K s
 |some (j,a)=>jG (nZ ops s j) a (lx P mu bz (vP o.op) (s9 dB o.dst) o.op o.dst K) (vT o.dst K) s
def k7(bz dB:List Nat)(o:dU):Nat:=
 match rF o.op with
 |0=>3
 |1=>if s9 dB o.dst=W then 1 else if bz.isEmpty=W then 3 else 2
 |2=>if s9 dB o.dst=W then 3 else 0
 |3=>if s9 dB o.dst=W then 3 else 0
 |_=>0
def wb(P:aH)(bz:ax)(lv:Nat)(ops:io)(s:St)(o:dU)(d:D):Prop:=
 ∀(H:a')(n:bi)(T:cf)(N:Nat),(lv<3->∀a∈bz,H a=s.H a)->(lv<2->H=s.H/\T=s.T)->Ae P ops {s with H:=H,n:=n,T:=T,N:=N} o d
def pF(P:aH)(mu bz:ax)(lv:dU->Nat)(ops:io)(o:dU)(K:aU)(s:St):Prop:=
 if lv o=0 then e_ P mu o.op o.dst (λs'=>y9 (xF o.op bz) o.dst s s'/\K s') s else∃d,wb P bz (lv o) ops s o d/\K (s.put o.dst d)
def Bh(lv:dU->Nat)(ops:io)(a b:dU):Bool:=a.apart ops b&&lv a !=0&&(lv b !=0||lv a==3||(lv a==2&&!LP b.op))
inductive Ord where
 |fin (l:List Nat)
 |bS (l:List Nat) (k1:Nat) (b:Ord) (a:Nat) (d:Ord)
 |w7 (l:List Nat) (k1:Nat) (b:Ord) (a:Nat) (d:Ord) (e:Nat) (f:Ord)
def Ord.len:Ord->Nat
 |.fin l=>A l
 |.bS l _ a _ _=>A l+(a.len+1)
 |.w7 l _ a _ _ _ _=>A l+(a.len+1)
def xo(lv:dU->Nat)(ops:Array dU)(b:Array Bool->Bool):List Nat->Array Bool->Bool
 |[],a=>b a
 |k::l,a=>(Region.ready .any ops a).contains k&&((cz ops.size).all λj=>match ops[k]?,ops[j]? with
  |some d,E e=>a.getD j W||j==k||Bh lv ops d e||yX .any ops ops.size j k
  |_,_=>af)&&xo lv ops b l (a.setIfInBounds k W)
def ul(lv:dU->Nat)(ops:Array dU):Ord->Array Bool->Bool
 |.fin l,e=>xo lv ops (λa=>(Region.ready .any ops a).isEmpty) l e
 |.bS l k1 b d f,e=>xo lv ops (λa=>(Region.ready .any ops a).contains k1&&((Region.ready .any ops a).all λj=>j==k1||j==d)&&b.len==f.len&&ul lv ops b (a.setIfInBounds k1 W)&&ul lv ops f (a.setIfInBounds d W)) l e
 |.w7 l k1 b d f g h,e=>xo lv ops (λa=>(Region.ready .any ops a).contains k1&&((Region.ready .any ops a).all λj=>j==k1||j==d||j==g)&&b.len==f.len&&b.len==h.len&&ul lv ops b (a.setIfInBounds k1 W)&&ul lv ops f (a.setIfInBounds d W)&&ul lv ops h (a.setIfInBounds g W)) l e
def oR(lv:dU->Nat)(ops:io)(o:Ord):Bool:=(o.len==ops.size)&&ul lv ops o (Array.replicate ops.size af)&&ops.all λo=>lv o !=0||o.guard.isNone
def iO(ops:kB)(l:ax):kB:=l.filterMap λi=>ops[i]?
def se(step:dU->(St->Prop)->St->Prop)(ops:List dU):Ord->(St->Prop)->St->Prop
 |.fin l,K,s=>pD step (iO ops l) K s
 |.bS l k1 b a d,K,s=>pD step (iO ops l) (λs=>pD step (iO ops [k1]) (se step ops b K) s/\pD step (iO ops [a]) (se step ops d K) s) s
 |.w7 l k1 b a d e f,K,s=>pD step (iO ops l) (λs=>pD step (iO ops [k1]) (se step ops b K) s/\pD step (iO ops [a]) (se step ops d K) s/\pD step (iO ops [e]) (se step ops f K) s) s
def sM(P:aH)(mu bz:List Nat)(lv:dU->Nat)(ops:Array dU)(K:St->Prop):Nat->Array Bool->St->Prop
 |0,listed,s=>Region.ready .any ops listed=[]/\K s
 |a+1,listed,s=>(Region.ready .any ops listed=[]->K s)/\
  ∀i∈Region.ready .any ops listed,∃o,ops[i]?=E o/\pF P mu bz lv ops o (sM P mu bz lv ops K a<|listed.setIfInBounds i W) s
variable{P:aH}{mu bz dB:ax}{lv:dU->Nat}{ops:io}
def afU{s s':St}(d:s'.H=s.H)(e:s'.n=s.n){m:Nat}{op:gC}(f:∀a∈op.operands,s'.ev a=s.ev a):
 hA P mu s' m op=(hA P mu s m op).map λq=>(q.1,{s' with H:=q.2.1.H,n:=q.2.1.n},q.2.2):=by
 cases op
 case box h a=>
  simp only[hA];rw[f a u0];obtain _|cs:=mC<|s.ev a
  .rfl
  simp only;split
  .simp[k9,d,e]
  simp[<-d,<-e]
 case alloc h=>
  simp only[hA];obtain _|cs:=sg P h
  .rfl
  simp[k9,d,e]
 case makeMap h r=>
  simp only[hA];cases r<;>simp[KZ,d,e]
 case buildSlice ty i x=>
  simp only[hA];rw[Lm (s:=s) (s':=s') λa l=>f a (by simpa[Op.operands]using l)];split
  .split<;>simp[k9,d,e]
  rfl
 case makeSlice ty i j=>
  simp only[hA];rw[f i u0,f j u0];split<;>simp[k9,d,e]
 case call j=>
  have⟨t,args,p⟩:=j;cases t
  case builtin b=>
   cases b
   case append=>
    have g a (l:a∈args.toList):s'.ev a=s.ev a:=f a (by simp[Op.operands,Call.operands];simpa using l);simp only[hA];generalize args.toList=i at g
    match i,p.toList,g with
    |[a,u],[ty,z],g=>
     simp only;rw[g a Zs,g u Zs,d];obtain _|q:=cE P ty
     .rfl
     have⟨h,y,w⟩:=q;simp only[UH d]
     repeat' split
     all_goals(try unfold wL)
     all_goals(try simp only[UH d])
     repeat' split
     all_goals first|rfl|(simp[<-d,<-e];done)|(simp[k9,d,e];done)|(simp[r2,d,e];done)
    |[],_,_=>rfl
    |[_],_,_=>rfl
    |_::_::_::_,_,_=>rfl
    |[_,_],[],_=>rfl
    |[_,_],[_],_=>rfl
    |[_,_],_::_::_::_,_=>rfl
   all_goals rfl
  all_goals rfl
 all_goals rfl
theorem afZ{s b:St}(d:b.H=s.H)(g:b.n=s.n){op:gC}(a:∀e∈op.operands,b.ev e=s.ev e):
 mV P b op=(mV P s op).map λf=>(f.1,{b with H:=f.2.H,n:=f.2.n}):=by
 cases op
 case store ty e i=>
  simp only[mV];rw[a e u0,a i u0,d];split
  .exact Zg
  rfl
 case mapUpdate ty h k v=>
  simp only[mV];rw[a h u0,a k u0,a v u0,d];split
  .split
   .split
    .split
     .unfold Cj;split<;>simp[<-g,d]
     rfl
    rfl
   rfl
  .split
   .split
    .simp only[Ku d];split<;>simp[<-g]
    rfl
   rfl
  rfl
 all_goals rfl
theorem ahU{op:gC}{dst x:ON}{d:D}{K:aU}{s:St}(a:∀y∈op.operands,(s.put x d).ev y=s.ev y)(A:∀t,dst=E t->x≠E t)(h:e_ P mu op dst K<|s.put x d):
 e_ P mu op dst (λf=>(∀t,x=E t->f.env t=s.env t)/\K (f.put x d)) s:=by
 have u (s1:St) (e:D) (i:(∀t,x=E t->s1.env t=s.env t)) t (g:x=E t):(s1.put dst e).env t=s.env t:=by
  rw[<-i t g];have m:(s1.put dst e).ev (.tmp t)=s1.ev (.tmp t):=Vi λaB ax k=>cq;exact m
 have z (H:a') (n:bi) (T:cf) (e:D):({s.put x d with H:=H,n:=n,T:=T}:St).put dst e=(({s with H:=H,n:=n,T:=T}:St).put dst e).put x d:=by
  rw[put_comm _ (x:=dst) (y:=x) e d A];congr 1;cases x<;>simp only[St.put];split<;>rfl
 have B:∀{y:Option D},nC (s.put x d) dst K y->nC s dst (λf=>(∀t,x=E t->f.env t=s.env t)/\K (f.put x d)) y:=λ{y}k=>by
  obtain _|e:=y
  .exact k
  exact⟨u s e λ_ _=>C,by rw[<-put_comm s (x:=x) (y:=dst) d e λt g k=>A t k g];exact k⟩
 have G:∀{o:gC},(∀y∈o.operands,(s.put x d).ev y=s.ev y)->f_ P (s.put x d) o=f_ P s o:=λj=>LV qT j;have l:∀{t:Nat}{o:gC},(∀y∈o.operands,(s.put x d).ev y=s.ev y)->dst=E t->n_ t K (hA P mu (s.put x d) t o)->n_ t (λf=>(∀t,x=E t->f.env t=s.env t)/\K (f.put x d)) (hA P mu s t o):=λ{t o}j g k=>by
  rw[afU qT Cp j]at k;rcases hs:hA P mu s t o with _|q
  .rw[hs]at k;exact k
  have⟨al,s1,e⟩:=q;rw[hs]at k;have p:=afV hs;refine⟨k.1,?_,?_⟩
  .rw[<-g];exact u s1 e λt _=>by rw[<-p]
  have m:=k.2;rw[<-g]at m;rw[<-g,<-p];have X:=z s1.H s1.n s.T e;exact PC
 have F:∀{o:gC},(∀y∈o.operands,(s.put x d).ev y=s.ev y)->vV dst K (mV P (s.put x d) o)->vV dst (λf=>(∀t,x=E t->f.env t=s.env t)/\K (f.put x d)) (mV P s o):=λ{o}j k=>by
  rw[afZ qT Cp j]at k;rcases hs:mV P s o with _|q
  .rw[hs]at k;exact k
  have⟨al,s1⟩:=q;rw[hs]at k;have p:=af0 hs;refine⟨k.1,u s1 _ λt _=>by rw[<-p],?_⟩;have m:=k.2;rw[<-p];have X:=z s1.H s1.n s.T<|.sc<|.tuple #[];exact PC
 have av:∀(T:cf)(e:D),({s.put x d with T:=T}:St).put dst e=(({s with T:=T}:St).put dst e).put x d:=λT e=>by
  have m:=z s.H s.n T e;have e3:({s.put x d with H:=s.H,n:=s.n,T:=T}:St)={s.put x d with T:=T}:=by
   rw[show s.H=(s.put x d).H from qT.symm,show s.n=(s.put x d).n from Cp.symm]
  rwa[e3]at m
 cases op
 case call R=>
  have⟨S,args,ar⟩:=R;cases S
  case value Y=>
   have ab y (ah:y∈args.toList):(s.put x d).ev y=s.ev y:=a y (by simp[Op.operands,Call.operands];exact aj<|Yq ah);simp only[e_]at h⊢;rw[a Y (by simp[Op.operands,Call.operands]),ET ab]at h;unfold jU at h⊢;split at h
   .obtain⟨r,i,w⟩|⟨O,L,am,U,r,i,w,I,aa,au⟩|h:=h
    .rw[qT,Cm]at i;exact aG ⟨r,i,u s r λ_ _=>C,by rw[<-put_comm s (x:=x) (y:=dst) d r λt g k=>A t k g];exact w⟩
    .rw[Cm]at i;rw[qT]at I;refine aj<|aG ⟨O,L,am,U,r,i,w,I,aa,λe aq j=>Zg⟩
    refine aj (aj λap J Z M ao env ae an ad ay=>?_);have V:({s.put x d with env:=env}:St)={s with env:=env}:=by
     cases x<;>simp only[St.put];split<;>rfl
    have⟨az,aA⟩:=h ap J Z M ao env ((Yy V) ae) an ad Zg;exact Zg
   exact h.elim
  case invoke=>simp only[e_]at h⊢;rw[G a]at h;exact B h
  case builtin b=>
   cases b
   case append=>
    obtain _|t:=dst
    .exact h
    simp only[e_]at h⊢;exact l a C h
   all_goals(simp only[e_]at h⊢;rw[G a]at h;exact B h)
 case store=>simp only[e_]at h⊢;exact F a h
 case mapUpdate=>simp only[e_]at h⊢;exact F a h
 case insert t ak k v=>simp only[e_]at h⊢;exact F (o:=.mapUpdate t ak k v) a h
 case box=>cases dst with|none=>exact h|some t=>simp only[e_]at h⊢;exact l a C h
 case alloc=>cases dst with|none=>exact h|some t=>simp only[e_]at h⊢;exact l a C h
 case makeMap=>cases dst with|none=>exact h|some t=>simp only[e_]at h⊢;exact l a C h
 case buildSlice=>cases dst with|none=>exact h|some t=>simp only[e_]at h⊢;exact l a C h
 case makeSlice=>cases dst with|none=>exact h|some t=>simp only[e_]at h⊢;exact l a C h
 all_goals(simp only[e_]at h⊢;rw[G a]at h;exact B h)
def afY{s b:St}{e:a6}{a:gK}(h:b.ev a=s.ev a)(g:∀d f o,s.ev a=.rf d f o->b.H d=s.H d):f_ P b (.load e a)=f_ P s (.load e a):=by
 simp only[f_,sd];rw[h];cases i:s.ev a<;>simp only[um];rw[g _ _ _ i]
def G3{o:dU}(b:lv o=0){K:aU}{s:St}:pF P mu bz lv ops o K s=e_ P mu o.op o.dst (λa=>y9 (xF o.op bz) o.dst s a/\K a) s:=aM b
def uF{o:dU}(a:lv o≠0){K:aU}{s:St}:pF P mu bz lv ops o K s=∃d,wb P bz (lv o) ops s o d/\K (s.put o.dst d):=aC a
def G4{o:dU}{K b:aU}(e:∀s,K s->b s){s:St}(a:pF P mu bz lv ops o K s):pF P mu bz lv ops o b s:=by
 by_cases d:lv o=0
 .rw[G3 d]at a⊢;exact z8 (λs a=>⟨a.1,e _ a.2⟩) a
 rw[uF d]at a⊢;exact⟨_,a.choose_spec.1,e _ a.choose_spec.2⟩
def Mq{f:Nat}{s b:St}{o:dU}{d:D}(m:b.nt=s.nt)(j:∀i∈o.looksAt ops,b.env i=s.env i)(l:f<3->∀e∈bz,b.H e=s.H e)(g:f<2->b.H=s.H/\b.T=s.T)(k:wb P bz f ops s o d):wb P bz f ops b o d:=
 λH n T N p h=>aiA (s:={s with H:=H,n:=n,T:=T,N:=N}) m C C j (k H n T N (λa e hs=>(p a e hs).trans<|l a e hs) λa=>⟨(h a).1.trans (g a).1,(h a).2.trans (g a).2⟩)
def Cn{s:St}{x:ON}{d:D}{a:Nat}(b:x≠E a):(s.put x d).env a=s.env a:=Vi (x:=.tmp a) λf e k=>b (by cases k;exact e)
def ahS{j f:dU}(i:Bh lv ops j f=W){K:aU}{s:St}(h:pF P mu bz lv ops j (pF P mu bz lv ops f K) s):pF P mu bz lv ops f (pF P mu bz lv ops j K) s:=by
 simp only[Bh,cy,tm,bne_iff_ne,ot,oV]at i;have⟨⟨B,l⟩,i⟩:=i;have⟨r,t,u⟩:=Oper.apart_spec B;rw[uF l]at h;have⟨d,x,h⟩:=h;have L:∀{A:ON}{g w:D}{o:dU}{s:St},(∀a,A=E a->a∉o.looksAt ops)->wb P bz (lv o) ops s o w->wb P bz (lv o) ops (s.put A g) o w:=λe=>Mq Gp (λa b=>Cn λk=>e a k b) (λ_ _ _=>by rw[qT]) λ_=>⟨qT,Cm⟩;by_cases m:lv f=0
 .rw[G3 m]at h⊢;refine z8 (λz⟨G,⟨p,I,q⟩,J⟩=>?_)<|ahU (R' λa b=>Cn λk=>r a k b) (λa b k=>t a k b) h;rw[Gp,Gp]at p;have y a (b:f.dst≠E a):z.env a=s.env a:=by
   by_cases e:j.dst=E a
   .exact G a e
   rw[<-Cn (s:=z) (d:=d) e,I a b,Cn e]
  rw[uF l];simp only[qT]at q;refine⟨⟨p,y,q⟩,d,Mq p (λa b=>y a λk=>u a k b) (λF M hs=>q M ?_) (λF=>by omega) x,J⟩;rwa[aeY (by obtain(h|h)|h:=i;exact absurd m h;omega;exact h.2)]
 rw[uF m]at h⊢;have⟨g,C,h⟩:=h;refine⟨g,Mq Gp.symm (λa b=>(Cn λk=>r a k b).symm) (λ_ _ _=>by rw[qT]) (λ_=>⟨qT.symm,Cm.symm⟩) C,?_⟩;rw[uF l];exact⟨d,L u x,by rw[<-put_comm s d g t];exact h⟩
def IW{y:Bs}(u:(ops.all λo=>lv o !=0||o.guard.isNone)=W){K:aU}{l:iG->dF->a8->Prop}(q:∀a e,LK y K a e->l .normal a e):∀(i:Nat)(listed:ql){j:cG}{p:dZ}{s:St}{a:dF}{e:a8},ba y j p s a e->sM P mu bz lv ops K i listed s->wpAny P .any ops l i listed a e
 |0,_,j,p,s,a,e,h,f=>⟨f.1,q _ _ ⟨s,p,j,f.2,h⟩⟩
 |i+1,listed,j,p,s,a,e,h,f=>by
  refine⟨λm=>q _ _ ⟨s,p,j,f.1 m,h⟩,λw G=>?_⟩;have⟨o,z,g⟩:=f.2 w G;unfold wpOp;simp only[z];have x:∀{A:Prop},o.wp P a e (LK y<|sM P mu bz lv ops K i<|listed.setIfInBounds w W) l->o.wp P a e (wpAny P .any ops l i<|listed.setIfInBounds w W) l\/A:=λf=>aG<|Oper.wp_mono (λa e⟨M,J,I,B,D⟩=>IW u q i _ D B) f;by_cases t:lv o=0
  .have F:o.guard=Q:=by simpa[t]using Array.all_eq_true'.1 u o<|Array.mem_of_getElem? z
   rw[aM (by simp[Region.wanted,F])];rw[G3 t]at g;exact x<|CO h<|z8 (λs f=>f.2) g
  rw[uF t]at g;have⟨d,b,g⟩:=g;have b:=b s.H s.n s.T s.N (λ_ _ _=>C) λ_=>⟨C,C⟩;unfold Ae at b;split at b
  .rename_i r;rw[aM (by simp[Region.wanted,r])];exact x<|W6 h b g
  rename_i L O r;obtain⟨m,b⟩|⟨m,b⟩:=SK h b
  .rw[aM (by simp only[Region.wanted,r];exact m)];exact x<|W6 h b g
  rw[aC (by simp only[Region.wanted,r];rw[m];simp)];subst b;exact IW u q i _ (h.put (.sc eX) o.dst) g
def ye(ops:io)(a:ql):Prop:=∀j b,ops[j]?=E b->a.getD j af=W->∀e∈b.after,Region.binds .any e=W->a.getD e.on af=W
theorem Xv{K:aU}{e:Nat}{i:dU}(y:ops[e]?=E i):∀(j:Nat)(listed:ql)(s:St),ye ops listed->
 (∀a h,ops[a]?=E h->a≠e->listed.getD a W=af->Bh lv ops i h=W\/yX .any ops ops.size a e=W)->
 e∈Region.ready .any ops listed->pF P mu bz lv ops i (sM P mu bz lv ops K j<|listed.setIfInBounds e W) s->sM P mu bz lv ops K (j+1) listed s:=by
 intro j
 induction j with
 |zero=>
  refine λlisted s p r u f=>⟨λF=>Zg,λa g=>?_⟩;by_cases b:a=e
  .subst b;exact⟨i,y,f⟩
  have⟨t,h,m,_⟩:=mem_ready.1 g;have x:listed.getD e af=af:=by
   have:=(mem_ready.1 u).1;exact Zg
  obtain q|w:=r a h m b t
  .have J:lv i≠0:=by simp[Bh]at q;exact q.1.2
   rw[uF J]at f;have⟨d,_,f,_⟩:=f;have A:=ready_mono g b;rw[f]at A;cases A
  exact absurd g (JG p x _ _ w).1
 |succ j L=>
  refine λlisted s p r u f=>⟨λF=>Zg,λa g=>?_⟩;by_cases b:a=e
  .subst b;exact⟨i,y,f⟩
  have⟨t,h,m,_⟩:=mem_ready.1 g;have x:listed.getD e af=af:=by
   have:=(mem_ready.1 u).1;exact Zg
  obtain q|w:=r a h m b t
  .refine⟨h,m,G4 (λD l=>L (listed.setIfInBounds a W) D (Jv p g) (λk M G I C=>r k M G I ?_) (ready_mono u<|uM b) (by rw[Array.setIfInBounds_comm _ _ b];exact l))<|ahS q<|G4 (λD l=>?_) f⟩
   .by_cases z:a=k
    .subst z;exact t
    rw[getD_set_ne W z]at C;exact C
   have⟨O,B,l⟩:=l.2 a<|ready_mono g b;rw[m]at B;cases B;exact l
  exact absurd g (JG p x _ _ w).1
section
variable{step:dU->(aU)->aU}(hs:∀(k:Nat)(o:dU),ops[k]?=E o->∀(K:aU)(s:St),step o K s->pF P mu bz lv ops o K s)
include hs
def Ec{K R:aU}{l:Array Bool->Bool}{n:Nat}(m:∀(i:ql)(s:St),ye ops i->l i=W->R s->sM P mu bz lv ops K n i s):
 ∀(a:ax)(b:ql)(s:St),ye ops b->xo lv ops l a b=W->pD step (iO ops.toList a) R s->sM P mu bz lv ops K (A a+n) b s
 |[],_,s,g,f,d=>by
  rw[gR,ew];exact m _ s g (by simpa[xo]using f) d
 |k::a,b,s,g,f,d=>by
  simp only[xo,cy]at f;have⟨⟨x,t⟩,r⟩:=f;have h:k∈Region.ready .any ops b:=Yq x;have⟨_,o,e,_⟩:=mem_ready.1 h;have w:iO ops.toList (k::a)=o::iO ops.toList a:=by
   simp[iO,e]
  rw[w]at d;have j:A (k::a)+n=(A a+n)+1:=co;rw[j];refine Xv e (A a+n) b s g (λz C p u y=>?_) h<|G4 (λB q=>Ec m a _ B (Jv g h) r q)<|hs k o e _ _ d;have j:=en.1 t z<|oo.2 (nO.1 p).1;simpa[e,p,y,u]using j
def Xw{K:aU}:∀(o:Ord)(a:ql)(s:St),ye ops a->ul lv ops o a=W->se step ops.toList o K s->sM P mu bz lv ops K o.len a s:=by
 have one:∀{h:Ord}{n k:Nat}{e:ql}{s:St},ye ops e->k∈Region.ready .any ops e->h.len=n->ul lv ops h (e.setIfInBounds k W)=W->pD step (iO ops.toList [k]) (se step ops.toList h K) s->
  (∀(a:ql)(s:St),ye ops a->ul lv ops h a=W->se step ops.toList h K s->sM P mu bz lv ops K h.len a s)->
  ∃o,ops[k]?=E o/\pF P mu bz lv ops o (sM P mu bz lv ops K n<|e.setIfInBounds k W) s:=by
  intro h n k e s f w D B x G;have⟨_,o,q,_⟩:=mem_ready.1 w;have F:iO ops.toList [k]=[o]:=by simp[iO,q]
  rw[F]at x;exact⟨o,q,G4 (λO z=>by rw[<-D];exact G _ O (Jv f w) B z)<|hs k o q _ _ x⟩
 intro o
 induction o with
 |fin m=>exact λa s f l j=>Ec hs (R:=K) (n:=0) (λe s _ g b=>⟨Yq g,b⟩) m a s f l j
 |bS m I L J M r t=>
  refine λa s f l j=>Ec hs (λe s i g b=>?_) m a s f l j;simp only[cy,en,tm,ot,contains_iff_mem]at g;have⟨⟨⟨⟨f1,f2⟩,f3⟩,f4⟩,f5⟩:=g;refine⟨λp=>(by rw[p]at f1;cases f1),λu d=>?_⟩;obtain rfl|rfl:=f2 u d
  .exact one i d C f4 b.1 r
  exact one i d f3.symm f5 b.2 t
 |w7 m I L J M S U r t A=>
  refine λa s f l j=>Ec hs (λe s i g b=>?_) m a s f l j;simp only[cy,en,tm,ot,contains_iff_mem]at g;have⟨⟨⟨⟨⟨⟨f1,f2⟩,f3⟩,y⟩,f4⟩,f5⟩,f6⟩:=g;refine⟨λp=>(by rw[p]at f1;cases f1),λu d=>?_⟩;obtain(rfl|rfl)|rfl:=f2 u d
  .exact one i d C f4 b.1 r
  .exact one i d f3.symm f5 b.2.1 t
  exact one i d y.symm f6 b.2.2 A
end
def R0{step:dU->(aU)->aU}{K:aU}{s:St}(hs:∀(k:Nat)(o:dU),ops[k]?=E o->(lv o=0->o.guard=Q)->∀(K:aU)(s:St),step o K s->pF P mu bz lv ops o K s)(o:Ord)(l:P.follows .mixedOrders=W)(a:oR lv ops o=W)(i:se step ops.toList o K s):vn P ops K s:=by
 refine⟨l,λy b e d h u m p=>?_⟩;simp only[oR,cy,ot]at a;apply IW (mu:=mu) (bz:=bz) a.2 (K:=K) (λd h⟨s,e,b,q,r⟩=>m d h ⟨s,e,b,q,r⟩) _ _ p;have t:=Xw (λk o g=>hs k o g λj=>by simpa[j]using Array.all_eq_true'.1 a.2 o<|Array.mem_of_getElem? g) o _ s (λw x _ f=>by rw[aaL]at f;cases f) a.1.2 i;rwa[a.1.1]at t
def Bc{s:St}{H:a'}{n:bi}{T:cf}{N:Nat}:({s with H:=H,n:=n,T:=T,N:=N}:St).ev=s.ev:=funext λa=>by cases a<;>rfl
def SJ{g:aU}{f:Nat}{o:dU}{K:aU}{s:St}(i:g s->∃d,(∀(H:a')(n:bi)(T:cf)(N:Nat),(f<3->∀j∈bz,H j=s.H j)->(f<2->H=s.H/\T=s.T)->nN P {s with H:=H,n:=n,T:=T,N:=N} o.op d)/\K (s.put o.dst d))
 (a:match o.guard with|none=>g s|some (e,l)=>jG (nZ (hJ ops.toList) s e) l g (vT o.dst K) s):∃d,wb P bz f ops s o d/\K (s.put o.dst d):=by
 unfold wb Ae;rcases h:o.guard with _|q
 .simp only[h]at a;exact i a
 have⟨e,l⟩:=q;simp only[h]at a;have p (H:a') (n:bi) (T:cf) (N:Nat):nZ (hJ ops.toList) {s with H:=H,n:=n,T:=T,N:=N} e=nZ (hJ ops.toList) s e:=C;simp only[p];unfold jG at a⊢;split at a
 .split at a
  .have⟨d,r,t⟩:=i a;exact⟨d,λH n T N m b=>by rw[aM ‹_›];exact r H n T N m b,t⟩
  exact⟨.sc eX,λ_ _ _ _ _ _=>Yw<|aC ‹_›,a⟩
 .exact⟨.sc eX,λ_ _ _ _ _ _=>C,a⟩
 exact a.elim
theorem aex{o:dU}(F:k7 bz dB o≠0){K:aU}{s:St}(a:lx P mu bz (vP o.op) (s9 dB o.dst) o.op o.dst K s):
 ∃d,(∀(H:a')(n:bi)(T:cf)(N:Nat),(k7 bz dB o<3->∀g∈bz,H g=s.H g)->(k7 bz dB o<2->H=s.H/\T=s.T)->nN P {s with H:=H,n:=n,T:=T,N:=N} o.op d)/\K (s.put o.dst d):=by
 have⟨u,op,ty,pos,M,R⟩:=o;unfold lx at a;dsimp only at a⊢;split at a
 .rename_i f;have⟨p,a⟩:=a;rcases hs:f_ P s op with _|d
  .rw[hs]at a;exact a.elim
  rw[hs]at a;refine⟨d,λH n T N J I=>?_,a⟩;have l:rF op=0->f_ P {s with H:=H,n:=n,T:=T,N:=N} op=E d:=λx=>by rw[afX x λi _=>Ax Bc i];exact hs
  cases op
  case load L i=>
   show f_ P _ (.load L i)=E d;rw[afY (s:=s) (Ax Bc i) λg O o w=>?_]
   .exact hs
   by_cases e:s9 dB u=W
   .exact Ax (I (by simp[k7,rF,e])).1 g
   simp only[FR,eq_false_of_ne_true e,FT,w]at p;refine J ?_ g p;obtain _|_:=bz
   .cases p
   simp[k7,rF,e]
  case call j=>
   have⟨m,args,t⟩:=j;cases m
   case value=>cases f
   case invoke=>exact l C
   case builtin b=>cases b<;>first|exact l C|cases f
  all_goals first|exact l C|cases f
 rename_i f;split at a
 .rename_i e;cases op<;>try exact a.elim
  case buildSlice ty G parts=>
   simp only[A0]at a;rcases h:tU P s ty G parts with _|q
   .rw[h]at a;exact a.elim
   rw[h]at a;exact⟨_,λH n T N _ _=>⟨q.1,by simp only[tU,Bc]at h⊢;exact h,a.1⟩,a.2⟩
  rename_i j;have⟨m,args,t⟩:=j;cases m<;>try exact a.elim
  simp only[A0,yP]at a;split at a
  .have⟨r,⟨y,z⟩,A⟩:=a;rename_i D;exact⟨r,λH n T N _ _=>by simp only[nN,Bc,D];exact aG ⟨y,λ_ d B=>z d<|fE B⟩,A⟩
  exact a.elim
 rename_i e;exact absurd (by cases op<;>first|rfl|(exfalso;exact f C)|(simp only[k7];split<;>simp_all[vP])) F
def afT{o:dU}(h:k7 bz dB o=0->o.guard=Q){K:aU}{s:St}(b:CC P mu bz dB (hJ ops.toList) o K s):pF P mu bz (k7 bz dB) ops o K s:=by
 by_cases a:k7 bz dB o=0
 .rw[G3 a];unfold CC at b;simp only[h a,lx]at b;have⟨l,op,ty,pos,i,m⟩:=o;dsimp only at b a⊢;split at b
  .rename_i d;simp only[vP,tm,ot]at d;obtain d|d:=d<;>simp only[k7,d]at a
   .cases a
   split at a
   .cases a
   split at a<;>cases a
  rename_i d;split at b
  .rename_i e;cases op<;>try exact b.elim
   case buildSlice=>simp[k7,rF,e]at a
   rename_i f;have⟨g,args,j⟩:=f;cases g<;>try exact b.elim
   simp[k7,rF]at a;exact absurd e<|Yr a
  exact b
 rw[uF a];exact SJ (aex a) b
def U8:∀(a pre:kB),iO (pre++a) (range' (A pre)<|A a)=a
 |[],_=>rfl
 |o::a,pre=>by
  have d:=U8 a<|pre++[o];simp only[dy,bg,aY,b9,dC,gR,ew]at d;simp only[iO,dC,range'_succ]at d⊢;rw[filterMap_cons_some (b:=o) Zs,d]
def Ln:iO ops.toList (cz ops.size)=ops.toList:=by
 have a:=U8 ops.toList [];rw[range_eq_range'];simpa using a
def JK{P:aH}{mu:ax}{ops:io}{K:aU}{s:St}(o:Ord)(bz dB:ax)(b:P.follows .mixedOrders=W)(d:oR (k7 bz dB) ops o=W)(a:se (CC P mu bz dB<|hJ ops.toList) ops.toList o K s):vn P ops K s:=
 R0 (λ_ _ _ e _ _ k=>afT e k) o b d a
def lQ(P:aH)(mu bz dB:ax)(ops:List<|ON)(l:kB)(K:aU):St->Prop:=pD (CC P mu bz dB ops) l K
def sf(P:aH)(mu bz dB:ax)(ops:kB)(o:Ord)(K:aU)(s:St):Prop:=se (CC P mu bz dB<|hJ ops) ops o K s
variable{P:aH}{mu bz dB:ax}{ops:List (ON)}{os:kB}{K:aU}{s:St}
def ah2{a:ax}:sf P mu bz dB os (.fin a) K s=lQ P mu bz dB (hJ os) (iO os a) K s:=cQ C C
def ah3{d:ax}{a b:Nat}{e f:Ord}:sf P mu bz dB os (.bS d a e b f) K s=lQ P mu bz dB (hJ os) (iO os d) (λs=>lQ P mu bz dB (hJ os) (iO os [a]) (sf P mu bz dB os e K) s/\lQ P mu bz dB (hJ os) (iO os [b]) (sf P mu bz dB os f K) s) s:=cQ C C
def ah4{e:ax}{a b d:Nat}{f g h:Ord}:sf P mu bz dB os (.w7 e a f b g d h) K s=lQ P mu bz dB (hJ os) (iO os e) (λs=>lQ P mu bz dB (hJ os) (iO os [a]) (sf P mu bz dB os f K) s/\lQ P mu bz dB (hJ os) (iO os [b]) (sf P mu bz dB os g K) s/\lQ P mu bz dB (hJ os) (iO os [d]) (sf P mu bz dB os h K) s) s:=cQ C C
def aeE:lQ P mu bz dB ops [] K s=K s:=cQ C C
def aeC{d:ON}{op:gC}{ty:a6}{pos:String}{b:Array Edge}{a:kB}:lQ P mu bz dB ops (⟨d,op,ty,pos,b,Q⟩::a) K s=lx P mu bz (vP op) (s9 dB d) op d (lQ P mu bz dB ops a K) s:=cQ C C
def aeD{d:ON}{op:gC}{ty:a6}{pos:String}{f:Array Edge}{a:kB}{b:Nat}{e:Bool}:lQ P mu bz dB ops (⟨d,op,ty,pos,f,E (b,e)⟩::a) K s=jG (nZ ops s b) e (lx P mu bz (vP op) (s9 dB d) op d<|lQ P mu bz dB ops a K) (vT d<|lQ P mu bz dB ops a K) s:=cQ C C
def aew{op:gC}{a:ON}:lx P mu bz W W op a K s=nC s a K (f_ P s op):=by simp[lx,FR]
def aev{op:gC}{a:ON}:lx P mu bz W af op a K s=(FT bz s op/\nC s a K (f_ P s op)):=by simp[lx,FR]
def aeu{b:gK}{args:Array gK}{d:Array a6}{a:ON}:lx P mu bz af W (.call ⟨.value b,args,d⟩) a K s=yP P s (s.ev b) (args.toList.map s.ev) a K:=by simp[lx,A0]
def aet{ty:a6}{b:Nat}{parts:Array (Nat×gK)}{a:ON}:lx P mu bz af W (.buildSlice ty b parts) a K s=Jw s a K (tU P s ty b parts):=by simp[lx,A0]
def Y2{a:ON}{b:Prop}{d:D}:Jw s a K (E (b,d))=(b/\K (s.put a d)):=cQ C C
def Lh{op:gC}{a:ON}:lx P mu bz af af op a K s=e_ P mu op a (λb=>y9 (xF op bz) a s b/\K b) s:=by simp[lx]
def JY{bz:ax}{i g:Nat}{f:fL}{b e:a'}{r t:bi}{m p:cf}{j l:Nat}{d:D}:y9 bz (E i) ⟨f,b,r,g,m,j⟩ ⟨aw f i d,e,t,g,p,l⟩=∀h∈bz,e h=b h:=by
 apply propext;constructor
 .exact λa=>a.2.2
 exact λa=>⟨C,λu q=>by simp only[aw];rw[aC];rintro rfl;exact q C,a⟩
def aaB{bz:ax}{f:Nat}{e:fL}{b d:a'}{m p:bi}{j l:cf}{h i:Nat}:y9 bz Q ⟨e,b,m,f,j,h⟩ ⟨e,d,p,f,l,i⟩=∀g∈bz,d g=b g:=by
 apply propext;exact⟨λa=>a.2.2,λa=>⟨C,λ_ _=>C,a⟩⟩
def rH{P:aH}{mu:ax}{ops:io}{K:aU}{s:St}(o:Ord)(bz dB:ax)(b:P.follows .mixedOrders=W)(d:oR (k7 bz dB) ops o=W)(a:sf P mu bz dB ops.toList o K s):ub P mu ops K s:=JK o bz dB b d a
def RY{P:aH}{mu:ax}{ops:io}{K:aU}{s:St}(a bz dB:ax)(d:P.follows .mixedOrders=W)(e:oR (k7 bz dB) ops (.fin a)=W)(b:lQ P mu bz dB (hJ ops.toList) (iO ops.toList a) K s):ub P mu ops K s:=JK (.fin a) bz dB d e b
def EK{P:aH}{mu:ax}{ops:io}{K:aU}{s:St}(bz dB:ax)(b:P.follows .mixedOrders=W)(d:oR (k7 bz dB) ops (.fin<|cz ops.size)=W)(a:lQ P mu bz dB (hJ ops.toList) ops.toList K s):ub P mu ops K s:=RY _ bz dB b d (by rw[Ln];exact a)
def wX{P:aH}{mu:ax}{ops:io}{K:aU}{s:St}(a:aU)(o:Ord)(bz dB:ax)(d:P.follows .mixedOrders=W)(e:oR (k7 bz dB) ops o=W)(b:sf P mu bz dB ops.toList o a s)(f:∀s,a s->K s):ub P mu ops K s:=JL f<|rH o bz dB d e b
def Ba(P:aH)(ops:io)(p:Prop)(K:aU)(s:St):Prop:=(P.follows .mixedOrders=W/\oR (λ_=>1) ops (.fin<|cz ops.size)=W/\p)\/vn P ops K s
def JI{P:aH}{ops:io}{a:Prop}{K:aU}{s:St}(d:P.follows .mixedOrders=W)(e:oR (λ_=>1) ops (.fin<|cz ops.size)=W)(b:a):Ba P ops a K s:=aG ⟨d,e,b⟩
def pe{P:aH}{ops:io}{f:Prop}{K:aU}{s:St}(a bz dB:ax)(d:P.follows .mixedOrders=W)(e:oR (k7 bz dB) ops (.fin a)=W)(b:lQ P [] bz dB (hJ ops.toList) (iO ops.toList a) K s):Ba P ops f K s:=aj<|JK (.fin a) bz dB d e b
def sX{P:aH}{ops:io}{e:Prop}{K:aU}{s:St}(bz dB:ax)(b:P.follows .mixedOrders=W)(d:oR (k7 bz dB) ops (.fin<|cz ops.size)=W)(a:lQ P [] bz dB (hJ ops.toList) ops.toList K s):Ba P ops e K s:=pe _ bz dB b d (by rw[Ln];exact a)
def ah7{P:aH}{mu:ax}{b:gg}{s:St}{i:Nat}{os:io}(_:F5 os.toList=af):vc P mu (.region i os W) b s=Ba P os (z' P (hJ os.toList) os.toList (Cf b .normal) s) (Cf b .normal) s:=
 propext ⟨aj,λa=>a.elim (λ⟨e,f,h⟩=>R0 (mu:=[]) (bz:=[]) (step:=V5 P<|hJ os.toList) (λk o _ _ K s a=>by
  rw[uF Zs];exact SJ (λa=>let⟨d,e,f⟩:=ahT a;⟨d,λl q p m _ g=>W5 (g Zo).1 (g Zo).2 (λj _=>Ax Bc j) e,f⟩) a) _ e f (by show pD _ (iO os.toList<|cz os.size) _ _;rw[Ln];exact h)) id⟩
def l6{P:aH}{s:St}{b:bI}{aW aV args:DL}{a:ON}{K:aU}(r:D)(e:Sp P b (aW++args++aV) r)(g:∀d∈aW++args++aV,Cl d)(f:K<|s.put a r):yP P s (.fn b aW aV) args a K:=⟨r,⟨e,g⟩,f⟩
end
end Go.Fw
