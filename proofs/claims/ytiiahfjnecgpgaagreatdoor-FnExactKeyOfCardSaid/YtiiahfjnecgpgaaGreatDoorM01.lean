/- A part of the proof about KeyOf. No condition. -/
import Derived.Lib.ItoaNum
import Derived.WalkKit
import Derived.TacticsIn
import Derived.TacticsInMore
import Derived.Deep.Quiet
import Derived.Laws.AppendOwn
import Derived.Laws.MakeOwn
import Derived.Laws.Cover3
import Derived.Laws.Pointers
import Derived.LaidEqlPtr
import Derived.KernelRfl
set_option maxRecDepth 100000
set_option maxHeartbeats 8000000
set_option linter.unusedSimpArgs false
set_option linter.unusedVariables false
set_option linter.defProp false
open Go renaming maxLen->ao,Value->aE,World->aL,Op->eU,Program->ay,TypeId->aQ,FuncId->bK,Oper->da,run_underlying->dU,undef->cC,execOp->dl,Exit->gk,Operand->eV,Act->cq
open Option renaming some->E,none->aa
open Go.Result renaming andThen_ok->gl
open Go.Sem renaming run_bind->eW
open Bool renaming true->ad,false->al
namespace Go
universe u
def A {α:Sort u} {a:α}:a=a:=rfl
end Go
namespace Go
def av:=@if_neg
def ax:=@List.getElem_mem
def aG:=@List.mem_map
def aI:=@if_true
def aM:=@if_pos
def aV:=@if_false
def a7:=@List.forall_mem_cons
def a8:=@List.nil_append
def bf:=@List.cons_append
def bj:=@decide_eq_false
def bp:=@List.map_cons
def bC:=@List.map_append
def bD:=@decide_eq_true
def bF:=@List.length_append
def bG:=@List.mem_singleton
def bP:=@eq_true
def bR:=@List.getElem?_eq_getElem
def bW:=@List.length_map
def b3:=@Bool.and_eq_true
def b6:=@List.all_eq_true
def b9:=@List.take_length
def b_:=@Nat.le_refl
def cg:=@List.mem_append
def ch:=@List.take_succ_eq_append_getElem
def cr:=@Eq.trans
def cB:=@List.map_nil
def cH:=@List.sizeOf_lt_of_mem
def cJ:=@List.mem_cons
def cO:=@decide_eq_true_eq
def cS:=@List.not_mem_nil
def cU:=@List.take_of_length_le
def c_:=@List.append_nil
def di:=@List.length_cons
def dy:=@Option.some.injEq
def dz:=@not_false_eq_true
def dG:=@List.getElem_of_mem
def dM:=@List.append_assoc
def dN:=@List.flatten_cons
def dO:=@congrArg
def dP:=@ne_eq
def dT:=@forall_eq
def dZ:=@List.map_map
def eg:=@List.mem_of_getElem?
def ej:=@List.getElem?_eq_some_iff
def ek:=@Nat.zero_add
def ey:=@Option.map_some
def ez:=@false_implies
def eE:=@List.mem_append_left
def eI:=@List.getElem_map
def eJ:=@implies_true
def eN:=@List.mem_append_right
def fa:=@and_true
def ft:=@List.mem_flatten
def fN:=@List.flatten_append
def fO:=@List.getElem_cons_zero
def fP:=@List.length_take
def fX:=@List.flatten_nil
def fY:=@Nat.le_trans
def fZ:=@decide_eq_false_iff_not
def gv:=@Nat.lt_of_lt_of_le
def gF:=@List.getElem?_map
def gG:=@List.length_nil
def gR:=@List.nodup_append
def gX:=@List.map_congr_left
def hN:=@Bool.true_and
def hP:=@List.length_eq_one_iff
def hQ:=@List.mem_iff_getElem?
def ia:=@List.sum_cons
def iv:=@Array.getD_eq_getD_getElem?
def ix:=@List.take_succ_cons
def iy:=@Nat.zero_le
def iz:=@or_false
def iJ:=@Option.bind_eq_some_iff
def iK:=@and_self
def iY:=@Array.getElem?_eq_some_iff
def iZ:=@List.foldl_cons
def i1:=@List.getElem_cons_succ
def jg:=@Option.map_eq_some_iff
def jh:=@decide_eq_decide
def ji:=@eq_self
def jv:=@List.getElem?_append_right
def jR:=@List.getElem?_append_left
def jS:=@Option.bind_some
def jT:=@not_or
def kn:=@List.foldl_append
def ko:=@List.mem_filter
def kJ:=@List.length_singleton
def kK:=@List.map_take
def kL:=@Nat.add_zero
def kM:=@Option.getD_some
def k9:=@List.any_eq_true
def k_:=@List.mapM_cons
def la:=@List.nodup_cons
def lb:=@List.take_append_drop
def lc:=@Nat.mul_one
def lX:=@List.forall_mem_append
def lY:=@Option.isSome_some
def lZ:=@Option.none_or
def l6:=@beq_iff_eq
def mF:=@Bool.false_and
def nk:=@Bool.eq_iff_iff
def nl:=@List.length_filter_le
def np:=@List.mem_cons_of_mem
def nq:=@List.size_toArray
def nr:=@true_and
def oo:=@Bool.not_eq_true'
def oq:=@Int.le_refl
def ot:=@List.zip_cons_cons
def ou:=@List.zip_nil_right
def ow:=@Nat.not_lt_zero
def ox:=@decide_true
def ph:=@List.drop_eq_getElem_cons
def pj:=@List.pairwise_cons
def pk:=@Option.isSome_iff_exists
def p5:=@Array.size_append
def p6:=@Bool.false_or
def p7:=@List.ext_getElem
def p8:=@List.getElem_drop
def p9:=@List.mem_of_mem_take
def p':=@Nat.add_mul
def qU:=@Array.ext'
def qV:=@Array.length_toList
def qW:=@Bool.or_eq_true
def qX:=@ByteArray.size_append
def qY:=@List.any_eq_false
def qZ:=@List.headD_cons
def q0:=@List.length_pos_iff
def q':=@List.length_replicate
def q_:=@List.map_reverse
def ra:=@List.mem_of_mem_drop
def rb:=@List.mem_range
def re:=@Nat.add_assoc
def rh:=@Nat.add_comm
def ri:=@decide_false
def su:=@Int.add_zero
def sv:=@Int.toNat_natCast
def sx:=@List.findIdx_cons
def sy:=@List.getD_eq_getElem?_getD
def sA:=@List.getElem?_take
def sB:=@List.sum_append
def sC:=@Option.some.inj
def uc:=@Array.getElem?_append_left
def ud:=@Bool.and_eq_false_iff
def ue:=@Bool.and_true
def uf:=@Bool.false_eq_true
def ug:=@List.getElem_mapIdx
def uh:=@List.mem_of_find?_eq_some
def ui:=@Nat.mul_le_mul_right
def uj:=@Nat.sub_self
def uk:=@beq_self_eq_true
def ul:=@true_implies
def vX:=@Array.getElem?_toList
def vY:=@Function.comp_apply
def vZ:=@List.cons.injEq
def v7:=@List.flatten_singleton
def v8:=@List.getElem?_cons_succ
def v_:=@List.getElem?_eq_none
def wa:=@List.getElem?_toArray
def wb:=@List.length_zip
def wc:=@List.range_succ
def we:=@List.reverse_append
def wg:=@Option.bind_eq_bind
def wh:=@Option.pure_def
def wi:=@forall_eq_or_imp
def yg:=@List.getElem?_range
def yh:=@List.getElem_append_left
def yi:=@List.length_flatten
def yj:=@List.length_reverse
def Bg:=@Array.getElem?_append_right
end Go
namespace Go.Fw
noncomputable section
section
variable{p:Prop}
def Z1(h:p:=by
 have aC:=bh h;have Q4:=Q2 q aC;have xi:=qz q aC;rw[nB,<-JM q aC]at xi;simp only[h,s7,e1,e2,CA,hX (f:=Nd.d) aC,go_sem];refine bO (QO q) ?_;refine aT (λhb=>?_) λhb=>?_
 .have xd:bN k n ns q≠[]:=by intro e;simp[e]at hb
  have hv:lW k n ns vars bs q=vars++bs:=by unfold lW;rw[av xd]
  rw[hv]at xi;simp only[go_sem];refine mc [0,2,3,4,5,1,6,7] [] [] ?_;simp only[e1,e2,go_sem];refine hU (O_ vars iM) l9 ?_;have ho:=x0 Bi.one (vars++bs);rw[o_,fN]at ho;have QN:0<bs.length:=q0.2 (JC q xd);rcases De:aq Bi.d bs with _|⟨r0,rs⟩
  .exact absurd (by simpa[aq]using De) (JC q xd)
  simp only[dC Bi.d vars,go_sem];have s_:=dO List.length De;rw[dC,di]at s_;simp only[<-De,<-s_];refine⟨⟨ho,QN,Zo,by unfold ao;omega⟩,?_⟩;refine GK.ln [178] 18 (cT (vars++bs)) (by simp only[af,aI,aV,aP];exact Fz.rows (ob:=⟨_,217,1,(aq Bi.d vars).flatten++(aq Bi.d bs).flatten,aa⟩) (by simp only[bi,bG,aI,bH]) A A Zd (by simp[aq]) (e_ _) (by rw[o_,fN]) (by simp only[aq,aG];rintro r⟨y,_,rfl⟩d hd;simp at hd;subst hd;exact Bi.cl y)) (oH _) ?_;simp only[e0,cT,go_sem];refine .inr (.inr (xi _ _ _ (λt ht=>?_) λn5 r hr QS=>?_))
  .obtain⟨z1,z2,z3,z4,z5,z6⟩:=nT t ht;simp[aN,z4,aj,mh t ht]
  obtain⟨HB,Jx⟩:∃HB,HB=aN [178] (aj (aj H 178 aa) 178 (E ⟨n' 178,217,1,(aq Bi.d vars).flatten++(aq Bi.d bs).flatten,aa⟩)):=⟨_,A⟩;have zz:∀t,t≠178->HB t=H t:=λt z=>by rw[Jx];simp[aN,z,aj]
  have QJ:=(zz 6 Zd).trans h6;have QI:=(zz 12 Zd).trans oU;have Jy:∀t∈LL,HB t=H0 t:=λt ht=>by
   obtain⟨z1,z2,z3,z4,z5,z6⟩:=nT t ht;rw[zz t z4,mh t ht]
  have nV:aH [185] HB 125 5 (tl.map aW) Ny:=hx.congr (by simp[zz]);rw[<-Jx];obtain⟨⟨⟨ck,cv,cd,nJ⟩,rD⟩,rfl,zM⟩:=hr;simp only[sT,aW,go_sem];refine GK.intro (dS.eF (S:=[185]) (rows:=tl.map aW) (bx:=[aW ⟨.mk ck cv cd nJ,rD⟩]) jL (by simp only[af,aI,aV,aP];exact nV.congr bJ) (nf _) (by simp[af,cF,aj,aW,Core.ds,ints]) Zs (by simpa using vM ⟨.mk ck cv cd nJ,rD⟩) (by rw[bW,xo];show(q+1)*88<=_;omega) (by rw[bW,xo];show q+1<=ao;unfold ao;omega) λH6 n6 x6 JV u0=>?_);have g6:=u0 6 Zd Zd;have g12:=u0 12 Zd Zd;simp only[bV,dP,aP,dz,QJ,QI]at g6 g12;exact F3
 .have xd:bN k n ns q=[]:=by simpa using hb
  have hv:lW k n ns vars bs q=vars:=by unfold lW;rw[aM xd]
  rw[hv]at xi;simp only[go_sem];refine GK.intro ?_;simp only[e0,cT,go_sem];refine .inr (.inr (xi _ _ _ mh λn5 r hr QS=>?_));have Jy:=mh;obtain⟨⟨⟨ck,cv,cd,nJ⟩,rD⟩,rfl,zM⟩:=hr;simp only[sT,aW,go_sem];refine GK.intro (dS.eF (S:=[185]) (rows:=tl.map aW) (bx:=[aW ⟨.mk ck cv cd nJ,rD⟩]) jL (by simp only[af,aI,aV,aP];exact hx.congr bJ) (nf _) (by simp[af,cF,aj,aW,Core.ds,ints]) Zs (by simpa using vM ⟨.mk ck cv cd nJ,rD⟩) (by rw[bW,xo];show(q+1)*88<=_;omega) (by rw[bW,xo];show q+1<=ao;unfold ao;omega) λH6 n6 x6 JV u0=>?_);have g6:=u0 6 Zd Zd;have g12:=u0 12 Zd Zd;simp only[bV,dP,aP,dz,h6,oU]at g6 g12;exact F3):p:=h
def Z2(h:p:=by
 refine bq 26 d.length (λq=>Fw.cK 56 [(2,.cp [I k,I v,.sl 1 (d.map λn=>[I n]),.sl 4 (Core.ae ks)]),(1,.sl 1 (Z live)),(4,.rf 4 0 0),(5,.rf 5 0 0),(24,.sl 1 (d.map λn=>[I n])),(25,I d.length)] λenv H n1 T=>(∃c4,H 4=E ⟨0,81,4,c4,aa⟩/\c4.length=4)/\∃x,H 5=E ⟨0,81,4,[I k,I v',x,a'],aa⟩/\aH [36] H 2 1 (Z ((d.take q).map f)) x) A
  ⟨A,by simp[af,ba],⟨_,by simp only[aj,aI,aV,aP];rfl,A⟩,_,by simp[aj,h2],.inl ⟨A,A⟩⟩ ?_
 rintro q env H n1 T N hq⟨⟨c4,h4,pM⟩,x,h5,hx⟩;simp only[go_sem];refine aT (λh=>?_) λh=>?_
 .have aC:=bh h;have g0:(d.map λn=>[I n])[q]?=E [I d[q]]:=by simp[aC]
  have kw:Z ((d.take (q+1)).map f)=Z ((d.take q).map f)++[[I (f d[q])]]:=by rw[ch aC,bC,nC];rfl
  have o1:(Z ((d.take q).map f)).length=q:=by rw[dD];simp;omega
  simp only[g0,go_sem];refine cX [5] [] ?_;simp only[h5,ic,go_sem];refine bw (C' d[q]) ?_;simp only[h5,go_sem];refine iO (S:=[36]) (rows:=Z ((d.take q).map f)) (bx:=[[I (f d[q])]]) Zs CC (by simp only[af,aI,aV,aP,bT,bU,reduceCtorEq];exact hx.congr bJ) (jw _) ga Zs A (by rw[o1];show(q+1)*8<=_;omega) (by rw[o1];show q+1<=ao;unfold ao;omega) (by show 36<56;decide) ?_;exact F_
 have tf:=bS h;subst tf;rw[b9]at hx;simp only[h,iR,go_sem];clear h;refine bq 42 ks.length (λq=>Fw.cK 56 [(1,.sl 1 (Z live)),(4,.rf 4 0 0),(5,.rf 5 0 0),(40,.sl 4 (Core.ae ks)),(41,I ks.length)] λenv H n1 T=>(∃c4,H 4=E ⟨0,81,4,c4,aa⟩/\c4.length=4)/\∃x y,H 5=E ⟨0,81,4,[I k,I v',x,y],aa⟩/\aH [36] H 2 1 (Z (d.map f)) x/\aH [52] H 81 4 (Core.ae ((ks.take q).map (Core.aJ f))) y) A
  ⟨A,by simp[af],⟨c4,h4,pM⟩,x,_,h5,hx,.inl ⟨A,A⟩⟩ ?_
 clear hx h4 h5;rintro q env H n1 T N hq⟨⟨c4,h4,pM⟩,x,y,h5,hx,hy⟩;simp only[go_sem];refine aT (λh=>?_) λh=>?_
 .have aC:=bh h;have g0:=Core.bo ks q aC;have hm:=ax aC;have mn:=ih ks[q] (by have:=cH hm;simp;omega) (te _ hm);have xg:=Core.cl ks[q];have kw:Core.ae ((ks.take (q+1)).map (Core.aJ f))=Core.ae ((ks.take q).map (Core.aJ f))++[(ks[q].aJ f).ds]:=by rw[Core.bZ,Core.bZ,ch aC,bC,bC];rfl
  have o1:(Core.ae ((ks.take q).map (Core.aJ f))).length=q:=by rw[Core.bb];simp;omega
  rcases nR:ks[q].aJ f with⟨ck,cv,cd,nJ⟩
  rw[nR]at mn kw;rcases QR:ks[q]with⟨bk,bv,bd,yK⟩
  rw[QR]at g0 mn xg;simp only[Core.ds]at g0 mn xg kw;simp only[g0,go_sem];refine cX [5,9] [] ?_;simp only[h5,ic,go_sem];refine bw mn ?_;simp only[h5,go_sem];refine iO (S:=[52]) (rows:=Core.ae ((ks.take q).map (Core.aJ f))) (bx:=[[I ck,I cv,ints cd,.sl 4 (Core.ae nJ)]]) Zs CB (by simp only[af,aI,aV,aP,bT,bU,reduceCtorEq];exact hy.congr bJ) (Core.ea _) (by simp[af,cF,aj,ints]) Zs A (by rw[o1];show(q+1)*64<=_;omega) (by rw[o1];show q+1<=ao;unfold ao;omega) (by show 52<56;decide) ?_;intro H4 n4 x4 gb lp;obtain⟨g4,rfl,-⟩:=fG gb Zs;have rN:=lp 5 Zd Zd;have mP:=lp 4 Zd Zd;simp only[bV,dP,aP,dz,h4,h5]at rN mP;simp only[rN,go_sem];refine bg aC ⟨A,by simp[af],⟨c4,by simp[aj,mP],pM⟩,x,_,by simp only[bH];rfl,(hx.congr (H':=H4) (by simp only[bG,dT];rw[lp 36 Zd Zd];simp[aj])).congr bJ,?_⟩;rw[kw];exact aH.congr gb bJ
 exact F9):p:=h
def Z3(h:p:=by
 rintro q env H n1 T N hq⟨⟨c4,h4,pM⟩,x,h5,hx⟩;simp only[Q9,go_sem];refine aT (λh=>?_) λh=>?_
 .have aC:=bh h;have g0:(d.map λn=>[I n])[q]?=E [I d[q]]:=by simp[aC]
  obtain⟨w,hw,Q7,xp⟩:=JK d[q] (by rw[Core.cY];simp);have Q8:=bP Zo;have kw:Z ((d.take (q+1)).map f)=Z ((d.take q).map f)++[[I (f d[q])]]:=by rw[ch aC,bC,nC];rfl
  have o1:(Z ((d.take q).map f)).length=q:=by rw[dD];simp;omega
  simp only[hw]at g0 xp kw;simp only[go_sem];refine cX [5] [] ?_;simp only[g0,h5,xp,ic,go_sem];refine iO (S:=[52]) (rows:=Z ((d.take q).map f)) (bx:=[[I (f w)]]) Zs CC (by simp only[af,aI,aV,aP,bT,bU,reduceCtorEq];exact hx.congr bJ) (jw _) ga Zs A (by rw[o1];show(q+1)*8<=_;omega) (by rw[o1];show q+1<=ao;unfold ao;omega) (by show 52<77;decide) ?_;exact F_
 have tf:=bS h;subst tf;rw[b9]at hx;simp only[h,go_sem];clear h;refine bq 7 ks.length (λq=>Fw.cK 77 [(0,.cp [I k,I v,.sl 1 (d.map λn=>[I n]),.sl 4 (Core.ae ks)]),(1,.sl 1 (Z now)),(4,.rf 4 0 0),(5,.rf 5 0 0)] λenv H n1 T=>(∃c4,H 4=E ⟨0,81,4,c4,aa⟩/\c4.length=4)/\∃x y,H 5=E ⟨0,81,4,[I k,I v',x,y],aa⟩/\aH [52] H 2 1 (Z (d.map f)) x/\aH [74] H 81 4 (Core.ae ((ks.take q).map (Core.aJ f))) y) A
  ⟨A,by simp[af],⟨c4,h4,pM⟩,x,_,h5,hx,.inl ⟨A,A⟩⟩ ?_
 clear hx h4 h5;rintro q env H n1 T N hq⟨⟨c4,h4,pM⟩,x,y,h5,hx,hy⟩;simp only[iR,go_sem];refine aT (λh=>?_) λh=>?_
 .have aC:=bh h;have g0:=Core.bo ks q aC;have hm:=ax aC;have mn:=ih ks[q] (by have:=cH hm;simp;omega) (te _ hm) λa ha=>hr a (by rw[Core.cY];exact eN _ (Core.Eb.2 ⟨_,hm,ha⟩));have kw:Core.ae ((ks.take (q+1)).map (Core.aJ f))=Core.ae ((ks.take q).map (Core.aJ f))++[(ks[q].aJ f).ds]:=by rw[Core.bZ,Core.bZ,ch aC,bC,bC];rfl
  have o1:(Core.ae ((ks.take q).map (Core.aJ f))).length=q:=by rw[Core.bb];simp;omega
  have ho:=Core.one (ks[q].aJ f);rcases nR:ks[q].aJ f with⟨ck,cv,cd,nJ⟩
  rw[nR]at mn kw ho;simp only[Core.ds]at mn kw ho;simp only[go_sem];refine cX [5] [] ?_;simp only[g0,h5,ic,go_sem];refine bw mn ?_;simp only[h5,go_sem];refine iO (S:=[74]) (rows:=Core.ae ((ks.take q).map (Core.aJ f))) (bx:=[[I ck,I cv,ints cd,.sl 4 (Core.ae nJ)]]) Zs CB (by simp only[af,aI,aV,aP,bT,bU,reduceCtorEq];exact hy.congr bJ) (Core.ea _) (by simp[af,cF,aj,ints]) Zs A (by rw[o1];show(q+1)*64<=_;omega) (by rw[o1];show q+1<=ao;unfold ao;omega) (by show 74<77;decide) ?_;intro H4 n4 x4 gb lp;obtain⟨g4,rfl,-⟩:=fG gb Zs;have rN:=lp 5 Zd Zd;have mP:=lp 4 Zd Zd;simp only[bV,dP,aP,dz,h4,h5]at rN mP;simp only[rN,go_sem];refine bg aC ⟨A,by simp[af],⟨c4,by simp[aj,mP],pM⟩,x,_,by simp only[bH];rfl,(hx.congr (H':=H4) (by simp only[bG,dT];rw[lp 52 Zd Zd];simp[aj])).congr bJ,?_⟩;rw[kw];exact aH.congr gb bJ
 exact F9):p:=h
def Z4(h:p:=by
 have Jz:(YB L).length=L.length:=mH L;refine GK.fe [8,23,30,35] 3 (.sl 1 (YB L)) (by simp only[af,aI,aV,aP,e3];exact aH.fz (qC.congr (by simp[bi,aj])) Zd (uB _) (yq _)) (cI.2 (yq _)) λH2 b2=>?_;exact F0):p:=h
def Z5(h:p:=by
 refine bq 34 ks.length (λj=>Fw.cK 50 [(1,.sl 1 (R sc)),(3,.cp [I k,I v,S n,I tk,S tn,.sl 3 (O.ae az),.sl 1 (R ns),.sl 8 (Y.ae ks)]),(32,.sl 8 (Y.ae ks)),(33,I ks.length)] λenv H n' T=>aH [2,47] H 9 1 (R (fw k n ns (ks.take j) 0 sc out)) (env 2)) A ⟨A,by simp[ba,af],by simpa[af,ba,fw]using hx.sub Zs⟩ ?_;clear hx f1;rintro j env H n' T _ hj hx;obtain⟨y,e2⟩:=Zx (env 2);rw[e2]at hx;simp only[go_sem];refine aT (λh=>?_) λh=>?_
 .have aC:=bh h;have o2:=ax aC;have g0:=Y.bo ks j aC;have mQ:=Y.b1 ks[j];have nU:List.take 8 ks[j].ds=ks[j].ds:=cU Zo;have zL:(ks[j].ds).all b4=ad:=by exact Zg
  have u_:=Y.gj o2;have s_:=yI k n ns j;have u7:=uX k n ns (ks.take j) 0 sc out;have Dd:=Y.iU ks j aC;have nT:=Y.mY ks (j+1);have ta:=B5 k v n tk tn az ns ks j;have nR:=IM [sc,bN k n ns j] Zs Zg;have qz:=fU ks[j] o2 (sc++bN k n ns j) (fw k n ns (ks.take j) 0 sc out) Zg Zo;exact F1
 .exact BI):p:=h
def Z6(h:p:=by
 simp only[g2,z2,go_sem];by_cases d1:nm=nE
 case neg=>
  exact Gh
 have g1:(nm.toList==(⟨#[]⟩:BA).toList)=ad:=by rw[du];exact bD d1
 simp only[g1,go_sem];have Q1:fL (.mk k0 nm ks)=ad:=by exact Zg
 refine hC 7 ks.length (λk=>Fw.Inv 66 [(2,.cp [I k0,S nm,.sl 3 (O.ae ks)]),(1,I a),(6,I ((1+O.aR (ks.take k):Nat):Int))] ((ks.take k).all eL=ad/\((1+O.co (ks.take k):Nat):Int)<=a)) A ⟨A,?_,?_⟩ ?_
 .exact Gd
 .simp[O.co];omega
 rintro k⟨env,H,n,nt,T⟩hk h5⟨rfl,iS,hp,xl⟩;simp only[a7]at h5 iS;obtain⟨e0,e1,e2,-⟩:=iS;simp only[h5,e0,go_sem];refine aT (λh=>?_) λh=>?_
 .have aC:=bh h;have hx:=ax aC;have mQ:=O.b1 ks[k];have nU:List.take 3 ks[k].ds=ks[k].ds:=cU Zo;have zL:(ks[k].ds).all b4=ad:=by rw[b6];exact O.one ks[k]
  have w1:IntKind.i64.wrap (a-1)=a-1:=cW _ Zo;simp only[h,h5,e0,e1,O.bo ks k aC,w1,mQ,nU,go_sem];refine bB _ (fU ks[k] hx (a-1) Zo Zo) (by simp;exact O.cl _) ?_;have xe:=O.mY ks (k+1);rw[O.iU ks k aC]at xe;have C7:=O.qp ks (k+1);rw[O.ku ks k aC]at C7;by_cases hq:eL ks[k]=ad/\(ks[k].cm:Int)<=a-1
  .exact F6
  .have hr:lB ks[k] (a-1)=-1:=by unfold lB;rw[av hq]
   have xm:decide ((-1:Int)<0)=ad:=A;simp only[hr,xm,go_sem];refine Fz.int ?_;unfold lB;exact Zg
 .exact Gj):p:=h
def Z7(h:p:=by
 have Q1:fL (.mk k0 nm ks)=ad:=by exact Zg
 refine hC 7 ks.length (λk=>Fw.Inv 66 [(2,.cp [I k0,S nm,.sl 3 (O.ae ks)]),(1,I a),(6,I ((1+O.aR (ks.take k):Nat):Int))] ((ks.take k).all eL=ad/\((1+O.co (ks.take k):Nat):Int)<=a)) A ⟨A,?_,?_⟩ ?_
 .exact Gd
 .simp[O.co];omega
 rintro k⟨env,H,n,nt,T⟩hk h5⟨rfl,iS,hp,xl⟩;simp only[a7]at h5 iS;obtain⟨e0,e1,e2,-⟩:=iS;simp only[h5,e0,go_sem];refine aT (λh=>?_) λh=>?_
 .have aC:=bh h;have hx:=ax aC;have mQ:=O.b1 ks[k];have nU:List.take 3 ks[k].ds=ks[k].ds:=cU Zo;have zL:(ks[k].ds).all b4=ad:=by rw[b6];exact O.one ks[k]
  simp only[h,h5,e0,e1,O.bo ks k aC,cW _ Zo,mQ,nU,go_sem];refine bB _ (fU ks[k] hx (a-1) Zo Zo) (by simp;exact O.cl _) ?_;have xe:=O.mY ks (k+1);rw[O.iU ks k aC]at xe;have C7:=O.qp ks (k+1);rw[O.ku ks k aC]at C7;by_cases hq:eL ks[k]=ad/\(ks[k].cm:Int)<=a-1
  .exact F6
  .have hr:lB ks[k] (a-1)=-1:=by unfold lB;rw[av hq]
   have xm:decide ((-1:Int)<0)=ad:=A;simp only[hr,xm,go_sem];refine Fz.int ?_;exact Zg
 .exact Gj):p:=h
def Z8(h:p:=by
 have hL:bL kk l=l:=by rw[<-qA];simp[bL]
 have hK:∀i,b8 ab ds kk n (.mk tk tn az) ns ks e l i=e:=λi=>by rw[<-qA];simp[b8,cV]
 have jm:ee ab ds (.mk kk v n (.mk tk tn az) ns ks) e l↔∀(i:Nat)(h:i<ks.length),ee ab ds ks[i] e l:=by
  rw[<-qA]at hL hK⊢;rw[jm];simp[hK,hL]
 have Db:∀(j:Nat)(hj:j<ks.length),¬ee ab ds ks[j] e l->¬ee ab ds (.mk kk v n (.mk tk tn az) ns ks) e l:=λj hj q w=>q (jm.1 w j hj);obtain⟨TD,xb⟩:∃x,D.cp [I kk,I v,S n,I tk,S tn,.sl 3 (O.ae az),.sl 1 (ns.map λs=>[S s]),.sl 8 (Y.ae ks)]=x:=⟨_,A⟩;subst qA;simp only[hK,hL,hA]at ih;refine Sp.s [] [.tmp 8] func113 ntmps113 ?_;refine hC 17 ks.length (λj=>Fw.Inv 228 [(0,.cp [.sl 2 (ai.ae ab),.sl 12 (ah.ae ds)]),(1,TD),(3,I l),(6,.cp [E1,E2,E3])] (∀(i:Nat)(h:i<ks.length),i<j->ee ab ds ks[i] e l)) A ⟨A,by simp[ba,af,xb],Zs⟩ ?_;rintro j⟨env,H,n',nt,T⟩hj zy⟨rfl,iS,lq⟩;subst xb;simp only[a7]at zy iS;obtain⟨e0,e1,e3,e6,-⟩:=iS;simp only[zy,e1,go_sem];refine aT (λh=>?_) λh=>?_
 .have aC:=bh h;have g0:=Y.bo ks j aC;have nW:=ih j aC;have kc:=Y.cl ks[j];have ml:ee ab ds ks[j] e l->∀(i:Nat)(h:i<ks.length),i<j+1->ee ab ds ks[i] e l:=λq i h hi=>by
   exact BL
  have o3:=Db j aC;generalize ks[j]=c at g0 nW kc ml o3;obtain⟨qk,qv,qn,⟨hG,hJ,hI⟩,hF,hE⟩:=c;simp only[Y.ds,O.ds,strs,bf,a8,ai.sl,ah.sl]at g0 nW kc;simp only[e1,go_sem];refine b7 ?_;simp only[zy,e0,e1,e3,e6,g0,go_sem];refine b7 ?_;refine d' nW ?_;by_cases q:ee ab ds (.mk qk qv qn (.mk hG hJ hI) hF hE) e l
  .simp only[bD q,zy,go_sem];exact bg aC ⟨A,by simp[af,e0,e1,e3,e6],ml q⟩
  .exact yw
 .exact BH):p:=h
def Z9(h:p:=by
 have hL:bL kk l=l:=by rw[<-qA];simp[bL]
 have hK:∀i,b8 ab ds kk n (.mk tk tn az) ns ks e l i=e:=λi=>by rw[<-qA];simp[b8,cV]
 have jm:eS ab ds (.mk kk v n (.mk tk tn az) ns ks) e l↔∀(i:Nat)(h:i<ks.length),eS ab ds ks[i] e l:=by
  rw[<-qA]at hL hK⊢;rw[jm];simp[hK,hL,c8]
 have Db:∀(j:Nat)(hj:j<ks.length),¬eS ab ds ks[j] e l->¬eS ab ds (.mk kk v n (.mk tk tn az) ns ks) e l:=λj hj q w=>q (jm.1 w j hj);obtain⟨TD,xb⟩:∃x,D.cp [I kk,I v,S n,I tk,S tn,.sl 3 (O.ae az),.sl 1 (ns.map λs=>[S s]),.sl 8 (Y.ae ks)]=x:=⟨_,A⟩;subst qA;simp only[hK,hL,hA]at ih;refine Sp.e [] [.tmp 8] func167 ntmps167 ?_;simp only[f8,go_sem];refine hC 15 ks.length (λj=>Fw.Inv 162 [(0,.cp [.sl 2 (ai.ae ab),.sl 12 (ah.ae ds)]),(1,TD),(3,I l),(6,.cp [E1,E2,E3])] (∀(i:Nat)(h:i<ks.length),i<j->eS ab ds ks[i] e l)) A ⟨A,by simp[ba,af,xb],Zs⟩ ?_;rintro j⟨env,H,n',nt,T⟩hj zx⟨rfl,iS,lq⟩;subst xb;simp only[a7]at zx iS;obtain⟨e0,e1,e3,e6,-⟩:=iS;simp only[zx,e1,go_sem];refine aT (λh=>?_) λh=>?_
 .have aC:=bh h;have g0:=Y.bo ks j aC;have nW:=ih j aC;have kc:=Y.cl ks[j];have ml:eS ab ds ks[j] e l->∀(i:Nat)(h:i<ks.length),i<j+1->eS ab ds ks[i] e l:=λq i h hi=>by
   exact BL
  have o3:=Db j aC;generalize ks[j]=c at g0 nW kc ml o3;obtain⟨qk,qv,qn,⟨hG,hJ,hI⟩,hF,hE⟩:=c;simp only[Y.ds,O.ds,strs,bf,a8,ai.sl,ah.sl]at g0 nW kc;simp only[zx,e0,e1,e3,e6,g0,go_sem];refine b7 ?_;refine d' nW ?_;by_cases q:eS ab ds (.mk qk qv qn (.mk hG hJ hI) hF hE) e l
  .simp only[bD q,zx,go_sem];exact bg aC ⟨A,by simp[af,e0,e1,e3,e6],ml q⟩
  .exact yw
 .exact BH):p:=h
def Bm(h:p:=by
 try simp only[iR,go_sem]
 refine bq 7 ks.length (λj=>Fw.cK 61 [(0,.cp [I k,I v,S n,I tk,S tn,.sl 3 (O.ae az),.sl 1 (R ns),.sl 8 (Y.ae ks)]),(1,.sl 1 (R sc))] λenv H n' T=>aH [2,37,59] H 9 1 (R (fw k n ns (ks.take j) 0 sc (out))) (env 2)) A ⟨A,by simp[ba,af],by simpa[af,ba,fw]using(hx).sub (S':=[2,37,59]) Zs⟩ ?_;clear hx f1;rintro j env H n' T _ hj hx;obtain⟨y,e2⟩:=Zx (env 2);rw[e2]at hx;simp only[iR,go_sem];refine aT (λh=>?_) λh=>?_
 .have aC:=bh h;have o2:=ax aC;have g0:=Y.bo ks j aC;have u_:=Y.gj o2;have s_:=yI k n ns j;have u7:=uX k n ns (ks.take j) 0 sc (out);have Dd:=Y.iU ks j aC;have nT:=Y.mY ks (j+1);have ta:=Dy k v n tk tn az ns ks j;have nR:=Kv sc (bN k n ns j) Zo;have qz:=fU ks[j] o2 (sc++bN k n ns j) (fw k n ns (ks.take j) 0 sc (out)) (by rw[bF];omega) Zo;have iS:=zp (k:=k) (n:=n) (ns:=ns) (sc:=sc) ks j 0 (out) aC;exact F5
 .exact BI):p:=h
def ww(h:p:=by
 simp only[go_sem,ew];refine aT (λh=>?_) λh=>?_
 .simp only[h,go_sem];refine Fz.int ?_;simp at h;rw[gE Zo]
 .have hle:(l.length:Int)<=left:=by simp at h;omega
  simp only[h,go_sem];refine bq 5 l.length (λk=>Fw.Inv 27 [(0,sl l),(1,I (left-l.length-cG (l.take k)))] ((l.length:Int)+cG (l.take k)<=left)) A ⟨A,by simp[sl,ba,af,iV],by simp[iV];omega⟩ ?_;rintro k env H n _ _ hk hp;simp only[go_sem];refine aT (λh=>?_) λh=>?_
  .have aC:=bh h;have g0:=bo l k aC;have u5:=b1 l[k];have Df:=cU (Nat.le_of_eq u5);have rT:=x8 l k aC;have Yn:=vL l (k+1);simp only[h,g0,u5,Df,go_sem];refine bB _ (fU l[k] (ax aC) _ Zo Zo) (by simp;exact cl _) ?_;by_cases hc:(l[k].sz:Int)<=left-l.length-cG (l.take k)
   .have ec:decide (left-(l.length:Int)-cG (l.take k)-(l[k].sz:Int)<0)=al:=by simp;omega
    simp only[kg hc,ec,go_sem];exact Ga
   .simp only[gE hc,Int.reduceLT,go_sem];refine Fz.int ?_;rw[gE Zo]
  .exact Gk):p:=h
def wx(h:p:=by
 rintro k env H n T _ hk⟨hn,cs,zD,hH⟩;subst hn;simp only[oY,go_sem];refine aT (λh=>?_) λh=>?_
 .have aC:=bh h;have g0:=bo l k aC;have u5:=b1 l[k];have Df:=cU (Nat.le_of_eq u5);have jl:((k:Int)<(l.length:Int))=True:=bP Zo;simp only[g0,u5,Df,jl,go_sem];refine oI _ (fU l[k] (ax aC)) (by simp;exact cl _) ?_;intro e T' hO;obtain⟨es,rfl,ho⟩:=Ar hO;have QU:=ho.len.trans u5;simp only[QU,hH,jl,go_sem];have C6:=zD.len;rw[jM (ea _),bb,fP,Nat.min_eq_left (Nat.le_of_lt aC)]at C6;have u7:=jM (rows:=List.replicate (l.length-k) _) λr hr=>(dO List.length (List.eq_of_mem_replicate hr)).trans hz;simp only[q']at u7;refine⟨⟨by rw[bF,u7,C6];omega,by rw[b6];exact ho.one (one l[k])⟩,?_⟩;refine bg aC ⟨A,by simp[af],A,cs++es,?_,?_⟩
  .have:=zD.eF ho;rw[bZ]at this⊢;rw[ch aC,bC,fN];simpa using this
  .simp only[aj,↓reduceIte,dy,Ob.mk.injEq,nr,fa];rw[L5 _ aC];exact Uu C6 hz A
 .have qy:=bS h;subst qy;simp only[h,go_sem];rw[b9]at zD;refine IE hH A A Zd oY.symm (ea l) (by simpa using zD)):p:=h
def Bo(h:p:=by
 simp only[go_sem,iR,bb b];refine aT (λh=>?_) λh=>?_
 .exact wB
 .have hl:a.length=b.length:=by simp at h;omega
  simp only[h,go_sem];refine bq 5 a.length (λk=>Fw.Inv 27 [(0,sl a),(1,sl b)] (a.take k=b.take k)) A ⟨A,by simp[sl,ba,af],Zs⟩ ?_;rintro k env H n _ _ hk hp;simp only[iR,go_sem];refine aT (λh=>?_) λh=>?_
  .have aC:=bh h;have u9:k<b.length:=Zo;have mQ:=b1 a[k];have JF:=b1 b[k];have nU:=cU (Nat.le_of_eq mQ);have Q6:=cU (Nat.le_of_eq JF);simp only[h,bo a k aC,bo b k u9,mQ,JF,nU,Q6,go_sem];exact F7
  .have qy:=bS h;exact wB):p:=h
def FK(h:p:=by
 simp only[go_sem,iR,bb b];refine aT (λh=>?_) λh=>?_
 .exact wB
 .have hl:a.length=b.length:=by simp at h;omega
  simp only[h,go_sem];refine bq 5 a.length (λk=>Fw.Inv 27 [(0,sl a),(1,sl b)] (a.take k=b.take k)) A ⟨A,by simp[sl,ba,af],Zs⟩ ?_;rintro k env H n _ _ hk hp;simp only[iR,go_sem];refine aT (λh=>?_) λh=>?_
  .have aC:=bh h;have u9:k<b.length:=Zo;simp only[h,bo a k aC,bo b k u9,b1 a[k],b1 b[k],cU Zo,cU Zo,go_sem];exact F7
  .have qy:=bS h;exact wB):p:=h
def FW(h:p:=by
 by_cases c4:k=4
 .have f4:(k==4)=ad:=by simp[c4]
  simp only[f4,go_sem];simp only[bN,c4,true_or,aI];exact Fz.rows (rows:=[n].map λs=>[S s]) A A A Zd A Zs A Zs
 have f4:(k==4)=al:=by simp[c4]
 simp only[f4,go_sem];by_cases c7:k=7
 .have f7:(k==7)=ad:=by simp[c7]
  simp only[f7,go_sem];by_cases ci:i=1
  .have fi:((i:Int)==1)=ad:=by simp[ci]
   simp only[fi,go_sem];simp only[bN,c7,ci,iK,or_true,aI];exact Fz.rows (rows:=[n].map λs=>[S s]) A A A Zd A Zs A Zs
  have fi:((i:Int)==1)=al:=by simp;omega
  have f10:(k==10)=al:=by simp[c7]
  simp only[fi,f10,go_sem];have:bN k n ns i=[]:=by simp[bN,c7,ci]
  rw[this];exact Fz.nil 1
 have f7:(k==7)=al:=by simp[c7]
 simp only[f7,go_sem];by_cases yO:k=10
 .have f10:(k==10)=ad:=by simp[yO]
  simp only[f10,go_sem];have:bN k n ns i=ns:=by simp[bN,yO]
  rw[this];exact Fz.same A (jW _)
 have f10:(k==10)=al:=by simp[yO]
 simp only[f10,go_sem];have:bN k n ns i=[]:=by simp[bN,c4,c7,yO]
 rw[this];exact Fz.nil 1):p:=h
def FY(h:p:=by
 simp only[fq,mQ,nU,go_sem];refine bB _ (fU ks[k] hx) (by simp;exact Y.cl _) ?_;have Yl:=Y.uQ ks[k];have xe:=Y.mY ks (k+1);rw[Y.iU ks k aC]at xe;have pM:=Y.rH (ks.take k);cases hg:dE ks[k]
 .simp only[go_sem];refine Fz.same ?_ Zs;simp[bad (.inr (.inr (wH aC hg)))]
 have w1:=iX ks[k].cm Zo;have w2:=wrap_add (1+Y.aR (ks.take k)) ks[k].num Zo;simp only[h5,e2,e3,w1,w2,go_sem];have m1:(if((ks[k].cm+1:Nat):Int)>((1+Y.co (ks.take k):Nat):Int)then((ks[k].cm+1:Nat):Int)else((1+Y.co (ks.take k):Nat):Int))=((1+Y.co (ks.take (k+1)):Nat):Int):=by
  rw[Y.ku ks k aC];split<;>omega
 have m2:1+Y.aR (ks.take k)+ks[k].num=1+Y.aR (ks.take (k+1)):=by rw[Y.iU ks k aC];omega
 refine bg aC ⟨A,?_,by rw[kQ aC,hp,hg];rfl,λi hi QY=>?_⟩
 .simp only[eb,e0,e1,m1,m2,a7,cS,ez,eJ,af,↓reduceIte,aP,iK,ji]
 .by_cases C9:i<k
  .exact xl i hi C9
  .have:i=k:=Zo;subst this;exact hq):p:=h
def FZ(h:p:=by
 refine⟨A,by simp;omega,λi=>?_,hr.obj,λt x b c e=>⟨.inr (.inl ⟨t,x,c,e⟩),(hr.base _ _ _ _ e).2⟩,hr.inj,⟨A,A,A,b_ _,λ_ _=>A⟩,hr.m0,hr.mm,⟨λb k k'=>hr.zm.1 b k (qJ b k'),hr.zm.2.1,hr.jr.2⟩,λe he=>⟨(hr.tree e he).1,λb hb=>.inr (.inr ⟨e,he,hb⟩)⟩,hr.nd,Og.start,λb k=>hr.wm b (qJ b k)⟩;show Rd _ (args.getD i (.sc (.tuple #[]))) _;by_cases hi:i<args.length
 .have h1:args[i]?=E args[i]:=bR hi;have h2:vs[i]?=E (vs[i]'Zo):=bR Zo;have:=hv i _ _ h1 h2;exact Gm
 .have e1:args.getD i (.sc (.tuple #[]))=.sc (.tuple #[]):=by simp[List.getD,v_ (Nat.le_of_not_lt hi)]
  have e2:(vs.toArray++Array.replicate (fn.ntmps-vs.toArray.size) cC).getD i cC=cC:=by
   rw[iv,Bg de];exact Zg
  rw[e1,e2];exact .sc cC):p:=h
def F4(h:p:=by
 simp only[go_sem];by_cases c1:n=nE
 case neg=>
  exact Gi
 have g1:(n.toList==(⟨#[]⟩:BA).toList)=ad:=by rw[du];exact bD c1
 simp only[g1,go_sem];refine bw sn ?_;cases c2:jo (.mk tk tn az)
 .exact BN
 simp only[iR,go_sem];by_cases c3:(ns.length:Int)>0
 .exact Gn
 simp only[bj c3,go_sem];have c5:ns.length=0:=Zo;refine bB _ (o5 _ _ _) Zs ?_;simp only[go_sem];exact Fz.bool (by simp[fp,j',jt,im,lR,c1,c2,c5])):p:=h
def Gg(h:p:=by
 simp only[bj c1,go_sem];exact F2):p:=h
def Gq(h:p:=by
 simp only[f8,f10,go_sem];exact F2):p:=h
def BM(h:p:=by
 try rw[rP,hN]
 refine bq 7 ks.length (λj=>Fw.Inv 63 [(0,ai.sl ab),(1,.cp [I k,I v,S n,I tk,S tn,.sl 3 (O.ae az),.sl 1 (R ns),.sl 8 (Y.ae ks)])] ((ks.take j).all (Y.aY (fC ab))=ad)) A ⟨A,by simp[ai.sl,ba,af,R],Zs⟩ ?_;rintro j env H n' T _ hj hp;simp only[JG,go_sem];refine aT (λh=>?_) λh=>?_
 .have aC:=bh h;simp only[h,Y.bo ks j aC,go_sem];refine bw (fU ks[j] (ax aC)) ?_;cases hq:Y.aY (fC ab) ks[j]
  .exact wE
  .exact Gr
 .exact Gw):p:=h
def yx(h:p:=by
 simp only[go_sem];by_cases c1:n=nE
 case neg=>
  exact Gi
 have g1:(n.toList==(⟨#[]⟩:BA).toList)=ad:=by rw[du];exact bD c1
 simp only[g1,go_sem];exact F8):p:=h
def Gz(h:p:=by
 rw[hb]at u';have ml:=λ(q:b=ad)=>ml (of_decide_eq_true (hb.trans q));have o3:=λ(q:b=al)=>o3 (of_decide_eq_false (hb.trans q));clear hb;generalize ds[j]=d at g0 u';obtain⟨dn,⟨dk,Yj,Yi⟩,⟨qk,qv,qn,⟨hG,hJ,hI⟩,hF,hE⟩⟩:=d;have kc:=Y.cl (.mk qk qv qn (.mk hG hJ hI) hF hE);simp only[ah.bd]at u';simp only[ah.ds,Y.ds,O.ds,strs,bf,a8,ai.sl,ah.sl]at g0 u' kc;simp only[g0,go_sem];refine fm [] u' (.c (.cl _ JE) (.c (.cl _ (Cl.eX kc)) (.c Fz.za (.c (.cl _ (aO _)) .n)))) (aO _) ?_;cases b
 .rw[av (o3 A)];simp only[ly,go_sem];exact Fz.int A
 .simp only[ly,go_sem];exact bg aC ⟨A,by simp[af],ml A⟩):p:=h
def GA(h:p:=by
 simp only[go_sem];refine bB _ (AU n hn) Zs ?_;cases c1:gN n
 .simp only[go_sem];exact Fz.bool (by simp[fp,j',c1])
 simp only[go_sem];exact F8):p:=h
def GC(h:p:=by
 rintro d H n T⟨hd,rfl,hL,hK⟩;have hp:∀(s1:St),(s1.put dst d).H=s1.H:=λs1=>by cases dst with|none=>rfl|some t=>simp only[St.put];split<;>rfl
 refine⟨λt ht ob ho=>?_,λt ht aC=>?_,?_⟩
 .rw[hp]at ho;exact hL t ht ob ho
 .subst ht;simp only[St.put,aC,aI,af];exact hd.cD
 .rw[hp];show K {({{s with H:=bi L s.H}with H:=H,n:=n,T:=s.T}.put dst d:St)with H:=kA L L s.H H};cases dst with
  |none=>exact hK
  |some t=>
   simp only[St.put]at hK⊢;split at hK<;>rename_i aC<;>simp only[aC,aI,aV]<;>exact hK):p:=h
def GD(h:p:=by
 refine wpList_plain hg λK' QL=>?_;obtain⟨dst,op,ty,pos,after,guard⟩:=o;subst JN;have JH:=hr.ev f;rw[hf]at JH;obtain⟨us,ws,e,l1,l2,r1,r2⟩:=CN JH;obtain⟨l3,r3⟩:=Ad hr args.toList;obtain⟨l4,r4⟩:=yB l1 r1 l3 r3;obtain⟨l5,r5⟩:=yB l4 r4 l2 r2;obtain⟨zB,QQ⟩:=Iu hr hc l5 r5;simp only[Oper.wp,yS (a:=a) (o:=⟨dst,.call ⟨.value f,args,A4⟩,ty,pos,after,guard⟩) A A e zB w,Oper.upon_enter];refine QQ.mono λe' w'⟨v,he,hb,hR⟩=>?_;subst he;exact QL _ _ (hK _ _ hb ((hr.grow hb).put hR _))):p:=h
def GF(h:p:=by
 by_cases xf:cn=n
 .have f1:(cn.toList==n.toList)=ad:=by rw[du];exact bD xf
  have xh:fD ab n=(i:Int):=zG (by simp only[oW,ai.cs,k9];exact⟨_,zJ,by simp[aA.nm,xf]⟩);simp only[f1,go_sem];rw[xh,zA xh,show tW (.mk dn cs) n=(t:Int)from zH (by simp[aA.nm,xf])];exact .cl _ Zs
 .have f1:(cn.toList==n.toList)=al:=by rw[du];exact bj xf
  simp only[f1,go_sem];refine bg pO ⟨A,by simp[af],?_⟩;rw[zO,hq];simp[aA.nm,xf]):p:=h
def GG(h:p:=by
 have QZ:=bS h;subst QZ;rw[b9]at xc;have Q3:cn∉nm:=λhh=>by
  rw[qY]at xc;exact xc cn hh Zs
 simp only[h,e3,xa,oV,g1,lc,go_sem];refine⟨⟨Zo,by simp[ao];omega⟩,?_⟩;refine bg xj ⟨A,?_,by simp[aj,oV],⟨91,Ak 91,.inr A,?_,?_⟩,Lm ⟨d1,by rw[<-Dc];exact Q3⟩⟩
 .exact Gf
 .simp[af,nQ]
 .simp[aj,nQ]):p:=h
def GH(h:p:=by
 refine GK.intro (dS.eF (S:=[8,23]) (rows:=YB pre) (bx:=YB [UInt8.ofNat (48+v.natAbs%10)]) el (by simp only[af,aI,aV,aP];exact hx.congr bJ) (uB _) ga Zs A (by rw[mH,mH];simp only[kJ];omega) (by rw[mH,mH];unfold ao;simp only[kJ];omega) λH4 n4 x4 gb lp=>?_);rw[<-yp]at gb;simp only[e4,Jw,Q5,go_sem];exact⟨⟨v.tdiv 10,_,rS,Zo,A,by simp[af,e0],by simpa[af]using gb.sub Zs⟩,by simp[af,JR];omega⟩):p:=h
def GI(h:p:=by
 have xg:=Core.cl ks[q];have ho:=Core.one ks[q];rw[dM _ (Core.eB (ks.take q)),<-ht]at mn;rcases nR:ks[q]with⟨ck,cv,cd,nJ⟩
 rw[nR]at g0 mn xg ho;simp only[Core.ds]at g0 mn xg ho;simp only[e1,g0,go_sem];refine qj [1,14,18,28] [.ag [I ck,I cv,ints cd,.sl 4 (Core.ae nJ)]] [] y 2 1 _ _ mn A (hx.congr bJ) cu ?_;intro H' Ak x' nV hH;simp only[go_sem];exact bg aC ⟨A,by simp[af],by simpa[af]using nV.sub Zs⟩):p:=h
def BO(h:p:=by
 by_cases d1:nm=nE
 .have g1:(nm.toList==(⟨#[]⟩:BA).toList)=ad:=by rw[du];exact bD d1
  simp only[g1,eb,e2,e3,go_sem];exact Fz.same (by simp only[bD d1,hN,hL]) Zs
 .have g1:(nm.toList==(⟨#[]⟩:BA).toList)=al:=by rw[du];exact bj d1
  simp only[g1,e2,e3,go_sem];exact Fz.same (by simp only[bj d1,mF]) Zs):p:=h
def GJ(h:p:=by
 simp only[h,g0,go_sem];refine bB _ (fU l[k] (ax aC)) (by simp only[lX,a7];exact⟨⟨hf,aO _,Zs⟩,hc⟩) ?_;exact Ge):p:=h
def GL(h:p:=by
 simp only[iR,go_sem];by_cases c3:(ns.length:Int)>0
 .exact Gn
 exact Gu):p:=h
def GM(h:p:=by
 rw[<-bF,<-rU];have:((kids.take (q+1)).map bQ.ty).flatten.length<=(kids.map bQ.ty).flatten.length:=by
  conv=>rhs;rw[<-lb (q+1) kids,bC,fN,bF]
  omega
 refine fY this ?_;rw[yi,dZ];exact hs):p:=h
def GN(h:p:=by
 cases c2:(l.take k).any λx=>decide (x=l[k])
 .simp only[go_sem];refine bg aC ⟨A,by simp[af],λi hi QY=>?_⟩;by_cases C9:i<k
  .exact hp i hi C9
  .have:i=k:=Zo;subst this;exact⟨c1,c2⟩
 .simp only[go_sem];exact Fz.bool (bad (by simp[c2]))):p:=h
def GO(h:p:=by
 rw[dE,Y.aY,b3]at hg;have h1:=hg.1;simp only[nh,fJ,b3,a1,cO]at h1;refine⟨?_,λi h hi=>?_⟩
 .have:=h1.1.1.1;simp[cN,c9]at this;omega
 .have:=h1.2;simp only[kV,cO]at this;exact Zg):p:=h
def GP(h:p:=by
 rintro d H n T⟨hd,hq,rfl,hL⟩;refine⟨hd,A,λt ht ob ho=>JL t ht ob ((hL t ht).symm.trans ho),?_⟩;have e2:kA L L s.H H=s.H:=by
  funext t;by_cases ht:t∈L
  .rw[K9 ht,hL t ht,hH t ht]
  .rw[K_ ht ht]
 rw[e2];exact hK n d hq hd):p:=h
def BP(h:p:=by
 go_roundw
 case rel=>
  refine⟨k+1,CX,?_⟩;unfold ao at hlen;by_cases h:m=0
  .subst h;exact .inl ⟨Zo,by simp[wrap64]⟩
  .exact .inr ⟨m-1,Zo,by simp[wrap64];omega⟩
 case measure=>unfold ao at hlen;simp[intOf,wrap64];omega):p:=h
def GQ(h:p:=by
 have g7:((ks.length:Int)==2)=decide ((ks.length:Int)>=2/\(ks.length:Int)<=2):=by rw[iG,jh];omega
 exact Gl):p:=h
def GR(h:p:=by
 cases e
 case exit Yo=>
  simp only[nG]at h1;simp only[Exit.inBlock];split
  .rename_i hi;rw[aM hi]at h1;exact⟨s,g,M,h1,h2⟩
  .rename_i hi;rw[av hi]at h1;exact⟨s,g,M,h1,h2⟩
 all_goals exact⟨s,g,M,h1,h2⟩):p:=h
def GS(h:p:=by
 have f1:(nm[m].toList==cn.toList)=ad:=by rw[du];exact bD hc
 simp only[f1,go_sem];exact Fz.bool (B2 (by rintro⟨_,hh⟩;rw[<-Dc]at hh;exact hh (by show cn∈nm;rw[<-hc];exact ax rR)))):p:=h
def GU(h:p:=by
 refine sk 3 nE (Fz.rows (ob:=⟨0,87,3,[I ak,S an,.sl 3 (O.ae sG),I bk,S bn,.sl 3 (O.ae yK)],aa⟩) bJ A A Zd A (by simp[O.ds,O.ae]) (by simp[O.ds,O.ae]) (O.bA [.mk ak an sG,.mk bk bn yK]))):p:=h
def GV(h:p:=by
 have h':a1 v 1 6=al:=by simpa using h
 have hb:io v={data:=#[]}:=by
  simp[a1]at h';rw[io,av Zo,av Zo,av Zo,av Zo,av Zo,av Zo]
 rw[hb];simp only[h',go_sem];exact .cl _ (aO _)):p:=h
def GW(h:p:=by
 refine dO (λc=>E (Ob.mk q2 72 1 c aa)) (c5.trans ?_);simp only[aq,bC,bp,cB,fN,dN,fX,c_,dM,O.sl]):p:=h
def GX(h:p:=by
 refine⟨u,u1,u2.closed (λb' o x k=>⟨?_,hM⟩) (zC d (eg hd))⟩;obtain⟨k1,q2⟩:=cR k;refine dK (dr k) ?_ Zs;rintro(q|rfl)
 .exact k1 ((k2.mm b').2 (.inl q))
 .exact q2 _ _ _ kv):p:=h
def GY(h:p:=by
 simp only[ai.sl,aA.sl,a7,cS,ez,eJ,af,↓reduceIte,aP,reduceCtorEq,fa,nr,iK,ji,bT,bU,aI,aV]):p:=h
def GZ(h:p:=by
 have f2:(dn.toList==(⟨#[73,110,116]⟩:BA).toList)=ad:=by rw[du];exact bD c2
 simp only[f2,go_sem];exact Fz.bool (bad (by rintro⟨h,_⟩;rw[rE,bD c2]at h;simp at h))):p:=h
def G0(h:p:=by
 subst hs;simp only[bH,dy]at lN;subst lN;exact⟨by show ob.gen<bump s.n t' t';rw[kU];omega,b',c',vs,by show aj _ t' _ t'=_;rw[bH,JJ],oZ,u_,hc,hlen,jY⟩):p:=h
def G1(h:p:=by
 refine Sp.e [] [.tmp 2] func45 ntmps45 ?_;simp only[Core.ae,go_sem];refine b7 ?_;refine d' Da ?_;simp only[s0,s1,go_sem];refine d' ha ?_;simp only[s2,s3,go_sem];exact .cl _ (aO _)):p:=h
def G2(h:p:=by
 refine Sp.e [] [.tmp 2] func45 ntmps45 ?_;simp only[Core.ae,go_sem];refine b7 ?_;refine d' ha ?_;simp only[s0,s1,go_sem];refine d' hb ?_;simp only[s2,s3,go_sem];exact .cl _ (aO _)):p:=h
def G3(h:p:=by
 refine⟨A,A,A,by simp[af,ba,Nd.d,Y.ds,O.ds,Nd.gJ,strs],⟨_,by simp only[aj];rfl,A⟩,by simp[aj],λt ht=>?_⟩;obtain⟨z1,z2,-⟩:=nT t ht;simp[aj,z1,z2,QK t ht]):p:=h
def G4(h:p:=by
 refine bg aC ⟨A,by simp only[e0,e9,uS,a7,cS,ez,eJ,af,↓reduceIte,aP,reduceCtorEq,iK,ji],trivial⟩):p:=h
def G5(h:p:=by
 induction l with
 |nil=>simp
 |cons c l ih=>
  intro h;have h5:=ih λx hx=>h x (by simp[hx]);have h6:=h c Zs;simp only[bp,ia,di];omega):p:=h
def G6(h:p:=by
 refine sk 4 nE (Fz.rows (ob:=⟨0,87,3,[I ak,S an,.sl 3 (O.ae sG)],aa⟩) bJ A A Zd A (by simp[O.ds,O.ae]) (by simp[O.ds,O.ae]) (O.bA [.mk ak an sG]))):p:=h
def BQ(h:p:=by
 simp only[m1,m2,a7,cS,ez,eJ,af,↓reduceIte,aP,iK,ji,bT,bU,aI,aV,reduceCtorEq]):p:=h
def G7(h:p:=by
 simp only[ai.sl,a7,cS,ez,eJ,af,↓reduceIte,aP,reduceCtorEq,iK,ji,bT,bU,aI,aV]):p:=h
def G8(h:p:=by
 by_cases hs:t'=t
 .subst hs;rw[bH]at e;cases e;exact⟨C4,aC⟩
 .have e:=(m' _ _ hs e).2;exact⟨(h.base _ _ _ _ e).1,gv (h.base _ _ _ _ e).2 qB⟩):p:=h
def sF(h:p:=by
 exact Ge):p:=h
def G9(h:p:=by
 by_cases h1:n>=48
 .simp only[bD h1,go_sem];exact Fz.bool (by simp[nN];omega)
 .simp only[bj h1,go_sem];exact Fz.bool (by simp[nN];omega)):p:=h
def BR(h:p:=by
 exact Gf):p:=h
def G'(h:p:=by
 simp only[a7,cS,ez,eJ,af,↓reduceIte,reduceCtorEq,iK,ji,bT,bU,aI,aV,aP]):p:=h
def G_(h:p:=by
 have e1:c.args=#[x]:=by exact Zg
 have e2:c.argTypes=#[t]:=by exact Zg
 refine⟨v,h1,λw' _=>?_⟩;simp[dl,ho,resolve,zB,e1,e2,invoke,builtin,h2 w']):p:=h
def uC(h:p:=by
 have g1:(n.toList==(⟨#[]⟩:BA).toList)=al:=by rw[du];exact bj c1
 simp only[g1,go_sem];exact Fz.bool (by simp[fJ,fp,j',c1])):p:=h
def Ha(h:p:=by
 obtain⟨u,k1,k2⟩:=JD j d hj;have:=pP (h.cl d (eg hj)) k2;exact⟨u,k1,this.mono (kI λb k=>k.elim .inl λk=>.inr (by rw[k]))⟩):p:=h
def wF(h:p:=by
 cases x with
 |ret=>obtain⟨d,h1,h2⟩:=hx;exact⟨d,h1,key _ _ _ _ h2⟩
 |normal=>obtain⟨d,h1,h2⟩:=hx;exact⟨d,h1,key _ _ _ _ h2⟩
 |_=>exact hx.elim):p:=h
def Hb(h:p:=by
 have lN:=bS h;subst lN;rw[b9]at hq;simp only[h,go_sem];refine bg aC ⟨A,by simp[af],?_⟩;rw[zN,hp];simpa[oW,ai.cs]using hq):p:=h
def Hc(h:p:=by
 simp only[e0,e1,e2,m2,a7,cS,ez,eJ,af,↓reduceIte,aP,reduceCtorEq,iK,ji]):p:=h
def uD(h:p:=by
 simp[a1,eC]at jl
 match ks,jl with
 |[a,b],_=>exact⟨a,b,A⟩
 |[],h=>simp at h
 |[a],h=>simp at h
 |a::b::c::r,h=>simp at h;omega):p:=h
def Hd(h:p:=by
 have:b<w.heap.size:=by
  cases hq:w.heap[b]? with
  |none=>simp[World.cell?,hq]at hc
  |some _=>exact(iY.1 hq).1
 omega):p:=h
def BS(h:p:=by
 refine⟨0,h0,?_⟩;unfold ao at hlen;by_cases h:len=0
 .subst h;exact .inl ⟨A,by simp[wrap64]⟩
 .exact .inr ⟨len-1,Zo,by simp[wrap64];omega⟩):p:=h
def He(h:p:=by
 have C8:=bS h;subst C8;rw[b9]at hp;have xh:fD ab n=-1:=xr hp;simp only[h,go_sem];rw[xh,Pr xh];exact .cl _ Zs):p:=h
def Hf(h:p:=by
 have o0:=bS h;subst o0;rw[aM λd hd=>by obtain⟨i,hi,rfl⟩:=dG hd;exact lq i hi hi];simp only[h,go_sem];exact Fz.int A):p:=h
def Hg(h:p:=by
 simp only[bD c4,go_sem];exact Fz.bool (bad (by rintro⟨h,_⟩;rw[rE,bj (show¬1<=dc.length by omega)]at h;simp at h))):p:=h
def Hh(h:p:=by
 simp only[bD c5,go_sem];exact Fz.bool (bad (by rintro⟨h,_⟩;rw[rE,bj (show¬dc.length<=4 by omega)]at h;simp at h))):p:=h
def Hi(h:p:=by
 rcases k with k|⟨t,x,c,k⟩|⟨e,he,hb⟩
 .exact .inl (fY hr.below.size k)
 .exact(hr.base _ _ _ _ k).1
 .exact(hr.tree e he).2 b hb):p:=h
def Hj(h:p:=by
 cases e
 case normal=>obtain⟨d,hd,hz⟩:=q1;exact core d hd hz
 case ret=>obtain⟨d,hd,hz⟩:=q1;exact core d hd hz
 all_goals exact q1.elim):p:=h
def Hk(h:p:=by
 exact⟨JQ,Fz.AY (.c (Fz.lI (.c (aH.fz (hx.congr bJ) Zd (Core.ea _) (Core.bA _)) .n)) (.c (.cl _ (aO _)) (.c (.cl _ (aO _)) .n)))⟩):p:=h
def BT(h:p:=by
 cases e
 case normal=>obtain⟨d,hd,hz⟩:=h1;exact fin d hd hz
 case ret=>obtain⟨d,hd,hz⟩:=h1;exact fin d hd hz
 all_goals exact h1.elim):p:=h
def Hl(h:p:=by
 exact h.below.step JO JU JP qB λk hk=>pR k (gv (Bs.r7 hk) h.below.size) λx c e=>hk (h.base _ _ _ _ e).1):p:=h
def Hm(h:p:=by
 have:=dO (λl=>(List.flatten l).length) (lb k ps);simp only[fN,bF]at this;omega):p:=h
def Hn(h:p:=by
 refine Sp.e [] [.tmp 2] func45 ntmps45 ?_;simp only[Core.ae,go_sem];refine bw ha ?_;exact wC):p:=h
def Ho(h:p:=by
 obtain⟨i,hi,rfl⟩:=dG hc;have:=ih i hi [] l (by rw[hb];rfl) Zs Zs Zo Zo λq=>h9 q.1;rwa[c_]at this):p:=h
def Hp(h:p:=by
 rw[<-th];refine qt λx hx=>?_;have:=(my.1 hx).1;cases hl:look e x with
 |none=>rw[hl]at this;cases this
 |some y=>rfl):p:=h
def BU(h:p:=by
 intro s' y hs e;rw[bV _ _ hs]at e;exact Gp):p:=h
def Hq(h:p:=by
 refine bw rO ?_;simp only[bne,f0,go_sem];exact Fz.AY (.c (Fz.lI (.c (.nil 4) .n)) (.c (.cl _ (aO _)) (.c (.cl _ (aO _)) .n)))):p:=h
def Hr(h:p:=by
 have h2:=Core.y4 hx;have h3:=EF x (te x hx);exact⟨ih x (by have:=cH hx;simp;omega) (te x hx) Zo,Zo⟩):p:=h
def Hs(h:p:=by
 simp only[fq,go_sem];refine Fz.same ?_ Zs;simp[bad (.inr (.inl (by rw[kV,fZ];intro hh;exact hq (hh k aC))))]):p:=h
def Ht(h:p:=by
 have:=hz.nodup;simp only[fb,cB,a8]at this;exact xF this (aG.2 ⟨_,ax h2,A⟩)):p:=h
def Hu(h:p:=by
 rw[h2,bF];have:=cW (((ps.take k).flatten.length:Nat)+(ps[k].length:Nat):Int) Zo;rw[this];omega):p:=h
def Hv(h:p:=by
 have tf:=bS h;subst tf;rw[b9]at hx;simp only[h,e1,go_sem];simp only[dM]at hx⊢;exact aH.close hx):p:=h
def Hw(h:p:=by
 refine bg aC ⟨A,by simp[af],by simp[aj,mP],_,by simp only[bH];rfl,?_⟩;rw[kw];exact aH.congr gb bJ):p:=h
def Hx(h:p:=by
 refine⟨?_,.inl hr.jr.1,hr.jr.2⟩;rintro b(k|⟨t,x,c,k⟩)
 .exact(hr.m0 b k).1
 .exact(hr.base _ _ _ _ (j_ k).2).2):p:=h
def Hy(h:p:=by
 simp only[bm.ds,go_sem];refine bB _ mR (by simp;exact⟨ai.bA _,ah.bA _⟩) ?_;exact wD):p:=h
def Hz(h:p:=by
 have C8:=bS h;simp only[h,go_sem];refine Fz.bool ?_;symm;rw[cO];exact⟨c0,Zo,Zo,λj hj=>hp j hj Zo⟩):p:=h
def HA(h:p:=by
 exact .cl _ (.fn _ [] _ Zs λi d h=>by match i,h with|0,h=>cases h;exact eO.cp (.c (ed λx _=>Bi.cl x) .n))):p:=h
def HC(h:p:=by
 exact⟨by simp[fb],by simp[fb],by rw[e];rfl,λ_ id=>.mk e Zs (by simp[er]) A λi h1 h2=>by simp at h1⟩):p:=h
def HD(h:p:=by
 rw[Nd.kx];exact np _ (eN _ (ft.2 ⟨_,aG.2 ⟨y,hy,A⟩,hi⟩))):p:=h
def HE(h:p:=by
 rw[<-bF,<-ht]
 conv=>rhs;rw[<-lb (q+1) ks,Core.xW,bF]
 omega):p:=h
def pr(h:p:=by
 simp only[bD c3,go_sem];exact Fz.bool (by
  have:ns.length≠0:=Zo;simp[fJ,fp,im,this])):p:=h
def E5(h:p:=by
 by_cases hs:t'=t
 .subst hs;rw[bH]at e;cases e;exact C0 _ k A
 .exact(h.m0 b k).2 _ _ _ (m' _ _ hs e).2):p:=h
def E6(h:p:=by
 have g2:((ks.length:Int) !=0)=ad:=rv Zo;exact BJ):p:=h
def E7(h:p:=by
 obtain⟨c,rfl⟩:=hS.one Zs;obtain rfl:i=0:=by simp at hi;omega
 simpa[a6,iu,kj,b8,cV,er,bL]using h):p:=h
def E8(h:p:=by
 simp only[bD c2,go_sem];have OK:¬fs.length<=3:=Zo;exact Fz.bool (by simp[nL,aA.fs,OK])):p:=h
def E9(h:p:=by
 simp only[e5,hw,go_sem];exact bg aC ⟨A,by simp[af],_,m,by simp[af],by simp[af,e6],Zo,zI,oX⟩):p:=h
def E'(h:p:=by
 have C8:=bS h;simp only[h,go_sem];refine Fz.bool ?_;symm;rw[cO];exact⟨Zo,λj hj=>hp j hj Zo⟩):p:=h
def E_(h:p:=by
 simp only[vx,ly,go_sem];exact fin _ _ (cc OO) ⟨by simp[af,iX q Zo],by simp[af]⟩ iN (.inr A)):p:=h
def Bn(h:p:=by
 exact Gl):p:=h
def Fa(h:p:=by
 obtain⟨k1,_⟩:=cR k;exact dK (dr k) (λq=>k1 (.inl q)) λt x c q=>k1 (.inr ⟨_,_,_,q⟩)):p:=h
def Fc(h:p:=by
 simp only[bj c0,go_sem];refine Fz.bool ?_;symm;rw[fZ];rintro⟨h,_⟩;exact c0 h):p:=h
def Fe(h:p:=by
 refine Sp.s [] [.tmp 2] func45 ntmps45 ?_;refine bw tb ?_;exact wC):p:=h
def lH(h:p:=by
 have qy:=bS h;simp only[h,go_sem];refine Fz.int ?_;rw[qy,b9]at hp;exact(xr hp).symm):p:=h
def Ff(h:p:=by
 simp only[bD c0,go_sem];refine Fz.bool ?_;symm;rw[fZ];rintro⟨h,_⟩;omega):p:=h
def Fg(h:p:=by
 simp only[go_sem];refine b7 ?_;refine d' Da ?_;simp only[s0,s1,s2,s3,go_sem];exact .cl _ (aO _)):p:=h
def Fh(h:p:=by
 exact BI):p:=h
def Fi(h:p:=by
 rcases Nat.lt_or_ge b w.heap.size with h'|h'
 .exact h'
 .simp[World.cell?,Array.getElem?_eq_none h']at h):p:=h
def Fj(h:p:=by
 simp only[bD h3,go_sem];refine Fz.bool ?_;rw[nk];simp[mr,nb,mM];omega):p:=h
def Fk(h:p:=by
 simp only[go_sem];exact Gs):p:=h
def Fl(h:p:=by
 conv=>lhs;rw[this]
 simp only[aq,bC,bp,fN,dN]):p:=h
def Fm(h:p:=by
 exact⟨_,_,g',pQ,r1,pV (by show s.n t<bump s.n t t;rw[kU];omega) (b_ _) r3⟩):p:=h
def Fo(h:p:=by
 simp only[f1,go_sem];refine bg aC ⟨A,by simp[af],?_⟩;rw[any_take_succ aC,hp];simp[hc]):p:=h
def Fp(h:p:=by
 rintro b k rfl;rcases s9 with e|⟨x,c,e⟩
 .have:=(h.m0 b k).1;omega
 .exact(h.m0 b k).2 _ _ _ e):p:=h
def Fq(h:p:=by
 exact Fz.bool (by simp[fJ,fp,j',jt,im,lR,cN,c1,c5,c2,c6,a1];omega)):p:=h
def Fs(h:p:=by
 rw[<-rT]at gb;simp only[go_sem];exact bg aC ⟨A,by simp[af],by simpa[af]using gb⟩):p:=h
def Ft(h:p:=by
 exact bg aC ⟨A,by simp[af],s+x,m,by simp[af],by simp[af,e6],Zo,Zo,Zo,hc⟩):p:=h
def Fu(h:p:=by
 have f1:decide ((m:Int)>0)=al:=by simp[c0]
 simp only[f1,go_sem];exact .inl ⟨A,A⟩):p:=h
def Fv(h:p:=by
 simp[Instr.fieldAt,dU hu,zF,Instr.sureAddr,fieldPlace,kZ hn,zK,add_lit]):p:=h
def Fx(h:p:=by
 obtain⟨u,u1,u2⟩:=jY k d hd;refine dK ?_ JA JB;rw[nH oZ,u1];simp[u1]):p:=h
def Fy(h:p:=by
 simp only[go_sem];refine b7 ?_;simp only[g1,zw,s0,s1,s2,s3,go_sem];exact .cl _ (aO _)):p:=h
def FA(h:p:=by
 rcases s9 with e|⟨x,c,e⟩
 .have:=h.below.size;exact .inl Zo
 .exact(h.base _ _ _ _ e).1):p:=h
def Bp(h:p:=by
 exact⟨v,.sc v,λw' _=>by
  simp only[dl,ho,il,lr];exact kb (hv w')⟩):p:=h
def FB(h:p:=by
 obtain⟨j,hj⟩:=hQ.1 hc;obtain⟨u,_,k2⟩:=jY j c hj;exact⟨u,k2⟩):p:=h
def FC(h:p:=by
 by_cases tg:t2=t
 .rw[xn,tg]
 .subst xn;rw[bH]at e1;cases e1;exact Zg):p:=h
def FD(h:p:=by
 simp only[go_sem];exact Fz.bool (bad (by rintro⟨h,_⟩;rw[rE,c1]at h;simp at h))):p:=h
def FE(h:p:=by
 exact Gs):p:=h
def FF(h:p:=by
 exact Fz.bool (by simp[fJ,fp,j',jt,im,lR,cN,c1,c5,c6,c8])):p:=h
def FG(h:p:=by
 exact⟨_,_,g',pQ,r1,UU (by show s.n t<bump s.n t t;rw[kU];omega) r3⟩):p:=h
def FH(h:p:=by
 simp only[bne,f0,go_sem];exact BK):p:=h
def FI(h:p:=by
 simp only[fr,St.ev,e1,e2,hi,aI];rcases hv with rfl|⟨a,c,rfl⟩<;>rfl):p:=h
def FJ(h:p:=by
 obtain⟨e1,e2⟩:=pK e;have:=hr.inj _ _ _ _ _ _ _ k2 e2;subst this;exact k1 e1):p:=h
def FL(h:p:=by
 simp only[go_sem];exact Fz.bool (bad (by rintro⟨_,_,h,_⟩;rw[c5]at h;cases h))):p:=h
def FM(h:p:=by
 by_cases C_:j<i
 .exact hp j hj C_
 .have:j=i:=Zo;subst this;exact hd):p:=h
def FN(h:p:=by
 rcases k with k|⟨t,x,c,k,_⟩
 .exact(hr.m0 b k).1
 .exact(hr.base _ _ _ _ k).2):p:=h
def FO(h:p:=by
 rintro b hb(k|⟨t,x,c,k,nS⟩)
 .cases hb;exact CZ k
 .cases hb;exact nS A):p:=h
def FP(h:p:=by
 simp only[o8];rw[bV _ _ k1,bV _ _ (λq=>k2 (by rw[q];exact hS))]):p:=h
def FQ(h:p:=by
 simp only[go_sem];refine bw tb ?_;exact wC):p:=h
def FR(h:p:=by
 simp only[dC Bi.d l,go_sem];exact .cl _ (.cs _ _ (ed λx _=>Bi.cl x))):p:=h
def FT(h:p:=by
 rw[hY,aM hb]at c0;split at c0
 .rename_i h;simpa[a1]using h
 .cases c0):p:=h
def FU(h:p:=by
 obtain⟨k1,k2⟩:=j_ e;exact k1 (by rw[hr.inj _ _ _ _ _ _ _ k2 kv];simp)):p:=h
def FV(h:p:=by
 obtain⟨i,hi,rfl⟩:=dG hc;exact qP hp _ (iE.cM i hi) u6 h):p:=h
def FX(h:p:=by
 exact np _ (eE _ (aG.2 ⟨b,hb,A⟩))):p:=h
def Bq(h:p:=by
 rcases k with k|⟨t,x,c,k⟩
 .exact(hr.m0 b k).1
 .exact(hr.base _ _ _ _ k).2):p:=h
def qd(h:p:=by
 simp only[rv c6,go_sem];exact Fz.bool (by simp[fJ,fp,lR,c6])):p:=h
def Br(h:p:=by
 refine bodyPost_ret (results_none A _ _ _) A ?_;exact⟨⟨_,A⟩,.inr CY⟩):p:=h
def Bt(h:p:=by
 exact⟨v,h1,λw' _=>by simp only[dl,ho];exact kb (h2 w')⟩):p:=h
def qe(h:p:=by
 simp only[go_sem];exact⟨_,.cl _ (Cl.ir cu),Cl.ir cu,nd,_,A,hr⟩):p:=h
def Bu(h:p:=by
 simp[a1,cN,q1,q2,q3,q4,q5,q6,q7,q8,q9,tL,tM]at pN;omega):p:=h
def Bv(h:p:=by
 simp[a1,cN,q1,q2,q3,q4,q5,q6,q7,q8,q9,tL,tM]at f1;omega):p:=h
def Bw(h:p:=by
 simp only[bj h1,go_sem];exact Fz.bool (by simp[a1];omega)):p:=h
def yr(h:p:=by
 simp only[bD h1,go_sem];exact Fz.bool (by simp[a1];omega)):p:=h
def wy(h:p:=by
 simp only[go_sem];exact Fz.bool (by simp[fJ,fp,j',c1])):p:=h
def pq(h:p:=by
 simp only[go_sem];exact Fz.bool (by simp[fJ,fp,jt,c2])):p:=h
def By(h:p:=by
 match c6,C5 with
 |[a,b,c,d,e],_=>exact⟨a,b,c,d,e,A⟩):p:=h
def Bz(h:p:=by
 match c8,u4 with
 |[a,b,c,d,e],_=>exact⟨a,b,c,d,e,A⟩):p:=h
def BC(h:p:=by
 refine bw hn ?_;simp only[bne,f0,go_sem];exact Fz.int A):p:=h
def BD(h:p:=by
 simp only[go_sem];exact Fz.bool (by simp[fp,j',c1])):p:=h
def BE(h:p:=by
 exact BN):p:=h
def ys(h:p:=by
 exact BL):p:=h
def BF(h:p:=by
 simp only[go_sem];exact Fz.bool (by simp[ju,c])):p:=h
def BG(h:p:=by
 simp only[go_sem];exact Fz.bool (by simp[gN,c])):p:=h
def wz(h:p:=by
 exact wB):p:=h
def yt(h:p:=by
 simp only[go_sem];exact Fz.bool (mS l)):p:=h
def yu(h:p:=by
 simp only[go_sem];exact Fz.bool (bad Zg)):p:=h
def yv(h:p:=by
 unfold pY;cases dj P s rs<;>simp):p:=h
def wA(h:p:=by
 refine iP hs ?_;exact Fz.bool hd):p:=h
def qf(h:p:=by
 simp only[go_sem];exact Fz.bool A):p:=h
def F0(h:p:=by
 have D7:=b2 36 Zd;simp only[bH]at D7;have w0:IntKind.i64.wrap ((L.length:Int)-1)=(L.length:Int)-1:=cW _ Zo;refine GK.intro ?_;simp only[Jz,w0,go_sem];refine mW (λs'=>∃j:Nat,j<=L.length/\Fw.cK 53 [(3,.sl 1 (YB L)),(7,I ((j:Int)-1))] (λenv H n1 T=>aH [36,50] H 5 1 (YB ((L.drop j).reverse)) (env 6)) s') (λs=>match s.env 7 with|.sc (.int _ n)=>(n+1).toNat|_=>0)
  ⟨L.length,b_ _,A,by simp[af],.inr ⟨36,_,Zs,by simp[af];rfl,by simp[D7]⟩⟩ ?_
 clear b2 D7 qC e0 e4 e3;rintro⟨env,H,n1,nt,T,N⟩⟨j,hj,rfl,iS,hx⟩;simp only[a7]at iS hx;obtain⟨e3,e7,-⟩:=iS;obtain⟨y,e6⟩:=Zx (env 6);rw[e6]at hx;rcases j with _|j
 .have JI:decide (((0:Nat):Int)-1>=0)=al:=Zs;rw[List.drop_zero]at hx;obtain⟨g6,QV⟩:∃(t g:Nat),t∈[36,50]/\y=.ms t g L.length/\H t=E ⟨g,5,1,(YB L.reverse).flatten,aa⟩:=by
   rcases hx with⟨h0,-⟩|⟨t,gn,ht,rfl,hH⟩
   .have:=dO List.length h0;rw[mH,yj]at this;exact absurd (List.length_eq_zero_iff.1 this) u3
   .exact⟨t,gn,ht,by rw[mH,yj],hH⟩
  obtain⟨g,-,rfl,hH⟩:=QV;have QP:bytesOf ((YB L.reverse).flatten.take L.length)=E (L.reverse.map λx=>(x.toNat:Int)):=by
   rw[NJ,cU Zs];exact OI _
  have Q0:(L.reverse.map λx=>(x.toNat:Int)).length=L.length:=Zs;simp only[e7,JI,e6,hH,QP,Q0,Vx,go_sem];exact .cl _ (aO _)
 have e:((j+1:Nat):Int)-1=(j:Int):=Zo;have JI:decide ((j:Int)>=0)=ad:=Zs;have aC:j<L.length:=Zo;have g0:(YB L)[j]?=E [U8 L[j].toNat]:=by simp[aC]
 have w1:IntKind.i64.wrap ((j:Int)-1)=(j:Int)-1:=cW _ Zo;have JT:(YB (L.drop (j+1)).reverse).length=L.length-(j+1):=by rw[mH];simp
 have rT:YB (L.drop (j+1)).reverse++[[U8 L[j].toNat]]=YB (L.drop j).reverse:=by rw[ph aC,List.reverse_cons,yp];rfl
 have Ym:((j:Int)<(L.length:Int))=True:=bP Zo;simp only[e,e3,e6,e7,g0,go_sem];refine GK.intro (dS.eF (S:=[36,50]) (rows:=YB (L.drop (j+1)).reverse) (bx:=[[U8 L[j].toNat]]) el (by simp only[af,aI,aV,aP];exact hx.congr bJ) (uB _) ga Zs A (by rw[JT];simp only[kJ];omega) (by rw[JT];unfold ao;simp only[kJ];omega) λH4 n4 x4 gb lp=>?_);rw[rT]at gb;simp only[e,e7,w1,go_sem];exact⟨⟨j,Zo,A,by simp[af,e3],by simpa[af]using gb.sub Zs⟩,by simp[af]⟩):p:=h
def F1(h:p:=by
 have iS:=zp (k:=k) (n:=n) (ns:=ns) (sc:=sc) ks j 0 out aC;rw[ek]at iS;rw[<-iS]at qz;simp only[Y.ds,O.ds,strs,bf,a8]at ta;simp only[bp,cB,dN,fX,c_]at nR;simp only[h,g0,mQ,nU,zL,go_sem];refine mc [0,1,2,3,7,4,5,6,8,9] [8] [] ?_;simp only[e2,mQ,nU,go_sem];refine bB _ ta (by simp;exact⟨O.bA _,Y.bA _⟩) ?_;simp only[go_sem];refine Cb [44] [.sl 1 [[.sl 1 (R sc)],[.sl 1 (R (bN k n ns j))]]] _ nR A (by simp only[a8,c_,ot,ou,a7];exact⟨Fz.rows (ob:=⟨n' 44,60,1,[.sl 1 (R sc),.sl 1 (R (bN k n ns j))],aa⟩) (by simp[bi,aj]) A A Zd A Zs A (by simp only[a7];exact⟨⟨oL _,Zs⟩,⟨oL _,Zs⟩,Zs⟩),Zs⟩) (oL _) ?_;simp only[aN,go_sem];refine qj [2,47] [.ag ks[j].ds,.sl 1 (R (sc++bN k n ns j))] [] y 9 1 _ _ qz A (hx.congr (by simp only[a7];exact⟨by simp[aN,aj],by simp[aN,aj],Zs⟩)) cu ?_;intro H' Ak x' nV hH;simp only[hH 8 Zd Zd,aN,go_sem];refine bg aC ⟨A,by simp only[a7,cS,ez,eJ,af,↓reduceIte,aP,iK,ji,bT,bU,aI,aV,reduceCtorEq],?_⟩;simpa[af]using nV.sub Zs):p:=h
def F2(h:p:=by
 rw[rP,hN];refine bq 7 ks.length (λj=>Fw.Inv 63 [(0,ai.sl ab),(1,.cp [I k,I v,S n,I tk,S tn,.sl 3 (O.ae az),.sl 1 (R ns),.sl 8 (Y.ae ks)])] ((ks.take j).all (Y.aY (dR ab))=ad)) A ⟨A,by simp[ai.sl,ba,af],Zs⟩ ?_;rintro j env H n' T _ hj hp;simp only[iR,go_sem];refine aT (λh=>?_) λh=>?_
 .have aC:=bh h;simp only[h,Y.bo ks j aC,go_sem];refine bw (fU ks[j] (ax aC)) ?_;cases hq:Y.aY (dR ab) ks[j]
  .exact wE
  .exact Gx
 .exact Gw):p:=h
def F3(h:p:=by
 simp only[s7,go_sem];refine bg aC ⟨A,A,A,by simp[af,e0,e1,e2,e6,rJ,CA,y_,Nd.d,Y.ds,O.ds,Nd.gJ,strs],⟨by simp[g6],by simp[g12],λt ht=>?_⟩,tl++[⟨.mk ck cv cd nJ,rD⟩],?_,?_,?_,?_⟩
 .obtain⟨z1,z2,z3,z4,z5,z6⟩:=nT t ht;have:=u0 t z6 (by simpa using z6);simp only[bV _ _ z5]at this;exact this.trans (Jy t ht)
 .simpa[af]using JV
 .rw[bC,hc,wc,bC];simp only[bp,cB,<-zM.c]
 .intro t ht;rcases cg.1 ht with ht|ht
  .exact nS t ht
  .simp at ht;subst ht;exact zM.ne
 .have:=zM.len;simp only[bC,bp,cB,sB,ia,List.sum_nil];rw[Q4];simp only at this;omega):p:=h
def F5(h:p:=by
 rw[ek]at iS;rw[<-iS]at qz;simp only[Y.ds,O.ds,strs,bf,a8]at ta;simp only[h,g0,go_sem];refine Cu [0,1,2,3,4,5,6,7,8,11,9,10,12,13] [] [] mixed Zk ?_;simp only[e2,g0,go_sem];refine bB _ ta (by simp;exact⟨O.bA _,Y.bA _⟩) ?_;simp only[go_sem];refine bO nR ?_;refine qj [2,37,59] [.cp ks[j].ds,.sl 1 (R (sc++bN k n ns j))] [] y 9 1 _ _ qz A hx cu ?_;intro H' Ak x' nV hH;simp only[go_sem];refine bg aC ⟨A,by simp only[a7,cS,ez,eJ,af,↓reduceIte,aP,reduceCtorEq,iK,ji,bT,bU,aI,aV],?_⟩;simpa[af]using nV.sub (S':=[2,37,59]) Zs):p:=h
def F6(h:p:=by
 have hr:lB ks[k] (a-1)=ks[k].num:=by unfold lB;rw[aM hq]
 have xm:decide ((ks[k].num:Int)<0)=al:=Zs;have w3:=wrap_add (1+O.aR (ks.take k)) ks[k].num Zo;have m2:1+O.aR (ks.take k)+ks[k].num=1+O.aR (ks.take (k+1)):=by rw[O.iU ks k aC];omega
 simp only[hr,xm,h5,e2,w3,go_sem];refine bg aC ⟨A,?_,by rw[kQ aC,hp,hq.1];rfl,by rw[O.ku ks k aC];omega⟩;simp only[e0,e1,m2,a7,cS,ez,eJ,af,↓reduceIte,aP,iK,ji]):p:=h
def F7(h:p:=by
 refine b7 ?_;refine eK _ (fU a[k] (ax aC) b[k]) (by simp;exact⟨cl _,cl _⟩) A ?_;exact Gt):p:=h
def F8(h:p:=by
 refine bw sn ?_;cases c2:jo (.mk tk tn az)
 .exact BN
 simp only[iR,go_sem];by_cases c3:(ns.length:Int)>0
 .exact Gv
 exact Gu):p:=h
def F9(h:p:=by
 have tf:=bS h;subst tf;rw[b9]at hy;obtain⟨y0,y1,y2,y3,rfl⟩:∃a b c d,c4=[a,b,c,d]:=by
  match c4,pM with
  |[a,b,c,d],_=>exact⟨a,b,c,d,A⟩
 simp only[h,h4,h5,go_sem];refine⟨by simp only[b3];exact⟨n3 hx,n3 hy⟩,?_⟩;exact Fz.NP (aH.fz (hx.congr bJ) Zd (jw _) (pu _)) (aH.fz (hy.congr bJ) Zd (Core.ea _) (Core.bA _))):p:=h
def F_(h:p:=by
 intro H4 n4 x4 gb lp;obtain⟨g4,rfl,-⟩:=fG gb Zs;have rN:=lp 5 Zd Zd;have mP:=lp 4 Zd Zd;simp only[bV,dP,aP,dz,h4,h5]at rN mP;simp only[rN,go_sem];refine bg aC ⟨A,by simp[af],⟨c4,by simp[aj,mP],pM⟩,_,by simp only[bH];rfl,?_⟩;rw[kw];exact aH.congr gb bJ):p:=h
def Ga(h:p:=by
 refine bg aC ⟨A,?_,Zo⟩;simp only[a7,af,↓reduceIte,aP,cS,ez,eJ,fa,nr,bT,bU,aI,aV,reduceCtorEq];rw[rT];exact dO (λn=>D.sc (.int .i64 n)) Zo):p:=h
def Gd(h:p:=by
 simp only[List.take_zero,O.aR,ba,List.getD_cons_zero,List.getD_cons_succ,a7,cS,ez,eJ,af,↓reduceIte,aP,fa,nr,ji];rfl):p:=h
def Ge(h:p:=by
 cases hc:p l[k]
 .simp only[go_sem];refine bg aC ⟨A,by simp[af],?_⟩;rw[any_take_succ aC,hp,hc];rfl
 .simp only[go_sem];exact Fz.int (kW aC hp hc).symm):p:=h
def Gf(h:p:=by
 simp only[a7,cS,ez,eJ,af,↓reduceIte,aP,reduceCtorEq,iK,ji,bT,bU,aI,aV]):p:=h
def Gh(h:p:=by
 have g1:(nm.toList==(⟨#[]⟩:BA).toList)=al:=by rw[du];exact bj d1
 simp only[g1,go_sem];exact Fz.int (yb (by rw[ht];simp[d1]))):p:=h
def Gi(h:p:=by
 have g1:(n.toList==(⟨#[]⟩:BA).toList)=al:=by rw[du];exact bj c1
 simp only[g1,go_sem];exact Fz.bool (by simp[fp,j',c1])):p:=h
def Gj(h:p:=by
 have qy:=bS h;subst qy;rw[b9]at hp xl e2;simp only[h,e2,go_sem];refine Fz.int ?_;unfold lB;exact Zg):p:=h
def Gk(h:p:=by
 have qy:=bS h;subst qy;simp only[h,go_sem];refine Fz.int ?_;rw[b9]at hp⊢;rw[kg Zo];omega):p:=h
def Gl(h:p:=by
 simp only[g7,go_sem];exact Gy):p:=h
def Gm(h:p:=by
 simpa[List.getD,h1,iv,Array.getElem?_append,h2,show i<vs.length by omega]using this):p:=h
def Gn(h:p:=by
 exact Gv):p:=h
def BH(h:p:=by
 have o0:=bS h;subst o0;simp only[h,go_sem];exact Fz.bool (bD (jm.2 λi h=>lq i h h)).symm):p:=h
def BI(h:p:=by
 have o0:=bS h;subst o0;rw[b9]at hx;simp only[h,e2,go_sem];rw[td];exact aH.close hx):p:=h
def Gp(h:p:=by
 by_cases h0:s'=t0
 .subst h0;rw[bH]at e;cases e
 .rw[bV _ _ h0]at e;exact⟨h0,e⟩):p:=h
def Gr(h:p:=by
 exact Gx):p:=h
def Gs(h:p:=by
 exact Fz.bool (by simp[fJ,fp,j',jt,im,lR,cN,c1,c5,c2,c8])):p:=h
def yw(h:p:=by
 simp only[bj q,go_sem];exact Fz.bool (bj (o3 q)).symm):p:=h
def BJ(h:p:=by
 simp only[g2,go_sem];exact Fz.int (yb (by rw[ht];simp[d2]))):p:=h
def BK(h:p:=by
 exact Fz.AY (.c (.cl _ (aO _)) (.c (.cl _ (aO _)) .n))):p:=h
def BL(h:p:=by
 by_cases c:i=j
 .subst c;exact q
 .exact lq i h Zo):p:=h
def wB(h:p:=by
 simp only[h,go_sem];refine Fz.bool ?_;exact Zg):p:=h
def wC(h:p:=by
 simp only[s0,go_sem];exact .cl _ (aO _)):p:=h
def wD(h:p:=by
 simp only[go_sem];exact Fz.int A):p:=h
def Gt(h:p:=by
 by_cases hc:a[k]=b[k]
 .have ec:decide (a[k]=b[k])=ad:=by simp[hc]
  simp only[ec,go_sem];refine bg aC ⟨A,by simp[af],?_⟩;rw[ch aC,ch u9,hp,hc]
 .have ec:decide (a[k]=b[k])=al:=by simp[hc]
  simp only[ec,go_sem];refine Fz.bool ?_;exact Zg):p:=h
def Gu(h:p:=by
 simp only[bj c3,go_sem];have c5:ns.length=0:=Zo;exact Fz.bool (by simp[fp,j',jt,lR,c1,c2,c5,im,iG])):p:=h
def Gv(h:p:=by
 simp only[bD c3,go_sem];exact Fz.bool (by
  have:ns.length≠0:=Zo;simp[fp,im,this])):p:=h
def Gw(h:p:=by
 have o0:=bS h;subst o0;rw[b9]at hp;simp only[h,go_sem];exact Fz.bool (by rw[hp])):p:=h
def Gx(h:p:=by
 simp only[go_sem];refine bg aC ⟨A,by simp[af],by rw[kQ aC,hp,hq];rfl⟩):p:=h
def Gy(h:p:=by
 exact Fz.bool (by simp[fJ,fp,j',jt,im,lR,cN,c1,c5,c2,c6,a1])):p:=h
def BN(h:p:=by
 simp only[go_sem];exact Fz.bool (by simp[fp,jt,c2])):p:=h
def wE(h:p:=by
 simp only[go_sem];exact Fz.bool Zg):p:=h
end
variable {pm:Prop}
def Zo(a:pm:=by omega):pm:=a
def Zs(a:pm:=by simp):pm:=a
def Zd(a:pm:=by decide):pm:=a
def Zk(a:pm:=by kernel_rfl):pm:=a
def bJ(a:pm:=by simp[aj]):pm:=a
def de(a:pm:=by simp;omega):pm:=a
def iN(a:pm:=by simp[af]):pm:=a
def iM(a:pm:=by unfold ao;omega):pm:=a
def dI(a:pm:=by simp[dY]):pm:=a
def kO(a:pm:=by simp;unfold ao;omega):pm:=a
def ga(a:pm:=by simp[af,cF,aj]):pm:=a
def nD(a:pm:=by simp[b4,Value.oneCell']):pm:=a
def rr(a:pm:=by simp[Op.operands]):pm:=a
def Zg(a:pm:=by first|omega|grind):pm:=a
def GB:Nat:=0
def Std(w:aL):Prop:=∃e f,w.heap[GB]?=E (.cells (Lib.pow10Tab.map λa=>Value.int .u64 a).toArray e f)
variable {i4 u8:aL}
def Std.mono(a:Std i4)(e:u8.heap[GB]?=i4.heap[GB]?):Std u8:=by
 obtain⟨b,d,a⟩:=a;exact⟨b,d,e.trans a⟩
section
open Go.RowKit
abbrev dm:=Nat->Option (Nat×Nat×Nat)
abbrev b5:=Nat->Nat
abbrev cb:=Nat->Prop
abbrev ym:=Nat×Nat×Nat
abbrev iA:=Array aE
abbrev nv:=Array Bool
abbrev aD:=List Nat
abbrev IL:=List Int
abbrev aK:=List ByteArray
abbrev ON:=Option Nat
abbrev bI:=Array UInt8
abbrev VL:=List aE
abbrev eP:=List ResultVar
abbrev f_:=Array da
abbrev gY:=List da
abbrev BA:=ByteArray
inductive D where
 |sc (v:aE)
 |sl (sz:Nat) (rows:List (List D))
 |cs (sz:Nat) (rows:List (List D))
 |ag (ds:List D)
 |tp (ds:List D)
 |cp (ds:List D)
 |pa (b:Nat) (ds:List D)
 |rf (d gen off:Nat)
 |ms (d gen len:Nat)
 |mp (d gen:Nat)
 |fn (f:bK) (first e:List D)
 |any
abbrev lf:=Nat->D
abbrev ct:=List (List D)
abbrev a':D:=.sc (.slice aa 0 0)
abbrev DL:=List D
instance:Inhabited D:=⟨.any⟩
structure View where
 C:Nat->Nat->Option aE
 g:Nat->Option (Nat×Nat×Nat)
 n:Nat->Nat
 K:Nat->Prop
structure View.Ext (V d:View):Prop where
 c:∀b o u,V.C b o=E u->d.C b o=E u/\(V.K b->d.K b)
 n:∀s,V.n s<=d.n s
 g:∀s x b c,x<V.n s->d.g s=E (x,b,c)->V.g s=E (x,b,c)
def View.Ext.trans{j k l:View}(d:j.Ext k)(i:k.Ext l):j.Ext l:=
 ⟨λb f h e=>⟨(i.c b f h (d.c b f h e).1).1,λq=>(i.c b f h (d.c b f h e).1).2 ((d.c b f h e).2 q)⟩,λs=>fY (d.n s) (i.n s),λs p b m o e=>d.g s p b m o (i.g s p b m (gv o (d.n s)) e)⟩
def noRoom:aE->Bool
 |.slice (E _) l c=>l==c
 |.slice aa l _=>l==0
 |_=>al
inductive Rd (V:View):D->aE->Prop
 |sc (v:aE):Rd V (.sc v) v
 |any (v:aE):Rd V .any v
 |nil (sz:Nat):Rd V (.sl sz []) (.slice aa 0 0)
 |fu (sz:Nat) (a:Addr) (cap:Nat) (hm:cap<=ao):Rd V (.sl sz []) (.slice (E a) 0 cap)
 |sl (sz:Nat) (rows:List (List D)) (b o cap:Nat) (us:Nat->Nat->aE) (p:rows.length<=cap) (hm:cap<=ao)
  (e:∀(i:Nat)(r:List D),rows[i]?=E r->r.length=sz)
  (k:∀(i:Nat)(r:List D)(j:Nat)(d:D),rows[i]?=E r->r[j]?=E d->V.C b (o+i*sz+j)=E (us i j))
  (l:∀(i:Nat)(r:List D)(j:Nat)(d:D),rows[i]?=E r->r[j]?=E d->Rd V d (us i j)):
  Rd V (.sl sz rows) (.slice (E ⟨b,o,aa⟩) rows.length cap)
 |cs (sz:Nat) (rows:List (List D)) (v:aE) (h:Rd V (.sl sz rows) v) (p:noRoom v=ad):Rd V (.cs sz rows) v
 |ag (ds:List D) (vs:List aE) (e:ds.length=vs.length) (h:∀(i:Nat)(d:D)(v:aE),ds[i]?=E d->vs[i]?=E v->Rd V d v):Rd V (.ag ds) (.agg vs.toArray)
 |tp (ds:List D) (vs:List aE) (e:ds.length=vs.length) (h:∀(i:Nat)(d:D)(v:aE),ds[i]?=E d->vs[i]?=E v->Rd V d v):Rd V (.tp ds) (.tuple vs.toArray)
 |cp (ds:List D) (b o:Nat) (us:Nat->aE) (k:∀(j:Nat)(d:D),ds[j]?=E d->V.C b (o+j)=E (us j)) (l:∀(j:Nat)(d:D),ds[j]?=E d->Rd V d (us j)):
  Rd V (.cp ds) (.pointer (E ⟨b,o,aa⟩))
 |pa (b:Nat) (ds:List D) (us:Nat->aE) (t:0<ds.length) (u:V.K b) (k:∀(j:Nat)(d:D),ds[j]?=E d->V.C b j=E (us j)) (l:∀(j:Nat)(d:D),ds[j]?=E d->Rd V d (us j)):
  Rd V (.pa b ds) (.pointer (E ⟨b,0,aa⟩))
 |rf (s g o:Nat) (a:Addr) (m:g<V.n s) (h:∀b c,V.g s=E (g,b,c)->a=⟨b,o,aa⟩):Rd V (.rf s g o) (.pointer (E a))
 |ms (s g len:Nat) (a:Addr) (cap:Nat) (m:g<V.n s/\len<=cap) (h:∀b c,V.g s=E (g,b,c)->a=⟨b,0,aa⟩/\cap=c):Rd V (.ms s g len) (.slice (E a) len cap)
 |mp (s g b':Nat) (m:g<V.n s) (h:∀b c,V.g s=E (g,b,c)->b'=b):Rd V (.mp s g) (.map (E b'))
 |fn (f:bK) (ds es:List D) (vs us:List aE) (e:ds.length=vs.length) (x:es.length=us.length)
  (h:∀(i:Nat)(d:D)(v:aE),ds[i]?=E d->vs[i]?=E v->Rd V d v) (q:∀(i:Nat)(d:D)(v:aE),es[i]?=E d->us[i]?=E v->Rd V d v):
  Rd V (.fn f ds es) (.func (.func f) vs.toArray us.toArray)
def Rd.mono{C F:View}(e:C.Ext F){k:D}{v:aE}(l:Rd C k v):Rd F k v:=by
 induction l with
 |sc v=>exact .sc v
 |any v=>exact .any v
 |nil o=>exact .nil o
 |fu o a t A=>exact .fu o a t A
 |sl o B b y t p z A m q _ d=>exact .sl o B b y t p z A m (λi S j k K x=>(e.c _ _ _ (q i S j k K x)).1) d
 |cs o B v _ z d=>exact .cs o B v d z
 |ag f vs m _ d=>exact .ag f vs m d
 |tp f vs m _ d=>exact .tp f vs m d
 |cp f b y p q _ d=>exact .cp f b y p (λj k x=>(e.c _ _ _ (q j k x)).1) d
 |pa b f p G L q _ d=>exact .pa b f p G ((e.c _ _ _ (q 0 _ (bR G))).2 L) (λj k x=>(e.c _ _ _ (q j k x)).1) d
 |rf s g y a h l=>exact .rf s g y a (gv h (e.n s)) (λb r u=>l b r (e.g _ _ _ _ h u))
 |ms s g R a t h l=>exact .ms s g R a t ⟨gv h.1 (e.n s),h.2⟩ (λb r u=>l b r (e.g _ _ _ _ h.1 u))
 |mp s g b h l=>exact .mp s g b (gv h (e.n s)) (λb r u=>l b r (e.g _ _ _ _ h u))
 |fn J f I vs p m O _ _ d Q=>exact .fn J f I vs p m O d Q
inductive Cl:D->Prop
 |sc (v:aE):Cl (.sc v)
 |any:Cl .any
 |sl (sz:Nat) (rows:List (List D)) (h:∀(i:Nat)(r:List D)(j:Nat)(d:D),rows[i]?=E r->r[j]?=E d->Cl d):Cl (.sl sz rows)
 |cs (sz:Nat) (rows:List (List D)) (h:Cl (.sl sz rows)):Cl (.cs sz rows)
 |ag (ds:List D) (h:∀(i:Nat)(d:D),ds[i]?=E d->Cl d):Cl (.ag ds)
 |tp (ds:List D) (h:∀(i:Nat)(d:D),ds[i]?=E d->Cl d):Cl (.tp ds)
 |cp (ds:List D) (h:∀(i:Nat)(d:D),ds[i]?=E d->Cl d):Cl (.cp ds)
 |pa (b:Nat) (ds:List D) (h:∀(i:Nat)(d:D),ds[i]?=E d->Cl d):Cl (.pa b ds)
 |fn (f:bK) (ds es:List D) (h:∀(i:Nat)(d:D),ds[i]?=E d->Cl d) (e:∀(i:Nat)(d:D),es[i]?=E d->Cl d):Cl (.fn f ds es)
def Rd.closed{y z:View}(t:∀k u I,y.C k u=E I->z.C k u=E I/\(y.K k->z.K k)){b:D}{v:aE}(O:Rd y b v)(d:Cl b):Rd z b v:=by
 induction O with
 |sc v=>exact .sc v
 |any v=>exact .any v
 |nil p=>exact .nil p
 |fu p a A B=>exact .fu p a A B
 |sl p F k u A q Q B m r _ j=>
  cases d with|sl _ _ d=>
  exact .sl p F k u A q Q B m (λf x i b e h=>(t _ _ _ (r f x i b e h)).1) (λf x i b e h=>j f x i b e h (d f x i b e h))
 |cs p F v _ t j=>cases d with|cs _ _ d=>exact .cs p F v (j d) t
 |ag l vs m _ j=>cases d with|ag _ d=>exact .ag l vs m λf b v e o=>j f b v e o (d f b e)
 |tp l vs m _ j=>cases d with|tp _ d=>exact .tp l vs m λf b v e o=>j f b v e o (d f b e)
 |cp l k u q r _ j=>cases d with|cp _ d=>exact .cp l k u q (λi b h=>(t _ _ _ (r i b h)).1) λi b h=>j i b h (d i b h)
 |pa k l q G R r _ j=>cases d with|pa _ _ d=>exact .pa k l q G ((t _ _ _ (r 0 _ (bR G))).2 R) (λi b h=>(t _ _ _ (r i b h)).1) λi b h=>j i b h (d i b h)
 |rf=>cases d
 |ms=>cases d
 |mp=>cases d
 |fn L l J vs q m S _ _ j U=>
  cases d with|fn _ _ _ d V=>
  exact .fn L l J vs q m S (λf b v e o=>j f b v e o (d f b e)) λf b v e o=>U f b v e o (V f b e)
def yH(op:BinOp):aE->aE->Option aE
 |.int k a,.int d b=>if k=d then(match op with
  |.add=>E (.int k (k.wrap (a+b)))|.sub=>E (.int k (k.wrap (a-b)))|.mul=>E (.int k (k.wrap (a*b)))
  |.quo=>if b=0 then aa else E (.int k (k.wrap (a.tdiv b)))|.rem=>if b=0 then aa else E (.int k (a.tmod b))
  |.eql=>E (.bool (a==b))|.neq=>E (.bool (a !=b))|.lss=>E (.bool (decide (a<b)))|.leq=>E (.bool (decide (a<=b)))
  |.gtr=>E (.bool (decide (a>b)))|.geq=>E (.bool (decide (a>=b)))|_=>aa)else aa
 |.string a,.string b=>match op with
  |.add=>if a.size+b.size<=ao then E (.string (a++b))else aa
  |.eql=>E (.bool (a.toList==b.toList))|.neq=>E (.bool (!(a.toList==b.toList)))|.lss=>E (.bool (Op.bytesLess a.toList b.toList))|_=>aa
 |_,_=>aa
def A6(op:UnOp):aE->Option aE
 |.bool b=>(match op with|.not=>E (.bool (!b))|_=>aa)
 |.int k n=>(match op with|.neg=>E (.int k (k.wrap (0-n)))|_=>aa)
 |_=>aa
def Oh{P:ay}{op:BinOp}{d v e:aE}(b:yH op d v=E e)(f:aQ)(k l:eV)(w:aL):
 (do eqGuard op f k l d v;binOp op f d v:Sem aE).run P w=.ok e w:=by
 unfold yH at b;split at b
 .rename_i m a o h;split at b
  .rename_i i;subst i;rw[eqGuard_at_int];cases op<;>simp only[dy,reduceCtorEq]at b<;>
    first
    |(subst b;simp[binOp,Op.intArith,Op.intCmp];done)
    |(split at b<;>simp only[dy,reduceCtorEq]at b;subst b;simp[binOp,Op.intDiv, *];done)
  .cases b
 .rename_i a h;rw[eqGuard_at_string];cases op<;>simp only[dy,reduceCtorEq]at b<;>
   first
   |(subst b;simp[binOp,Op.stringOp];done)
   |(split at b<;>simp only[dy,reduceCtorEq]at b;subst b;rename_i j;simp only[ao]at j;simp[binOp,Op.stringOp,IntKind.max,IntKind.signed,IntKind.bits];omega)
 .cases b
def W0{P:ay}{op:UnOp}{e d:aE}(b:A6 op e=E d)(w:aL):(Op.unary op e).run P w=.ok d w:=by
 unfold A6 at b;split at b
 .cases op<;>simp only[dy,reduceCtorEq]at b;subst b;simp[Op.unary]
 .cases op<;>simp only[dy,reduceCtorEq]at b;subst b;simp[Op.unary,Op.intArith]
 .cases b
structure Ob where
 gen:Nat
 elem:aQ
 sz:Nat
 cells:List D
 keys:Option (List aE):=aa
abbrev bt:=Nat->Option Ob
abbrev ux:=Option Ob
structure TE where
 u:aE
 d:D
 F:List Nat
abbrev dd:=List TE
structure St where
 env:Nat->D
 H:Nat->Option Ob
 n:Nat->Nat
 nt:Nat
 T:List TE:=[]
 N:Nat:=0
abbrev aU:=St->Prop
abbrev gw:=gk->aU
def db:Nat->Nat:=λ_=>0
def bump(n:b5)(t:Nat):Nat->Nat:=λi=>if i=t then n i+1 else n i
def kU(d:b5)(b:Nat):bump d b b=d b+1:=by simp[bump]
def X7(d:b5){e b:Nat}(f:b≠e):bump d e b=d b:=by simp[bump,f]
def Io(d:b5)(e b:Nat):d b<=bump d e b:=by unfold bump;split<;>omega
def af(e:lf)(t:Nat)(d:D):Nat->D:=λi=>if i=t then d else e i
def St.put(s:St)(o:Option Nat)(d:D):St:=
 match o with
 |some t=>if t<s.nt then{s with env:=af s.env t d}else s
 |none=>s
def St.ev(s:St):eV->D
 |.tmp t=>s.env t
 |.const v=>.sc v
 |.func f=>.fn f [] []
 |.global _=>.any
def lA(P:ay)(t:aQ):ON:=(P.info? t).map (·.size)
def wG(P:ay)(t:aQ):Option Bool:=(P.underlying t).map λ|.struct _|.array _ _=>ad|_=>al
def oQ(P:ay)(t:aQ):ON:=match P.underlying t with|some (.slice e)=>lA P e|_=>aa
def sV(P:ay)(t:aQ)(f:Nat):Option Nat:=
 match P.underlying t with
 |some (.struct b)=>match b[f]? with|some x=>(match lA P x.type with|some 0|none=>aa|_=>E x.offset)|none=>aa
 |_=>aa
def zi(P:ay)(t:aQ)(f:Nat):Option (aQ×Nat):=
 match P.underlying t with
 |some (.struct b)=>(b[f]?).map λx=>(x.type,x.offset)
 |_=>aa
def gi(P:ay)(t:aQ):Nat:=match P.underlying t with|some .string=>0|some (.slice _)=>1|some .bool=>2|some (.int _)=>3|_=>4
def tj(P:ay)(t:aQ):Option IntKind:=match P.underlying t with|some (.int k)=>E k|_=>aa
def qK(P:ay)(t:aQ)(ds:List D):Option D:=
 match wG P t with
 |some ad=>match lA P t with
  |some n=>if n<=ds.length then E (.ag (ds.take n))else aa
  |none=>aa
 |some al=>ds.head?
 |none=>aa
def qE(P:ay)(s:St)(t:aQ):D->Option D
 |.cp ds=>qK P t ds
 |.pa _ ds=>qK P t ds
 |.rf b x off=>match s.H b with
  |some ob=>if ob.gen=x/\ob.keys=aa then qK P t (ob.cells.drop off)else aa
  |none=>aa
 |_=>aa
def tm(P:ay)(t:aQ):D->Option D
 |.sc (.string b)=>if gi P t=0 then E (.sc (.int .i64 b.size))else aa
 |.sc (.slice aa 0 0)=>if gi P t=1 then E (.sc (.int .i64 0))else aa
 |.sl _ rows=>if gi P t=1 then E (.sc (.int .i64 rows.length))else aa
 |.ms _ _ d=>if gi P t=1 then E (.sc (.int .i64 d))else aa
 |_=>aa
def yT(P:ay)(t:aQ):D->Option D
 |.sc (.slice aa 0 0)=>if gi P t=1 then E (.sc (.int .i64 0))else aa
 |_=>aa
def zQ(P:ay)(t:aQ):D->D->Option D
 |.sl sz rows,.sc (.int _ n)=>match rows[n.toNat]? with
  |some r=>if 0<=n/\oQ P t=E sz then E (.cp r)else aa
  |none=>aa
 |.ms d x b,.sc (.int _ n)=>match oQ P t with
  |some sz=>if 0<=n/\n<b then E (.rf d x (n.toNat*sz))else aa
  |none=>aa
 |_,_=>aa
def zg(P:ay)(t:aQ)(f:Nat):D->Option D
 |.cp ds=>(sV P t f).map λo=>.cp (ds.drop o)
 |.pa _ ds=>(sV P t f).map λo=>.cp (ds.drop o)
 |.rf b x off=>(sV P t f).map λo=>.rf b x (off+o)
 |_=>aa
def zR(P:ay)(t:aQ):D->D->Option D
 |.sc (.string b),.sc (.int _ n)=>if gi P t=0/\0<=n then(b[n.toNat]?).map λc=>.sc (.int .u8 c.toNat)else aa
 |_,_=>aa
def Yr(a b:aE):Option aE:=match a,b with|.int k x,.int d y=>if k=d then E (.int k (if x<y then y else x))else aa|_,_=>aa
def lz(P:ay)(t:aQ):Bool:=match P.underlying t with|some (.pointer e)=>(match lA P e with|some (_+1)=>ad|_=>al)|_=>al
def n7(op:BinOp)(b:Bool):Option D:=match op with|.eql=>E (.sc (.bool b))|.neq=>E (.sc (.bool (!b)))|_=>aa
def pb(P:ay)(s:St):eU->Option D
 |.move x|.assign x=>E (s.ev x)
 |.pick c a b=>match s.ev c with|.sc (.bool t)=>E (if t then s.ev a else s.ev b)|_=>aa
 |.binOp op t x y _=>match s.ev x,s.ev y with
  |.sc (.bool a),.sc (.bool b)=>if gi P t=2 then(match op with|.eql=>E (.sc (.bool (a==b)))|.neq=>E (.sc (.bool (a !=b)))|_=>aa)else aa
  |.sc (.slice a _ _),.sc (.slice aa 0 0)=>if gi P t=1 then n7 op a.isNone else aa
  |.sc (.pointer a),.sc (.pointer aa)=>if lz P t=ad then n7 op a.isNone else aa
  |.sc u,.sc v=>(yH op u v).map .sc
  |.sl _ (_::_),.sc (.slice aa 0 0)=>if gi P t=1 then n7 op al else aa
  |.ms _ _ _,.sc (.slice aa 0 0)=>if gi P t=1 then n7 op al else aa
  |.pa b _,.pa b' _=>if lz P t=ad then n7 op (b==b')else aa
  |.pa _ _,.sc (.pointer aa)=>if lz P t=ad then n7 op al else aa
  |.sc (.pointer aa),.pa _ _=>if lz P t=ad then n7 op al else aa
  |_,_=>aa
 |.unOp op _ x=>match s.ev x with|.sc u=>(A6 op u).map .sc|_=>aa
 |.extract x i=>match s.ev x with|.tp ds=>ds[i]?|_=>aa
 |.field t x f=>match s.ev x,zi P t f with|.ag ds,E (d,o)=>qK P d (ds.drop o)|_,_=>aa
 |.index t x i=>zR P t (s.ev x) (s.ev i)
 |.indexAddr t x i=>zQ P t (s.ev x) (s.ev i)
 |.fieldAddr t x f=>zg P t f (s.ev x)
 |.load t x=>qE P s t (s.ev x)
 |.nilCheck x=>match s.ev x with|.cp ds=>E (.cp ds)|.pa b ds=>E (.pa b ds)|.rf a b c=>E (.rf a b c)|.fn f a b=>E (.fn f a b)|_=>aa
 |.makeFunc (.func f) first en=>E (.fn f (first.toList.map s.ev) (en.toList.map s.ev))
 |.convert src dst x=>match s.ev x,tj P dst,(P.underlying src).isSome with|.sc (.int _ n),E k,ad=>E (.sc (.int k (k.wrap n)))|_,_,_=>aa
 |.call c=>match c.callee with
  |.builtin .len=>match c.args.toList,c.argTypes.toList with|[x],[t]=>tm P t (s.ev x)|_,_=>aa
  |.builtin .cap=>match c.args.toList,c.argTypes.toList with|[x],[t]=>yT P t (s.ev x)|_,_=>aa
  |_=>aa
 |_=>aa
open Classical in
def view(w:aL)(M:cb)(g:dm)(n:b5):View where
 C b o:=if M b\/∃s x c,g s=E (x,b,c)then aa else w.cell? ⟨b,o,aa⟩
 g:=g
 n:=n
 K b:=∃us e,w.heap[b]?=E (.cells us e (0,0))
def dr{w:aL}{M:cb}{g:dm}{h:b5}{d e:Nat}{f:aE}(b:(view w M g h).C d e=E f):w.cell? ⟨d,e,aa⟩=E f:=by
 simp only[view]at b;split at b
 .cases b
 .exact b
def cR{w:aL}{M:cb}{g:dm}{f:b5}{b h:Nat}{i:aE}(d:(view w M g f).C b h=E i):¬M b/\∀s j e,g s≠E (j,b,e):=by
 simp only[view]at d;split at d
 .cases d
 .exact Zg
def dK{w:aL}{M:cb}{g:dm}{h:b5}{b d:Nat}{e:aE}(j:w.cell? ⟨b,d,aa⟩=E e)(k:¬M b)(l:∀s i f,g s≠E (i,b,f)):(view w M g h).C b d=E e:=by
 simp only[view];exact Zg
def hM{w:aL}{M d:cb}{g e:dm}{h i:b5}{b:Nat}(f:(view w M g h).K b):(view w d e i).K b:=f
def gH(w:aL)(b:Nat)(ob:Ob)(vs:Array aE):Prop:=
 match ob.keys with
 |none=>w.heap[b]?=E (.cells vs ob.elem (0,0))
 |some ks=>∃d e,w.heap[b]?=E (.map d e)/\d.toList.map (·.key)=ks/\d.toList.map (·.val)=vs.toList/\(d.toList.map (·.born)).Nodup/\∀x∈d.toList,x.born<e
def gH.mono{w e:aL}{b:Nat}{d:Ob}{vs:iA}(h:gH w b d vs)(f:e.heap[b]?=w.heap[b]?):gH e b d vs:=by
 unfold gH at*;rw[f];exact h
def gH.cells{w:aL}{e:Nat}{d:Ob}{vs:iA}(b:gH w e d vs)(f:d.keys=aa):w.heap[e]?=E (.cells vs d.elem (0,0)):=by
 unfold gH at b;rw[f]at b;exact b
def gH.of{w:aL}{d:Nat}{b:Ob}{vs:iA}(e:w.heap[d]?=E (.cells vs b.elem (0,0)))(f:b.keys=aa):gH w d b vs:=by
 unfold gH;rw[f];exact e
def gH.lt{w:aL}{d:Nat}{ob:Ob}{vs:iA}(b:gH w d ob vs):d<w.heap.size:=by
 unfold gH at b;split at b
 .exact(iY.1 b).1
 .exact Zg
structure yn (V:View) (w:aL) (t:Nat) (ob:Ob):Prop where
 gen:ob.gen<V.n t
 ex:∃b c vs,V.g t=E (ob.gen,b,c)/\gH w b ob vs/\(ob.keys=aa->vs.size=c*ob.sz)/\c<=ao/\ob.cells.length<=vs.size/\∀(j:Nat)(d:D),ob.cells[j]?=E d->∃u,vs[j]?=E u/\Rd V d u
inductive T1 (w:aL):D->aE->List Nat->Prop
 |sc (v:aE):T1 w (.sc v) v []
 |nil (sz:Nat):T1 w (.sl sz []) (.slice aa 0 0) []
 |fu (sz:Nat) (a:Addr) (cap:Nat) (hm:cap<=ao):T1 w (.sl sz []) (.slice (E a) 0 cap) []
 |sl (sz:Nat) (rows:List (List D)) (b cap:Nat) (vs:Array aE) (e:aQ) (us:Nat->aE) (f:Nat->List Nat) (hb:w.heap[b]?=E (.cells vs e (0,0)))
  (k:rows.length<=cap) (hm:cap<=ao) (m:vs.size=cap*sz) (i:0<sz) (l:∀r∈rows,r.length=sz)
  (o:∀(j:Nat)(d:D),rows.flatten[j]?=E d->vs[j]?=E (us j)) (h:∀(j:Nat)(d:D),rows.flatten[j]?=E d->T1 w d (us j) (f j)):
  T1 w (.sl sz rows) (.slice (E ⟨b,0,aa⟩) rows.length cap) (b::(List.range rows.flatten.length).flatMap f)
def T1.mono{w l:aL}{e:D}{v:aE}{f:aD}(p:T1 w e v f):(∀b∈f,l.heap[b]?=w.heap[b]?)->T1 l e v f:=by
 induction p with
 |sc v=>exact λ_=>.sc v
 |nil d=>exact λ_=>.nil d
 |fu d a h i=>exact λ_=>.fu d a h i
 |sl d B b h vs o C m r t i y q x z _ A=>
  intro k;refine .sl d B b h vs o C m ((k b Zs).trans r) t i y q x z λj e u=>A j e u λF G=>k F ?_;exact Zg
def T1.lt{w:aL}{i:D}{v:aE}{d:aD}(j:T1 w i v d):∀e∈d,e<w.heap.size:=by
 induction j with
 |sc v=>simp
 |nil f=>simp
 |fu f a h m=>simp
 |sl f B e h vs t C r k x m z u y A _ o=>
  intro q b;rcases cJ.1 b with rfl|b
  .exact(iY.1 k).1
  .obtain⟨p,l,b⟩:=List.mem_flatMap.1 b;exact o p _ (bR (rb.1 l)) q b
def jM{rows:ct}{sz:Nat}(d:∀b∈rows,b.length=sz):rows.flatten.length=rows.length*sz:=by
 induction rows with
 |nil=>simp
 |cons b rows e=>
  exact Zg
def sW{d:ct}{sz:Nat}(h:∀b∈d,b.length=sz){i k:Nat}{b:DL}{f:D}(e:d[i]?=E b)(j:b[k]?=E f):d.flatten[i*sz+k]?=E f:=by
 induction d generalizing i with
 |nil=>simp at e
 |cons o d m=>
  have p:=h o Zs;rw[dN];cases i with
  |zero=>
   simp at e;subst e;rw[Nat.zero_mul,ek,jR (ej.1 j).1];exact j
  |succ i=>
   rw[jv (by rw[p'];omega)];have:=m (λb l=>h b (by simp[l])) (i:=i) (by simpa using e);rw[<-this];congr 1;rw[p'];omega
def T1.rd{w:aL}{M:cb}{g:dm}{F:b5}{b:D}{v:aE}{q:aD}(x:T1 w b v q):(∀e∈q,¬M e/\∀s p u,g s≠E (p,e,u))->Rd (view w M g F) b v:=by
 induction x with
 |sc v=>exact λ_=>.sc v
 |nil d=>exact λ_=>.nil d
 |fu d a i l=>exact λ_=>.fu d a i l
 |sl d J e i vs O K L y z l R Q k A _ C=>
  intro r;obtain⟨G,I⟩:=r e Zs;refine .sl d J e 0 i (λh m=>K (h*d+m)) z l (λh o f=>k o (eg f)) (λh o m b f j=>?_) λh o m b f j=>?_
  .refine dK ?_ G I;rw[ek];simp only[World.cell?,y];exact A _ b (sW k f j)
  .have t:=sW k f j;refine C _ b t λp B=>r p ?_;exact np _ (List.mem_flatMap.2 ⟨_,rb.2 (ej.1 t).1,B⟩)
structure Bs where
 w:aL
 M:Nat->Prop
 X:Nat->Prop
 G:Nat->Option (Nat×Nat×Nat):=λ_=>aa
 N:Nat->Nat:=db
 dq:List Deferred:=[]
def Bs.own(d:Bs)(b:Nat):Prop:=d.w.heap.size<=b\/d.X b
structure Bs.Ok (z:Bs) (w:aL):Prop where
 os:w.os=z.w.os
 tape:w.tape=z.w.tape
 output:w.output=z.w.output
 size:z.w.heap.size<=w.heap.size
 block:∀k,¬z.own k->w.heap[k]?=z.w.heap[k]?
def Bs.Ok.step{f:Bs}{w d:aL}(e:f.Ok w)(j:d.os=w.os)(m:d.tape=w.tape)(k:d.output=w.output)(l:w.heap.size<=d.heap.size)(i:∀b,¬f.own b->d.heap[b]?=w.heap[b]?):f.Ok d:=
 ⟨j.trans e.os,m.trans e.tape,k.trans e.output,fY e.size l,λb h=>(i b h).trans (e.block b h)⟩
def Bs.r7{d:Bs}{b:Nat}(e:¬d.own b):b<d.w.heap.size:=by
 unfold Bs.own at e;omega
def Og(d:Bs)(g:dm)(n:b5):Prop:=(∀t,d.N t<=n t)/\∀t x b c,x<d.N t->g t=E (x,b,c)->d.G t=E (x,b,c)
def Og.ext{o:Bs}{w r:aL}{M p:cb}{g h:dm}{k l:b5}(j:(view w M g k).Ext (view r p h l))(d:Og o g k):Og o h l:=
 ⟨λb=>fY (d.1 b) (j.n b),λb m e f i q=>d.2 b m e f i (j.g b m e f (gv i (d.1 b)) q)⟩
def Og.start{w:aL}{M d:cb}{g:dm}{b:b5}:Og ⟨w,M,d,g,b,[]⟩ g b:=⟨λ_=>b_ _,λ_ _ _ _ _ e=>e⟩
def Og.none{e:Bs}{g:dm}{f:b5}(b:e.N=db):Og e g f:=⟨λ_=>by rw[b];exact iy _,λ_ _ _ _ d=>by rw[b]at d;exact absurd d (ow _)⟩
def ZM(d:Bs):Prop:=(∀b,d.M b->¬d.own b)/\d.M GB/\Std d.w
def MB(M:cb)(w:aL):Prop:=(∀b,M b->b<w.heap.size)/\M GB/\Std w
structure aS (w0:Bs) (M:Nat->Prop) (g:Nat->Option (Nat×Nat×Nat)) (s:St) (a:cq) (w:aL):Prop where
 defers:a.defers=w0.dq
 size:a.tmps.size=s.nt
 env:∀i,Rd (view w M g s.n) (s.env i) (a.tmps.getD i cC)
 obj:∀t ob,s.H t=E ob->yn (view w M g s.n) w t ob
 base:∀t x b c,g t=E (x,b,c)->w0.own b/\b<w.heap.size
 inj:∀t f x b c h c',g t=E (x,b,c)->g f=E (h,b,c')->t=f
 below:w0.Ok w
 m0:∀b,M b->b<w.heap.size/\∀t x c,g t≠E (x,b,c)
 mm:∀b,M b↔w0.M b\/∃e∈s.T,b∈e.F
 zm:ZM w0
 tree:∀e∈s.T,T1 w e.d e.u e.F/\∀b∈e.F,w0.own b
 nd:(s.T.flatMap (·.F)).Nodup
 og:Og w0 g s.n
 wm:∀b,w0.own b->s.N<=b
def aS.jr{w0:Bs}{M:cb}{g:dm}{s:St}{a:cq}{w:aL}(b:aS w0 M g s a w):M GB/\Std w:=
 ⟨(b.mm _).2 (.inl b.zm.2.1),b.zm.2.2.mono (b.below.block _ (b.zm.1 _ b.zm.2.1))⟩
def tX{w0:Bs}{M:cb}{g:dm}{s:St}{a:cq}{w i:aL}(f:aS w0 M g s a w)(k:∀b,M b->i.heap[b]?=w.heap[b]?):∀e∈s.T,T1 i e.d e.u e.F/\∀b∈e.F,w0.own b:=λe h=>
 ⟨(f.tree e h).1.mono λb j=>k b ((f.mm b).2 (.inr ⟨e,h,j⟩)),(f.tree e h).2⟩
def aS.ev{w0:Bs}{M:cb}{g:dm}{s:St}{a:cq}{w:aL}(e:aS w0 M g s a w)(b:eV):Rd (view w M g s.n) (s.ev b) (a.eval b):=by
 cases b with
 |tmp f=>exact e.env f
 |const v=>exact .sc v
 |global=>exact .any _
 |func d=>exact .fn d [] [] [] [] A A Zs Zs
def nH{w:aL}{b d:Nat}{vs:iA}{e:aQ}{f:Nat×Nat}(h:w.heap[b]?=E (.cells vs e f)):w.cell? ⟨b,d,aa⟩=vs[d]?:=by
 simp[World.cell?,h]
def kZ{P:ay}{e:aQ}{f:Nat}(b:lA P e=E f)(w:aL):(sizeOf e).run P w=.ok f w:=by
 unfold lA at b;cases d:P.info? e with
 |none=>simp[d]at b
 |some h=>simp[d]at b;subst b;simp[sizeOf,typeInfo,d]
def yy{P:ay}{e:aQ}{f:Bool}(b:wG P e=E f)(w:aL):(isAgg e).run P w=.ok f w:=by
 unfold wG at b;cases d:P.underlying e with
 |none=>simp[d]at b
 |some h=>
  simp only[d,ey,dy]at b;subst b;cases h<;>simp[isAgg,dU d]
def add_lit(b e d:Nat):Addr.add ⟨b,e,aa⟩ d=⟨b,e+d,aa⟩:=Addr.add_lit b e d
def DG{P:ay}{q:View}{u:aQ}{j:DL}{l:D}(d:qK P u j=E l){b o:Nat}(i:Nat->aE)(x:∀(e:Nat)(f:D),j[e]?=E f->Rd q f (i e)):
 ∃v,Rd q l v/\∀w:aL,(∀(e:Nat)(f:D),j[e]?=E f->w.cell? ⟨b,o+e,aa⟩=E (i e))->(loadVar u ⟨b,o,aa⟩).run P w=.ok v w:=by
 unfold qK at d;split at d
 .rename_i m;split at d
  .rename_i k z;split at d
   .rename_i C;simp only[dy]at d;subst d;have y:((List.range k).map i).length=k:=Zs;refine⟨.agg ((List.range k).map i).toArray,.ag _ _ de (λF l v B h=>?_),λw p=>?_⟩
    .exact Zg
    .have t:=run_loadCells_list (P:=P) w ⟨b,o,aa⟩ ((List.range k).map i) (λe v h=>by
      rw[gF]at h;by_cases r:e<k
      .rw[yg r]at h;simp only[ey,dy]at h;subst h;rw[add_lit];exact p e _ (bR Zo)
      .rw[v_ (by simpa using r)]at h;cases h)
     rw[y]at t;simp only[loadVar,eW,yy m,gl,aI,kZ z,t];rfl
   .cases d
  .cases d
 .rename_i m;cases j with
  |nil=>cases d
  |cons f j=>
   simp only[List.head?_cons,dy]at d;subst d;refine⟨i 0,x 0 f A,λw p=>?_⟩;have:=p 0 f A;simp only[kL]at this;simp[loadVar,eW,yy m,this]
 .cases d
def yE{w f:aL}(i:Below w.heap.size w f){b d:Nat}{e:aE}(h:w.cell? ⟨b,d,aa⟩=E e):f.cell? ⟨b,d,aa⟩=E e:=by
 have j:b<w.heap.size:=by
  exact Fi
 rw[<-h];exact i.cell (p:=⟨b,d,aa⟩) j
def kb{P:ay}{b:Sem aE}{v:aE}{w:aL}(d:b.run P w=.ok v w):(do pure (Next.value (<-b)):Sem Next).run P w=.ok (.value v) w:=by
 simp only[eW,d,gl];rfl
section
variable{P:ay}{w0:Bs}{M:cb}{g:dm}{s:St}{a:cq}{w:aL}
def Rd.sJ{f:View}{e:DL}{vs:VL}(k:e.length=vs.length)(i:∀(b:Nat)(d:D)(v:aE),e[b]?=E d->vs[b]?=E v->Rd f d v){b:Nat}{d:D}(h:e[b]?=E d):∃v,vs[b]?=E v/\Rd f d v:=by
 have j:b<e.length:=(ej.1 h).1;exact⟨vs[b]'Zo,bR Zo,i b d _ h (bR Zo)⟩
def KR(A:aS w0 M g s a w){C:aQ}{x:eV}{u:D}(d:qE P s C (s.ev x)=E u):
 ∃v,Rd (view w M g s.n) u v/\∀f,Below w.heap.size w f->(Instr.loadAt C (a.eval x)).run P f=.ok v f:=by
 have h:=A.ev x;generalize s.ev x=V at d h;generalize a.eval x=ak at h;unfold qE at d;split at d
 .rename_i G;cases h with|cp _ b o t q r=>
  obtain⟨v,m,l⟩:=DG d (b:=b) (o:=o) t r;exact⟨v,m,λf k=>by
   simp only[Instr.loadAt,Instr.sureAddr,eW,Sem.run_pure,gl];exact l f λi j e=>yE k (dr (q i j e))⟩
 .rename_i Q G;cases h with|pa _ _ t W ae q r=>
  obtain⟨v,m,l⟩:=DG d (b:=Q) (o:=0) t r;exact⟨v,m,λf k=>by
   simp only[Instr.loadAt,Instr.sureAddr,eW,Sem.run_pure,gl];exact l f λi j e=>yE k (dr (by rw[ek];exact q i j e))⟩
 .rename_i R x B;split at d
  .rename_i O L;split at d
   .rename_i z;obtain⟨z,K⟩:=z;obtain⟨Y,b,F,vs,ab,J,ai,X,ah,y⟩:=A.obj R O L;cases h with|rf _ _ _ U Z h=>
    have:=h b F Zg;subst this;obtain⟨v,m,l⟩:=DG d (b:=b) (o:=B) (λi=>vs.getD (B+i) cC) (λi j e=>by
     rw[List.getElem?_drop]at e;obtain⟨S,p,I⟩:=y _ _ e;simp[iv,p];exact I)
    exact⟨v,m,λf k=>by
     simp only[Instr.loadAt,Instr.sureAddr,eW,Sem.run_pure,gl];exact l f λi j e=>by
      rw[List.getElem?_drop]at e;obtain⟨S,p,_⟩:=y _ _ e;refine yE k ?_;rw[nH (J.cells K),p];simp[iv,p]⟩
   .cases d
  .cases d
 .cases d
def OW{e:aQ}{i j:D}{k:aE}{h:View}(d:yT P e j=E i)(m:Rd h j k)(p:aQ):
 ∃v,Rd h i v/\∀f:aL,(Builtin.cap_ #[e] p #[k]).run P f=.ok v f:=by
 have o:gi P e=1->∃b,P.underlying e=E (.slice b):=λb=>by unfold gi at b;split at b<;>simp_all
 unfold yT at d;split at d
 .cases m;split at d
  .rename_i b;cases d;obtain⟨q,l⟩:=o b;exact⟨_,.sc _,λf=>by simp[Builtin.cap_,dU l,goInt]⟩
  .cases d
 .cases d
def S1{e:aQ}{l m:D}{p:aE}{k:View}(d:tm P e m=E l)(i:Rd k m p)(r:aQ):
 ∃v,Rd k l v/\∀f:aL,(Builtin.len_ #[e] r #[p]).run P f=.ok v f:=by
 have q:gi P e=0->P.underlying e=E .string:=λb=>by unfold gi at b;split at b<;>simp_all
 have j:gi P e=1->∃b,P.underlying e=E (.slice b):=λb=>by unfold gi at b;split at b<;>simp_all
 unfold tm at d;split at d
 .cases i;split at d
  .rename_i b;cases d;exact⟨_,.sc _,λf=>by simp[Builtin.len_,dU (q b),goInt]⟩
  .cases d
 .cases i;split at d
  .rename_i b;cases d;obtain⟨o,h⟩:=j b;exact⟨_,.sc _,λf=>by simp[Builtin.len_,dU h,goInt]⟩
  .cases d
 .split at d
  .rename_i b;cases d;obtain⟨o,h⟩:=j b;cases i<;>exact⟨_,.sc _,λf=>by simp[Builtin.len_,dU h,goInt]⟩
  .cases d
 .split at d
  .rename_i b;cases d;obtain⟨o,h⟩:=j b;cases i;exact⟨_,.sc _,λf=>by simp[Builtin.len_,dU h,goInt]⟩
  .cases d
 .cases d
def sU{f:aQ}{e:Nat}(d:oQ P f=E e):∃b,P.underlying f=E (.slice b)/\lA P b=E e:=by
 unfold oQ at d;split at d
 .rename_i b h;exact⟨b,h,d⟩
 .cases d
def Re{F:aQ}{f A z:D}{I G:aE}{j:View}(b:zQ P F A z=E f)(h:Rd j A I)(B:Rd j z G):
 ∃v,Rd j f v/\∀i:aL,(Instr.indexAt F I G).run P i=.ok v i:=by
 unfold zQ at b;split at b
 .rename_i y V S d;cases B;split at b
  .rename_i ae r;split at b
   .rename_i m;obtain⟨l,o⟩:=m;obtain⟨k,u,t⟩:=sU o;cases b;have C:=(ej.1 r).1;cases h with
    |nil=>simp at C
    |fu=>simp at C
    |sl _ _ e U L W X Z Y O Q=>
     refine⟨.pointer (E ⟨e,U+d.toNat*y,aa⟩),.cp _ e _ (λx=>W d.toNat x) (λx f p=>?_) (λx f p=>Q _ _ _ _ r p),λi=>?_⟩
     .exact O _ _ _ _ r p
     .have q:d<(V.length:Int):=Zo;simp[Instr.indexAt,asIntOf,dU u,l,q,kZ t,add_lit]
   .cases b
  .cases b
 .rename_i sl ah ab S d;cases B;split at b
  .rename_i y o;split at b
   .rename_i m;obtain⟨l,q⟩:=m;obtain⟨k,u,t⟩:=sU o;cases b;cases h with
    |ms _ _ _ J L R h=>
     refine⟨.pointer (E (J.add (d.toNat*y))),.rf _ _ _ _ R.1 (λe K k=>?_),λi=>?_⟩
     .have:=(h e K k).1;subst this;rw[add_lit,ek]
     .simp[Instr.indexAt,asIntOf,dU u,l,q,kZ t]
   .cases b
  .cases b
 .cases b
def CD{k:aQ}{i j:Nat}(b:sV P k i=E j):∃e d f,P.underlying k=E (.struct e)/\e[i]?=E d/\lA P d.type=E f/\f≠0/\d.offset=j:=by
 unfold sV at b;split at b
 .rename_i e p;split at b
  .rename_i d q;split at b
   .cases b
   .cases b
   .rename_i m o;cases h:lA P d.type with
    |none=>exact absurd h o
    |some f=>exact⟨e,d,f,p,q,h,λl=>m (by rw[h,l]),by simpa using b⟩
  .cases b
 .cases b
def P1{y:aQ}{q:Nat}{f p:D}{z:aE}{o:View}(b:zg P y q p=E f)(i:Rd o p z):
 ∃v,Rd o f v/\∀j:aL,(Instr.fieldAt y z q).run P j=.ok v j:=by
 unfold zg at b;split at b
 .rename_i C;simp only[jg]at b;obtain⟨u,h,rfl⟩:=b;obtain⟨r,d,t,hu,zF,hn,zK,rfl⟩:=CD h;cases i with|cp _ k K m G I=>
  refine⟨.pointer (E ⟨k,K+d.offset,aa⟩),.cp _ k _ (λe=>m (d.offset+e)) (λe f l=>?_) (λe f l=>?_),λj=>?_⟩
  .exact Zg
  .exact Zg
  .exact Fv
 .rename_i x C;simp only[jg]at b;obtain⟨u,h,rfl⟩:=b;obtain⟨r,d,t,hu,zF,hn,zK,rfl⟩:=CD h;cases i with|pa _ _ m L O G I=>
  refine⟨.pointer (E ⟨x,0+d.offset,aa⟩),.cp _ x _ (λe=>m (d.offset+e)) (λe f l=>?_) (λe f l=>?_),λj=>?_⟩
  .exact Zg
  .exact Zg
  .exact Fv
 .rename_i R d Q;simp only[jg]at b;obtain⟨u,h,rfl⟩:=b;obtain⟨r,d,t,hu,zF,hn,zK,rfl⟩:=CD h;cases i with|rf _ _ _ A J i=>
  refine⟨.pointer (E (A.add d.offset)),.rf _ _ _ _ J (λk B F=>?_),λj=>?_⟩
  .have:=i k B F;subst this;rw[add_lit]
  .simp[Instr.fieldAt,dU hu,zF,Instr.sureAddr,fieldPlace,kZ hn,zK]
 .cases b
def Uj{o:aQ}{d:D}{l:View}{e:DL}{vs:VL}{h:Nat}(m:e.length=vs.length)(q:∀(k:Nat)(d:D)(v:aE),e[k]?=E d->vs[k]?=E v->Rd l d v)(b:qK P o (e.drop h)=E d):
 ∃v,Rd l d v/\∀i:aL,(part o vs.toArray h).run P i=.ok v i:=by
 unfold qK at b;split at b
 .rename_i j;split at b
  .rename_i u p;split at b
   .rename_i y;cases b;refine⟨.agg ((vs.drop h).take u).toArray,.ag _ _ (by simp[m]) (λk d v f z=>?_),λi=>?_⟩
    .exact Zg
    .simp only[part,eW,yy j,gl,aI,kZ p];simp[List.extract_eq_take_drop]
   .cases b
  .cases b
 .rename_i j;cases f:e.drop h with
  |nil=>rw[f]at b;cases b
  |cons x A=>
   rw[f]at b;simp only[List.head?_cons,dy]at b;obtain⟨v,r,t⟩:=Rd.sJ m q (by have:=dO (·[0]?) f;simpa[b]using this);exact⟨v,t,λi=>by simp[part,yy j,r]⟩
 .cases b
def Rr{d:aQ}{h j i:D}{o m:aE}{e:View}(b:zR P d j i=E h)(r:Rd e j o)(q:Rd e i m):
 ∃v,Rd e h v/\∀f:aL,(Instr.index d o m).run P f=.ok v f:=by
 have t:gi P d=0->P.underlying d=E .string:=λk=>by unfold gi at k;split at k<;>simp_all
 unfold zR at b;split at b
 .cases r;cases q;split at b
  .rename_i l;simp only[jg]at b;obtain⟨u,p,rfl⟩:=b;exact⟨_,.sc _,λf=>by simp[Instr.index,asIntOf,dU (t l.1),l.2,p]⟩
  .cases b
 .cases b
def Ad(j:aS w0 M g s a w)(d:List eV):(d.map s.ev).length=(d.map a.eval).length/\∀(e:Nat)(f:D)(v:aE),(d.map s.ev)[e]?=E f->(d.map a.eval)[e]?=E v->Rd (view w M g s.n) f v:=by
 refine⟨Zs,λe f v b h=>?_⟩;rw[gF]at b h;cases i:d[e]? with
 |none=>rw[i]at b;cases b
 |some k=>rw[i]at b h;cases b;cases h;exact j.ev k
def DP{P:ay}{op:BinOp}{b:aQ}{i:Bool}{j:D}(d:n7 op i=E j)(k:gi P b=1)(a:Option Addr)(h e:Nat)(m:a.isNone=i)(o p:eV):
 ∃v,j=.sc v/\∀w,(do eqGuard op b o p (.slice a h e) (.slice aa 0 0);binOp op b (.slice a h e) (.slice aa 0 0):Sem aE).run P w=.ok v w:=by
 obtain⟨f,l⟩:∃f,P.underlying b=E (.slice f):=by unfold gi at k;split at k<;>simp_all
 subst m;unfold n7 at d;split at d
 .cases d;exact⟨_,A,λw=>by rw[eqGuard_at_slice];simp only[eW,Sem.run_pure,gl,binOp,run_equal_slice_nil w b f a h e l]⟩
 .cases d;exact⟨_,A,λw=>by rw[eqGuard_at_slice];simp only[eW,Sem.run_pure,gl];exact run_neq_slice_nil w b f a h e l⟩
 .cases d
def Um(e:aQ)(b d:Option Addr):binOp .eql e (.pointer b) (.pointer d)=(do pure (.bool (<-Op.equal e (.pointer b) (.pointer d)))):=rfl
def Un(e:aQ)(b d:Option Addr):binOp .neq e (.pointer b) (.pointer d)=(do pure (.bool (!(<-Op.equal e (.pointer b) (.pointer d))))):=rfl
def xP{P:ay}{i:aQ}(d:lz P i=ad):∃b f,P.underlying i=E (.pointer b)/\P.info? b=E f/\f.size≠0:=by
 unfold lz at d;split at d
 .rename_i b j;split at d
  .rename_i k e;unfold lA at e;cases h:P.info? b with
   |none=>rw[h]at e;cases e
   |some f=>rw[h]at e;simp at e;exact⟨b,f,j,h,Zo⟩
  .cases d
 .cases d
def Mj{P:ay}{h:aQ}(q:lz P h=ad)(w:aL){b d:Nat}(j:∃i f,w.heap[b]?=E (.cells i f (0,0)))(k:∃i f,w.heap[d]?=E (.cells i f (0,0))):
 (Op.equal h (.pointer (E ⟨b,0,aa⟩)) (.pointer (E ⟨d,0,aa⟩))).run P w=.ok (b==d) w:=by
 obtain⟨f,x,p,o,r⟩:=xP q;obtain⟨i,t,j⟩:=j;obtain⟨y,u,k⟩:=k;by_cases m:b=d
 .subst m;have l:∀e:Nat,(Op.equalIn (e+1) h (.pointer (E ⟨b,0,aa⟩)) (.pointer (E ⟨b,0,aa⟩))).run P w=.ok ad w:=λe=>by
   simp[Op.equalIn,dU p,sizeOf,typeInfo,o,run_sameAddr_same]
  simp[Op.equal,Op.maxDepth,l 9999]
 .have l:∀e:Nat,(Op.equalIn (e+1) h (.pointer (E ⟨b,0,aa⟩)) (.pointer (E ⟨d,0,aa⟩))).run P w=.ok al w:=λe=>by
   simp[Op.equalIn,dU p,sizeOf,typeInfo,o,r,run_sameAddr_other w (a:=⟨b,0,aa⟩) (b:=⟨d,0,aa⟩) Zg j k]
  have:=beq_false_of_ne m;rw[this];simp[Op.equal,Op.maxDepth,l 9999]
def Mk{P:ay}{d:aQ}(f:lz P d=ad)(w:aL)(b:Option Addr):(Op.equal d (.pointer b) (.pointer aa)).run P w=.ok b.isNone w:=by
 obtain⟨j,m,h,k,l⟩:=xP f;have i:∀e:Nat,(Op.equalIn (e+1) d (.pointer b) (.pointer aa)).run P w=.ok b.isNone w:=λe=>by
  cases b<;>simp[Op.equalIn,dU h]
 simp[Op.equal,Op.maxDepth,i 9999]
def U5{P:ay}{b:aQ}(e:lz P b=ad)(w:aL)(a:Addr):(Op.equal b (.pointer aa) (.pointer (E a))).run P w=.ok al w:=by
 obtain⟨i,l,f,j,k⟩:=xP e;have h:∀d:Nat,(Op.equalIn (d+1) b (.pointer aa) (.pointer (E a))).run P w=.ok al w:=λd=>by
  simp[Op.equalIn,dU f]
 simp[Op.equal,Op.maxDepth,h 9999]
def An{P:ay}{op:BinOp}{t:aQ}{i:Bool}{h:D}(b:n7 op i=E h)(e f:Option Addr)(j k:eV):
 ∃v,h=.sc v/\∀w,(Op.equal t (.pointer e) (.pointer f)).run P w=.ok i w->(do eqGuard op t j k (.pointer e) (.pointer f);binOp op t (.pointer e) (.pointer f):Sem aE).run P w=.ok v w:=by
 unfold n7 at b;split at b
 .cases b;exact⟨_,A,λw d=>by rw[eqGuard_at_pointer];simp only[eW,Sem.run_pure,gl,Um,d]⟩
 .cases b;exact⟨_,A,λw d=>by rw[eqGuard_at_pointer];simp only[eW,Sem.run_pure,gl,Un,d]⟩
 .cases b
def Ow(e:aQ)(b d:Bool):binOp .eql e (.bool b) (.bool d)=(do pure (.bool (<-Op.equal e (.bool b) (.bool d)))):=rfl
def Ox(e:aQ)(b d:Bool):binOp .neq e (.bool b) (.bool d)=(do pure (.bool (!(<-Op.equal e (.bool b) (.bool d))))):=rfl
def mx{w:aL}{b d:Nat}{e:aE}(h:w.cell? ⟨b,d,aa⟩=E e):b<w.heap.size:=by
 exact Fi
def Et(f:aS w0 M g s a w){o:da}{I:D}(b:pb P s o.op=E I):
 ∃v,Rd (view w M g s.n) I v/\∀w',Below w.heap.size w w'->(dl a.eval o).run P w'=.ok (.value v) w':=by
 unfold pb at b;split at b
 case h_1 x ho=>cases b;exact⟨_,f.ev x,λw' _=>by simp[dl,ho]⟩
 case h_2 x ho=>cases b;exact⟨_,f.ev x,λw' _=>by simp[dl,ho]⟩
 case h_3 c x h ho=>
  have L:=f.ev c;split at b
  .rename_i t au;rw[au]at L;generalize av:a.eval c=vc at L;cases L;cases b;refine⟨if t then a.eval x else a.eval h,?_,λw' _=>by simp[dl,ho,av,asBool]⟩;cases t
   .exact f.ev h
   .exact f.ev x
  .cases b
 case h_4 op t x h a0 ho=>
  have d:=f.ev x;have e:=f.ev h;split at b
  .rename_i u F j k;rw[j]at d;rw[k]at e;generalize il:a.eval x=l at d;generalize lr:a.eval h=q at e;cases d;cases e;split at b
   .rename_i i;have m:P.underlying t=E .bool:=by unfold gi at i;split at i<;>simp_all
    split at b
    .cases b;exact⟨_,.sc _,λw' _=>by
      simp only[dl,ho,il,lr];refine kb ?_;rw[eqGuard_at_bool];have:=run_equal_bool (P:=P) (w:=w') t u F m;simp only[eW,Sem.run_pure,gl,Ow,this]⟩
    .cases b;exact⟨_,.sc _,λw' _=>by
      simp only[dl,ho,il,lr];refine kb ?_;rw[eqGuard_at_bool];have:=run_equal_bool (P:=P) (w:=w') t u F m;simp only[eW,Sem.run_pure,gl,Ox,this];rfl⟩
    .cases b
   .cases b
  .rename_i R nn am j k;rw[j]at d;rw[k]at e;generalize il:a.eval x=l at d;generalize lr:a.eval h=q at e;cases d;cases e;split at b
   .rename_i i;obtain⟨v,rfl,hv⟩:=DP b i R nn am A x h;exact Bp
   .cases b
  .rename_i u j k;rw[j]at d;rw[k]at e;generalize il:a.eval x=l at d;generalize lr:a.eval h=q at e;cases d;cases e;split at b
   .rename_i i;obtain⟨v,rfl,hv⟩:=An (P:=P) (t:=t) b u aa x h;exact⟨v,.sc v,λw' _=>by
     simp only[dl,ho,il,lr];exact kb (hv w' (Mk i w' u))⟩
   .cases b
  .rename_i u F aU aV aW j k;rw[j]at d;rw[k]at e;generalize il:a.eval x=l at d;generalize lr:a.eval h=q at e;cases d;cases e;simp only[jg]at b;obtain⟨G,Y,rfl⟩:=b;exact⟨G,.sc G,λw' _=>by
    have:=Oh (P:=P) Y t x h w';simp only[dl,ho,il,lr];exact kb this⟩
  .rename_i j k;rw[j]at d;rw[k]at e;generalize il:a.eval x=l at d;generalize lr:a.eval h=q at e;cases e;split at b
   .rename_i i;cases d with|sl _ _ y o S r L aT O h1 h2=>
    obtain⟨v,rfl,hv⟩:=DP b i (E ⟨y,o,aa⟩) _ S A x h;exact Bp
   .cases b
  .rename_i j k;rw[j]at d;rw[k]at e;generalize il:a.eval x=l at d;generalize lr:a.eval h=q at e;cases e;split at b
   .rename_i i;cases d with|ms _ _ _ R S aR d=>
    obtain⟨v,rfl,hv⟩:=DP b i (E R) _ S A x h;exact Bp
   .cases b
  .rename_i z ab ai aM j k;rw[j]at d;rw[k]at e;generalize il:a.eval x=l at d;generalize lr:a.eval h=q at e;split at b
   .rename_i i;cases d with|pa _ _ r W X h1 h2=>
    cases e with|pa _ _ a1 ap ar aq aQ=>
    obtain⟨v,rfl,hv⟩:=An (P:=P) (t:=t) b (E ⟨z,0,aa⟩) (E ⟨ai,0,aa⟩) x h;have ae:∀{y:Nat}{r:Nat->aE}{J:DL}{w':aL},Below w.heap.size w w'->0<J.length->(∀(Z:Nat)(I:D),J[Z]?=E I->(view w M g s.n).C y Z=E (r Z))->(view w M g s.n).K y->∃r U,w'.heap[y]?=E (.cells r U (0,0)):=λp aG aH⟨ah,U,F⟩=>⟨ah,U,(p.block _ (mx (dr (aH 0 _ (bR aG))))).trans F⟩;exact⟨v,.sc v,λw' p=>by
     simp only[dl,ho,il,lr];exact kb (hv w' (Mj i w' (ae p W h1 X) (ae p ap aq ar)))⟩
   .cases b
  .rename_i z ab j k;rw[j]at d;rw[k]at e;generalize il:a.eval x=l at d;generalize lr:a.eval h=q at e;cases e;split at b
   .rename_i i;cases d with|pa _ _ r W X h1 h2=>
    obtain⟨v,rfl,hv⟩:=An (P:=P) (t:=t) b (E ⟨z,0,aa⟩) aa x h;exact⟨v,.sc v,λw' p=>by
     simp only[dl,ho,il,lr];exact kb (hv w' (Mk i w' _))⟩
   .cases b
  .rename_i z ab j k;rw[j]at d;rw[k]at e;generalize il:a.eval x=l at d;generalize lr:a.eval h=q at e;cases d;split at b
   .rename_i i;cases e with|pa _ _ r W X h1 h2=>
    obtain⟨v,rfl,hv⟩:=An (P:=P) (t:=t) b aa (E ⟨z,0,aa⟩) x h;exact⟨v,.sc v,λw' p=>by
     simp only[dl,ho,il,lr];exact kb (hv w' (U5 i w' _))⟩
   .cases b
  .cases b
 case h_5 op t x ho=>
  have d:=f.ev x;split at b
  .rename_i ah m;rw[m]at d;generalize il:a.eval x=l at d;cases d;simp only[jg]at b;obtain⟨G,Y,rfl⟩:=b;exact⟨G,.sc G,λw' _=>by
    have:=W0 (P:=P) Y w';simp only[dl,ho,il];exact kb this⟩
  .cases b
 case h_6 x Q ho=>
  have d:=f.ev x;split at b
  .rename_i J m;rw[m]at d;generalize il:a.eval x=l at d;cases d with|tp _ vs O hv=>
   obtain⟨v,h1,h2⟩:=Rd.sJ O hv b;exact⟨v,h2,λw' _=>by simp[dl,ho,il,Instr.extract,h1]⟩
  .cases b
 case h_7 t x V ho=>
  have d:=f.ev x;split at b
  .rename_i J aP aZ m B;rw[m]at d;generalize il:a.eval x=l at d;cases d with|ag _ vs O hv=>
   obtain⟨v,h1,h2⟩:=Uj O hv b;unfold zi at B;split at B
   .rename_i aO ay;simp only[jg,Prod.mk.injEq]at B;obtain⟨aN,ax,e1,e2⟩:=B;refine⟨v,h1,λw' _=>?_⟩;simp only[dl,ho,il];refine kb ?_;simp[Instr.field,dU ay,ax,asAgg,e1,e2,h2]
   .cases B
  .cases b
 case h_8 t x Q ho=>
  obtain⟨v,h1,h2⟩:=Rr b (f.ev x) (f.ev Q);exact Bt
 case h_9 t x Q ho=>
  obtain⟨v,h1,h2⟩:=Re b (f.ev x) (f.ev Q);exact Bt
 case h_10 t x V ho=>
  obtain⟨v,h1,h2⟩:=P1 b (f.ev x);exact Bt
 case h_11 t x ho=>
  obtain⟨v,h1,h2⟩:=KR f b;exact⟨v,h1,λw' p=>by simp only[dl,ho];exact kb (h2 w' p)⟩
 case h_12 x ho=>
  have d:=f.ev x;split at b
  all_goals first
   |(cases b;done)
   |(rename_i m;rw[m]at d;cases b;refine⟨_,d,λw' _=>?_⟩;generalize il:a.eval x=l at d;cases d;simp[dl,ho,il])
 case h_13 V first ak ho=>
  cases b;obtain⟨aD,aI⟩:=Ad f first.toList;obtain⟨aF,aJ⟩:=Ad f ak.toList;refine⟨_,.fn V _ _ _ _ aD aF aI aJ,λw' _=>?_⟩;simp only[dl,ho];refine kb ?_;simp only[Instr.makeFunc,Sem.run_pure,Result.ok.injEq,Value.func.injEq,nr,fa];constructor<;>(apply qU;simp)
 case h_14 src an x ho=>
  have d:=f.ev x;split at b
  .rename_i aX aY aC m i az;rw[m]at d;generalize il:a.eval x=l at d;cases d;cases b;have aw:P.underlying an=E (.int aC):=by unfold tj at i;split at i<;>simp_all
   obtain⟨aK,aA⟩:=pk.1 az;refine⟨_,.sc _,λw' _=>?_⟩;simp only[dl,ho,il];refine kb ?_;cases aK<;>simp[convert,dU aA,dU aw,Conv.intToInt]
  .cases b
 case h_15 c ho=>
  split at b
  .rename_i zB;split at b
   .rename_i x t d aB;obtain⟨v,h1,h2⟩:=S1 b (f.ev x) o.type;exact G_
   .cases b
  .rename_i zB;split at b
   .rename_i x t d aB;obtain⟨v,h1,h2⟩:=OW b (f.ev x) o.type;exact G_
   .cases b
  .cases b
 case h_16=>cases b
def aj{b:Type}(f:Nat->Option b)(t:Nat)(x:Option b):Nat->Option b:=λi=>if i=t then x else f i
def bH{e:Type}(f:Nat->Option e)(b:Nat)(d:Option e):aj f b d b=d:=by simp[aj]
def bV{f:Type}(d:Nat->Option f){e b:Nat}(i:Option f)(h:b≠e):aj d e i b=d b:=by simp[aj,h]
def xB{w:aL}{b:Nat}{d:Obj}(e:w.heap[b]?=E d):b<w.heap.size:=by
 exact Zg
def oK{w e:aL}{b d:Nat}(f:e.heap[b]?=w.heap[b]?):e.cell? ⟨b,d,aa⟩=w.cell? ⟨b,d,aa⟩:=World.cell?_of_block (w:=w) f
def sq{w q:aL}{M:cb}{g l:dm}{k p:b5}{b':Nat}(y:∀s,k s<=p s)
 (o:∀f,f<w.heap.size->f≠b'->q.heap[f]?=w.heap[f]?) (i:w.heap.size<=b'\/∃s b e,g s=E (b,b',e))
 (x:∀s b d e,l s=E (b,d,e)->g s=E (b,d,e)\/(d=b'/\k s<=b)):(view w M g k).Ext (view q M l p):=by
 refine⟨λd C D h=>?_,y,λs b d e z h=>?_⟩
 .have j:=dr h;obtain⟨t,u⟩:=cR h;have m:d≠b':=by
   rintro rfl;rcases i with i|⟨s,b,e,i⟩
   .have:=mx j;omega
   .exact u _ _ _ i
  refine⟨dK ((oK (o d (mx j) m)).trans j) t λs b e f=>?_,λ⟨B,r,A⟩=>⟨B,r,(o d (mx j) m).trans A⟩⟩;exact Zg
 .rcases x s b d e h with f|⟨_,f⟩
  .exact f
  .have:b<k s:=z;omega
def yn.mono{f h:View}{w l:aL}{e:Nat}{k:Ob}(r:yn f w e k)(i:f.Ext h)(D:∀m b d,f.g e=E (m,b,d)->h.g e=E (m,b,d)/\l.heap[b]?=w.heap[b]?):yn h l e k:=by
 obtain⟨t,b,d,vs,u,x,y,z,A,B⟩:=r;obtain⟨p,q⟩:=D _ _ _ u;exact⟨gv t (i.n _),b,d,vs,p,x.mono q,y,z,A,λj o C=>let⟨I,F,G⟩:=B j o C;⟨I,F,G.mono i⟩⟩
def aS.grow(b:aS w0 M g s a w){l:aL}(e:Below w.heap.size w l):aS w0 M g s a l:=by
 have o:(view w M g s.n).Ext (view l M g s.n):=sq (b':=w.heap.size) (λ_=>b_ _) (λf k _=>e.block f k) (.inl (b_ _)) λ_ _ _ _ h=>.inl h;exact⟨b.defers,b.size,λq=>(b.env q).mono o,λi r p=>(b.obj i r p).mono o λm d j h=>⟨h,e.block d (b.base _ _ _ _ h).2⟩,
  λi m d j h=>⟨(b.base i m d j h).1,gv (b.base i m d j h).2 e.size⟩,b.inj,
  b.below.step e.os e.tape e.output e.size (λf k=>e.block f (gv (Bs.r7 k) b.below.size)),λd f=>⟨gv (b.m0 d f).1 e.size,(b.m0 d f).2⟩,b.mm,b.zm,tX b λd f=>e.block d (b.m0 d f).1,b.nd,b.og,b.wm⟩
def Act.qL(a:cq)(b:ON)(v:aE):(a.put b v).tmps.size=a.tmps.size:=by cases b<;>simp[Act.put]
def Act.put_defers(a:cq)(b:ON)(v:aE):(a.put b v).defers=a.defers:=by cases b<;>simp[Act.put]
def aS.put(b:aS w0 M g s a w){d:D}{v:aE}(m:Rd (view w M g s.n) d v)(l:ON):aS w0 M g (s.put l d) (a.put l v) w:=by
 cases l with
 |none=>exact b
 |some e=>
  by_cases h:e<s.nt
  .have i:s.put (E e) d={s with env:=af s.env e d}:=by simp[St.put,h]
   rw[i];refine⟨b.defers,by rw[Act.qL];exact b.size,λf=>?_,b.obj,b.base,b.inj,b.below,b.m0,b.mm,b.zm,b.tree,b.nd,b.og,b.wm⟩;show Rd _ (if f=e then d else s.env f) _;by_cases k:f=e
   .subst k;have o:f<a.tmps.size:=by rw[b.size];exact h
    simpa[Act.put,iv,o]using m
   .have:=b.env f;have j:(a.put (E e) v).tmps.getD f cC=a.tmps.getD f cC:=by
     simp[Act.put,iv,Ne.symm k]
    rw[j,av k];exact this
  .have i:s.put (E e) d=s:=by simp[St.put,h]
   have j:a.put (E e) v=a:=by
    have:¬e<a.tmps.size:=by rw[b.size];exact h
    simp[Act.put,Array.setIfInBounds,this]
   rw[i,j];exact b
def aS.LW{h:aL}(t0 b b' c':Nat)
 (j:∀d,d<w.heap.size->d≠b'->h.heap[d]?=w.heap[d]?) (m:w.heap.size<=b'\/∃i f,g t0=E (i,b',f)):
 (view w M g s.n).Ext (view h M (aj (aj g t0 aa) b (E (s.n b,b',c'))) (bump s.n b)):=by
 have k:∀s' y,s'≠b->aj (aj g t0 aa) b (E (s.n b,b',c')) s'=E y->s'≠t0/\g s'=E y:=by
  exact BU
 refine sq (b':=b') (Io _ _) j ?_ ?_
 .exact Zg
 .intro s' i l f e;by_cases hs:s'=b
  .subst hs;rw[bH]at e;cases e;exact .inr ⟨A,b_ _⟩
  .exact .inl (k _ _ hs e).2
def aS.D8(h:aS w0 M g s a w){w':aL}(t0 t b' c':Nat)(vs:iA)(ob:Ob)(JJ:ob.gen=s.n t)
 (d:∀k,k<w.heap.size->k≠b'->w'.heap[k]?=w.heap[k]?) (s9:w.heap.size<=b'\/∃x c,g t0=E (x,b',c))
 (aC:b'<w'.heap.size) (oZ:gH w' b' ob vs) (u_:ob.keys=aa->vs.size=c'*ob.sz) (hc:c'<=ao) (hlen:ob.cells.length<=vs.size)
 (jY:∀(p:Nat)(j:D),ob.cells[p]?=E j->∃r,vs[p]?=E r/\Rd (view w' M (aj (aj g t0 aa) t (E (s.n t,b',c'))) (bump s.n t)) j r)
 (B:w'.os=w.os) (F:w'.tape=w.tape) (C:w'.output=w.output) (qB:w.heap.size<=w'.heap.size):
 aS w0 M (aj (aj g t0 aa) t (E (s.n t,b',c'))) {s with H:=aj (aj s.H t0 aa) t (E ob),n:=bump s.n t} a w':=by
 have m':∀s' y,s'≠t->aj (aj g t0 aa) t (E (s.n t,b',c')) s'=E y->s'≠t0/\g s'=E y:=by
  exact BU
 have i:=aS.LW (M:=M) (s:=s) t0 t b' c' d s9;have C4:w0.own b':=by
  exact FA
 have C0:∀b,M b->b≠b':=by
  exact Fp
 have o:∀t' x b c,t'≠t0->g t'=E (x,b,c)->b≠b':=by
  intro t' x b c z e u;subst u;rcases s9 with l|⟨K,c',l⟩
  .have:=(h.base _ _ _ _ e).2;omega
  .exact z (h.inj _ _ _ _ _ _ _ e l)
 refine⟨h.defers,h.size,λG=>(h.env G).mono i,λt' J lN=>?_,λt' x b c e=>?_,λt1 t2 x b c K c' e1 f=>?_,?_,λb k=>⟨gv (h.m0 b k).1 qB,λt' x c e=>?_⟩,h.mm,h.zm,tX (s:=s) h λb k=>d b (h.m0 b k).1 (C0 b k),h.nd,h.og.ext i,h.wm⟩
 .by_cases hs:t'=t
  .exact G0
  .simp only[bV _ _ hs]at lN;by_cases h0:t'=t0
   .subst h0;rw[bH]at lN;cases lN
   .rw[bV _ _ h0]at lN;refine(h.obj t' J lN).mono i λx b c e=>⟨?_,?_⟩
    .show aj _ t _ t'=_;rw[bV _ _ hs,bV _ _ h0];exact e
    .exact d b (h.base _ _ _ _ e).2 (o _ _ _ _ h0 e)
 .exact G8
 .by_cases xn:t1=t
  .exact FC
  .obtain⟨I,q⟩:=m' _ _ xn e1;by_cases tg:t2=t
   .subst tg;rw[bH]at f;cases f;exact absurd A (o _ _ _ _ I q)
   .exact h.inj _ _ _ _ _ _ _ q (m' _ _ tg f).2
 .exact h.below.step B F C qB λk m=>d k (gv (Bs.r7 m) h.below.size) λe=>m (by rw[e];exact C4)
 .exact E5
def aS.rebind(p:aS w0 M g s a w){w':aL}(t0 b d c':Nat)(vs:iA)(e:Ob)(u:e.gen=s.n b)
 (l:∀i,i<w.heap.size->i≠d->w'.heap[i]?=w.heap[i]?) (k:w.heap.size<=d\/∃K o,g t0=E (K,d,o))
 (z:d<w'.heap.size) (x:gH w' d e vs) (F:e.keys=aa->vs.size=c'*e.sz) (q:c'<=ao) (y:e.cells.length<=vs.size)
 (r:∀(h:Nat)(f:D),e.cells[h]?=E f->∃j,vs[h]?=E j/\Rd (view w M g s.n) f j)
 (A:w'.os=w.os) (G:w'.tape=w.tape) (B:w'.output=w.output) (C:w.heap.size<=w'.heap.size):
 aS w0 M (aj (aj g t0 aa) b (E (s.n b,d,c'))) {s with H:=aj (aj s.H t0 aa) b (E e),n:=bump s.n b} a w'/\
  (view w M g s.n).Ext (view w' M (aj (aj g t0 aa) b (E (s.n b,d,c'))) (bump s.n b)):=by
 have m:=aS.LW (M:=M) (s:=s) (c':=c') t0 b d l k;exact⟨p.D8 t0 b d c' vs e u l k z x F q y (λh f t=>let⟨j,I,J⟩:=r h f t;⟨j,I,J.mono m⟩) A G B C,m⟩
def aS.write(b:aS w0 M g s a w){w':aL}(r b' k:Nat)(vs:iA)(z h:Ob)(L:s.H r=E z)(i:g r=E (z.gen,b',k))(B:h.gen=z.gen)
 (m:∀d,d≠b'->w'.heap[d]?=w.heap[d]?)
 (J:gH w' b' h vs) (R:h.keys=aa->vs.size=k*h.sz) (F:k<=ao) (K:h.cells.length<=vs.size)
 (G:∀(q:Nat)(l:D),h.cells[q]?=E l->∃t,vs[q]?=E t/\Rd (view w M g s.n) l t)
 (O:w'.os=w.os) (S:w'.tape=w.tape) (Q:w'.output=w.output) (y:w'.heap.size=w.heap.size):
 aS w0 M g {s with H:=aj s.H r (E h)} a w'/\(view w M g s.n).Ext (view w' M g s.n):=by
 have p:(view w M g s.n).Ext (view w' M g s.n):=sq (b':=b') (λ_=>b_ _) (λd _ u=>m d u) (.inr ⟨_,_,_,i⟩) λ_ _ _ _ f=>.inl f;refine⟨⟨b.defers,b.size,λU=>(b.env U).mono p,λj X o=>?_,λj C e A f=>?_,b.inj,?_,λe d=>⟨by rw[y];exact(b.m0 e d).1,(b.m0 e d).2⟩,b.mm,b.zm,tX (s:=s) b λe d=>m e (by rintro rfl;exact(b.m0 e d).2 _ _ _ i),b.nd,b.og,b.wm⟩,p⟩
 .by_cases x:j=r
  .subst x;simp only[bH,dy]at o;subst o;exact⟨by rw[B];exact(b.obj _ _ L).gen,b',k,vs,by show g j=_;rw[i,B],J,R,F,K,λq l I=>let⟨t,V,W⟩:=G q l I;⟨t,V,W.mono p⟩⟩
  .simp only[bV _ _ x]at o;refine(b.obj j X o).mono p λC e A f=>⟨f,m e ?_⟩;rintro rfl;exact x (b.inj _ _ _ _ _ _ _ f i)
 .rw[y];exact b.base j C e A f
 .exact b.below.step O S Q (Nat.le_of_eq y.symm) λd u=>m d λf=>u (by rw[f];exact((b.base _ _ _ _ i).1))
end
end
end
end Go.Fw
