/- For all arguments the program's CompileMain returns what the reference's CompileMain returns. No condition. -/
import Derived.Test.YtblbcplhbjkkjaaGreatProg
import Derived.Shelf.SlSortCmp.NoneTotal
import Derived.Shelf.SlicesG.Cmp
import Derived.Shelf.SlicesG.Equal
import Derived.KernelRfl
import Derived.Test.YtblbcplhbjkkjaaGreatRows
import Derived.JoinedOf
import Derived.ProofKit
import Derived.SevenTiedAt
import Derived.WalkKit
import Derived.OpenShut
import Derived.ShutString
import Derived.ChangeOld
import Derived.Below
import Derived.Carry
import Derived.Test.YtblbcplhbjkkjaaGreatM01
import Derived.Test.YtblbcplhbjkkjaaGreatM02
import Derived.Test.YtblbcplhbjkkjaaGreatM04
set_option maxRecDepth 100000
set_option maxHeartbeats 8000000
set_option linter.unusedSimpArgs false
set_option linter.unusedVariables false
set_option linter.defProp false
open Go.Proofs.Tryz
open Go.Proofs (AnyF.slices_SortFunc_none AnyQ.slices_SortFunc_total CmpLays enters_of ltOf sortWorldK)
open List
open Bool renaming false->af,true->W
open Decidable renaming decide->ah
open Go renaming Func->hC,FuncId->bI,Program->aH,TypeId->a6,Value->aN,World->a8,maxLen->aE,undef->eX
open Go.IntKind renaming i64->cb
open Go.IntWalk renaming i64_in->dE
open Go.Proofs.Tryz renaming prog->aB
open List renaming flatten->ao,length->A,range->cz,replicate->fu,take->Y
open Nat renaming reduceEqDiff->bj
open Option renaming none->Q,some->E
open Or renaming inl->aG,inr->aj
namespace Go.Fw
noncomputable section
open Classical
attribute [local irreducible] St.put
def adk{v l:Int}{d:IL}{t b:O}(aY:b.ok)(cf:tG t l)(cg:tG b l):
 Du 245 (λm=>[.rf 1000 m 0,.cp [I 7,I v,bm d,.sl 4 [t.ds,b.ds]],I l]) (.mk 7 v d [t,b]) l:=by
 intro m F n ay U aF c5 c3 bu b' bZ b0 bg;rw[O.b7,O.dd,O.dd,O.dd]at bZ b0;have bf:=BF bu C;have az:=pZ t l _ _ _ bf.1;generalize z:t.cmp l n ay=r;generalize ah:iX r.2.1 r.1 l (b.c_ 0)=o;have⟨be,f1,f2,f3,f4⟩:=Kj bu C z ah az;have cK:=pZ b l _ _ _ be;rw[O.ED (v:=v) (d:=d) (n:=n) (ay:=ay) (l:=l) C z ah C]at bg;have bE:=az.v;have aD:=az.lk;have cL:=az.hi;rw[z]at bE aD cL;have B:A r.2.2=ay.length:=by rw[bE,lr]
 have c':=O.ua b;have cn:=O.uG b 0;have bq:([t.ds,b.ds]:cB)[1]?=E b.ds:=C;have cd:cE aB 275=E (342,1,8):=Zk;have bn:cE aB 123=E (177,2,16):=Zk;refine nj [29,1000086,1000089,1000111] [.cell 6 177] C C Zk Zt C Zs λc2 b8=>?_;have bk:=b'.aA b8;refine(ZN) ?_;refine aj<|aj (cf m F n ay U _ _ _ bf.1 (bk.aA λa i=>Yu<|dO i (u:=6)) Zo Zo λaM k aO bW=>?_);rw[z]at aO;have aP:=bW 6 Zd;simp only[bN,dv]at aP;simp only[z,r6,bq,go_sem];have:=KC b 0 Zo Zo Zo aY;refine(ZC) ?_;obtain⟨g,bl⟩:=Zx<|b.c_ 0;rw[bl]at ah cn f1;refine lm bl (λa0=>?_) λa0=>?_;have b_:g=0:=Yq a0;refine(ZN) ?_;refine aj<|aj (AV (aO.aA λa i=>by simp[ai,dO i (u:=7),dO i (u:=29)]) Zo Zo λa8 cC d1 d2=>?_);replace d1:SI m a8 (dV r.2.1 5 0 0 [] 1) F r.2.2:=d1;have d6:=(d2 6 Zd Zd Zd).trans<|(by simp[ai]:_=aM 6).trans aP;have d7:=d2 7 Zd Zd Zd;have d29:=d2 29 Zd Zd Zd;simp only[a_,bN,dG,bj,dv]at d7 d29;refine(ZN)<|pe [0,1,2,3,5,4,6] [7] [] fb Zk<|(ad d7)<|bR _ (qO _ _) Zs<|(ZN) ?_;refine aj<|aj (BU (p:=(A r.2.1,0)) (q:=r.1) d1 (uw (j:=0) Zd) (zB<|aD.ok _ Zs) λw dm aQ an=>?_);have ba:=(an 6 Zd Zd Zd).trans d6;have bb:=(an 7 Zd Zd Zd).trans d7;have a':=(an 29 Zd Zd Zd).trans d29;refine(ZN) ?_;refine⟨an 7 Zd Zd Zd,?_⟩;have K:∃s,SI m w s F r.2.2/\hZ s r.1/\A s<=A r.2.1+1/\∀os f e,ko (g-1) s r.1 l=(os,f,e)->o.2=f/\(o.1≠[]->os++[e]=o.1):=by
  refine⟨_,aQ,Lc<|zB<|aD.ok _ Zs,by rw[pu,na];omega,λos f e aS=>?_⟩;subst b_;rw[<-ah];cases aS;exact⟨C,λa6=>absurd C a6⟩
 rotate_left 1
 have ca:g≠0:=Yq a0;obtain⟨w,ab⟩:∃w:Nat->sC,(ai (ai (ai (ai (ai aM 7 Q) 7 (E ⟨k 7,177,2,[I 0,I 0],Q⟩)) 7 (E ⟨k 7,177,2,[I r.1.1,I r.1.2],Q⟩)) 29 Q) 29 (E ⟨k 29,344,2,[bp,I 0],Q⟩))=w:=⟨_,C⟩;have ba:w 6=_:=(by rw[<-ab];simp[ai]:w 6=aM 6).trans aP;have bb:w 7=E ⟨k 7,177,2,[I r.1.1,I r.1.2],Q⟩:=by rw[<-ab];simp[ai]
 have a':w 29=E ⟨k 29,344,2,[bp,I 0],Q⟩:=by rw[<-ab];simp[ai]
 have K:∃s,SI m w s F r.2.2/\hZ s r.1/\A s<=A r.2.1+1/\∀os f e,ko (g-1) s r.1 l=(os,f,e)->o.2=f/\(o.1≠[]->os++[e]=o.1):=by
  refine⟨_,aO.aA λa i=>by rw[<-ab];simp[ai,dO i (u:=7),dO i (u:=29)],aD.ok _ Zs,Zo,λos f e aS=>?_⟩;rw[<-ah,iX,aC ca,aS];exact⟨C,λ_=>C⟩
 rw[ab];refine(ZN) ?_
 all_goals
  have⟨s,ci,cj,de,ck⟩:=K;refine l' (λcQ=>∃j:Nat,j<=g-1/\Fw.fF 112 [(0,.rf 1000 m 0),(1,.cp [I 7,I v,bm d,.sl 4 [t.ds,b.ds]]),(2,I l),(6,.rf 6 (aF.n 6) 0),(7,.rf 7 (k 7) 0),(8,I g),(9,.rf 29 (k 29) 0),(11,I<|(j+1:Nat))] (λbX H n a9=>a9=aF.T/\H 6=w 6/\∃(os:List Pt)(f:List Ag)(e:Pt)(aK:D),ko (g-1) s r.1 l=(let bP:=ko (g-1-j) f e l;(os++bP.1,bP.2))/\A os=j/\A f<=A r.2.1+1+j/\SI m H f F r.2.2/\hZ f e/\H 7=E ⟨k 7,177,2,[I e.1,I e.2],Q⟩/\H 29=E ⟨k 29,344,2,[aK,I 0],Q⟩/\aL [64] H 177 2 (b3 os) aK) cQ) (λaF=>match aF.env 11 with|.sc (.int _ n)=>g-n.toNat|_=>0)
   ⟨0,Zo,C,by simp[aw,ej,bm],C,C,[],s,r.1,_,C,C,Zo,ci,cj,bb,a',.nil⟩ ?_
  rintro⟨bX,H,dh,dp,a9,c4⟩⟨j,ce,rfl,bo,aV,aT,os,f,e,aK,av,cm,df,K,cc,aU,ap,aZ⟩;simp only[bM]at bo aV aT K aU ap aZ;obtain⟨R,bH,a4,bJ,aH,bK,aI,bI,-⟩:=bo;refine lm (JJ bK bI) (λaW=>?_) λaW=>?_
  .have dc:j<g-1:=by simp only[ee]at aW;omega
   refine(ad<|JJ R a4) ?_;refine aj<|aj (AV K Zo Zo λa8 cC cH M=>?_);have bA:=(M 7 Zd Zd Zd).trans aU;refine(ZN)<|pe [0,1,2,3,5,4,6] [7] [] fb Zk ?_;simp only[R,aH,bA,go_sem];refine bR _ (qO _ _) Zs<|(ZN) ?_;refine aj<|aj (BU (p:=(A f,0)) (q:=e) cH (uw (j:=0) Zd) (zB cc) λbV dk cv ak=>?_);have cx:=(ak 7 Zd Zd Zd).trans bA;have bv:=(ak 29 Zd Zd Zd).trans<|(M 29 Zd Zd Zd).trans ap;have cw:=(ak 6 Zd Zd Zd).trans<|(M 6 Zd Zd Zd).trans aT;have cy:aL [64] bV 177 2 (b3 os) aK:=aZ.aA ((Pb)<|(ak 64 Zd Zd Zd).trans<|M 64 Zd Zd Zd);refine(ZN) ?_;refine⟨ak 7 Zd Zd Zd,dP [29] [63] ?_⟩;refine(ad<|JJ aI bv)<|bR _ (qO _ _) Zs<|(ad @jt)<|js (S:=[64]) (aq:=b3 os) (bD:=[[I<|A f,I 1]]) Zs bn ((Pa)<|cy.aA Zs) (oQ _) qu Zs C (by simp[b3];omega) (by simp[b3,aE];omega) (by show 64<112;decide) λX bz cX ax y=>?_;have BO:=(y 29 Zd Zd).trans bv;have j7:=(y 7 Zd Zd).trans cx;have br:=ax;obtain⟨Z,rfl,c9⟩:=eG ax Zs;simp only[b9,dC,gR,ew]at br;have cW:cb.wrap (((j+1:Nat):Int)+1)=((j+1+1:Nat):Int):=gJ _ Zo;refine(ad @BO)<|bR _ (qO _ _) Zs ?_;simp only[aH,bI,j7,cW,go_sem];refine⟨⟨j+1,Zo,C,by simp[aw,R,bH,a4,bJ,aH,bK,aI,bm],aV,(by simp[ai]:_=X 6).trans<|(y 6 Zd Zd).trans cw,os++[((A f:Int),1)],_,(A f,2),_,?_,Yr cm,?_,cv.aA λa i=>?_,Lc<|uw (j:=2) Zd,ep,l4,?_⟩,rn⟩
   .rw[av,show g-1-j=(g-1-(j+1))+1 by omega];simp[ko]
   .rw[pu,na];omega
   .have:=i6.1 i;simp only[a_ _ _<|dO i (u:=7) Zd,a_ _ _<|dO i (u:=29) Zd];exact y a (dO i Zd) ch
   have aQ:b3 (os++[((A f:Int),1)])=b3 os++[[I<|A f,I 1]]:=by simp[b3]
   rw[aQ];refine aL.aA (H:=X) br ?_;simp[ai]
  obtain rfl:j=g-1:=by simp only[jo]at aW;omega
  have av:ko (g-1) s r.1 l=(os,f,e):=by rw[av];simp[ko]
  have⟨cS,cU⟩:=ck os f e av;refine(ZN)<|dP [29,7] [75] ?_;simp only[aH,aI,ap,aU,jt,go_sem];refine js (S:=[64]) (aq:=b3 os) (bD:=[[I e.1,I e.2]]) Zs bn ((Pa)<|aZ.aA Zs) (oQ _) qu Zs C (by simp[b3];omega) (by simp[b3,aE];omega) (by show 76<112;decide) λX bz cX ax y=>?_;obtain⟨Z,rfl,b1⟩:=eG ax Zs;have⟨cY,b4,bt⟩:=K.x;have⟨bL,c7,bG,dq,dr⟩:=b4.ob;have BO:=(y 29 Zd Zd).trans ap;have j0:=(y 1000 Zd Zd).trans bG;have j6:=(y 6 Zd Zd).trans aT;rw[B]at bt;simp only[R,aI,BO,j0,go_sem];have da:=bk.l;refine GK.cM (eC.eS (S:=[1002]) (aq:=gB F ay.length) (bD:=[[.rf 29 (k 29) 0]]) cd (by simp only[aw,bx,bT,bj];exact bt.aA (by simp[ai];exact y 1002 Zd Zd)) (Ac _ _) hF Zs C (by rw[mZ];show(ay.length+1)*8<=_;omega) Ow λY dn dt cq G=>?_);obtain⟨bY,rfl,b2⟩:=eG cq Zs;replace G:∀a,a≠86->a∉[1002]->Y a=ai (ai (ai X 29<|some ⟨k 29,344,2,[.ms 76 Z<|A<|b3 os++[[I e.1,I e.2]],I 0],Q⟩) 85 Q) 85 (E ⟨bz 85,342,1,[.rf 29 (k 29) 0],Q⟩) a:=G;have cr:Y 1000=E ⟨m,277,2,[bL,cY],Q⟩:=(G 1000 Zd Zd).trans (by simp[ai,j0]);have ct:Y 29=E ⟨k 29,344,2,[.ms 76 Z<|A<|b3 os++[[I e.1,I e.2]],I 0],Q⟩:=(G 29 Zd Zd).trans bF;have cu:Y 76=E ⟨Z,177,2,ao<|b3 os++[[I e.1,I e.2]],Q⟩:=(G 76 Zd Zd).trans (by simp only[a_,dG,bj,dv];exact b1);have bd:b3 (os++[e])=b3 os++[[I e.1,I e.2]]:=by simp[b3]
  refine(ad cr)<|GK.fc [76] 29 0 (e:=.sl 2<|b3<|os++[e]) (by simp only[a_,dG,bj,dv];exact ct) Zd C (Fz.aq (ob:=⟨Z,177,2,ao<|b3 os++[[I e.1,I e.2]],Q⟩) (by simp only[b5,dg,bx,a_,dG,bj,dv];exact cu) C C Zd (Yw bd) (oQ _) (Yw bd) λr z d aX=>py _ d<|eL.2 ⟨r,z,aX⟩) (db.2 λr z d aX=>py _ d<|eL.2 ⟨r,z,aX⟩) λaN a5 V=>?_;replace a5:aN 29=E ⟨k 29,344,2,[.sl 2<|b3<|os++[e],I 0],Q⟩:=a5;replace V:∀u,u≠29->u∉[76]->aN u=ai Y 1000 (E ⟨m,277,2,[bL,.ms 86 bY<|A<|gB F ay.length++[[D.rf 29 (k 29) 0]]],Q⟩) u:=V;have c0:=(V 86 Zd Zd).trans<|(a_ _ _ Zd).trans b2;have cZ:=(V 1000 Zd Zd).trans<|bN _ _ _;refine GK.Uz 29 (1100+ay.length) 86 ay.length 0 a5 c0 Zd Zo (by exact WT _ _ _) λbQ di g7 cA bw al=>?_;rw[WX]at bw;replace al:∀u,u≠29->u≠1100+ay.length->u≠86->bQ u=aN u:=al;have cz:=(al 1000 Zd Zo Zd).trans cZ;refine GK.qQ 86 1002 1000 1 (ay.length+1) bw cz Zd Zd (by simp[mZ]) λbU dj c6 cD cF a2=>GK.cM ?_;have bh:=K.push (H':=bU) (g7:=g7) (o:=o.1) (os:=os++[e]) (nx:=0) bG (by simpa[B]using cF) ((Yy B) cD) (by rw[B];exact(a2 _ Zo Zo Zo).trans cA) (λa t b g=>by
   rw[B]at g;refine(a2 a Zo b Zo).trans<|(al a Zo g Zo).trans<|(V a Zo ch).trans<|(a_ _ _ Zo).trans<|(G a Zo ch).trans ?_;simp only[a_ _ _ (show a≠85 by omega),a_ _ _ (show a≠29 by omega)];exact y a Zo ch) ch Zs (λa6=>by rw[ra];exact cU a6) Zo
  have c1:=(a2 6 Zd Zd Zd).trans<|(al 6 Zd Zo Zd).trans<|(V 6 Zd Zd).trans<|(a_ _ _ Zd).trans<|(G 6 Zd Zd).trans<|(by simp[ai]:_=X 6).trans<|j6.trans ba;simp only[R,bH,a4,bq,go_sem];rw[<-cS]at bh;refine aj<|aj (cg m _ o.2 (r.2.2++[o.1]) _ _ _ _ be bh (by simp[B];omega) Zo λa7 a1 a3 cN=>?_);have cP:=(cN 6 Zd).trans c1;have⟨du,ar,bs⟩:=a3.x;have⟨bO,c8,t1,t2,t3⟩:=ar.ob;have bi:A (b.cmp l o.2<|r.2.2++[o.1]).2.2=ay.length+1:=by rw[cK.v,lr];simp[B]
  rw[bi]at bs;obtain⟨aR,rfl,t4⟩:=eG bs (by simp[gB]);rw[mZ]at t1 ar;have cR:cb.wrap (((ay.length+1:Nat):Int)-1)=(ay.length:Int):=wI;have cT:((ay.length:Int)<=((ay.length+1:Nat):Int))=True:=co;have cV:(Option.isSome (E 1)=W)=True:=Zs;simp only[r6,go_sem];refine dP [1000] [] ?_;simp only[R,t1,cR,cT,cV,go_sem];obtain⟨P,au⟩:∃P:Nat->sC,ai (ai (ai (ai a7 13 Q) 13 (E ⟨a1 13,177,2,[I 0,I 0],Q⟩)) 13 (E ⟨a1 13,177,2,[I (b.cmp l o.2 (r.2.2++[o.1])).1.1,I (b.cmp l o.2 (r.2.2++[o.1])).1.2],Q⟩)) 1000 (E ⟨m,277,2,[bO,.ms 1002 aR ay.length],Q⟩)=P:=⟨_,C⟩;have am a (t:a≠13) (b:a≠1000):P a=a7 a:=by rw[<-au];simp[ai,t,b]
  have cG:P 1000=E ⟨m,277,2,[bO,.ms 1002 aR ay.length],Q⟩:=by rw[<-au,bN]
  have cI:P 13=E ⟨a1 13,177,2,[I (b.cmp l o.2<|r.2.2++[o.1]).1.1,I (b.cmp l o.2<|r.2.2++[o.1]).1.2],Q⟩:=by rw[<-au];simp[ai]
  rw[au];have b6:=ar.rest (H':=P) (Cs:=[.ms 1002 aR ay.length]) t1 cG Iv (λa i=>am a Zo Zo) λa t b ob aY=>ar.bB a (i6.2 Zo) ob<|(am a Zo Zo).symm.trans aY;have M:=(am 1002 Zd Zd).trans t4;have cJ:=(am 6 Zd Zd).trans cP;rw[B]at M a3;refine GK.cut 1002 ay.length M C ?_;rw[WU];simp only[bJ,cI,cJ,go_sem];exact SI.fin (a3.Vb bi b6 λj ce=>am _ Zo Zo) (λa i=>Yu<|dO i (u:=6)) (zD (b.cmp l o.2<|r.2.2++[o.1]).1).bB aV bg
variable {am a0 a2 a4:Nat}{fd hO:a'}{g0:List Ag}{g8 m6:bi}{up:List (List Pt)}{v0:Pt}{a9 g6:DL}{eq hw m2:D}{g7:ON}{c2:aU}{a3 g1:Int}{gt:ax}{g4:a6}{g3:aH}{g5:bI}{If:IL}{ai4 ajm ajo:Nat × Nat}{m7 v4:a8}{n6:cG}{g2:Type}{n5:O}{he:J}{a5:aF}{be:aO}{gs:BA}{hH:aX}{h1:bu}{it:bq}{v1:cm}{ip qr:cB}{bv:St}{i3:cf}
theorem SI.ael{e i:Nat}{m os:List Pt}(q:SI am fd g0 g8 up)(B:e<up.length)(D:up[e]=v0::m)(G:A os<=1000)(J:i+1<=A os)(K:os.drop i=v0::m)
 (p:hO (1100+e)=E ⟨g8 e,344,2,[.sl 2<|b3 os,I<|(i+1:Nat)],Q⟩) (k:∀a∈BL,a≠1100+e->hO a=fd a):SI am hO g0 g8<|up.modify e List.tail:=by
 obtain⟨⟨w,j,s⟩,t,z⟩:=q;have l:A (up.modify e List.tail)=up.length:=Zs;refine⟨⟨w,j.keep (λa f y=>k a f Zo) λa f x b u g=>?_,(Yy l)<|s.aA (by(grind [List.mem_singleton,i6]))⟩,(Yy l) t,λF C=>?_⟩
 .by_cases o:a=1100+e
  .subst o;rw[p]at g;cases g;exact Pu
  exact j.bB a f u<|(k a f o).symm.trans g
 grind [tail_drop,i6]
theorem ags{k v l:Int}{d:IL}{ks:cm}(aC:(O.mk k v d ks).ok)(aS:0<=l)(ba:l+1<=1000)(aF:(O.mk k v d ks).fW l=W)(aR:∀i∈ks,k≠6->tG i l)(aM:∀i∈ks,k=6->tG i (l+1)):tG (.mk k v d ks) l:=by
 intro al m J a U a2 a7 a6 X an ax ay F;obtain⟨aJ,a5,aU⟩:=Kk X;have a':O.ds (.mk k v d ks)=[I k,I v,bm d,.sl 4<|O.ab ks]:=qs;simp only[O.ok]at aC;have aB:∀i∈ks,i.ok:=λi G=>O.eJ aC.2.2 i G;refine nj [] [.cell 6 177] C C Zk Zt C Zs λav aO=>?_;have S:=an.aA aO;have az:SI al (ai (ai av 6 Q) 6<|some ⟨a2.n 6,177,2,[I 0,I 0],Q⟩) J m a:=S.aA λM t=>Yu<|dO t (u:=6);refine(ZN) ?_;by_cases ae:k=1
 .obtain⟨rfl,bb,bc,L,a1,y,aD⟩:=Kg (l:=l) X ae;have f1:(k==1)=W:=Yr ae;generalize aP:a.length-1-v.toNat=e;rw[aP]at y aD;have V:e<a.length:=Zo;have y:a[e]=L::a1:=by rw[bL V]at y;exact Aw y
  have au:cb.wrap (cb.wrap ((a.length:Int)-1)-v)=(e:Int):=by
   have aT:=an.l;have B:cb.wrap ((a.length:Int)-1)=(a.length:Int)-1:=dE _ Zo
   grind [dE]
  obtain⟨bh,aN,G⟩:=S.x;obtain⟨bg,a9,aH,bd,be⟩:=aN.ob;obtain⟨a8,rfl,aY⟩:=eG G (by rw[dG,<-pI,mZ];omega);rw[mZ]at aH;obtain⟨K,s,aI,a0,bf,z⟩:=S.v e V;rw[y]at z;have z:=z Zs;have R:(ao<|gB m a.length)[e]?=E (.rf (1100+e) (m e) 0):=by
   have B:=mJ (Ac m a.length) (WV m V) (j:=0) C;simpa using B
  have aL:(b3 K)[s]?=E [I L.1,I L.2]:=by
   have B:K[s]?=E L:=by rw[<-mn,z];rfl
   simp[b3,B]
  generalize ap:1100+e=u;have aT:=an.l;have ar:(u=6)=False/\(6=u)=False:=co;have a3:cb.wrap ((s:Int)+1)=((s+1:Nat):Int):=gJ _ Zo;have a4:cb.wrap (((s+1:Nat):Int)-1)=(s:Int):=wI;rw[ap]at R aI;have R:(List.drop e<|ao<|gB m a.length).head?=E (.rf u (m e) 0):=by rw[mn];exact R
  have t1:Int.toNat 1=1:=C;refine(ad f1) ?_;refine sX [1000,1002] [] fb Zk ?_;have aQ:((e:Int)<(a.length:Int))=True:=co;simp only[aH,aY,R,au,a3,ar,aI,aQ,h_,q_,go_sem];refine EK [u] [] fb Zk ?_;have aV:((s:Int)<(A K:Int))=True:=by
   have B:=eo A z;simp only[C9,dC]at B;simp;omega
  simp only[a4,ar,aL,q_,go_sem];rw[aD]at F;have aW:s+1<=A K:=Ys aV;obtain⟨Y,am⟩:∃Y:Nat->sC,ai av u (E ⟨m e,344,2,[.sl 2 (b3 K),I ((s+1:Nat))],Q⟩)=Y:=⟨_,C⟩;refine SI.fin (H2:=Y) (S.ael V y a0 aW z (by rw[ap,<-am,bN]) λM t g=>by rw[<-am,a_ _ _ (ap▸g)]) (λM t=>?_) (zD L).bB C F;rw[<-am];by_cases g:M=u
  .subst g;simp[ai,ar]
  simp[ai,g,dO t (u:=6)]
 by_cases P:k=6
 .obtain⟨w,rfl⟩:=aJ<|aG P;subst P;have au:cb.wrap (l+1)=l+1:=dE _ Zo;rw[O.EC C]at F;rw[O.b7,O.dd,O.dd]at ax ay;simp only[O.ab,au,go_sem];refine aj<|aj (aM w Zs C al m J a U _ _ _ (Ki X C).1 az Zo Zo λH2 aZ Z aa=>?_);have D:=aa 6 Zd;simp only[bN,dv]at D;simp only[r6,D,go_sem];exact SI.fin Z (λM t=>Yu<|dO t (u:=6)) (zD (w.cmp (l+1) J a).1).bB C F
 have p:∀i∈ks,tG i l:=λi G=>aR i G P;by_cases ah:k=4;obtain⟨w,rfl⟩:=aJ<|aj ah;subst ah;have aX:w.c_ 0<=1:=by
  rw[O.fW]at aF;simp only[cy,bx]at aF
  grind [BX,O.BY]
 have r:=ada (v:=v) (d:=d) (aB w Zs) aS aX<|p w Zs;simp only[O.ab,go_sem]
 rotate_left 1
 by_cases ak:k=7;obtain⟨aK,b,rfl⟩:=a5 ak;subst ak;have r:=adk (v:=v) (d:=d) (aB b Zs) (p aK Zs)<|p b Zs;simp only[O.ab,go_sem]
 rotate_left 1
 obtain⟨rfl|rfl,q,aq⟩|⟨rfl|rfl,q,aq⟩|⟨rfl,q,aq⟩|⟨rfl|rfl,q,aq⟩:=K3 aU ae P ah ak;have r:=xA (k:=2) (v:=v) (l:=l) (kk:=6) (ll:=0) (vv:=v) (f:=0) (o:=0) (d:=d) (ks:=ks) Zd qt (aG ⟨C,q.symm⟩) Zo Zo (λg=>absurd (pI.1 q) g) p;refine(ZN) ?_
 rotate_left 1
 have r:=xA (k:=11) (v:=v) (l:=l) (kk:=12) (ll:=l) (vv:=v) (f:=0) (o:=0) (d:=d) (ks:=ks) Zd qt (aG ⟨C,q.symm⟩) Zo Zo (λg=>C) p;refine(ZN) ?_
 rotate_left 1
 have r:=xA (k:=3) (v:=v) (l:=l) (kk:=7) (ll:=l) (vv:=v) (f:=0) (o:=2) (d:=d) (ks:=ks) Zd qt (aG ⟨C,q.symm⟩) Zo Zo (λg=>C) p;refine(ZN) ?_
 rotate_left 1
 have r:=xA (k:=5) (v:=v) (l:=l) (kk:=3) (ll:=l) (vv:=0) (f:=0) (o:=2) (d:=d) (ks:=ks) Zd qt (aG ⟨C,q.symm⟩) Zo Zo (λg=>C) p;refine(ZN) ?_
 rotate_left 1
 have r:=xA (k:=8) (v:=v) (l:=l) (kk:=9) (ll:=l) (vv:=v) (f:=1) (o:=0) (d:=d) (ks:=ks) Zd qt (aj ⟨C,C⟩) Zo Zo (λg=>C) p;refine(ZN) ?_
 rotate_left 1
 have r:=xA (k:=9) (v:=v) (l:=l) (kk:=10) (ll:=l) (vv:=0) (f:=0) (o:=1) (d:=d) (ks:=ks) Zd qt (aG ⟨C,q.symm⟩) Zo Zo (λg=>C) p;refine(ZN) ?_
 rotate_left 1
 have r:=xA (k:=10) (v:=v) (l:=l) (kk:=11) (ll:=l) (vv:=0) (f:=0) (o:=1) (d:=d) (ks:=ks) Zd qt (aG ⟨C,q.symm⟩) Zo Zo (λg=>C) p;refine(ZN) ?_
 all_goals
  refine aj<|aj (r al m J a U _ _ _ X az ax ay λH2 aZ Z aa=>?_);have D:=aa 6 Zd;simp only[bN,dv]at D;simp only[r6,D,go_sem];exact SI.fin Z (λM t=>Yu<|dO t (u:=6)) (zD ((O.mk _ v d _).cmp l J a).1).bB C F
theorem L3(e:O)(a:Int)(g:e.ok)(k:0<=a)(i:a+e.b7<=1000)(h:e.fW a=W):tG e a:=by
 match e,g,i,h with
 |.mk o v d p,g,i,h=>
 have j:=g;simp only[O.ok]at j;rw[O.b7]at i;have m:=h;rw[O.fW,cy,GJ,en]at m;exact ags g k Zo h (λf b l=>L3 f a (O.eJ j.2.2 f b) k (Yo<|O.nr b) cq)
  λf b l=>L3 f (a+1) (O.eJ j.2.2 f b) Zo (Yo<|O.nr b) cq
structure NB (H:Nat->Option Ob) (n:List Ag) (a:D):Prop where
 x:∃g,aL [1001] H 125 5 (eM g n) a/\∀i(h:i<A n),H (2000+i)=E ⟨g i,177,2,ao (b3 n[i].p),Q⟩
 i:In BL a
 l:A n<=100000000
 n:sB H
def BS.nb{ty f d:Nat}(b:BS ty f d a9 fd g0):∃a,fd 1000=E ⟨d,ty,f,a::a9,Q⟩/\NB fd g0 a:=by
 obtain⟨a,g,e,h,i⟩:=b.ob;exact⟨a,e,⟨g,h,i⟩,b.bB _ (i6.2 Zo) _ e a Zs,b.len,b.bB⟩
theorem NB.aA{H H':a'}(f:NB H g0 eq)(b:∀a∈BL,H' a=H a):NB H' g0 eq:=by
 obtain⟨⟨e,g,h⟩,i,j,k⟩:=f;exact⟨⟨e,g.aA (by(grind [i6])),λo l=>(b _<|i6.2 Zo).trans<|h o l⟩,i,j,λa d p m=>k a d p<|(b a d).symm.trans m⟩
def X8{j:O}{k:St}(g:o0 j)(ak:j.fW 0=W)(ae:sB k.H)(aa:∀H ao l,NB H j.hN l->yf H k.H->c2 ({k with H:=H,n:=ao}.put g7<|.ag [l])):er aB k 109 [.cp j.ds] g7 c2:=by
 have ax:=g.n;obtain⟨az,aC,aD,am,an⟩:=g.lk;refine nj [7,1000008] [.cell 2 30] C C Zk Zt C Zs λw Z=>?_;have ah:sB w:=λa f t m=>ae a f t<|(Z a f).symm.trans m;refine(ZN)<|GK.F7 7 1000 3 0 (g0:=k.n 7) (e:=277) (z:=2) (cs:=[bp,bp]) bF fR λr aF D y A=>GK.cM ?_;have M:∀a∈BL,a≠1000->r a=w a:=λa f z=>(A a (dO f Zd) z).trans (by simp[ai,dO f (u:=7),dO f (u:=2)]);have P:r 2=E ⟨k.n 2,30,1,[bp],Q⟩:=(A 2 Zd Zd).trans bF;have ab:SI D r [] (λ_=>0) []:=⟨⟨.sc<|.slice Q 0 0,⟨⟨.sc<|.slice Q 0 0,λ_=>0,y,.nil,Zs⟩,λa f t m=>by
  by_cases z:a=1000
  .subst z;rw[y]at m;cases m;intro d F;simp at F;subst F;exact .sc _
  exact ah a f t<|(M a f z).symm.trans m,Zs⟩,.nil⟩,Zs,Zs⟩
 refine(ZN) ?_;refine aj<|aj (AV ab Zs Zo λar aH R S=>?_);have U:=(S 2 Zd Zd Zd).trans P;refine(ZN) ?_;refine aj<|aj (L3 j 0 g.o Zo Zo ak D _ (dV [] 1 0 0 [] 1) [] _ _ _ _ g.hy R ch (by rw[na];simp;omega) λJ aI d1 d2=>?_);have d3:=(d2 2 Zd).trans U;simp only[r6,go_sem];refine pe [0,1,2,3,5,4,6] [5] [] fb Zk<|(ZN)<|bR _ (qO _ _) Zs<|(ZN) ?_;refine aj<|aj (BU (p:=(0,0)) (q:=(j.cmp 0 (dV [] 1 0 0 [] 1) []).1) (d1.aA λa f=>Yu<|dO f (u:=5)) am an λK aJ V B=>?_);have X:=(B 2 Zd Zd Zd).trans<|(by simp[ai]:_=J 2).trans d3;obtain⟨aL,Y,ay⟩:=V.x;obtain⟨l,al,s⟩:=Y.nb;refine(ZN) ?_;refine⟨B 5 Zd Zd Zd,?_⟩;have aq:cO l=W:=by obtain⟨av,ap,aK⟩:=s.x;exact n9 ap
 refine(ad<|JJ al X) ?_;have I:NB (ai K 2<|some ⟨k.n 2,30,1,[l],Q⟩) (O.hN j) l:=s.aA λa f=>a_ _ _<|dO f Zd;refine⟨aq,C,.ag λG d g=>?_,I.n,λau L b=>aa _ _ _ (I.aA L) λa f=>b a DC⟩;cases G with
 |zero=>simp at g;subst g;exact s.i
 |succ G=>simp at g
def cr(a:Ag):DL:=[I a.k,I a.l,I a.v,bm a.d,.sl 2<|b3 a.p]
def cw(n:List Ag):D:=.sl 5<|n.map cr
theorem oa(e:List Ag):Cl<|cw e:=db.2 λr b d a=>by
 obtain⟨f,-,rfl⟩:=aP.1 b;simp only[cr,cF,dt,gD]at a;obtain rfl|rfl|rfl|rfl|rfl:=a
 .exact .sc _
 .exact .sc _
 .exact .sc _
 .exact kY _
 grind [db,py,List.mem_flatten]
def B3(n:Nat):ax:=1001::(cz n).map λi=>2000+i
def NB.fz{n:List Ag}(u:NB fd n eq)(k:ax)(m:∀s∈B3 (A n),s∈k):Fz (b5 k fd) eq<|cw n:=by
 obtain⟨⟨e,w,x⟩,-⟩:=u;obtain⟨q,rfl⟩|⟨s,t,o,rfl,F⟩:=w
 .exact PV
 simp only[dg]at o;subst o;have B:A (eM e n)=A (n.map cr):=by rw[lJ,bE]
 rw[B];refine .ms 1001 ⟨t,125,5,ao<|eM e n,Q⟩ (n.map cr) (λa g=>((eM e n).getD a []).getD g .any) (by simp only[b5,aM<|m 1001 (by simp[B3])];exact F) C (ya 4) (λa r f=>?_) (λa r g d h b=>?_) λa r g d h b=>?_
 .obtain⟨l,-,rfl⟩:=aP.1 (fE f);rfl
 .rw[fP]at h;obtain⟨l,j,rfl⟩:=jP.1 h;have i:=(dX.1 j).1;have f:(eM e n)[a]?=E (kX (e a) a n[a]):=by simp[eM,i]
  have z:g<5:=(dX.1 b).1;have G:(kX (e a) a n[a])[g]?=E ((kX (e a) a n[a]).getD g .any):=by
   rw[bL (by simp[kX];omega)];simp[kX,List.getD,show g<5 from z]
  rw[mJ (u3 e n) f G];simp[List.getD,f]
 rw[fP]at h;obtain⟨l,j,rfl⟩:=jP.1 h;obtain⟨i,rfl⟩:=dX.1 j;have f:(eM e n)[a]?=E (kX (e a) a n[a]):=by simp[eM,i]
 simp only[List.getD,f,kx]
 match g,b with
 |0,b=>cases b;exact .cl _ (.sc _)
 |1,b=>cases b;exact .cl _ (.sc _)
 |2,b=>cases b;exact .cl _ (.sc _)
 |3,b=>cases b;exact .cl _ (kY _)
 |4,b=>
  cases b;exact Fz.aq (ob:=⟨e a,177,2,ao<|b3 n[a].p,Q⟩) (by simp only[b5,aM<|m (2000+a) AK];exact x a i) C C Zd (by simp[b3]) (oQ _) C λr f d y=>py _ d<|eL.2 ⟨r,f,y⟩
def fK(n:List Ag):Prop:=∀a∈n,A a.d<=4/\A a.p<=4/\1<=A a.p
theorem fK.add(e:fK g0){v:Int}{d:IL}(f:A d<=4)(g:am<=4/\1<=am):fK<|dV g0 a3 g1 v d am:=by
 intro b a;obtain a|a:=ca.1 a
 .exact e b a
 exact Zg
theorem fK.put(b:fK g0)(g h:Pt):fK<|la g0 g h:=by
 intro i d;obtain⟨a,e,rfl⟩:=wq.1 d;have f:a<A g0:=by simpa[la]using e
 have:=b g0[a]<|aD f
 grind [la]
def fK.gF(d:fK g0)(a b:Pt):fK<|Fw.gF g0 a b:=(d.put a b).put b a
theorem fK.ko(e:Int):∀(c:Nat)(a:List Ag)(d:Pt),fK a->fK (Fw.ko c a d e).2.1
 |0,a,d,b=>b
 |c+1,a,d,b=>fK.ko e c _ _<|(b.add Zs Zo).gF _ _
theorem fK.iX(a:fK g0)(e:Pt)(b:Int)(d:Nat):fK (Fw.iX g0 e b d).2:=by
 unfold Fw.iX;split
 .exact(a.add Zs Zo).gF _ _
 exact fK.ko b _ _ _ a
def RA:∀(g:cm)(f:Int)(a:List Ag)(b:List<|List Pt),(∀c∈g,∀a b,fK a->fK (c.cmp a3 a b).2.1)->fK a->fK (O.mG g a3 g1 f a b).1
 |[],_,_,_,_,d=>d
 |c::h,f,a,b,e,d=>by
  rw[O.mG];exact RA h _ _ _ (λj i=>e j<|Yr i)<|(e c Zs a b d).gF _ _
def yT(o:O)(t:Int)(l:List Ag)(m:List<|List Pt)(j:o.bh=W)(h:fK l):fK (o.cmp t l m).2.1:=by
 match o,j with
 |.mk k v d f,j=>
 obtain⟨x,w,A,-⟩:=SH j;have i:=rM j;obtain⟨-,u,z⟩:=xz x;by_cases s:k=1
 .rw[O.RD s];exact h
 by_cases q:k=6
 .obtain⟨a,b⟩:=kw.1<|u<|aj q;have e:a∈f:=Yx b;rw[b,O.EC q];exact yT a _ _ _ (i a e) h
 by_cases p:k=4
 .obtain⟨a,b⟩:=kw.1<|u<|aG p;have e:a∈f:=Yx b;rw[b,O.EB p C C];exact(yT a _ _ _ (i a e)<|(h.add Zs Zo).iX _ _ _).gF _ _
 by_cases r:k=7
 .obtain⟨a,g,b⟩:∃a g,f=[a,g]:=by
   match f,z r with
   |[a,g],_=>exact⟨a,g,C⟩
  have e:a∈f:=Yx b;have y:g∈f:=Yx b;rw[b,O.ED r C C C];exact yT g _ _ _ (i g y)<|(yT a _ _ _ (i a e) h).iX _ _ _
 rw[O.EE s q p r];exact RA f _ _ _ (λa e l m h=>yT a t l m (i a e) h)<|h.add w Zo
structure iS (n:List Ag):Prop where
 sym:nS n
 pos:0<A n
 len:A n<=600
 sz:fK n
 nn:∀a∈n,∀p∈a.p,0<=p.1/\p.1.toNat<A n
def o0.K5{a:O}(q:o0 a)(w:A a.hN<=600):iS a.hN:=by
 obtain⟨y,C,-⟩:=q.lk;have r:∀(e:Nat)(h:e<A a.hN)(f:Nat)(i:f<A a.hN[e].p),hZ a.hN a.hN[e].p[f]/\qh a.hN a.hN[e].p[f]=E ((e:Int),(f:Int)):=λe h f i=>by
  obtain⟨B,j,b,-,d⟩:=y.ln ((e:Int),(f:Int)) ⟨Zs,Zs,a.hN[e],Yr h,Yq i⟩ Zs;have u:a.hN[e].p[f]=B:=by simpa[qh,h,i]using j
  rw[u];exact⟨b,d⟩
 have nn:∀j∈a.hN,∀l∈j.p,0<=l.1/\l.1.toNat<A a.hN:=λj m l o=>by
  obtain⟨e,h,rfl⟩:=wq.1 m;obtain⟨f,i,rfl⟩:=wq.1 o;obtain⟨⟨s,-,b,k,-⟩,-⟩:=r e h f i;exact⟨s,(dX.1 k).1⟩
 refine⟨λe h f i=>?_,Zo,w,(yT a 0 _ _ q.g<|fK.add (λj m=>by simp at m) Zs Zo).gF _ _,nn⟩;rw[fH,bL h]at i;obtain⟨l,o,rfl⟩:=aP.1 i;obtain⟨z,x,rfl⟩:=wq.1 o;obtain⟨⟨s,-,b,k,-⟩,t⟩:=r e h z x;refine⟨(dX.1 k).1,?_⟩;rw[qh,k]at t;simp only[fH,k];exact aP.2 ⟨_,fE (show b.p[_]?=_ from t),Zs⟩
def zN(l:ax):IL:=l.map λ(x:Nat)=>(x:Int)
def kv(a:ax):A (zN a)=A a:=by simp[zN]
def CR(a b:ax):zN (a++b)=zN a++zN b:=by simp[zN]
def pQ(a:ax):A (Z<|zN a)=A a:=by simp[Z,zN]
def IQ(b:ax)(a:Nat)(d:a<A b):(ao<|Z<|zN b)[a]?=E (I (b[a]:Int)):=by
 rw[ox];simp[zN,d]
def pP(b:ax)(a:Nat)(d:a<A b):(Z<|zN b)[a]?=E [I (b[a]:Int)]:=by simp[Z,zN,d]
def p_(a:List Pt):A (b3 a)=A a:=by simp[b3]
def zE(b:List Pt)(a:Nat)(d:a<A b):(b3 b)[a]?=E [I b[a].1,I b[a].2]:=by simp[b3,d]
def vJ(b:List Ag)(a:Nat)(d:a<A b):(b.map cr)[a]?=E (cr b[a]):=Yr d
def kI(x:Nat):aN:=.int .i64 (x:Int)
def VO(a b:Int):Instr.sameNow (.int .i64) (.int .i64 a) (.int .i64 b)=E (ah<|a=b):=by
 simp only[Instr.sameNow];congr 1
def EY:∀{b:ax},am∉b->kp (.int .i64) (kI am) (b.map kI)=E Q
 |[],_=>rfl
 |a::b,d=>by
  simp only[cF,lh]at d;rw[b4,kp,show Instr.sameNow (.int .i64) (kI am) (kI a)=E (ah<|(am:Int)=a)from VO _ _,bW Zo];simp only[EY d.2];rfl
theorem EZ{b:Nat}:∀{l:ax},b∈l->kp (.int .i64) (kI b) (l.map kI)=E (E<|l.idxOf b)
 |[],h=>On
 |a::l,h=>by
  rw[b4,kp,show Instr.sameNow (.int .i64) (kI b) (kI a)=E (ah<|(b:Int)=a)from VO _ _];by_cases d:b=a
  .subst d;simp
  rw[bW Zo];have e:b∈l:=by simpa[d]using h
  simp only[EZ e];exact Zg
theorem Ql{l ps:ax}{p:Nat}(a:p∈iy l ps):iy l (ps++[p])=iy l ps:=by(grind [iy])
theorem Qk{l ps:ax}{p:Nat}(a:p∉iy l ps):iy l (ps++[p])=iy l ps++[p]:=by(grind [iy])
theorem KY(a:am<A g0):fH g0 am=g0[am].p.map λb=>b.1.toNat:=by simp[fH,a]
structure Tw (n:List Ag) (s i:Nat) (l:List Nat):Prop where
 t:Tv n (λ_=>True) i l
 e:uE n (A n-i) i l=bA n s
 m:l≠[]
def Tw.start(a:am<A g0):Tw g0 am 0 [am]:=⟨⟨Zs,Yq a,Zs,Zs,Zs⟩,C,Zs⟩
def Tw.len(a:Tw g0 am a0 gt):A gt<=A g0:=zA a.t.nd a.t.lt
theorem Tw.next{b:List Ag}(i:iS b){a:Nat}{d:ax}(g:Tw b am a d)(h:a<A d):Tw b am (a+1)<|iy d<|fH b d[a]:=by
 have:=g.len;refine⟨g.t.step i.sym (λ_ _ _ _=>trivial)<|Yr h,?_,λf=>?_⟩
 .have f:=g.e;rw[show A b-a=A b-(a+1)+1 by omega,uE]at f;simpa[h]using f
 have⟨r,j⟩:=AU (fH b d[a]) d
 grind [append_eq_nil_iff]
def Tw.fin(a:Tw g0 am a0 gt)(b:A gt<=a0):gt=bA g0 am:=by rw[<-a.e,ahg b]
def D_{b:List Ag}(j:iS b){d:Nat}{a:ax}(g:Tw b am d a)(k:d<A a)(f:Nat):(iy a<|Y f<|fH b a[d]).Nodup/\(∀e∈iy a (Y f<|fH b a[d]),e<A b)/\A (iy a<|Y f<|fH b a[d])<=600:=by
 have h:=IT (Y f<|fH b a[d]) a g.t.nd;have i e (l:e∈iy a (Y f<|fH b a[d])):e<A b:=by
  obtain q|q:=(zv _ _).1 l
  .exact g.t.lt e q
  exact(j.sym _ (g.t.lt _<|aD k) e<|tv q).1
 exact⟨h,i,gS (zA h i) j.len⟩
def CA(g:Nat)(l:ax):Ob:=⟨g,0,1,l.map λ_=>.sc<|.bool W,E<|l.map kI⟩
def L'{n:List Ag}(q:iS n){r:Nat}(aO:r<A n):gE aB 217 [.cp [cw n],I r] 2 1<|Z<|zN<|bA n r:=by
 have ay:cE aB 110=E (2,1,8):=Zk;have a5:xv aB 366=E (.int .i64,.bool af):=Zk;have a0:=q.len;have aY:A (n.map cr)=A n:=Zs;refine gE.ey [1000049] [.tmp 4] C C Zk Zt C Zs (nW _) ?_;simp only[cw,go_sem];have f0:kp (.int .i64) (.int .i64 (r:Int)) []=E Q:=C;have V:(cb==cb)=W:=C;refine(ad<|JJ V f0)<|l' (λb=>b.nt=52/\∃(i:Nat)(l:ax)(B:D)(e:Nat),b.env 0=.cp [.sl 5<|n.map cr]/\b.env 7=I i/\b.env 5=B/\b.env 6=.mp 12 e/\b.H 12=E (CA e l)/\aL [11,49] b.H 2 1 (Z<|zN l) B/\Tw n r i l)
  (λb=>match b.env 7 with|.sc (.int _ aS)=>A n-aS.toNat|_=>0) ⟨C,0,[r],.ms 11 0 1,0,ow,bU,bU,bU,by simp[ai,CA,kI],aj ⟨11,0,Zs,by simp[zN],by simp[ai,zN]⟩,.start aO⟩ ?_
 rintro⟨ab,F,aT,a8,av,aW⟩⟨rfl,i,l,B,e,R,G,o,X,an,w,g⟩;simp only at R G o X an w;have a1:=g.len;obtain⟨aU,-⟩|⟨ar,ak,aP,rfl,al⟩:=w
 .exact absurd (by simpa[Z,zN]using aU) g.m
 rw[pQ]at o;have w:aL [11,49] F 2 1 (Z<|zN l)<|.ms ar ak<|A l:=aj ⟨ar,ak,aP,by rw[pQ],al⟩;refine dN (JJ G o) (λu=>?_) λU=>?_
 .have aN:((i:Int)<(A l:Int))=True:=dM Zo;have K:=g.t.lt _<|aD u;have aI:=IQ l i u;have aC:=vJ n l[i] K;have a3:=(q.sz _<|aD K).2;have a4:((l[i]:Int)<(A n:Int))=True:=dM Zo;refine(ZI) ?_;simp only[R,G,o,al,aN,aI,mn,h_,aC,cr,p_,go_sem];have BC:=KY K;have a2:A (fH n l[i])=A n[l[i]].p:=by rw[BC,bE]
  refine fG 33 (A n[l[i]].p) (λj=>Fw.fF 52 [(0,.cp [.sl 5<|n.map cr]),(6,.mp 12 e),(7,I i),(31,.sl 2<|b3 n[l[i]].p),(32,I<|A n[l[i]].p)] λab F a6 av=>F 12=E (CA e<|iy l<|Y j<|fH n l[i])/\aL [11,49] F 2 1 (Z<|zN<|iy l<|Y j<|fH n l[i]) (ab 5)) C
   ⟨C,by simp[aw,R,X,G],by simpa[iy]using an,by simpa[iy,aw,o]using w⟩ ?_
  rintro j az au a7 T2 aX aZ⟨k,y⟩;generalize f:iy l (Y j<|fH n l[i])=a;have aR:=D_ q g u j;rw[f]at k y aR;generalize P:az 5=B;rw[P]at y;have k:au 12=E ⟨e,0,1,a.map λ_=>.sc<|.bool W,E<|a.map kI⟩:=k;refine ZL (λM=>?_) λU=>?_
  .have ah:=zE n[l[i]].p j M;obtain⟨x,iA⟩:∃x:Nat,n[l[i]].p[j].1=x:=⟨n[l[i]].p[j].1.toNat,Yo<|(q.nn _ (aD K) _<|aD M).1⟩;have ao:Y (j+1) (fH n l[i])=Y j (fH n l[i])++[x]:=Na;rw[iA]at ah;refine(ad ah) ?_;by_cases z:x∈a
   .have s:kp (.int .i64) (.int .i64 (x:Int)) (a.map kI)=E (E<|a.idxOf x):=EZ z;have aK:(a.map λ_=>D.sc<|.bool W)[a.idxOf x]?=E (.sc<|.bool W):=Yr<|idxOf_lt_length_of_mem z;have d:=Ql (l:=l) (ps:=Y j<|fH n l[i]) (p:=x)<|(Yy f) z;rw[<-ao,f]at d;simp only[k,V,s,aK,go_sem];refine gY M ⟨C,bU,?_,?_⟩
    .rw[d];simpa[ai,CA]using k
    rw[d];simpa[aw,P]using y.aA bF
   have s:kp (.int .i64) (.int .i64 (x:Int)) (a.map kI)=E Q:=EY z;have d:=Qk (l:=l) (ps:=Y j<|fH n l[i]) (p:=x)<|(Yy f) z;rw[<-ao,f]at d;simp only[k,V,P,s,go_sem];have am:=D_ q g u<|j+1;rw[d]at am;simp only[b9,oW]at am;refine GK.cM (eC.eS (S:=[11,49]) (aq:=Z<|zN a) (bD:=Z [(x:Int)]) ay ((Pa)<|y.aA bF) (iI _) hF Zs nT (by rw[fm,fm,kv];simp;omega) N9 λaV aT a9 ap aH=>?_);have aF:=aH 12 Zd Zd;refine(ZN) ?_;refine gY M ⟨C,bU,?_,?_⟩
   .rw[d];exact aF.trans (by simp[ai,CA,kI])
   rw[d,CR];rw[<-o5]at ap;simpa[aw,zN]using ap.sub (S':=[11,49]) Zs
  obtain rfl:j=A n[l[i]].p:=Zo;rw[dj Zo]at f;subst f;have aQ:=g.next q u;refine(ad U) ?_;refine⟨⟨C,i+1,_,B,e,bU,AT,Ye P,bU,k,y,aQ⟩,?_⟩;simp[aw,gJ i Zo];omega
 have aM:A l<=i:=Zo;have s:=g.fin aM;subst s;exact(ad<|JJ U o)<|aL.close w
def kL(l:ax)(m:Nat):IL:=(cz m).map λx=>if x∈l then(l.idxOf x:Int)else-1
theorem uz(b:ax)(a:Nat):A (kL b a)=a:=by simp[kL]
theorem Lo(b:ax)(d a:Nat)(e:a<d):(kL b d)[a]'(by rw[uz];exact e)=if a∈b then(b.idxOf a:Int)else-1:=by simp[kL]
def aeV(a:Nat):kL [] a=fu a (-1):=by simp[kL,map_const']
theorem U9(e:a0<am)(d:a0∉gt):(kL gt am).set a0 (A gt:Int)=kL (gt++[a0]) am:=by
 refine lX (by simp[uz]) λf a b=>?_
 grind [uz,Lo]
theorem VP(l:IL)(a:Nat)(v:Int)(b:a<A l):lc (ao<|Z l) a [I v]=ao (Z<|l.set a v):=by
 grind [ox,lc,List.set_eq_take_append_cons_drop,List.map_take,map_drop]
def Vh(l:IL)(a:Nat)(v:Int)(b:a<A l):Y a (Z l).flatten++I v::(Z l).flatten.drop (a+1)=ao (Z<|l.set a v):=by
 rw[<-VP l a v b];simp[lc]
theorem aeU(b:ax)(d a:Nat)(e:a<d):(ao<|Z<|kL b d)[a]?=E (I (if a∈b then(b.idxOf a:Int)else-1)):=by(grind [ox,List.getElem?_eq_getElem,uz,Lo])
theorem GK.Uy{s:St}(t1 d:Nat){S:ax}{f:Nat}{aq:cB}(l:aL S s.H g4 f aq<|s.env d)(k:aq≠[])
 (i:∀H n e,H t1=E ⟨e,g4,f,ao aq,Q⟩->(∀a,a∉S->a≠t1->H a=s.H a)->GK c2 {s with env:=aw s.env d (.ms t1 e<|A aq),H:=H,n:=n}):GK c2 s:=by
 obtain⟨g,-⟩|⟨m,p,q,j,h⟩:=l
 .exact absurd g k
 exact GK.n4<|GK.Uw m t1 d h C (j▸.ms _) (i _ _ _ (bN _ _ _) λa o b=>by(grind [a_]))
def Wm{n:List Ag}(s:iS n){e:Nat}(aN:e<A n){aI:gg}{H:a'}{n0:bi}{T:cf}{N:Nat}
 (bg:∀(a:St)(U am:Nat),a.T=T->d_ aB a [.tmp 4,.tmp 5]=E (.tp [.ms 1100 U<|A<|bA n e,.ms 1101 am<|A n])->
  a.H 1100=E ⟨U,2,1,ao<|Z<|zN<|bA n e,Q⟩->a.H 1101=E ⟨am,2,1,ao<|Z<|kL (bA n e)<|A n,Q⟩->aI .ret a):
 ∃aS,f246.body=E aS/\vc aB [1000025,1000026,1000076,1000077] aS aI ⟨ej [.cp [cw n],I e],H,n0,79,T,N⟩:=by
 refine⟨_,C,?_⟩;have aT:cE aB 110=E (2,1,8):=Zk;have bQ:=s.len;have bn:A (n.map cr)=A n:=Zs;simp only[cw,go_sem];refine lp 7 (A n) [0,1] (λar K H a3 av=>av=T/\aL [13,25] H 2 1 (Z<|fu ar<|-1) (K 6)) ⟨C,aj ⟨13,_,Zs,C,ep⟩⟩ ?_;rintro ar K bL a3 T1 bN bP⟨aW,g⟩;generalize y:K 6=R;rw[y]at g;refine dN bn (λM=>?_) λba=>?_
 .refine(ad y) ?_;refine GK.cM (eC.eS (S:=[13,25]) (aq:=Z<|fu ar<|-1) (bD:=Z [(-1:Int)]) aT ((Pa)<|g.aA bF) (iI _) hF Zs nT Ig Ih λa5 a2 bK X aF=>(ZN) ?_);rw[<-o5,<-Dc]at X;exact dI ⟨aW,by simpa[aw]using X.sub Zs⟩
 obtain rfl:ar=A n:=Zo;rw[<-aeV]at g;refine(ad ba) ?_;refine GK.Uy 1101 6 (S:=[13,25]) (aq:=Z<|kL []<|A n) (by simp only[aw,bT,bj,e7,eQ,reduceCtorEq,y];exact g) (λq=>by have au:=eo A q;rw[fm,uz,gR]at au;have au:=s.pos;omega) λaR aQ am bw bX=>GK.cM ?_;have P:=uz []<|A n;have bs:((e:Int)<(A n:Int))=True:=dM Zo;have aO:=(Vh (kL []<|A n) e 0<|(Yy P) aN).trans (by rw[show(0:Int)=((A ([]:ax):Nat):Int)from C,U9 aN Zs]);have aH:e+1<=A (ao<|Z<|kL []<|A n):=by rw[ox,bE,P];omega
 simp only[bw,P,bs,h_,aH,go_sem];refine l' (λa=>a.nt=79/\a.T=T/\∃(i:Nat)(l:ax)(R:D)(z:Nat),a.env 0=.cp [.sl 5<|n.map cr]/\a.env 9=I i/\a.env 8=R/\a.env 6=.ms 1101 z (A n)/\a.H 1101=E ⟨z,2,1,ao<|Z<|kL l<|A n,Q⟩/\aL [27,76] a.H 2 1 (Z<|zN l) R/\Tw n e i l)
  (λa=>match a.env 9 with|.sc (.int _ bB)=>A n-bB.toNat|_=>0) ⟨C,aW,0,[e],.ms 27 (aQ 27) 1,am,bU,bU,bU,bU,Yu aO,aj ⟨27,aQ 27,Zs,by simp[zN],by simp[ai,zN]⟩,.start aN⟩ ?_
 rintro⟨K,H,a2,b0,av,N⟩⟨rfl,rfl,i,l,R,z,ay,al,G,y,az,g,o⟩;simp only at ay al G y az g;have bR:=o.len;obtain⟨bG,-⟩|⟨a4,aU,bt,rfl,aF⟩:=g
 .exact absurd (by simpa[Z,zN]using bG) o.m
 rw[pQ]at G;have g:aL [27,76] H 2 1 (Z<|zN l)<|.ms a4 aU<|A l:=aj ⟨a4,aU,bt,by rw[pQ],aF⟩;refine dN (JJ al G) (λM=>?_) λB=>?_
 .have bp:((i:Int)<(A l:Int))=True:=dM Zo;have an:=o.t.lt _<|aD M;have bk:=IQ l i M;have a9:=vJ n l[i] an;have br:=(s.sz _<|aD an).2;have bW:((l[i]:Int)<(A n:Int))=True:=dM Zo;refine(ZI) ?_;simp only[ay,al,G,aF,bp,bk,mn,h_,a9,cr,go_sem];have BC:=KY an;have aY:∀j(aK:j<A n[l[i]].p),∃x:Nat,(n[l[i]].p[j]).1=x/\x<A n:=λj aK=>by
   have au:=s.nn _ (aD an) _<|aD aK;exact⟨(n[l[i]].p[j]).1.toNat,Zo,au.2⟩
  generalize bh:n[l[i]]=f;simp only[bh]at br BC aY⊢;have bV:A (fH n l[i])=A f.p:=by rw[BC,bE]
  refine fG 11 (A f.p) (λj=>Fw.fF 79 [(0,.cp [.sl 5<|n.map cr]),(6,.ms 1101 z<|A n),(9,I i),(10,.cp [I f.k,I f.l,I f.v,bm f.d,.sl 2<|b3 f.p])] λK H a3 a6=>a6=av/\H 1101=E ⟨z,2,1,ao<|Z<|kL (iy l<|Y j<|fH n l[i])<|A n,Q⟩/\aL [27,76] H 2 1 (Z<|zN<|iy l<|Y j<|fH n l[i]) (K 8)) C
   ⟨C,by simp[aw,ay,y,al,bm],C,by simpa[iy]using az,by simpa[iy,aw,G]using g⟩ ?_
  rintro j a8 aR aQ T2 bO aK⟨rfl,ak,F⟩;generalize u:iy l (Y j<|fH n l[i])=b;have bz:=D_ s o M j;rw[u]at ak F bz;have bY:=s.pos;generalize ab:a8 8=R;rw[ab]at F;refine lm @p_ (λB=>?_) λB=>?_
  .have ap:j<A f.p:=by simpa using B
   have U:=zE f.p j ap;have⟨x,iA,aP⟩:=aY j ap;have a0:Y (j+1) (fH n l[i])=Y j (fH n l[i])++[x]:=Na;rw[iA]at U;have a1:((x:Int)<(A n:Int))=True:=dM Zo;have bl:=aeU b (A n) x aP;simp only[B,U,ak,a1,h_,mn,bl,go_sem];by_cases q:x∈b
   .have V:ah ((if x∈b then(b.idxOf x:Int)else-1)<0)=af:=by rw[aM q];simp
    have w:=Ql (l:=l) (ps:=Y j<|fH n l[i]) (p:=x)<|(Yy u) q;rw[<-a0,u]at w;refine(ad V) ?_;refine gY ap ⟨C,bU,C,?_,?_⟩
    .rw[w];exact ak
    rw[w];simpa[aw,ab]using F
   have V:ah ((if x∈b then(b.idxOf x:Int)else-1)<0)=W:=by rw[aC q];rfl
   have w:=Qk (l:=l) (ps:=Y j<|fH n l[i]) (p:=x)<|(Yy u) q;rw[<-a0,u]at w;have aX:=D_ s o M<|j+1;rw[w]at aX;simp only[b9,oW]at aX;have P:=uz b<|A n;have aO:=(Vh (kL b<|A n) x b.length<|(Yy P) aP).trans<|Yw<|U9 aP q;have aH:x+1<=A (ao<|Z<|kL b<|A n):=by rw[ox,bE,P];omega
   have bf:b≠[]:=λa7=>by
    have⟨r,aZ⟩:=AU (Y j<|fH n l[i]) l;rw[u,a7]at aZ;exact o.m (List.append_eq_nil_iff.1 aZ.symm).1
   obtain⟨bJ,-⟩|⟨t2,aV,bu,rfl,be⟩:=F
   .exact absurd (by simpa[Z,zN]using bJ) bf
   rw[pQ]at ab;have F:aL [27,76] aR 2 1 (Z<|zN b)<|.ms t2 aV b.length:=aj ⟨t2,aV,bu,by rw[pQ],be⟩;simp only[V,ab,ak,a1,h_,aH,go_sem];refine GK.cM (eC.eS (S:=[27,76]) (aq:=Z<|zN b) (bD:=Z [(x:Int)]) aT ((Pa)<|F.aA bF) (iI _) hF Zs nT (by rw[fm,fm,kv];simp;omega) N9 λa5 a2 bK X bd=>?_);have bb:=bd 1101 Zd Zd;refine(ZN) ?_;refine gY ap ⟨C,bU,C,?_,?_⟩
   .rw[w];exact bb.trans (Yu aO)
   rw[w,CR];rw[<-o5]at X;simpa[aw,zN]using X.sub (S':=[27,76]) Zs
  have bq:j=A f.p:=by simp at B;omega
  subst bq;rw[dj Zo]at u;subst u;have bv:=o.next s M;refine(ad B) ?_;refine⟨⟨C,C,i+1,_,R,z,bU,AT,Ye ab,bU,ak,F,bv⟩,?_⟩;simp[aw,gJ i Zo];omega
 have bo:A l<=i:=Zo;have V:=o.fin bo;subst V;refine(ad B) ?_;refine GK.Uy 1100 8 (S:=[27,76]) (aq:=Z<|zN<|bA n e) (by simp only[aw,bT,bj,G];exact g) (λq=>o.m (by simpa[Z,zN]using q)) λbM bZ a_ bH bI=>GK.cM ?_;rw[pQ];refine(ad y) ?_;exact bg _ a_ z C (by simp[d_,iF,aw]) bH ((bI 1101 Zs Zd).trans az)
def KE{a:List Ag}(d:iS a){b:Nat}(i:b<A a):az 246 [.cp [cw a],I b]<|.tp [.sl 1<|Z<|zN<|bA a b,.sl 1<|Z<|kL (bA a b)<|A a]:=by
 obtain⟨k,h,j⟩:=Wm (H:=ma) (n0:=dY) (T:=[]) (N:=0) d i (aI:=nF aB [.tmp 4,.tmp 5]<|.tp [.sl 1<|Z<|zN<|bA a b,.sl 1<|Z<|kL (bA a b)<|A a]) λo l m _ e f g=>
  ⟨_,e,Fz.lT (Fz.aq f C C Zd (by rw[pQ]) (iI _) C (tM _))<|Fz.aq g C C Zd (by rw[fm,uz]) (iI _) C (tM _)⟩
 exact Sp.ey _ _ func246 h Zk ntmps246 C Zs j
def ahe{n:List Ag}(m:iS n)(t:am<A n){st:St}{dst:ON}{K:aU}
 (q:∀H x f h,H 1100=E ⟨f,2,1,ao<|Z<|zN<|bA n am,Q⟩->(∀e,e≠1100->e≠1101->H e=st.H e)->K ({st with H:=H,n:=x}.put dst<|.tp [.ms 1100 f<|A<|bA n am,.ms 1101 h<|A n])):
 er aB st 246 [.cp [cw n],I am] dst K:=by
 obtain⟨y,s,u⟩:=Wm (H:=b5 [1100,1101] st.H) (n0:=st.n) (T:=st.T) (N:=st.N) m t (aI:=nD aB [.tmp 4,.tmp 5] λd H n T=>In [1100,1101] d/\T=st.T/\(∀e∈[1100,1101],∀i,H e=E i->∀d∈i.cells,In [1100,1101] d)/\K ({st with H:=iD [1100,1101] [1100,1101] st.H H,n:=n}.put dst d)) λz f h r o k p=>by
  refine⟨_,o,.tp λw d a=>?_,r,λe l i g d a=>?_,q _ _ f h ((vH Zs).trans k) λe j b=>xw (by simp[j,b]) (by simp[j,b])⟩
  .match w,a with
   |0,a=>cases a;exact .ms _ _ Zs
   |1,a=>cases a;exact .ms _ _ Zs
  simp only[cF,dt,gD]at l;obtain rfl|rfl:=l
  .rw[k]at g;cases g;exact(nW _ d a).bB
  rw[p]at g;cases g;exact(nW _ d a).bB
 exact A1 _ _ _ func246 s Zk ntmps246 C Zs u
def qB(l:ax)(ps:List Pt):IL:=ps.flatMap λp=>[(l.idxOf p.1.toNat:Int),p.2]
def wS(l:ax)(a:Ag):IL:=[a.k,a.l,a.v,(A a.d:Int)]++a.d++qB l a.p
def o9(n:List Ag)(l m:List Nat):List Int:=m.flatMap λk=>match n[k]? with
 |some a=>wS l a
 |none=>[]
def Jn(b:List Ag)(a:ax):o9 b a a=eN b a:=rfl
def Rf{l m:ax}(a:am<A g0):o9 g0 l (m++[am])=o9 g0 l m++wS l g0[am]:=by simp[o9,a]
theorem Jp(d:ax)(a:List Pt):A (qB d a)=2*A a:=by
 induction a with
 |nil=>rfl
 |cons e a b=>simp only[qB,tq,b9,dC,gR]at b⊢;omega
def Rg(a:ax)(d:List Pt)(b:Pt):qB a (d++[b])=qB a d++[(a.idxOf b.1.toNat:Int),b.2]:=by simp[qB]
theorem Yz{a:Ag}(b:A a.d<=4/\A a.p<=4/\1<=A a.p):A (wS gt a)<=16:=by(grind [wS,List.length_append,Jp,List.length_cons])
theorem Jo(e:fK g0)(d a:ax):A (o9 g0 d a)<=16*A a:=by
 induction a with
 |nil=>simp[o9]
 |cons g a i=>
  have h:A (match g0[g]? with|some b=>wS d b|none=>([]:IL))<=16:=by
   split
   .rename_i b f;exact Yz (e b<|fE f)
   simp
  grind [o9,List.length_cons]
structure lZ (n:List Ag) (l:List Nat):Prop where
 nd:l.Nodup
 lt:∀x∈l,x<A n
 nb:∀x∈l,∀y∈fH n x,y∈l
def lZ.qY(a:iS g0)(b:am<A g0):lZ g0<|bA g0 am:=⟨(kO a.sym b).1,(kO a.sym b).2.1,(kO a.sym b).2.2.1⟩
def lZ.len(a:lZ g0 gt):A gt<=A g0:=zA a.nd a.lt
theorem lZ.port(g:iS g0)(h:lZ g0 gt){a:Nat}(b:a∈gt){j:Nat}(f:j<A (g0[a]'(h.lt a b)).p):∃d:Nat,((g0[a]'(h.lt a b)).p[j]).1=d/\d∈gt/\d<A g0:=by
 have e:=(g.nn _ (aD<|h.lt a b) _<|aD f);refine⟨((g0[a]'(h.lt a b)).p[j]).1.toNat,Zo,h.nb a b _ ?_,e.2⟩
 grind [KY,List.getElem_mem]
theorem UE(a:gt.Nodup)(b:am<A gt):gt[am]∉Y am gt:=λd=>by
 grind [List.mem_iff_getElem,pairwise_iff_getElem]
def uA(g:Nat)(l:ax):Ob:=⟨g,0,1,(cz<|A l).map λ(i:Nat)=>I (i:Int),E<|l.map kI⟩
def Va(a:Nat)(l:ax)(d b:Nat)(e:A l=b):(⟨a,0,1,((cz<|A l).map λ(f:Nat)=>I (f:Int))++[I (b:Int)],E<|l.map kI++[.int .i64 (d:Int)]⟩:Ob)=uA a (l++[d]):=by
 subst e;simp[uA,kI,wv]
theorem U_(b:am∈gt):((cz<|A gt).map λ(a:Nat)=>I (a:Int))[gt.idxOf am]?=E (I (gt.idxOf am:Int)):=cq
def Y_{n:List Ag}(D:iS n){l:ax}(B:lZ n l):gE aB 275 [.cp [cw n],.sl 1<|Z<|zN l] 2 1<|Z<|eN n l:=by
 have L:cE aB 110=E (2,1,8):=Zk;have a6:A (n.map cr)=A n:=Zs;have ap:=kv l;have ao:(cb==cb)=W:=C;have a7:=B.len;have a9:=D.len;refine gE.ey [1000050,1000054,1000070] [.tmp 4] C C Zk Zt C Zs (nW _) ?_;simp only[cw,ap,go_sem];refine fG 17 (A l) (λa=>Fw.fF 74 [(0,.cp [.sl 5<|n.map cr]),(1,.sl 1<|Z<|zN l),(5,.mp 14 0),(15,.sl 1<|Z<|zN l),(16,I<|A l)] λg e u w=>e 14=E (uA 0<|Y a l)) C
  ⟨C,ow,by simp[ai,uA]⟩ ?_
 refine λa g e u w aH aQ f=>ZS (λb=>?_) λb=>?_
 .have i:a<A l:=by simpa using b
  have M:=pP l a i;have P:kp (.int .i64) (.int .i64 (l[a]:Int)) ((Y a l).map kI)=E Q:=EY<|UE B.nd i;have f:e 14=E ⟨0,0,1,(cz<|A<|Y a l).map λ(o:Nat)=>I (o:Int),E<|(Y a l).map kI⟩:=f;simp only[b,M,f,ao,P,go_sem];refine⟨Zs,gY i ⟨C,bU,?_⟩⟩;rw[dm i,<-Va 0 (Y a l) l[a] a ch];simp[ai]
 obtain rfl:a=A l:=Ys b;rw[cc]at f;have f:e 14=E ⟨0,0,1,(cz<|A l).map λ(o:Nat)=>I (o:Int),E<|l.map kI⟩:=f;refine(ad<|JJ b ap) ?_;refine lp 28 (A l) [0,5,26,27] (λa g e u w=>e 14=E (uA 0 l)/\aL [50,54,70] e 2 1 (Z<|o9 n l<|Y a l) (g 8)) ⟨f,by simpa[aw,o9,Z]using aL.nil⟩ ?_;rintro a g e u w aH aQ⟨f,s⟩;generalize K:g 8=a2;rw[K]at s;refine ZS (λb=>?_) λb=>?_
 rotate_left 1
 .have aR:a=A l:=by simp at b;omega
  subst aR;rw[cc,Jn]at s;refine(ad<|JJ b K) ?_;exact aL.close s
 have i:a<A l:=Yq b;have M:=pP l a i;have ar:=aD i;have V:=B.lt _ ar;have O:=vJ n l[a] V;have bb:((l[a]:Int)<(A n:Int))=True:=dM Zo;have R:=λj an=>B.port D ar (j:=j) an;have rU:=D.sz _<|aD V;have F:=Rf (l:=l) (m:=Y a l) V;rw[<-dm i]at F;have aO:=Jo D.sz l<|Y a l;have ba:A (Y a l)<=600:=co;generalize aM:o9 n l (Y a l)=X;generalize aN:n[l[a]]=aI;simp only[aN]at O R rU F;rw[aM]at s F aO;have⟨x,y,z,k,d⟩:=aI;simp only[cr]at O R rU;have f:e 14=E ⟨0,0,1,(cz<|A l).map λ(o:Nat)=>I (o:Int),E<|l.map kI⟩:=f;simp only[b,M,O,K,bm,go_sem];refine GK.cM (eC.eS (S:=[50,54,70]) (aq:=Z X) (bD:=Z [x,y,z,(A k:Int)]) L ((Pa)<|s.aA bF) (iI _) hF Zs nT Ig Ih λah aT bf av al=>?_);rw[<-o5]at av;have aa:=al 11 Zd Zd;have aF:=al 14 Zd Zd;simp only[a_,bN,dG,bj,dv,f]at aa aF;refine(ad aa) ?_;refine GK.u5 (S:=[50,54,70]) (aq:=Z<|X++[x,y,z,(A k:Int)]) (bD:=Z k) Zd L ((Pa)<|av.sub Zs) (iI _) qu (λq=>DX) nT DV DW λa4 bd bg p r ay am=>?_;rw[<-o5]at ay;have aU:p 0=.cp [.sl 5<|n.map cr]:=(r 0 Zd).trans fR;have aZ:p 5=.mp 14 0:=(r 5 Zd).trans fR;have aV:p 11=.rf 11 (u 11) 0:=(r 11 Zd).trans fR;have aW:p 26=.sl 1 (Z<|zN l):=(r 26 Zd).trans fR;have aX:p 27=I (A l):=(r 27 Zd).trans fR;have aY:p 28=I a:=(r 28 Zd).trans fR;have a0:=(am 11 Zd Zd).trans aa;have a1:=(am 14 Zd Zd).trans aF;simp only[aV,a0,p_,go_sem];refine fG 58 (A d) (λj=>Fw.fF 74 [(0,.cp [.sl 5<|n.map cr]),(5,.mp 14 0),(26,.sl 1<|Z<|zN l),(27,I<|A l),(28,I a),(56,.sl 2<|b3 d),(57,I<|A d)] λg e u w=>e 14=E (uA 0 l)/\aL [50,54,70] e 2 1 (Z<|X++[x,y,z,(A k:Int)]++k++qB l (Y j d)) (g 8)) C
  ⟨C,by simp[aw,aU,aZ,aW,aX,aY],a1,by simpa[aw,qB]using ay.sub Zs⟩ ?_
 rintro j g ah aT T2 a5 an⟨t,J⟩;generalize ab:g 8=a2;rw[ab]at J;refine ZS (λb=>?_) λb=>?_
 .have G:j<A d:=by simpa using b
  have ak:=zE d j G;obtain⟨ae,az,aC,-⟩:=R j G;have a8:=Jp l<|Y j d;have U:=Rg l (Y j d) d[j];rw[<-dm G]at U;simp only[az,q_]at U;have P:kp (.int .i64) (.int .i64 (ae:Int)) (l.map kI)=E (E<|l.idxOf ae):=EZ aC;have aS:=U_ aC;have t:ah 14=E ⟨0,0,1,(cz<|A l).map λ(o:Nat)=>I (o:Int),E<|l.map kI⟩:=t;have a':A (Y j d)<=4:=co;simp only[az]at ak;simp only[b,ak,ab,t,ao,P,aS,go_sem];refine GK.cM (eC.eS (S:=[50,54,70]) (aq:=Z<|X++[x,y,z,(A k:Int)]++k++qB l (Y j d)) (bD:=Z [(l.idxOf ae:Int),d[j].2]) L ((Pa)<|J.aA bF) (iI _) hF Zs nT DV DW λa3 bc be au aK=>?_);rw[<-o5,dy,<-U]at au;have aJ:=aK 14 Zd Zd;refine(ZN) ?_;exact gY G ⟨C,bU,aJ.trans (by simp[ai,t,uA]),by simpa[aw]using au.sub (S':=[50,54,70]) Zs⟩
 have aP:j=A d:=by simp at b;omega
 subst aP;rw[cc]at J;refine(ad b) ?_;refine dI ⟨t,?_⟩;rw[F];simpa[aw,ab,wS]using J
theorem Kw(a:IL)(i:A a<=1000000):gE aB 111 [.sl 1<|Z a] 2 1<|Z a:=by
 have d:cE aB 110=E (2,1,8):=Zk;refine gE.ey [1000005] [.tmp 2] C C Zk Zt C Zs (nW _)<|(ZN)<|GK.u5 (S:=[3]) (aq:=[]) (bD:=Z a) Zd d (by simp only[aw,bx,bT,bj];exact aj ⟨3,0,Zs,C,ep⟩) Zs qu (λe=>Ye e) nT cq (by rw[fm];unfold aE;simp;omega) λf l m g k b j=>(ZN) ?_;rw[aY]at b;exact aL.close b
theorem Vg(a B:IL)(b d:Int){k:Nat}(e:a.length=k):Y k ((a++b::B).map I)++[I d]++((a++b::B).map I).drop (k+1)=(a++d::B).map I:=by
 subst e;have f:a++b::B=(a++[b])++B:=Zs
 grind [drop_left']
def SG(a B:IL)(b:Int){k:Nat}(d:a.length=k):((a++b::B).map I)[k]?=E (I b):=by subst d;simp
def ac5(l:IL)(aJ:A l<=1000000):gE aB 286 [.sl 1<|Z l] 2 1<|Z<|r_ l:=by
 have aK:=Kw l aJ;refine gE.ey [] [.tmp 2] C C Zk Zt C Zs (nW _)<|(ZN)<|tS 2 1 _ aK (by simp only[aY,de,dg,kg];exact nq l) ?_;intro aX a3 aW aN a0;refine(ZN)<|l' (λf=>f.nt=50/\∃(i:Nat)(a:IL)(s:D),1<=i/\f.env 4=I i/\f.env 3=s/\aL [8] f.H 2 1 (Z a) s/\a.Perm l/\qp (a.take i))
  (λf=>match f.env 4 with|.sc (.int _ U)=>A l-U.toNat|_=>0) ⟨C,1,l,aW,Zo,bU,bU,aN,.refl _,?_⟩ ?_
 .obtain _|⟨u,l⟩:=l<;>simp[qp]
 rintro⟨aA,ap,aP,aQ,ar,aq⟩⟨rfl,i,a,s,aZ,m,g,R,M,O⟩;simp only at m g R;have aF:=M.length_eq;by_cases ab:a=[]
 .subst ab;have x:l=[]:=Yq aF.symm;subst x;obtain⟨-,rfl⟩|⟨aV,aD,aM,rfl,j⟩:=R
  .refine(ad<|JJ m g) ?_;have f1:ah ((i:Int)<0)=af:=Zs;exact(ad<|JJ f1 g)<|aL.close (S:=[]) (by simpa[r_]using aL.nil)
  refine(ad<|JJ m g) ?_;have f1:ah ((i:Int)<0)=af:=Zs;simp only[gR,Int.ofNat_zero,f1,g,go_sem];exact aL.close (S:=[8]) (by simpa[r_]using .inr ⟨aV,aD,aM,C,j⟩)
 obtain⟨p,rfl,j⟩:=eG R<|Yq ab;rw[fm]at g;rw[ox]at j;refine dN (JJ m g) (λa2=>?_) λr=>?_
 rotate_left 1
 .have aI:a.length<=i:=Zo;rw[dj aI]at O;refine(ad<|JJ r g) ?_;rw[VW O M];exact aL.close (S:=[8])<|aj ⟨8,p,Zs,by rw[fm],by rw[ox];exact j⟩
 simp only[m,go_sem];refine l' (λf=>f.nt=50/\f.env 4=I i/\f.env 3=.ms 8 p a.length/\∃(P S:IL),f.env 5=I (A P)/\A P+A S=i/\f.H 8=E ⟨p,2,1,(P++a[i]::(S++a.drop (i+1))).map I,Q⟩/\(P++S).Perm (a.take i)/\qp (P++S)/\∀e∈S,a[i]<e)
  (λf=>match f.env 5 with|.sc (.int _ U)=>U.toNat|_=>0) ⟨C,Ye m,Ye g,a.take i,[],rn,co,Yq j,Zs,Yq O,Zs⟩ ?_
 rintro⟨aA,ap,aP,aQ,ar,aq⟩⟨rfl,m,g,P,S,z,B,j,al,o,ae⟩;simp only at m g z j;have a1:A P+1+A S+(a.length-(i+1))=a.length:=Zo;have aC (f:St) (w:f.H 8=E ⟨p,2,1,(P++a[i]::(S++a.drop (i+1))).map I,Q⟩) (am:(∀e∈P,e<=a[i])):∃t:IL,aL [8] f.H 2 1 (Z t) (.ms 8 p a.length)/\t.Perm l/\qp (t.take<|i+1):=by
  refine⟨P++a[i]::(S++a.drop (i+1)),aj ⟨8,p,Zs,by rw[fm];simp;omega,by rw[ox];exact w⟩,?_,?_⟩
  .refine List.Perm.trans ?_ M;have az:a=a.take i++a[i]::a.drop (i+1):=Zs
   conv=>rhs;rw[az]
   have x:(P++a[i]::(S++a.drop (i+1))).Perm (a[i]::((P++S)++a.drop (i+1))):=by rw[dy];exact wu
   exact x.trans<|((al.append_right _).cons _).trans wu.symm
  have x:Y (i+1) (P++a[i]::(S++a.drop (i+1)))=P++a[i]::S:=by
   rw[show P++a[i]::(S++a.drop (i+1))=(P++a[i]::S)++a.drop (i+1)by simp,take_left' ch]
  rw[x];unfold qp at o⊢;rw[x8]at o⊢;refine⟨o.1,Db.2 ⟨λe aO=>Int.le_of_lt<|ae e aO,o.2.1⟩,λu ak b L=>?_⟩;obtain rfl|L:=cF.1 L
  .exact am u ak
  exact o.2.2 u ak b L
 have an:∀f:St,f.nt=50->f.env 4=I (i+1:Nat)->f.env 3=.ms 8 p a.length->f.H 8=E ⟨p,2,1,(P++a[i]::(S++a.drop (i+1))).map I,Q⟩->(∀e∈P,e<=a[i])->
  (f.nt=50/\∃(i:Nat)(a:IL)(s:D),1<=i/\f.env 4=I i/\f.env 3=s/\aL [8] f.H 2 1 (Z a) s/\a.Perm l/\qp (a.take i)):=λf u b ax d ay=>by
  have⟨t,aR,aS,aT⟩:=aC f d ay;exact⟨u,i+1,t,_,Zo,b,ax,aR,aS,aT⟩
 obtain rfl|⟨P,e,rfl⟩:=(show P=[]\/∃G e,P=G++[e]from by rcases eq_nil_or_concat P with w|⟨G,e,w⟩;exact aG w;exact aj ⟨G,e,Yq w⟩)
 .have f1:ah (((0:Nat):Int)>0)=af:=Zs;simp only[go_sem];refine fB ?_;simp only[z,m,gR,f1,go_sem];refine⟨an _ C AT (Ye g) j Zs,?_⟩;simp[aw,gJ i Zo];omega
 have f1:ah ((A (P++[e]):Int)>0)=W:=Zs;have f2:cb.wrap ((A (P++[e]):Int)-1)=(A P:Int):=by
  rw[b9,oW,Mz];exact(dE _<|Ys B).trans Zo
 have K:P++[e]++a[i]::(S++a.drop (i+1))=P++e::(a[i]::(S++a.drop (i+1))):=Zs;have aa:=SG P (a[i]::(S++a.drop (i+1))) e C;have J:=SG (P++[e]) (S++a.drop (i+1)) a[i] (k:=A<|P++[e]) C;rw[K]at J j;have V:((A P:Int)<(a.length:Int))=True:=dM<|Ys B;have X:((A (P++[e]):Int)<(a.length:Int))=True:=dM (by simp at B⊢;omega);simp only[go_sem];refine fB ?_;simp only[z,g,f1,f2,j,V,X,h_,mn,aa,J,go_sem];have am:e<=a[i]\/a[i]<e:=Zo;refine fx (λr=>?_) λr=>?_
 rotate_left 1
 .have F:e<=a[i]:=by simp at r;exact r
  rw[<-K]at j;have aH y (hw:y∈P++[e]):y<=a[i]:=by
   obtain q|q:=ca.1 hw
   .unfold qp at o;rw[dy,x8]at o;exact Int.le_trans (o.2.2 y q e Zs) F
   simp at q;subst q;exact F
  refine(ad<|JJ r m) ?_;refine⟨an _ C AT (Ye g) j aH,?_⟩;simp[aw,gJ i Zo];omega
 have F:a[i]<e:=Yq r;have ao:=Vg (P++[e]) (S++a.drop (i+1)) a[i] e (k:=A<|P++[e]) C;rw[K,show P++[e]++e::(S++a.drop (i+1))=P++e::(e::(S++a.drop (i+1)))by simp]at ao;have aU:=Vg P (e::(S++a.drop (i+1))) e a[i] C;have au:A (P++[e])+1<=A (P++e::a[i]::(S++a.drop (i+1))):=co;have av:A P+1<=A (P++e::e::(S++a.drop (i+1))):=Zs;simp only[r,z,g,f2,j,V,X,h_,mn,aa,J,ao,aU,au,av,go_sem];refine⟨⟨C,Ye m,Ye g,P,e::S,Ye f2,by simp at B⊢;omega,ep,by simpa using al,by simpa using o,?_⟩,?_⟩
 .intro y hw;obtain rfl|hw:=cF.1 hw
  .exact F
  exact ae y hw
 simp[aw,f2]
section
open Go.Shelf Go.RowKit Go.Lib Go.Sort
def XO{B:hC}(a:(((g3.funcs[g5]?).map (·.name)).getD ""== "runtime.NumGoroutine")=af)(b:g3.funcs[g5]?=E {B with name:=((g3.funcs[g5]?).map (·.name)).getD ""}):Go.Proofs.Bears g3 g5 B:=⟨_,a,b⟩
def kn:List Int->List Int->Int
 |[],[]=>0
 |[],_::_=>-1
 |_::_,[]=>1
 |a::l,b::m=>if a=b then kn l m else if a<b then-1 else 1
theorem Y8{a b:IL}{k:Nat}(e:k<A a)(f:k<A b)(d:a.getD k 0=b.getD k 0):kn (a.drop k) (b.drop k)=kn (a.drop<|k+1) (b.drop<|k+1):=by
 grind [List.drop_eq_getElem_cons,kn]
def Y7{b d:IL}{a:Nat}(f:a<A b)(g:a<A d)(e:b.getD a 0≠d.getD a 0):kn (b.drop a) (d.drop a)=Lib.compareInt (b.getD a 0) (d.getD a 0):=by
 rw[ml f,ml g,kn];simp[f,g]at e⊢;rw[aC e,Lib.compareInt]
 (repeat' split)<;>first|rfl|omega
def Y5{a:IL}(b:am<A If)(d:A a<=am):kn (If.drop am) (a.drop am)=1:=by
 rw[ml b,ME d,kn]
theorem Y6{a b:IL}(d:A a<=A b):kn (a.drop<|A a) (b.drop<|A a)=if A a<A b then-1 else 0:=by
 grind [List.drop_length,List.drop_eq_getElem_cons,kn]
end
def ac1{n:List Ag}(p:iS n)(ap:am<A n):az 248 [.cp [cw n],I am]<|.sl 1<|Z<|eN n<|bA n am:=by
 have G:cE aB 110=E (2,1,8):=Zk;have R:=KE p ap;have kJ:Cl<|.cp [cw n]:=Cl.eT ((Pb)<|oa n);have w:=lZ.qY p ap;obtain⟨l,aW⟩:=Zx<|bA n am;rw[aW]at R w⊢;have a9:A (n.map cr)=A n:=Zs;have aX:=kv l;have a_:=w.len;have bb:=p.len;have a0:=uz l<|A n;have aZ:cw n=.sl 5 (n.map cr):=C;rw[aZ]at R kJ⊢;refine(ia [1000058] [.tmp 4]) ?_;refine bR _ R uY ?_;refine(ZN) ?_;refine fG 8 (A l) (λa=>Fw.fF 91 [(0,.cp [.sl 5<|n.map cr]),(5,.sl 1<|Z<|zN l),(6,.sl 1<|Z<|kL l<|A n)] λenv t ax ak=>aL [17,52,58,89] t 2 1 (Z<|o9 n l<|Y a l)<|env 7) C
  ⟨C,ow,aj ⟨17,_,Zs,by simp[aw,o9];rfl,by simp[ai,o9]⟩⟩ ?_
 rintro a env t ax ak a6 a' r;generalize u:env 7=a3;rw[u]at r;refine lm aX (λe=>?_) λe=>?_
 rotate_left 1
 .have aV:a=A l:=by simp at e;omega
  subst aV;rw[cc,Jn]at r;refine(ad<|JJ e u) ?_;exact r.fz Zd (iI _)<|tM _
 have y:a<A l:=Yq e;have aO:=pP l a y;have ao:=aD y;have ab:=w.lt _ ao;have K:=vJ n l[a] ab;have bf:((l[a]:Int)<(A n:Int))=True:=dM Zo;have M:=λj an=>w.port p ao (j:=j) an;have rU:=p.sz _<|aD ab;have z:=Rf (l:=l) (m:=Y a l) ab;rw[<-dm y]at z;have aT:=Jo p.sz l<|Y a l;have be:A (Y a l)<=600:=co;generalize aR:o9 n l (Y a l)=X;generalize aS:n[l[a]]=aN;simp only[aS]at K M rU z;rw[aR]at r z aT;obtain⟨f,g,i,d,b⟩:=aN;simp only[cr]at K M rU;refine(fQ e) ?_;simp only[aO,K,bm,go_sem];refine(uZ<|JJ u @jt) ?_;refine js (S:=[17,52,58,89]) (aq:=Z X) (bD:=Z [f,g,i,(A d:Int)]) Zs G ((Pa)<|r.aA bF) (iI _) hF Zs nT Ig Ih (by show 52<91;decide) λaK a2 bl U aP=>?_;rw[<-o5]at U;refine(ZN) ?_;refine GK.u5 (S:=[17,52,58,89]) (aq:=Z<|X++[f,g,i,(A d:Int)]) (bD:=Z d) Zd G ((Pa)<|U.sub Zs) (iI _) qu (λq=>DX) nT DV DW λa5 bi bn s o V aQ=>?_;rw[<-o5]at V;have ay:s 0=.cp [.sl 5<|n.map cr]:=(o 0 Zd).trans fR;have aC:s 5=.sl 1 (Z<|zN l):=(o 5 Zd).trans fR;have aF:s 6=.sl 1 (Z<|kL l<|A n):=(o 6 Zd).trans fR;have aH:s 8=I a:=(o 8 Zd).trans fR;have aI:s 9=.cp [I f,I g,I i,bm d,.sl 2<|b3 b]:=(o 9 Zd).trans (by simp[aw,bm]);refine(ZN) ?_;refine fG 10 (A b) (λj=>Fw.fF 91 [(0,.cp [.sl 5<|n.map cr]),(5,.sl 1<|Z<|zN l),(6,.sl 1<|Z<|kL l<|A n),(8,I a),(9,.cp [I f,I g,I i,bm d,.sl 2<|b3 b])] λenv t ax ak=>aL [17,52,58,89] t 2 1 (Z<|X++[f,g,i,(A d:Int)]++d++qB l (Y j b))<|env 7) C
  ⟨C,by simp[aw,ay,aC,aF,aH,aI],by simpa[aw,qB]using V.sub Zs⟩ ?_
 clear r U V aP aQ o ay aC aF aH aI e u;rintro j env aK a2 T2 a7 an D;generalize ah:env 7=a3;rw[ah]at D;refine dN @p_ (λB=>?_) λe=>?_
 .have al:=zE b j B;obtain⟨F,au,a1,av⟩:=M j B;have ba:=Jp l<|Y j b;have P:=Rg l (Y j b) b[j];rw[<-dm B]at P;simp only[au,q_]at P;have aU:(Z<|kL l<|A n)[F]?=E [I (l.idxOf F:Int)]:=by
   rw[yE _ _<|(Yy a0) av,Lo _ _ _ av,aM a1]
  have bg:((F:Int)<(A n:Int))=True:=dM Zo;have bd:A (Y j b)<=4:=co;simp only[au]at al;refine(uZ<|JJ al<|JJ ah<|JJ aU @jt) ?_;refine js (S:=[17,52,58,89]) (aq:=Z<|X++[f,g,i,(A d:Int)]++d++qB l (Y j b)) (bD:=Z [(l.idxOf F:Int),b[j].2]) Zs G ((Pa)<|D.aA bF) (iI _) hF Zs nT DV DW (by show 89<91;decide) λa4 bh bk ar a8=>?_;rw[<-o5,dy,<-P]at ar;refine(ZN) ?_;exact gY B ⟨C,bU,by simpa[aw]using ar.sub (S':=[17,52,58,89]) Zs⟩
 obtain rfl:j=A b:=Zo;rw[cc]at D;refine(ad e) ?_;refine gY y ⟨C,bU,?_⟩;rw[z];simpa[aw,ah,wS]using D
theorem VZ(d:ax):(mR d).Pairwise (·<=·):=by
 have f:=MR (le:=λa b:Nat=>ah<|a<=b) (λa b g h i=>by simp at*;omega) (λa b=>co) d;exact f.imp λe=>Yq e
theorem VX(a:ax):r_ (zN a)=zN (mR a):=by
 refine VW ?_ ?_
 .grind [qp,zN,VZ]
 exact(sa a).map _
def GH(a:ax):A (mR a)=A a:=(sa a).length_eq
def l5(m:Nat)(f:Nat->Bool):DL:=(cz m).map λk=>D.sc<|.bool<|f k
def QW(a:Nat)(b:Nat->Bool):A (l5 a b)=a:=by simp[l5]
def u7(f:Nat->Bool)(a:a0<am):(l5 am f)[a0]?=E (.sc<|.bool<|f a0):=by simp[l5,a]
def I_{m b:Nat}(e:Nat->Bool)(h:b<m):Y b (l5 m e)++[.sc<|.bool W]++(l5 m e).drop (b+1)=l5 m λa=>e a||ah (a=b):=by
 refine CY λa=>?_;rw[dy,getElem?_append,ij,QW,wx Zo];by_cases d:a<b
 .rw[aM d,getElem?_take_of_lt d,u7 _ Zo,u7 _ Zo];simp[show¬a=b by omega]
 rw[aC d];by_cases f:a=b
 .subst f;rw[u7 _ h];simp
 rw[kR ch,An,oW,show b+1+(a-b-1)=a by omega];by_cases g:a<m
 .rw[u7 _ g,u7 _ g];simp[f]
 rw[sq AL,sq AL]
def QX(a:Nat):fu a (D.sc<|.bool af)=l5 a λ_=>af:=by simp[l5,map_const']
def iP(n:List Ag)(l:ax):cB:=l.map λs=>[.sl 1<|Z<|zN<|mR<|bA n s]
def Lq(b:List Ag)(a:ax):∀r∈iP b a,A r=1:=by simp[iP]
theorem aeW(e:List Ag)(b:ax):∀r∈iP e b,∀d∈r,Cl d:=λr a d f=>by
 obtain⟨g,-,rfl⟩:=aP.1 a
 grind [nq]
def Ch(b:List Ag)(a:ax):A (iP b a)=A a:=by simp[iP]
def iL(n:List Ag)(i k:Nat):Bool:=(ea n i).any λs=>ah<|k∈bA n s
theorem LU(a:iL g0 am am=W):ea g0 (am+1)=ea g0 am:=by rw[ea];exact aM a
theorem GI{a:Nat}(b:iL g0 a a=af):ea g0 (a+1)=ea g0 a++[a]:=by(grind [ea,iL])
theorem xK(a:List Ag):∀i,A (ea a i)<=i
 |0=>by simp[ea]
 |i+1=>by
  have:=xK a i
  grind [iL,GI,LU]
open Classical
def components{n:List Ag}(g:iS n):az 218 [.cp [cw n]]<|.sl 1<|iP n<|ea n<|A n:=by
 have R:cE aB 322=E (110,1,24):=Zk;have aV:=g.len;have ak:A (n.map cr)=A n:=Zs;have kJ:Cl<|.cp [cw n]:=Cl.eT ((Pb)<|oa n);have J:=λaK(ax:aK<A n)=>L' g ax;have B:cw n=.sl 5 (n.map cr):=C;rw[B]at kJ⊢;simp only[B]at J;refine(wB ak [1000044,1000045] [.tmp 2]) ?_;have aI:ao (fu (A n) [D.sc<|.bool af])=l5 (A n) (iL n 0):=Pw;refine⟨⟨Zo,Zo⟩,lp 20 (A n) [0,4,19] (λi d b L w=>b 14=E ⟨0,4,1,l5 (A n)<|iL n i,Q⟩/\aL [45] b 110 1 (iP n<|ea n i) (d 3)) ⟨by simp[ai,aI],by simpa[aw,iP,ea]using aL.nil⟩ ?_⟩;rintro i d b L w aP aS⟨e,hx⟩;generalize e3:d 3=aM;rw[e3]at hx;refine ZS (λhc=>?_) λhc=>?_
 rotate_left 1
 .exact P1
 have l:i<A n:=Yq hc;have ap:((i:Int)<(A n:Int))=True:=dM Zo;have aa:=u7 (iL n i) l;simp only[e,ap,h_,mn,aa,go_sem];cases hd:iL n i i
 rotate_left 1
 .have q:iL n (i+1)=iL n i:=by funext k;simp only[iL,LU hd]
  refine(ZN) ?_;exact dI ⟨(Yy q) e,by rw[LU hd];simpa[aw,e3]using hx⟩
 have r:bA n i≠[]:=λP=>by have o:=(kO g.sym l).2.2.2;rw[P]at o;cases o
 have z:=(kO g.sym l).2.1;have I:=J i l;have au:=(lZ.qY g l).len;have q k:iL n (i+1) k=(iL n i k||ah (k∈bA n i)):=OA;generalize f:bA n i=t;have av:iP n (ea n<|i+1)=iP n (ea n i)++[[.sl 1<|Z<|zN<|mR t]]:=by rw[GI hd,iP,bX,b4,f];rfl
 rw[f]at r z I au;simp only[f]at q;refine(ZN)<|tS 2 1 _ I uY λM aW a0 aF x=>?_;have s:=(x 14 Zd).trans e;have u:=hx.aA (H':=M) λt f=>x t<|Ys f;obtain⟨p,rfl,j⟩:=eG aF (by simpa[Z,zN]using r);rw[pQ];refine(ZN)<|lp 32 (A t) [0,4,5,6,19,20,30,31] (λa d b L w=>b 29=E ⟨p,2,1,ao<|Z<|zN t,Q⟩/\b 14=E ⟨0,4,1,l5 (A n) λk=>iL n i k||ah (k∈Y a t),Q⟩/\aL [45] b 110 1 (iP n<|ea n i) (d 3)) ⟨j,Yq s,by simpa[aw,e3]using u⟩ ?_;rintro a d aN aX T3 aQ aU⟨j,e,hx⟩;generalize e3:d 3=aM;rw[e3]at hx;refine ZL (λzo=>?_) λhc=>?_
 .have ar:((a:Int)<(A t:Int))=True:=dM Zo;have ae:=IQ t a zo;have ay:=z _<|aD zo;have aC:((t[a]:Int)<(A n:Int))=True:=dM Zo;have F:=I_ (λk=>iL n i k||ah (k∈Y a t)) ay;have ab:t[a]+1<=A (l5 (A n) λk=>iL n i k||ah (k∈Y a t)):=AL;have am:(λk=>(iL n i k||ah (k∈Y a t))||ah (k=t[a]))=λk=>iL n i k||ah (k∈Y (a+1) t):=PY
  rw[am]at F;simp only[j,e,ar,aC,h_,mn,ae,F,ab,go_sem];exact dI ⟨Yu j,ep,by simpa[aw,e3]using hx.aA bF⟩
 obtain rfl:a=A t:=Zo;rw[cc,<-funext q]at e;refine(ad hc)<|Jg [29] [] (.ms 29 p<|A t) 2 1 _ _ _ (afJ (zN t) (by rw[kv];omega)) C (aj ⟨29,p,Zs,by rw[pQ],j⟩) Zs λO K y=>?_;rw[VX]at K;have s:=(y 14 Zd).trans e;have u:=hx.aA (H':=O) λt f=>y t (by simp at f⊢;omega);obtain⟨aJ,-⟩|⟨t4,aR,G,al,U⟩:=K
 .have o:mR t=[]:=by simpa[Z,zN]using aJ
  exact absurd (pI.1 (by rw[<-GH,o];rfl)) r
 simp only[dg]at G;subst G;injection al with _ an _
 subst an;refine(ZN)<|GK.Fc 43 (t:=29) (ob:=⟨p,2,1,ao<|Z<|zN<|mR t,Q⟩) (Z<|zN<|mR t) (by simp[aw,kv,GH]) U C (ya 0) C (iI _)<|(ZN)<|GK.cM (eC.eS (S:=[45]) (aq:=iP n<|ea n i) (bD:=[[.sl 1<|Z<|zN<|mR t]]) R (by simp only[aw,bx,bT,bj,e7,eQ,reduceCtorEq,e3];exact u.aA pN) (Lq _ _) hF Zs C (by rw[Ch];have o:=xK n i;simp;omega) Oy λaO aZ a1 aH X=>?_);have V:=X 14 Zd Zd;refine(ZN) ?_;refine dI ⟨V.trans (by simp[ai,aT,s]),?_⟩;rw[av];simpa[aw]using aH
def ac4{n:List Ag}(g:iS n):az 247 [.cp [cw n]]<|.sl 1<|iP n<|ea n<|A n:=by
 have z:cE aB 322=E (110,1,24):=Zk;have au:=g.len;have q:A (n.map cr)=A n:=Zs;have kJ:Cl<|.cp [cw n]:=Cl.eT ((Pb)<|oa n);have x:=λab(P:ab<A n)=>KE g P;have s:cw n=.sl 5 (n.map cr):=C;rw[s]at kJ⊢;simp only[s]at x;refine(wB q [1000051] [.tmp 2]) ?_;have X:ao (fu (A n) [D.sc<|.bool af])=l5 (A n) (iL n 0):=Pw;refine⟨⟨Zo,Zo⟩,lp 5 (A n) [0,4] (λi e f y p=>f 15=E ⟨0,4,1,l5 (A n)<|iL n i,Q⟩/\aL [9,51] f 110 1 (iP n<|ea n i) (e 3)) ⟨by simp[ai,X],aj ⟨9,_,Zs,by simp[aw,iP,ea];rfl,by simp[ai,iP,ea]⟩⟩ ?_⟩;rintro i e f y p am ap⟨d,hx⟩;generalize e3:e 3=ae;rw[e3]at hx;refine lm q (λhc=>?_) λhc=>?_
 rotate_left 1
 .exact P1
 have l:i<A n:=Yq hc;have L:((i:Int)<(A n:Int))=True:=dM Zo;have I:=u7 (iL n i) l;simp only[d,L,h_,mn,I,go_sem];cases hd:iL n i i
 rotate_left 1
 .have j:iL n (i+1)=iL n i:=by funext k;simp only[iL,LU hd]
  refine(ZN) ?_;exact dI ⟨(Yy j) d,by rw[LU hd];simpa[aw,e3]using hx⟩
 have r:=(kO g.sym l).2.1;have w:=x i l;have M:=(lZ.qY g l).len;have j:∀k,iL n (i+1) k=(iL n i k||ah (k∈bA n i)):=λk=>OA;generalize o:bA n i=a;have O:iP n (ea n<|i+1)=iP n (ea n i)++[[.sl 1<|Z<|zN<|mR a]]:=by rw[GI hd,iP,bX,b4,o];rfl
 rw[o]at r w M;simp only[o]at j;have u:=(ac5 (zN a) (by rw[kv];omega)).sp<|iI _;rw[VX]at u;have aa:=kv a;refine(ZN)<|bR _ w uY<|(ZN)<|lp 8 (A a) [0,4,5,6] (λb e f y p=>f 15=E ⟨0,4,1,l5 (A n) λk=>iL n i k||ah (k∈Y b a),Q⟩/\aL [9,51] f 110 1 (iP n<|ea n i) (e 3)) ⟨Yq d,by simpa[aw,e3]using hx⟩ ?_;clear hx d hc e3;rintro b e ak av T3 an ar⟨d,hx⟩;generalize e3:e 3=ae;rw[e3]at hx;refine dN aa (λzo=>?_) λhc=>?_
 .have B:=pP a b zo;have R:=r _<|aD zo;have U:((a[b]:Int)<(A n:Int))=True:=dM Zo;have t:=I_ (λk=>iL n i k||ah (k∈Y b a)) R;have J:a[b]+1<=A (l5 (A n) λk=>iL n i k||ah (k∈Y b a)):=AL;have K:(λk=>(iL n i k||ah (k∈Y b a))||ah (k=a[b]))=λk=>iL n i k||ah (k∈Y (b+1) a):=PY
  rw[K]at t;simp only[d,U,h_,B,t,J,go_sem];exact dI ⟨ep,by simpa[aw,e3]using hx.aA bF⟩
 obtain rfl:b=A a:=Zo;rw[cc,<-funext j]at d;refine(ad hc)<|bR _ u ((Pc)<|nq _)<|(ZN)<|GK.cM (eC.eS (S:=[9,51]) (aq:=iP n<|ea n i) (bD:=[[.sl 1<|Z<|zN<|mR a]]) z (by simp only[aw,bx,bT,bj,e7,eQ,reduceCtorEq,e3];exact hx.aA bF) (Lq _ _) hF Zs C (by rw[Ch];have:=xK n i;simp;omega) Oy λal ax ay V G=>?_);have F:=G 15 Zd Zd;refine(ZN) ?_;refine dI ⟨F.trans<|Yu d,?_⟩;rw[O];simpa[aw]using V.sub Zs
theorem TU(a b:IL)(u:A a<=1000000)(w:A b<=1000000):az 249 [.sl 1<|Z a,.sl 1<|Z b]<|B<|hM a b:=by
 have r:∀(k:Nat)(m:k<A a)(o:k<A b),hM (a.drop k) (b.drop k)=if a[k]=b[k]then hM (a.drop<|k+1) (b.drop<|k+1)else ah (a[k]<b[k]):=λk m o=>by(grind [List.drop_eq_getElem_cons,hM])
 have D:∀k,(A a<=k\/A b<=k)->hM (a.drop k) (b.drop k)=ah (k<A b/\A a<=k):=λk p=>by
  grind [List.drop_eq_getElem_cons,List.drop_of_length_le,hM]
 have q:=fm a;have z:=fm b;refine(dH) ?_;refine lp 5 (A a) [0,1] (λk _ _ _ _=>k<=A b/\hM a b=hM (a.drop k) (b.drop k)) Zs ?_;rintro k t s F _ _ p⟨y,l⟩;refine(ad q) ?_;by_cases f:k<A a
 rotate_left 1
 .have f1:ah ((k:Int)<(A a:Int))=af:=by simp;omega
  refine(ad f1) ?_;refine Fz.aK ?_;exact Zg
 have f1:ah ((k:Int)<(A a:Int))=W:=co;by_cases g:k<A b
 rotate_left 1
 .have f2:ah ((k:Int)<(A b:Int))=af:=by simp;omega
  refine(ad<|JJ f1 f2) ?_;refine Fz.aK ?_
  first|omega|grind
 have f2:ah ((k:Int)<(A b:Int))=W:=co;have i:=yE a k f;have j:=yE b k g;have d:=r k f g;refine(fQ<|JJ f1<|JJ f2<|JJ i j) ?_;by_cases e:a[k]=b[k]
 .have f3:(a[k] !=b[k])=af:=by simp[e]
  rw[aM e]at d;refine(ad f3) ?_;exact jW wC f ⟨C,bU,Zo,l.trans d⟩
 have f3:(a[k] !=b[k])=W:=by simp[e]
 rw[aC e]at d;refine(fQ<|JJ f3<|JJ i j) ?_;exact Fz.aK (by rw[l,d])
theorem BW(a:gx g0 ai4 ajm=W)(b:gx g0 ajm ajo=W):gx g0 ai4 ajo=W:=by
 grind [gx,KI]
theorem FZ(a:ai4.2≠ajm.2)(b:gx g0 ajm ai4=af):gx g0 ai4 ajm=W:=by
 grind [gx,Bool.or_eq_false_iff,Bool.and_eq_false_iff,KH]
def adz(b:List Ag)(a:Nat×Nat):gx b a a=af:=by simp[gx,FW]
def fV(n:List Ag):List<|Nat×Nat:=(dz n).mergeSort λx y=>!gx n y x
theorem Jl(a:nS g0):((dz g0).map (·.2)).Pairwise (·<·):=by
 have b:=(vU a (A g0)<|bJ _).Eg
 grind [dz,ea,tail_sublist]
def Gx{a:List Ag}(u:nS a):ym a<|fV a:=by
 have q:(fV a).Perm<|dz a:=Hl ..;refine⟨q,?_⟩;have s:(fV a).Pairwise λl m=>(!gx a m l)=W:=MR (λd b f e k=>by
  simp only[oV]at e k⊢;cases j:gx a f d
  .rfl
  .exfalso;by_cases o:b.2=f.2
   .by_cases p:eN a (bA a b.1)=eN a (bA a f.1)
    .have g:gx a b d=gx a f d:=by simp only[gx,o,p]
     rw[g,j]at e;cases e
    have i:gx a b f=W\/gx a f b=W:=by
     by_cases h:hM (eN a<|bA a b.1) (eN a<|bA a f.1)=W
     .exact aG (by simp[gx,h])
     by_cases r:hM (eN a<|bA a f.1) (eN a<|bA a b.1)=W
     .exact aj (by simp[gx,r])
     exact absurd (KH _ _ (Yq h)<|Yq r) p
    obtain i|i:=i
    .have g:=BW i j;rw[g]at e;cases e
    rw[i]at k;cases k
   have g:=BW (FZ o k) j;rw[g]at e;cases e) (λd b=>by
  cases j:gx a b d
  .simp
  cases h:gx a d b
  .simp
  exact absurd h λh=>KN j h) _
 have t:(fV a).Pairwise λl m=>l.2≠m.2:=by
  have g:=(Jl u).imp (S:=λd b=>d≠b) λe=>by omega
  rw[Aq]at g;exact(q.pairwise_iff λe=>uM e).2 g
 exact(s.and t).imp λ⟨d,b⟩=>FZ b<|Yq d
theorem V1{d:List Ag}(g:nS d){b:Nat}(f:b∈ea d (A d)):∃r,mR (bA d b)=b::r:=by
 have e:=vU g (A d)<|bJ _;have j:=(kO g<|e.lt b f).2.2.2;have l:=e.le b f;rcases i:mR (bA d b)with _|⟨a,r⟩
 .have h:=(sa<|bA d b).mem_iff (a:=b);rw[i]at h;simp[j]at h
 have k:a∈bA d b:=by(grind [sa,bA])
 grind [VZ,bA,mR,sa,pairwise_cons]
structure tF (n:List Ag) (l:List Nat):Prop where
 nd:l.Nodup
 lt:∀x∈l,x<A (dz n)
 pw:l.Pairwise λx y=>gx n ((dz n).getD x (0,0)) ((dz n).getD y (0,0))=W
 ft:∀x∈l,∀y,y<A (dz n)->y∉l->gx n ((dz n).getD x (0,0)) ((dz n).getD y (0,0))=W
theorem tF.nil(a:List Ag):tF a []:=⟨.nil,Zs,.nil,Zs⟩
theorem tF.add{a:List Ag}{l:ax}(d:tF a l){b:Nat}(m:b<A (dz a))(s:b∉l)(r:∀f,f<A (dz a)->f∉l->f≠b->gx a ((dz a).getD b (0,0)) ((dz a).getD f (0,0))=W):tF a<|l++[b]:=by
 refine⟨?_,?_,?_,?_⟩
 .rw[iQ];exact⟨d.nd,Zs,λj k c g t=>cq⟩
 .intro i h;obtain q|q:=ca.1 h
  .exact d.lt i q
  simp at q;subst q;exact m
 .rw[x8];exact⟨d.pw,Zs,λj k c g=>by simp at g;subst g;exact d.ft j k _ m s⟩
 intro i h p o e;simp only[ca,dg,lh]at e;obtain q|q:=ca.1 h
 .exact d.ft i q p o e.1
 simp at q;subst q;exact r p o e.1 e.2
def tF.fin{a:List Ag}(l:nS a){b:ax}(h:tF a b)(p:A b=A (dz a)):b.map (λe=>(dz a).getD e (0,0))=fV a:=by
 refine ym.ahC ⟨?_,by rw[Aq];exact h.pw⟩<|Gx l;have k:b.Perm<|cz<|A<|dz a:=by
  refine(MS h.nd nodup_range).2 λf=>⟨λd=>oo.2<|h.lt f d,λd=>?_⟩;have d:=oo.1 d;by_cases g:f∈b
  .exact g
  have m:A (f::b)<=A (dz a):=zA (lg.2 ⟨g,h.nd⟩) (by simpa[d]using h.lt);simp at m;omega
 have i:=k.map λe=>(dz a).getD e (0,0);refine i.trans<|.of_eq (lX Zs λe o j=>Yr j)
def ou(n:List Ag)(l:ax)(i:Nat)(x:Int):Prop:=(x=-1/\∀j,j<i->j∈l)\/∃b:Nat,x=b/\b<i/\b∉l/\∀j,j<i->j∉l->j≠b->gx n ((dz n).getD b (0,0)) ((dz n).getD j (0,0))=W
theorem ou.skip(d:ou g0 gt am a3)(k:am∈gt):ou g0 gt (am+1) a3:=by
 obtain⟨a,e⟩|⟨b,a,e,f,i⟩:=d
 .exact aG ⟨a,λh g=>cq⟩
 exact aj ⟨b,a,Zo,f,λh g l j=>cq⟩
def ou.first{a:Nat}(d:ou g0 gt a<|-1)(f:a∉gt):ou g0 gt (a+1) a:=by
 obtain⟨-,e⟩|⟨b,i,-⟩:=d
 .exact aj ⟨a,C,Zo,f,λh k g j=>absurd (e h Zo) g⟩
 omega
theorem ou.less{a:List Ag}{d b:Nat}(f:ou a gt d b)(h:d∉gt)(o:hM (eN a<|bA a ((dz a).getD d (0,0)).1) (eN a<|bA a ((dz a).getD b (0,0)).1)=W):ou a gt (d+1) d:=by
 obtain⟨g,-⟩|⟨e,g,i,j,k⟩:=f
 .omega
 obtain rfl:b=e:=Zo;have l:gx a ((dz a).getD d (0,0)) ((dz a).getD b (0,0))=W:=by(grind [gx])
 refine aj ⟨d,C,Zo,h,λr m p q=>?_⟩
 grind [BW]
def ou.keep{a:List Ag}(r:nS a){d b:Nat}(f:d<A (dz a))(i:ou a gt d b)(o:hM (eN a<|bA a ((dz a).getD d (0,0)).1) (eN a<|bA a ((dz a).getD b (0,0)).1)=af):ou a gt (d+1) b:=by
 obtain⟨j,-⟩|⟨g,j,k,l,m⟩:=i
 .omega
 obtain rfl:b=g:=Zo;refine aj ⟨b,C,Zo,l,λe t p q=>?_⟩;by_cases h:e=d
 .subst h;have u:((dz a).getD b (0,0)).2<((dz a).getD e (0,0)).2:=by
   have s:=wt.1 (Jl r) b e ch (Yq f) k;simpa[List.getD,f,show b<A (dz a)by omega]using s
  refine FZ Zo ?_;simp only[gx,o,uI,wg,jo];exact aj Zo
 exact m e Zo p q
theorem RU:∀{m:Nat}{b:ax},(∀a,a<m->a∈b)->m<=A b
 |0,_,_=>by omega
 |m+1,b,h=>by
  have d:∀a,a<m->a∈b.erase m:=λa f=>(mem_erase_of_ne Zo).2<|h a Zo;have e:=RU d;exact Zg
def ou.get{a:List Ag}{d:ax}(f:ou a d (A<|dz a) a3)(j:A d<A (dz a))(i:d.Nodup):∃b:Nat,a3=b/\b<A (dz a)/\b∉d/\∀e,e<A (dz a)->e∉d->e≠b->gx a ((dz a).getD b (0,0)) ((dz a).getD e (0,0))=W:=by
 obtain⟨h,g⟩|⟨b,f⟩:=f
 .have:=RU g;omega
 exact⟨b,f⟩
def kF(n:List Ag)(s:Nat):Nat:=Jb n<|mR<|bA n s
def A6(a:List Ag):dz a=(ea a<|A a).tail.map λb=>(kF a b,b):=rfl
def o_(n:List Ag)(l:ax):cB:=l.map λs=>[.sl 1<|Z<|eN n<|bA n<|kF n s]
def qA(n:List Ag):cB:=(dz n).map λx=>[.sl 1<|Z<|eN n<|bA n x.1]
def sb(n:List Ag):ax:=(dz n).map (·.1)
def YA(a:List Ag):o_ a (ea a<|A a).tail=qA a:=by rw[o_,qA,A6,eu];rfl
def afQ(a:List Ag):(ea a<|A a).tail.map (kF a)=sb a:=by rw[sb,A6,eu];rfl
def Rh(b:List Ag)(a:ax):∀r∈o_ b a,A r=1:=by simp[o_]
theorem YB(e:List Ag)(b:ax):∀r∈o_ e b,∀d∈r,Cl d:=λr a d f=>by
 obtain⟨g,-,rfl⟩:=aP.1 a
 grind [nq]
def vi(a:iS g0)(d:am<A g0):A (eN g0<|bA g0 am)<=1000000:=by
 have b:=Jo a.sz (bA g0 am)<|bA g0 am;rw[Jn]at b;have e:=(lZ.qY a d).len;have:=a.len;omega
theorem X7(a:iS g0)(b:am<A g0):kF g0 am∈bA g0 am:=by
 refine(sa _).mem_iff.1 (QY λd=>?_);have:=(kO a.sym b).2.2.2
 grind [sa]
def Et(a:iS g0):∀e∈dz g0,e.1<A g0:=λe d=>by
 rw[A6]at d;obtain⟨g,f,rfl⟩:=aP.1 d;have b:=(vU a.sym (A g0)<|bJ _).lt g<|mem_of_mem_tail f;exact(kO a.sym b).2.1 _<|X7 a b
def Jk(a:iS g0):A (dz g0)<=600:=by
 have:=xK g0<|A g0;have:=a.len;rw[A6,bE,length_tail];omega
theorem Su(d:iS g0)(a:ax)(e:∀b∈a,b<A g0):A (ao (a.map λb=>bA g0 b))<=600*A a:=by
 induction a with
 |nil=>simp
 |cons b a g=>
  have i:=(lZ.qY d<|e b Zs).len;have j:=g λh f=>e h<|Yr f;have:=d.len;exact Zg
def ny(n:List Ag)(b:Nat)(r:ax):Nat:=r.foldl (λb k=>if hM (eN n<|bA n k) (eN n<|bA n b)then k else b) b
def Ud(a:List Ag)(b:Nat)(r:ax)(d:Nat):ny a b (r++[d])=if hM (eN a<|bA a d) (eN a<|bA a<|ny a b r)then d else ny a b r:=by rw[ny,so];rfl
def Uc{n:List Ag}{b:Nat}{r:ax}(a:∀d∈b::r,d<A n):ny n b r<A n:=a _<|Jc n r b
def Re{n:List Ag}{i:Nat}(a:i<A (dz n)):(qA n)[i]?=E [.sl 1<|Z<|eN n<|bA n ((dz n).getD i (0,0)).1]:=by simp[qA,a]
def Ff(b:iS g0){i:Nat}(a:i<A (dz g0)):((dz g0).getD i (0,0)).1<A g0:=by
 have d:=Et b _<|aD a;simpa[List.getD,a]using d
open Classical
def ac3{n:List Ag}(f:iS n):az 177 [.cp [cw n]]<|.sl 1<|Z<|zN<|p9 n<|fV n:=by
 have ba:cE aB 110=E (2,1,8):=Zk;have bI:cE aB 322=E (110,1,24):=Zk;have cY:=f.len;have kJ:Cl<|.cp [cw n]:=Cl.eT ((Pb)<|oa n);have bs:=λa7(a5:a7<A n)=>KE f a5;have aZ:=λa7(a5:a7<A n)=>ac1 f a5;have a3:=ac4 f;have bo:=λ(st:St)(K:aU)=>ahe f f.pos (st:=st) (dst:=E 21) (K:=K);have bn:cw n=.sl 5 (n.map cr):=C;rw[bn]at kJ a3⊢;simp only[bn]at bs aZ bo;generalize F:ea n (A n)=a;rw[F]at a3;refine(ia [1000082,1000086,1000087,1000137] [.tmp 2]) ?_;refine aj<|aj (bo _ _ λcP a6 aS av bG cR=>(ZN) ?_);refine bR _ a3 ((Pc) kJ) ?_;have cd:=Ch n a;refine(ZN)<|lp 8 (A a) [0,3,5] (λk env s a6 ap=>s 1100=E ⟨aS,2,1,ao<|Z<|zN<|bA n 0,Q⟩/\aL [26,82] s 2 1 (Z<|zN<|(Y k a).tail.map<|kF n) (env 6)/\aL [27,86] s 110 1 (o_ n (Y k a).tail) (env 7)) ⟨Yu bG,aj ⟨26,_,Zs,by simp[aw,zN];rfl,by simp[ai,zN]⟩,aj ⟨27,_,Zs,by simp[aw,o_];rfl,by simp[ai,o_]⟩⟩ ?_;rintro k env s a6 ap bz cV⟨aW,g,y⟩;obtain⟨cJ,ar⟩:=Zx<|env 6;obtain⟨cK,au⟩:=Zx<|env 7;rw[ar]at g;rw[au]at y;refine dN cd (λw=>?_) λp=>?_
 rotate_left 1
 .obtain rfl:k=A a:=Zo;rw[cc]at g y;have aO:a.tail.map (kF n)=sb n:=by rw[<-F];exact afQ n
  have aQ:o_ n a.tail=qA n:=by rw[<-F];exact YA n
  have bV:∀r∈qA n,A r=1:=by rw[<-aQ];exact Rh _ _
  have bk:∀r∈qA n,∀d∈r,Cl d:=by rw[<-aQ];exact YB _ _
  rw[aO]at g;rw[aQ]at y;refine(ad p)<|GK.fe [26,82] 6 (.sl 1<|Z<|zN<|sb n) (by simp only[aw,bT,bj,e7,eQ,reduceCtorEq,ar];exact(g.aA (H':=b5 [26,82] s) λD l=>by simp only[b5,aM l]).fz Zd (iI _)<|tM _) (nq _) λaN a9=>GK.fe [27,86] 7 (.sl 1<|qA n) (by simp only[aw,bT,bj,e7,eQ,reduceCtorEq,au];exact(y.aA (H':=b5 [27,86] aN) λD l=>by simp only[b5,aM l];exact a9 D (by simp at l⊢;omega)).fz Zd bV bk) (db.2 bk) λa8 bH=>GK.cM ?_;have aX:=(bH 1100 Zs).trans<|(a9 1100 Zs).trans aW;have J:A (sb n)=A (dz n):=by rw[sb,bE]
  have bY:A (qA n)=A (dz n):=by rw[qA,bE]
  have ab:=kv<|sb n;have cb:=Jk f;rw[J]at ab;generalize a2:A (dz n)=m;rw[a2]at cb ab bY J;simp only[ab,go_sem];refine⟨⟨Zo,Zo⟩,?_⟩;obtain⟨aV,b8⟩:=Zx<|a6 89;rw[b8];refine lp 14 m [0,6,7,13] (λr env s _ ap=>∃j:ax,A j=r/\tF n j/\s 89=E ⟨aV,4,1,l5 m λk=>ah<|k∈j,Q⟩/\aL [1100,137] s 2 1 (Z<|zN<|bA n 0++ao (j.map λi=>bA n ((dz n).getD i (0,0)).1)) (env 3)) ⟨[],C,tF.nil n,by simp[ai];exact QX m,aj ⟨1100,aS,Zs,by simp[aw,kv],by simp[ai];exact aX⟩⟩ ?_;rintro r env s cn ap bz aa⟨j,br,aF,ay,g⟩;generalize aR:env 3=cN;rw[aR]at g;simp only[ab,go_sem];refine cL (λcC=>?_) λp=>?_
  rotate_left 1
  .have cf:r=m:=Zo;have b2:=aF.fin f.sym (by rw[br,cf,a2]);have b0:(j.map λi=>bA n ((dz n).getD i (0,0)).1)=(fV n).map λo=>bA n o.1:=by rw[<-b2,eu];rfl
   rw[b0]at g;simp only[p,aR,go_sem];exact g.fz Zd (iI _)<|tM _
  simp only[go_sem];refine fG 16 m (λi=>Fw.fF 139 [(0,.cp [.sl 5<|n.map cr]),(3,cN),(6,.sl 1<|Z<|zN<|sb n),(7,.sl 1<|qA n),(13,.ms 89 aV m),(14,I r)] λenv bw _ ap=>bw=s/\∃o:Int,env 15=I o/\ou n j i o) C
   ⟨C,Ye aR,C,-1,bU,aG ⟨C,Zo⟩⟩ ?_
  rintro i bK aN co T2 bB cU⟨rfl,o,O,u⟩;simp only[ab,go_sem];refine fx (λp=>?_) λp=>?_
  .have ae:i<m:=by simpa using p
   have a0:((i:Int)<(m:Int))=True:=dM Zo;have U:=u7 (λk=>ah<|k∈j) ae;simp only[p,go_sem];by_cases q:i∈j
   .simp only[b_ q]at U;refine fB ?_;simp only[ay,a0,h_,mn,U,go_sem];exact gY ae ⟨C,bU,C,o,Ye O,u.skip q⟩
   simp only[bW q]at U;have b3:=Re (n:=n) (i:=i) Zo;have aH:=Ff f (i:=i) Zo;by_cases bt:o=-1
   .subst bt;have f1:ah ((-1:Int)<0)=W:=C;refine fB ?_;simp only[ay,a0,h_,mn,U,O,f1,go_sem];exact gY ae ⟨C,bU,C,i,bU,u.first q⟩
   obtain⟨b,rfl,G⟩:∃b:Nat,o=b/\b<i:=by
    obtain⟨cG,-⟩|⟨b,cH,cI,-⟩:=u
    .exact absurd cG bt
    exact⟨b,cH,cI⟩
   have f1:ah ((b:Int)<0)=af:=Zs;have bi:((b:Int)<(m:Int))=True:=dM Zo;have b4:=Re (n:=n) (i:=b) Zo;have b6:=Ff f (i:=b) Zo;have a1:=TU _ _ (vi f aH)<|vi f b6;refine fB ?_;simp only[ay,a0,h_,mn,U,O,f1,b3,b4,go_sem];refine fS _ a1 OC C ?_;cases X:hM (eN n (bA n ((dz n).getD i (0,0)).1)) (eN n (bA n ((dz n).getD b (0,0)).1))
   .simp only[go_sem];exact gY ae ⟨C,bU,C,b,Ye O,u.keep f.sym Zo X⟩
   simp only[go_sem];exact gY ae ⟨C,bU,C,i,bU,u.less q X⟩
  obtain rfl:i=m:=Ys p;rw[<-a2]at u;obtain⟨b,rfl,G,bP,bO⟩:=u.get Zo aF.nd;have bi:((b:Int)<(i:Int))=True:=dM Zo;have bM:=aF.add G bP bO;have bp:=I_ (m:=i) (λk=>ah<|k∈j) (show b<i by omega);have b1:(λk=>ah (k∈j)||ah (k=b))=λk=>ah<|k∈j++[b]:=by
   funext k;simp only[ca,dg,Bool.decide_or]
  rw[b1]at bp;have bN:b+1<=A (l5 i λk=>ah<|k∈j):=AL;have aH:=Ff f G;have b7:(Z<|zN<|sb n)[b]?=E [I (((dz n).getD b (0,0)).1:Int)]:=by
   rw[pP _ _ Zo];simp[sb,G]
  simp only[p,O,ay,bi,h_,bp,bN,b7,go_sem];refine bR _ (bs _ aH) uY ?_;simp only[go_sem];have cZ:A (bA n 0++ao (j.map λi=>bA n ((dz n).getD i (0,0)).1))<=600+600*600:=by
   have bb:=(lZ.qY f f.pos).len;have bd:=Su f (j.map λi=>((dz n).getD i (0,0)).1) (λo g=>by
    obtain⟨ck,b',rfl⟩:=aP.1 g;exact Ff f<|aF.lt ck b')
   rw[eu,bE]at bd;have aX:600*A j<=600*600:=Nat.mul_le_mul_left _ Zo;rw[b9];refine Nat.add_le_add Zo<|gS (x9 ?_)<|gS bd aX;rfl
  have c1:=(lZ.qY f aH).len;refine GK.u5 (S:=[1100,137]) (aq:=Z<|zN<|bA n 0++ao (j.map λi=>bA n ((dz n).getD i (0,0)).1)) (bD:=Z<|zN<|bA n ((dz n).getD b (0,0)).1) Zd ba ((Pa)<|g.aA bF) (iI _) qu (λq=>DX) nT (by rw[fm,fm,kv,kv];omega) N' λcQ c3 c7 P V ci bL=>?_;have cz:=(bL 89 Zd Zd);have cq:P 0=.cp [.sl 5<|n.map cr]:=(V 0 Zd).trans fR;have cx:P 6=.sl 1 (Z<|zN<|sb n):=(V 6 Zd).trans fR;have cy:P 7=.sl 1 (qA n):=(V 7 Zd).trans fR;have cu:P 13=.ms 89 aV i:=(V 13 Zd).trans fR;have cv:P 14=I r:=(V 14 Zd).trans fR;simp only[cv,go_sem];refine gY cC ⟨C,by simp[aw,cq,cx,cy,cu],j++[b],Yr br,bM,cz.trans bF,?_⟩;rw[bX,eR,<-dy,CR,o5];simpa[aw]using ci.sub (S':=[1100,137]) Zs
 have bm:a[k]∈ea n (A n):=(Yy F)<|aD w;have J:=(vU f.sym (A n)<|bJ _).lt _ bm;have⟨r,aa⟩:=V1 f.sym bm;have R:(iP n a)[k]?=E [.sl 1<|Z<|zN (a[k]::r)]:=by simp[iP,w,aa]
 have aT:=pP (a[k]::r) 0 Zs;have cT:((0:Int)<(A (a[k]::r):Int))=True:=dM Zs;have bZ:=kv (a[k]::r);simp only[fA]at aT;have bl o (g:o∈a[k]::r):o<A n:=(kO f.sym J).2.1 o<|(sa _).mem_iff.1<|(Yy aa) g;simp only[R,CX,aT,go_sem];have bg:a[k]=0↔k=0:=by
  have⟨D,l⟩:=LR f.pos;have bh:=(vU f.sym (A n)<|bJ _).Eg;rw[F]at l bh;constructor
  .intro q;by_cases a':k=0
   .exact a'
   have t:=wt.1 bh 0 k (Nat.lt_of_le_of_lt (kT _) w) w<|Nat.pos_of_ne_zero a';exact absurd (q▸t)<|x_ _
  rintro rfl;simp[l]
 have aI (cW:k≠0):(Y (k+1) a).tail=(Y k a).tail++[a[k]]:=by
  rw[dm w];rcases a4:Y k a with _|⟨bC,cm⟩
  .exact absurd (eo A a4) (by rw[ij,gR];omega)
  rfl
 by_cases M:k=0
 .have f1:((a[k]:Int)==0)=W:=by rw[bg.2 M];rfl
  have a_:(Y (k+1) a).tail=[]:=by subst M;cases a4:a with|nil=>simp|cons bC cm=>simp
  have aO:(Y k a).tail=[]:=by subst M;simp
  rw[aO]at g y;simp only[f1,go_sem];exact gY w ⟨C,bU,aW,by rw[a_];simpa[aw,ar]using g,by rw[a_];simpa[aw,au]using y⟩
 have f1:((a[k]:Int)==0)=af:=by
  have t:a[k]≠0:=λq=>M<|bg.1 q;simp;omega
 have aI:=aI M;have c0:A r+1<=600:=by
  have bb:=(lZ.qY f J).len;rw[<-GH,aa,dC]at bb;omega
 simp only[f1,R,CX,aT,go_sem];refine bR _ (aZ _ J) uY ?_;simp only[go_sem];refine l' (λst=>st.nt=139/\∃q:Nat,q<=A r/\st.env 0=.cp [.sl 5<|n.map cr]/\st.env 3=.ms 1100 aS (A<|bA n 0)/\st.env 5=.sl 1 (iP n a)/\st.env 8=I k/\st.env 6=cJ/\st.env 7=cK/\st.env 11=I (q+1:Nat)/\st.env 9=I (ny n a[k]<|Y q r)/\st.env 10=.sl 1 (Z<|eN n<|bA n<|ny n a[k]<|Y q r)/\st.H=s)
  (λst=>match st.env 11 with|.sc (.int _ m)=>A r+1-m.toNat|_=>0) ⟨C,0,Zo,bU,bU,bU,bU,Ye ar,Ye au,bU,by simp[aw,ny],by simp[aw,ny],C⟩ ?_
 rintro⟨bK,aN,cn,c4,T2,bB⟩⟨rfl,q,a4,ak,aJ,z,B,aK,am,al,an,L,rfl⟩;simp only at ak aJ z B aK am al an L;have cX:((k:Int)<(A a:Int))=True:=dM Zo;simp only[al,z,B,R,bZ,dC,go_sem];refine fx (λp=>?_) λp=>?_
 .have cA:q<A r:=by simp at p;omega
  have ce:(((q+1:Nat):Int)<((A r+1:Nat):Int))=True:=dM Zo;have av:=pP (a[k]::r) (q+1) ch;simp only[jm]at av;have bq:=bl r[q] Zs;have G:=Uc (n:=n) (b:=a[k]) (r:=Y q r) λo g=>bl o (by obtain e|e:=cF.1 g;exact e▸MO;exact mo _<|tv e);have a1:=TU _ _ (vi f bq)<|vi f G;have x:=Ud n a[k] (Y q r) r[q];rw[<-dm cA]at x;simp only[ak,z,B,al,R,ce,av,go_sem];refine bR _ (aZ _ bq) uY<|(ad L)<|bR _ a1 OC ?_;cases X:hM (eN n (bA n r[q])) (eN n (bA n (ny n a[k] (Y q r))))
  .rw[X,aC Zs]at x;refine(ad al) ?_;refine⟨⟨C,q+1,Zo,Ye ak,Ye aJ,Ye z,Ye B,Ye aK,Ye am,DY,by rw[x];simp[aw,an],by rw[x];simp[aw,L],C⟩,?_⟩;have t:=gJ (q+1) Zo;simp[aw]at t⊢;rw[t];omega
  rw[X,aM C]at x;simp only[z,B,al,R,av,go_sem];refine⟨⟨C,q+1,Zo,Ye ak,Ye aJ,Ye z,Ye B,Ye aK,Ye am,DY,by rw[x];simp[aw],by rw[x];simp[aw],C⟩,?_⟩;have t:=gJ (q+1) Zo;simp[aw]at t⊢;rw[t];omega
 obtain rfl:q=A r:=Ys p;rw[cc]at an L;have bQ:ny n a[k] r=kF n a[k]:=by rw[kF,aa];rfl
 rw[bQ]at an L;have cS:A a<=600:=by have t:=xK n (A n);rw[F]at t;omega
 simp only[p,aK,an,go_sem];refine GK.cM (eC.eS (S:=[26,82]) (aq:=Z<|zN<|(Y k a).tail.map<|kF n) (bD:=Z [(kF n a[k]:Int)]) ba ((Pa)<|g.aA bF) (iI _) hF Zs nT (by rw[fm,fm,kv,bE];simp;omega) (by rw[fm,fm,kv,bE];unfold aE;simp;omega) λa8 co c5 bu be=>?_);rw[<-o5]at bu;have ct:=(be 1100 Zd Zd).trans (show _=_ by simp[ai];exact aW);have cj:=y.aA (H':=a8) λD l=>(be D (Ys l) (by simp at l⊢;omega)).trans (by simp at l;obtain rfl|rfl:=l<;>simp[ai]);refine(ad<|JJ am L)<|GK.cM (eC.eS (S:=[27,86]) (aq:=o_ n (Y k a).tail) (bD:=[[.sl 1<|Z<|eN n<|bA n<|kF n a[k]]]) bI (by simp only[aw,bx,bT,bj,am];exact cj.aA bF) (Rh _ _) hF Zs C (by rw[o_,bE];simp;omega) (by rw[o_,bE];unfold aE;simp;omega) λbv c2 c6 cg bf=>?_);have cB:=(bf 1100 Zd Zd).trans (show _=_ by simp[ai];exact ct);have cD:=bu.aA (H':=bv) λD l=>(bf D (Ys l) (by simp at l⊢;omega)).trans (by simp at l;obtain rfl|rfl:=l<;>simp[ai]);refine(ad B) ?_;refine gY w ⟨C,by simp[aw,ak,aJ,z],cB,?_,?_⟩
 .rw[aI,bX,CR];simpa[aw,zN]using cD.sub (S':=[26,82]) Zs
 rw[aI,o_,bX];simpa[aw,o_]using cg.sub (S':=[27,86]) Zs
theorem Jy:∀a b:IL,(ah (kn a b<0)=hM a b)/\(kn a b=0↔a=b)
 |[],[]=>by simp[kn,hM]
 |[],_::_=>by simp[kn,hM]
 |_::_,[]=>by simp[kn,hM]
 |a::d,b::e=>by
  rw[kn,hM];have f:=Jy d e;exact Zg
open Classical
def isNaN(a:Int):az 278 [I a]<|B af:=by
 have f1:(a !=a)=af:=Zs;exact(lj f1)<|Fz.aK C
def RJ(a b:Int):az 224 [I a,I b]<|I<|Lib.compareInt a b:=by
 refine(cR) ?_;have:=isNaN a;have:=isNaN b;refine(ZC) ?_;have f:Lib.compareInt a b=if a<b then-1 else if a>b then 1 else 0:=by unfold Lib.compareInt;(repeat' split)<;>first|rfl|omega
 rw[f];by_cases d:a<b
 .simp only[b_ d,aM d,go_sem];exact .cl _<|bc _
 by_cases e:a>b
 .simp only[bW d,b_ e,aC d,aM e,go_sem];exact .cl _<|bc _
 simp only[bW d,bW e,aC d,aC e,go_sem];exact .cl _<|bc _
theorem RK(d b:IL)(u:A d<=1000000)(w:A b<=1000000):az 223 [.sl 1<|Z d,.sl 1<|Z b]<|I<|kn d b:=by
 have l:=fm d;have m:=fm b;refine(lj l) ?_;refine lp 11 (A d) [0,1,9,10] (λa _ _ _ _=>a<=A b/\kn d b=kn (d.drop a) (b.drop a)) Zs ?_;rintro a t s B _ _ y⟨r,hp⟩;refine ZL (λf=>?_) λq=>?_
 .have o:=yE d a f;refine(ad<|JJ o m) ?_;by_cases e:a<A b
  rotate_left 1
  .have f2:ah ((a:Int)>=(A b:Int))=W:=by simp;omega
   have he:=Y5 f (show A b<=a by omega);exact H5
  have f2:ah ((a:Int)>=(A b:Int))=af:=co;have p:=yE b a e;have z:((a:Int)<(A b:Int))=True:=dM Zo;have j:=λg=>Y7 f e g;have k:=λg=>Y8 f e g;simp only[List.getD,bL f,bL e,kx]at j k;have:=RJ d[a] b[a];refine(bQ<|JJ f2 p) ?_;by_cases i:d[a]=b[a]
  .have f3:(Lib.compareInt d[a] b[a] !=0)=af:=by rw[i];simp[Lib.compareInt]
   refine(ad f3) ?_;exact jW wC f ⟨C,bU,Zo,hp.trans<|k i⟩
  have f3:(Lib.compareInt d[a] b[a] !=0)=W:=by unfold Lib.compareInt;(repeat' split)<;>first|rfl|omega
  refine(ad f3) ?_;rw[hp,j i];exact .cl _<|bc _
 obtain rfl:a=A d:=Zo;have he:=Y6 (show A d<=A b from r);simp only[q,l,m,go_sem];by_cases e:A d<A b
 .rw[aM e]at he;have f2:ah ((A d:Int)<(A b:Int))=W:=co;exact H5
 rw[aC e]at he;have f2:ah ((A d:Int)<(A b:Int))=af:=co;exact H5
def e'(n:List Ag)(x:Nat×Nat):DL:=[.sl 1<|Z<|zN<|bA n x.1,.sl 1<|Z<|eN n<|bA n x.1,I x.2]
def L_(b:List Ag)(e:Nat×Nat):∀d∈e' b e,Cl d:=λd a=>by
 simp only[e',cF,dt,gD]at a;obtain rfl|rfl|rfl:=a
 .exact nq _
 .exact nq _
 exact .sc _
def Wo(a:iS g0)(b:am<A g0):∃r,bA g0 am=am::r:=(L9 a.sym b (dD:=λ_=>True) (λ_ _ _ _=>trivial) trivial).2
theorem ade{n:List Ag}(f:iS n)(a:Nat)(r:ax)(B:∀z∈a::r,z<A n)(ao:A r<=600):az 219 [.cp [cw n],.sl 1<|Z<|zN (a::r)]<|.ag<|e' n (ny n a r,a):=by
 have S:Cl<|.cp [cw n]:=Cl.eT yq;have K:=λy(x:y<A n)=>(L' f x).sp<|iI _;have F:=λy(x:y<A n)=>(Y_ f<|lZ.qY f x).sp<|iI _;have J:cw n=.sl 5 (n.map cr):=C;rw[J]at S⊢;simp only[J]at K F;have V:=kv (a::r);refine(ki [] [.cell 4 325]) ?_;simp only[V,dC,go_sem];refine lp 12 (A r+1) [0,1,4,5,10,11] (λg M j ae L=>(∃e,j 4=E ⟨0,325,3,e,Q⟩/\A e=3)/\((g=0/\j 5=E ⟨0,325,3,[bp,bp,I 0],Q⟩)\/∃q,g=q+1/\j 5=E ⟨0,325,3,e' n (ny n a (Y q r),a),Q⟩)) ⟨⟨_,l4,C⟩,aG ⟨C,ep⟩⟩ ?_;rintro g M j ae L al an⟨⟨e,k,m⟩,d⟩;refine ZS (λl=>?_) λl=>?_
 rotate_left 1
 .have X:g=A r+1:=by simp at l;omega
  subst X;obtain⟨ar,-⟩|⟨q,ap,d⟩:=d
  .omega
  obtain rfl:q=A r:=Zo;rw[cc]at d;obtain⟨au,av,ay,rfl⟩:∃p b s,e=[p,b,s]:=by
   match e,m with
   |[p,b,s],_=>exact⟨p,b,s,C⟩
  simp only[e']at d;simp only[l,k,d,go_sem];exact .cl _<|Cl.bC<|L_ n (ny n a r,a)
 have w:g<A (a::r):=sG;have O:=pP (a::r) g w;have o:=B _<|aD w;refine(ad<|JJ l O) ?_;refine bR _ (K _ o) (by(grind [bc])) ?_;refine(ZN) ?_;refine bR _ (F _ o) (by(grind [nq])) ?_;have t:=pP (a::r) 0 Zs;simp only[fA]at t;have am:((0:Int)<((A r+1:Nat):Int))=True:=dM Zo;obtain⟨rfl,d⟩|⟨q,rfl,d⟩:=d
 .simp only[fA,d,dC,CX,t,go_sem];exact jW (by simp[aw];exact gJ 0 Zo) Zo ⟨C,bU,⟨e,Yu k,m⟩,aj ⟨0,C,by simp[ai,e',ny]⟩⟩
 have ah:q<A r:=by simp at w;omega
 simp only[jm]at o⊢;have u:=Uc (n:=n) (b:=a) (r:=Y q r) λz aq=>B z (by(grind [List.mem_cons_self,List.mem_cons_of_mem,List.mem_of_mem_take]));have i:=Ud n a (Y q r) r[q];rw[<-dm ah]at i;generalize P:ny n a (Y q r)=b;rw[P]at u i d;obtain⟨ak,ab⟩:=Wo f u;have U:D.sl 1 (Z<|zN<|bA n b)=.sl 1 ([I (b:Int)]::Z (zN ak)):=Yf ab;have R:=RK _ _ (vi f o)<|vi f u;have aa:=(Jy (eN n<|bA n r[q])<|eN n<|bA n b).1;simp only[e',U]at d;refine(ad d) ?_;refine bR _ R (by(grind [nq])) ?_;refine(ad aa) ?_;cases G:hM (eN n (bA n r[q])) (eN n (bA n b))
 .rw[G,aC Zs]at i;refine(ZN) ?_;exact jW DY Zo ⟨C,bU,⟨e,Yr k,m⟩,aj ⟨q+1,C,by(grind [e'])⟩⟩
 rw[G,aM C]at i;simp only[d,dC,CX,t,go_sem];exact jW DY Zo ⟨C,bU,⟨e,Yu k,m⟩,aj ⟨q+1,C,by rw[i];simp[ai,e']⟩⟩
def aeN(a b:Int):az 222 [.sl 1<|Z [a,b]]<|I (if a=0 then b else a):=by
 have p:A (Z [a,b])=2:=C;refine(dH) ?_;refine lp 8 2 [0,3,6,7] (λe _ _ _ _=>(1<=e->a=0)/\(2<=e->b=0)) ⟨Zs,Zs⟩ ?_;rintro e o m q _ _ j⟨g,l⟩;refine(ZN) ?_
 match e,j with
 |0,_=>
  have f1:ah (((0:Nat):Int)<((2:Nat):Int))=W:=C;have i:(Z [a,b])[(0:Nat)]?=E [I a]:=C;refine(ad f1) ?_;by_cases d:a=0
  .have f2:(a !=0)=af:=by simp[d]
   refine(ad f2) ?_;exact jW AM Zo ⟨C,bU,λ_=>d,Zo⟩
  have f2:(a !=0)=W:=by simp[d]
  simp only[f2,aC d,go_sem];exact .cl _<|bc _
 |1,_=>
  have f1:ah (((1:Nat):Int)<((2:Nat):Int))=W:=C;have i:(Z [a,b])[(1:Nat)]?=E [I b]:=C;have f:=g Zo;refine(ad f1) ?_;by_cases d:b=0
  .have f2:(b !=0)=af:=by simp[d]
   refine(ad f2) ?_;exact jW AM Zo ⟨C,bU,λ_=>f,λ_=>d⟩
  have f2:(b !=0)=W:=by simp[d]
  simp only[f2,aM f,go_sem];exact .cl _<|bc _
 |2,_=>
  have f1:ah (((2:Nat):Int)<((2:Nat):Int))=af:=C;simp only[f1,aM<|g Zo,l Zo,go_sem];exact .cl _<|bc _
def EA(n:List Ag)(x y:Nat×Nat):Int:=if kn (eN n<|bA n x.1) (eN n<|bA n y.1)=0 then Lib.compareInt x.2 y.2 else kn (eN n<|bA n x.1) (eN n<|bA n y.1)
theorem Y3(a:List Ag)(b d:Nat×Nat):ah (EA a b d<0)=gx a b d:=by
 obtain⟨e,f⟩:=Jy (eN a<|bA a b.1)<|eN a<|bA a d.1;have g:Lib.compareInt (b.2:Int) d.2=if b.2<d.2 then-1 else if b.2>d.2 then 1 else 0:=by unfold Lib.compareInt;(repeat' split)<;>first|rfl|omega
 grind [EA,gx,kn,FW]
theorem Y9(a:List Ag)(b d:Nat×Nat)(f:A (eN a<|bA a b.1)<=1000000)(g:A (eN a<|bA a d.1)<=1000000):az 221 [.ag<|e' a b,.ag<|e' a d]<|I<|EA a b d:=by
 have e:=RK _ _ f g;refine(cR) ?_;simp only[e',go_sem];refine lq [0,1,2,3,5,6,7,8,4,9,10,11,12] [] []<|(ZN)<|bR _ e (by(grind [nq])) ?_;have:=RJ b.2 d.2;refine(ZC)<|yO [.sl 1<|Z [kn (eN a<|bA a b.1)<|eN a<|bA a d.1,Lib.compareInt b.2 d.2]] _ (aeN _ _) C (by
  simp only[aY,de,rb,re,bM];exact⟨Fz.aq (ob:=⟨0,3,1,ao<|Z [kn (eN a<|bA a b.1)<|eN a<|bA a d.1,Lib.compareInt b.2 d.2],Q⟩) bF C C Zd C (iI _) C (tM _),Zs⟩) C ?_
 refine(ZN) ?_;exact .cl _<|bc _
section
open Go.Sort (Holds HoldsK flatK putRow putCells onCells)
def afP:Go.Shelf.Ren:=⟨λ|6=>220|14=>276|15=>277|20=>297|21=>298|22=>299|23=>300|24=>301|25=>302|26=>303|27=>304|28=>305|29=>306|46=>336|47=>337|48=>338|49=>339|50=>340|57=>360|n=>n,λ|22=>321|24=>325|25=>331|39=>370|45=>388|46=>389|50=>393|53=>396|55=>398|66=>416|70=>420|76=>432|77=>223|n=>n,λn=>n⟩
def VY:Go.Proofs.SlLaysF0.n6 aB afP:=by constructor<;>first|kernel_rfl|(intro a;kernel_rfl)|exact XO Zk Zk
def R_{b:Nat}(j:∀a,a<m7.heap.size->a≠b->v4.heap[a]?=m7.heap[a]?):(aR m7 (λa=>n6 a\/a=b) (λ_=>Q) dY).Ext<|aR v4 (λa=>n6 a\/a=b) (λ_=>Q) dY:=by
 refine⟨λg l m d=>?_,λ_=>bJ _,λ_ _ _ _ _ d=>d⟩;have e:=dQ d;have h:=eW d;have k:g≠b:=λf=>e.1<|aj f;have i:=j g (tb h) k;exact⟨fD ((vg i).trans h) e.1 e.2,λ⟨us,d,f⟩=>⟨us,d,i.trans f⟩⟩
def aaV{b a:a8}(d:pK b.heap.size b a):∃j i,a=Go.Sort.grow (b.drewN j) i:=by
 refine⟨a.drawn-b.drawn,a.heap.extract b.heap.size a.heap.size,?_⟩;have f:b.heap++a.heap.extract b.heap.size a.heap.size=a.heap:=by
  refine Array.ext_getElem? λh=>?_;by_cases e:h<b.heap.size
  .rw[xS e,d.block h e]
  rw[CS Zo,Array.getElem?_extract];split
  .congr 1;omega
  rw[Xa Zo]
 have g:b.drawn+(a.drawn-b.drawn)=a.drawn:=Yo d.dr;have⟨l,o,k,i,m⟩:=a;simp only[Go.Sort.grow,World.drewN]at f g⊢;simp only[World.mk.injEq];exact⟨f.symm,d.tape,g.symm,d.os,d.output⟩
theorem V2[Inhabited g2](enc:g2->VL)(a:a8)(b g:Nat)(d:Array g2)(f:Array Obj)(e:Nat)(i:e<a.heap.size):(sortWorldK enc 3 a b 0 g d f).heap[e]?=if b=e then(a.heap[e]?).map (onCells<|putCells id 0<|flatK enc 3 d)else a.heap[e]?:=by
 have j:(a.heap.modify b<|onCells<|putCells id 0<|flatK enc 3 d).size=a.heap.size:=Zs;have h:(sortWorldK enc 3 a b 0 g d f).heap=a.heap.modify b (onCells<|putCells id 0<|flatK enc 3 d)++f:=C;exact Zg
theorem LO[Inhabited g2](enc:g2->VL)(d:a8)(b f:Nat)(e:Array g2)(g:Array Obj):∀a,a<d.heap.size->a≠b->(sortWorldK enc 3 d b 0 f e g).heap[a]?=d.heap[a]?:=λa h i=>by(grind [V2])
def afI{n:List Ag}(h:iS n):AD aB 220 [.fn 221 [] []] 325 3 ((dz n).map<|e' n) ((fV n).map<|e' n) λ_=>.tp []:=by
 have bb:=(Gx h.sym).1;have hlen:A (fV n)=A (dz n):=bb.length_eq;have aA (l:List<|Nat×Nat) d (y:d∈ao (l.map<|e' n)):Cl d:=by
  have⟨r,hr,y⟩:=eL.1 y;obtain⟨x,-,rfl⟩:=aP.1 hr;exact L_ n x d y
 refine⟨⟨_,func220,C,C⟩,by rw[bE,bE,hlen],aA _,aA _,λe I aU am x aY br bc hr Z=>?_⟩;obtain⟨fv,rfl⟩:∃fv,aU=[fv]:=by
  match aU,bc with
  |[fv],_=>exact⟨fv,C⟩
 obtain⟨bm,bn,rfl,bk,bl,-,-⟩:=E7<|hr 0 _ _ C C;obtain rfl:bm=[]:=Yq bk.symm;obtain rfl:bn=[]:=Yq bl.symm;have aS (aT:Option Addr) (av:Nat) (U:A (dz n)=0) (bh:am=.slice aT 0 av):Calls aB 220 #[am,.func (.func 221) #[] #[]] e λO ab=>∃v,O=.returned v/\(p5 e I λb=>x=E b).Ok ab/\sD ab I 325 3 ((fV n).map<|e' n) am x/\∀ad w,M2 w->Rd ad w am->Rd ad (.tp []) v:=by
  have K:dz n=[]:=pI.1 U;have ae:fV n=[]:=pI.1<|hlen.trans U;rw[K]at Z;rw[ae];subst bh;refine Calls.mono (AnyF.slices_SortFunc_none VY aT av _ e) ?_;rintro p ab⟨rfl,rfl⟩;exact⟨.tuple #[],C,⟨C,C,C,bJ _,λ_ _=>C,bJ _⟩,Z,λad _ _ _=>Rd.tp [] [] C λi d v h=>jr⟩
 obtain _|b:=x
 .obtain⟨a',rfl⟩:=Z;exact aS Q 0 (Yq a') C
 have bq:=Z;obtain⟨S,us,rfl,ak,aL,az,bo,a3⟩:=Z;by_cases U:A (dz n)=0
 .exact aS (E ⟨b,0,Q⟩) S U (by rw[bE,U])
 generalize Y:A (dz n)=k;have a9:0<k:=Zo;have bp:=Jk h;have ay:b<e.heap.size:=(nO.1 ak).1
 haveI:Inhabited<|Fin k:=⟨⟨0,a9⟩⟩
 let dD:Fin k->Nat×Nat:=λi=>(dz n)[i.1]'Zo
 let z:Nat->Nat->aN:=λi j=>us.getD (i*3+j)<|.int .i64 0
 let enc:Fin k->VL:=λi=>[z i.1 0,z i.1 1,z i.1 2]
 have P (i:Fin k) (j:Nat) (d:D) (y:(e' n<|dD i)[j]?=E d):us[i.1*3+j]?=E (z i.1 j)/\Rd (aR e (λa=>I a\/a=b) (λ_=>Q) dY) d (z i.1 j):=by
  have ah:=mJ (aq:=(dz n).map<|e' n) (sz:=3) (λr hr=>yB) (i:=i.1) (j:=j) (r:=e' n<|dD i) (by simp[dD,Y,i.2]) y;have⟨v,t,o⟩:=a3 _ d ah;have p:z i.1 j=v:=by simp only[z,kQ,t,kx]
  rw[p];exact⟨t,o⟩
 have ba i v (aQ:v∈enc i):v.oneCell'=W:=by
  simp only[enc,cF,dt,gD]at aQ;obtain rfl|rfl|rfl:=aQ
  .exact Cd C (P i 0 _ C).2
  .exact Cd C (P i 1 _ C).2
  exact Cd C (P i 2 _ C).2
 have aa (i:Fin k) (q:Nat) (aa:q<3):(enc i)[q]! =z i.1 q:=by
  match q,aa with
  |0,_=>rfl
  |1,_=>rfl
  |2,_=>rfl
 let J:Fin k->Fin k->Int:=λi j=>EA n (dD i)<|dD j
 have X i j:ltOf J i j=gx n (dD i) (dD j):=Y3 n (dD i)<|dD j;have a_:∀i j:Fin k,i≠j->(dD i).2≠(dD j).2:=λi j ar p=>by
  have aI:=Jl h.sym;have a8:i.1≠j.1:=λp=>ar<|Fin.ext p;obtain q|q:=Nat.lt_or_gt_of_ne a8
  .have m:=wt.1 aI i.1 j.1 ch ch q;simp only[fk]at m;exact absurd p<|Nat.ne_of_lt m
  have m:=wt.1 aI j.1 i.1 ch ch q;simp only[fk]at m;exact absurd p.symm<|Nat.ne_of_lt m
 have au i j (ar:i≠j) (a:gx n (dD j) (dD i)=af):gx n (dD i) (dD j)=W:=FZ (a_ i j ar) a;have aZ:Go.Sort.SWO<|ltOf J:=by
  refine⟨λi=>(Yy X)<|adz n _,λi j a B b=>by rw[X]at B b⊢;exact BW B b,λi j a B b=>?_⟩;rw[X]at B b⊢;by_cases K:i=j
  .rw[K];exact b
  by_cases ae:j=a
  .rw[<-ae];exact B
  have t:=au j i (uM K) B;have o:=au a j (uM ae) b;cases q:gx n (dD i) (dD a)
  .rfl
  exact absurd (BW o t) λe=>KN e q
 have a0 i j (B:ltOf J i j=af) (b:ltOf J j i=af):i=j:=by
  rw[X]at B b;by_cases p:i=j
  .exact p
  rw[au i j p b]at B;cases B
 let d:Array<|Fin k:=(List.finRange k).toArray
 have y:d.size=k:=by simp[d]
 have a6 i (G:i<k):∃a:Fin k,d[i]! =a/\a.1=i:=⟨⟨i,G⟩,by simp[d,G],C⟩;have aO:us.size=S*3:=aL;have a4:k<=S:=by have m:=az.2;rw[bE]at m;omega
 have aX:HoldsK enc 3 e b 0 d:=λF al=>by
  have al:F<k*3:=by rw[Go.Sort.size_flatK,y]at al;exact al
  have⟨a,hk,aH⟩:=a6 (F/3) Zo;have K:(flatK enc 3 d)[F]! =z (F/3) (F%3):=by
   rw[Go.Sort.get_flatK enc 3 d F<|(Yy y) al,hk,aa a _<|Av _ Zo,aH]
  obtain⟨L,V⟩:∃L,(e' n (dD a))[F%3]?=E L:=⟨_,bL (show F%3<3 from Av _ Zo)⟩;have o:=(P a _ L V).1;rw[aH,show F/3*3+F%3=F by omega]at o;refine⟨?_,?_⟩
  .rw[K];simp only[World.cell?,ak,ew,o];simp
  simp[World.frozen?,ak]
 have a5:CmpLays aB 221 #[] enc 3 J b 0 d.size e:=λR u M aL x w=>by
  have bi:=vi h<|Et h (dD x)<|aD _;have bj:=vi h<|Et h (dD w)<|aD _;have a1:=LO enc e b R M u;have ap:(aR e (λa=>I a\/a=b) (λ_=>Q) dY).Ext<|aR (sortWorldK enc 3 e b 0 R M u) (λa=>I a\/a=b) (λ_=>Q) dY:=R_ a1;have bg:e.heap.size<=(sortWorldK enc 3 e b 0 R M u).heap.size:=by
   have m:(sortWorldK enc 3 e b 0 R M u).heap=e.heap.modify b (onCells<|putCells id 0<|flatK enc 3 M)++u:=C;rw[m,uH,Array.size_modify];omega
  have ax O:Rd (aR (sortWorldK enc 3 e b 0 R M u) (λa=>I a\/a=b) (λ_=>Q) dY) (.ag<|e' n<|dD O)<|.agg (enc O).toArray:=.ag _ _ C λi L v t o=>by
   have G:i<3:=(dX.1 o).1;have p:v=z O.1 i:=by
    have m:=aa O i G;rw[getElem!_eq_getElem?_getD,o]at m;exact m
   rw[p];exact(P O i L t).2.mono ap
  have bf:=(Y9 n (dD x) (dD w) bi bj).run (sortWorldK enc 3 e b 0 R M u) (λa=>I a\/a=b) [.agg (enc x).toArray,.agg (enc w).toArray] (λa hk=>by
   obtain hk|hk:=hk
   .exact iR (aY a hk) bg
   .subst hk;omega) C (λi L v t o=>by
   match i,t,o with
   |0,t,o=>cases t;cases o;exact ax x
   |1,t,o=>cases t;cases o;exact ax w)
  refine Calls.mono bf ?_;rintro p ab⟨v,rfl,a2,bd⟩;cases bd;exact⟨C,aaV a2⟩
 have be:A ((dz n).map<|e' n)=d.size:=by rw[bE,y,Y]
 rw[be];refine Calls.mono (AnyQ.slices_SortFunc_total VY 3 (by intro e;kernel_rfl) (by intro e;kernel_rfl) enc (λ_=>C) ba J aZ 221 #[] b 0 S d e (enters_of func221 Zk C) a5 aX ay (Yv y) a0) ?_;rintro p ab⟨rfl,nn,u,rfl⟩;obtain⟨g,an⟩:∃g:Array (Fin k),(d.toList.mergeSort λx w=>!ltOf J w x).toArray=g:=⟨_,C⟩;rw[an];have aW:g.toList.Perm d.toList:=by rw[<-an];exact Hl ..
 have J5:g.size=k:=by have m:=aW.length_eq;rw[we,we,y]at m;exact m
 have aV:g.toList.map dD=fV n:=by
  have t:=map_mergeSort (r:=λx w=>!ltOf J w x) (s:=λx w=>!gx n w x) (f:=dD) (l:=d.toList) λB _ b _=>by simp only[X]
  have o:d.toList.map dD=dz n:=by
   refine lX (by simp[d,Y]) λi t o=>?_;simp[d,dD]
  rw[<-an];rw[t,o];rfl
 have aK:(fV n).map (e' n)=g.toList.map λi=>e' n<|dD i:=by rw[<-aV,eu];rfl
 have a7:∀a,a<e.heap.size->(sortWorldK enc 3 e b 0 nn g u).heap[a]?=if b=a then(e.heap[a]?).map (onCells<|putCells id 0<|flatK enc 3 g)else e.heap[a]?:=V2 enc e b nn g u
 have ap:(aR e (λa=>I a\/a=b) (λ_=>Q) dY).Ext<|aR (sortWorldK enc 3 e b 0 nn g u) (λa=>I a\/a=b) (λ_=>Q) dY:=R_<|LO enc e b nn g u;refine⟨.tuple #[],C,⟨C,C,C,?_,λi G=>?_,Nat.le_add_right _ _⟩,⟨S,putCells id 0 (flatK enc 3 g) us,?_,?_,?_,?_,?_,?_⟩,λad _ _ _=>Rd.tp [] [] C λi d v h=>jr⟩
 .have m:(sortWorldK enc 3 e b 0 nn g u).heap=e.heap.modify b (onCells<|putCells id 0<|flatK enc 3 g)++u:=C;rw[m,uH,Array.size_modify];show e.heap.size<=_;omega
 .exact LO enc e b nn g u i (Bs.vL G) λp=>G<|aj<|Yw p
 .rw[bE,hlen,y,Y]
 .rw[a7 b ay,aM C,ak];rfl
 .simp[putCells,aO]
 .rw[bE,hlen,Y];exact⟨az.1,a4⟩
 .rw[aK];have m:A (ao (g.toList.map λi=>e' n<|dD i))=k*3:=Px;rw[m];simp[putCells,aO];omega
 intro j L V;rw[aK]at V;have aF:j<k*3:=by
  have t:=(dX.1 V).1;have m:A (ao (g.toList.map λi=>e' n<|dD i))=k*3:=Px;omega
 have G:j/3<g.size:=Zo;have aJ:j%3<3:=Av _ Zo;obtain⟨d2,aC⟩:∃d2,(e' n (dD g[j/3]))[j%3]?=E d2:=⟨_,bL (show j%3<3 from aJ)⟩;have ah:=mJ (aq:=g.toList.map λi=>e' n<|dD i) (sz:=3) (λr hr=>yB) (i:=j/3) (j:=j%3) (r:=e' n<|dD g[j/3]) (Yr G) aC;rw[show j/3*3+j%3=j by omega,V]at ah;cases ah;refine⟨z (g[j/3]).1<|j%3,?_,(P _ _ _ aC).2.mono ap⟩;have K:(flatK enc 3 g)[j]! =z (g[j/3]).1 (j%3):=by
  rw[Go.Sort.get_flatK enc 3 g j<|(Yy J5) aF,getElem!_pos g (j/3) G,aa _ _ aJ]
 simp only[putCells,Array.getElem?_mapIdx,Mr (show j<us.size by omega),eE,kT,rj,ew,Nat.sub_zero,Go.Sort.size_flatK,J5,aF,bx,id,K]
end
def Ym{a:List Ag}(e:iS a):az 153 [.cp [cw a]]<|.sl 1<|Z<|zN<|p9 a<|fV a:=by
 have aC:cE aB 110=E (2,1,8):=Zk;have aF:cE aB 321=E (325,3,56):=Zk;have X:=e.len;have kJ:Cl<|.cp [cw a]:=Cl.eT ((Pb)<|oa a);have al:=L' e e.pos;have t:=components e;have F:=λay r m X=>ade e ay r m X;have aZ:=afI e;have ae:cw a=.sl 5 (a.map cr):=C;rw[ae]at kJ al t⊢;simp only[ae]at F;generalize p:ea a (A a)=J;obtain⟨b,w⟩:∃b,J=0::b:=by rw[<-p];exact LR e.pos
 rw[p]at t;have ah:iP a J=[.sl 1<|Z<|zN<|mR<|bA a 0]::iP a b:=Yf w;have aX:=Ch a b;have be:b.length<=600:=by have a':=xK a (A a);rw[p,w,dC]at a';omega
 have aR:dz a=b.map λs=>(kF a s,s):=by rw[A6,p,w];rfl
 rw[ah]at t;have aH:((1:Int)<=((b.length+1:Nat):Int))=True:=dM Zo;have a2:Y b.length (iP a b)=iP a b:=dj Zo;refine(ia [1000024,1000028,1000037] [.tmp 2])<|tS 2 1 _ al uY ?_;intro ba bk bo am aJ;refine(ZN)<|bR _ t ((Pc) kJ)<|(ad<|JJ aX<|JJ aH a2) ?_;obtain⟨L,rfl,l⟩:=eG am (by obtain⟨r,hr⟩:=Wo e e.pos;rw[hr];simp[Z,zN]);rw[pQ];refine lp 15 b.length [0,3,13,14] (λk env j _ y=>j 10=E ⟨L,2,1,ao<|Z<|zN<|bA a 0,Q⟩/\aL [24] j 325 3 ((b.take k).map λs=>e' a (kF a s,s)) (env 4)) ⟨l,by simpa[aw]using aL.nil⟩ ?_;clear am aJ l;rintro k env j a6 y ax aV⟨l,f⟩;generalize o:env 4=ar;rw[o]at f;refine ZL (λi=>?_) λm=>?_
 .have ab:b[k]∈ea a (A a):=by rw[p,w];exact mo _<|aD i
  have ak:=(vU e.sym (A a)<|bJ _).lt _ ab;obtain⟨r,hr⟩:=V1 e.sym ab;have u:(iP a b)[k]?=E [.sl 1<|Z<|zN (b[k]::r)]:=by simp[iP,i,hr]
  have aU:∀g∈b[k]::r,g<A a:=λg f=>(kO e.sym ak).2.1 g<|(sa _).mem_iff.1<|(Yy hr) f;have bh:A r+1<=600:=by
   have M:=(lZ.qY e ak).len;rw[<-GH,hr,dC]at M;omega
  have aQ:ny a b[k] r=kF a b[k]:=by rw[kF,hr];rfl
  have G:=F _ r aU Zo;rw[aQ]at G;have a1:(b.take<|k+1).map (λs=>e' a (kF a s,s))=(b.take k).map (λs=>e' a (kF a s,s))++[e' a (kF a b[k],b[k])]:=by
   rw[dm i,bX];rfl
  have aa:A ((b.take k).map λs=>e' a (kF a s,s))=k:=co;have aW:∀r∈(b.take k).map λs=>e' a (kF a s,s),A r=3:=λr hr=>yx;simp only[e']at G;refine(ad<|JJ u o)<|bR _ G Iw<|(ZN)<|GK.cM (eC.eS (S:=[24]) (aq:=(b.take k).map λs=>e' a (kF a s,s)) (bD:=[e' a (kF a b[k],b[k])]) aF ((Pa)<|f.aA bF) aW (by simp[aw,dS,ai,e']) Zs C (by rw[aa];simp;omega) (by rw[aa];unfold aE;simp;omega) λbb bl bp a3 aK=>?_);have x:=(aK 10 Zd Zd).trans (show _=_ by simp[ai];exact l);refine(ZN) ?_;exact dI ⟨x,by rw[a1];simpa[aw]using a3⟩
 obtain rfl:k=b.length:=Zo;rw[cc,show(b.map λs=>e' a (kF a s,s))=(dz a).map (e' a)by rw[aR,eu];rfl]at f;clear F t ah;refine(ad<|JJ m o)<|Jg [24] [.fn 221 [] []] ar 325 3 _ _ _ aZ C (f.aA bF) ((Pb)<|YN.2 ⟨Zs,Zs⟩) λau an P=>?_;have x:=(P 10 Zd).trans l;have aN:∀r∈(fV a).map (e' a),A r=3:=λr hr=>yx;have R:∀r∈(fV a).map (e' a),∀d∈r,Cl d:=λr hr d aS=>by obtain⟨s,-,rfl⟩:=aP.1 hr;exact L_ a s d aS
 have V:=(Gx e.sym).1;have bf:A (fV a)<=600:=(Yy V.length_eq)<|Jk e;have U:∀g∈fV a,g.1<A a:=λg f=>Et e g<|V.mem_iff.1 f;have aO:A ((fV a).map<|e' a)=A (fV a):=by rw[bE]
 refine(ZN)<|GK.fe [24] 4 (.sl 3<|(fV a).map<|e' a) (by simp only[aw,bT,bj,e7,eQ,reduceCtorEq,o];exact(an.aA (H':=b5 [24] au) λbn a0=>by simp only[b5,aM a0]).fz Zd aN R) (db.2 R) λav K=>GK.cM ?_;have ap:=(K 10 Zs).trans x;refine(ad aO)<|fG 30 (A<|fV a) (λk=>Fw.fF 40 [(28,.sl 3<|(fV a).map<|e' a),(29,I<|A<|fV a)] λenv j _ y=>aL [10,37] j 2 1 (Z<|zN<|bA a 0++ao ((Y k<|fV a).map λg=>bA a g.1))<|env 3) C
  ⟨C,bU,aj ⟨10,L,Zs,by simp[aw,kv],Yq ap⟩⟩ ?_
 clear f an P x ap K m l o;rintro k env j a6 y ax aV f;generalize z:env 3=ar;rw[z]at f;refine ZL (λi=>?_) λm=>?_
 rotate_left 1
 .obtain rfl:k=A (fV a):=Zo;rw[cc]at f;exact(ad<|JJ m z)<|f.fz Zd (iI _)<|tM _
 have u:((fV a).map<|e' a)[k]?=E (e' a (fV a)[k]):=Yr i;have aT:=U _<|aD i;have bi:=(lZ.qY e aT).len;have bg:A (bA a 0++ao ((Y k<|fV a).map λg=>bA a g.1))<=600+600*600:=by
  have M:=(lZ.qY e e.pos).len;have O:=Su e ((Y k<|fV a).map (·.1)) (λg f=>by
   obtain⟨a_,a5,rfl⟩:=aP.1 f;exact U a_<|tv a5)
  rw[eu,bE,ij]at O;have aI:600*min k (A<|fV a)<=600*600:=Nat.mul_le_mul_left _ Zo;rw[b9];exact Nat.add_le_add Zo<|gS O aI
 simp only[e']at u;refine(ad u)<|GK.u5 (S:=[10,37]) (aq:=Z<|zN<|bA a 0++ao ((Y k<|fV a).map λg=>bA a g.1)) (bD:=Z<|zN<|bA a (fV a)[k].1) Zd aC (by simp only[aw,bx,bT,bj,e7,eQ,z];exact f.aA bF) (iI _) qu (λq=>DX) nT (by rw[fm,fm,kv,kv];omega) N' λav bm bq B D a4 bd=>?_;have a7:B 28=.sl 3 ((fV a).map<|e' a):=(D 28 Zd).trans fR;have a8:B 29=I (A<|fV a):=(D 29 Zd).trans fR;have a9:B 30=I k:=(D 30 Zd).trans fR;refine(ad a9) ?_;refine gY i ⟨C,by simp[aw,a7,a8],?_⟩;rw[dm i,bX,eR,<-dy,CR,o5];simpa[aw]using a4.sub (S':=[10,37]) Zs
theorem aaF{S:ax}{n:List Ag}{b:bi}(m:aL S fd 125 5 (eM b n) eq)(o:∀a(y:a<A n),fd (2000+a)=E ⟨b a,177,2,ao<|b3 n[a].p,Q⟩):Fz fd eq<|cw n:=by
 obtain⟨q,rfl⟩|⟨w,l,B,rfl,u⟩:=m
 .exact PV
 have t:A (eM b n)=A (n.map cr):=by rw[lJ,bE]
 rw[t];refine .ms w ⟨l,125,5,ao<|eM b n,Q⟩ (n.map cr) (λa g=>((eM b n).getD a []).getD g .any) u C (ya 4) (λa r f=>?_) (λa r g d h e=>?_) λa r g d h e=>?_
 .obtain⟨k,-,rfl⟩:=aP.1 (fE f);rfl
 .rw[fP]at h;obtain⟨k,j,rfl⟩:=jP.1 h;have i:=(dX.1 j).1;have f:(eM b n)[a]?=E (kX (b a) a n[a]):=by simp[eM,i]
  have z:g<5:=(dX.1 e).1;have x:(kX (b a) a n[a])[g]?=E ((kX (b a) a n[a]).getD g .any):=by(grind [List.getElem?_eq_getElem,kX])
  rw[mJ (u3 b n) f x];simp[List.getD,f]
 rw[fP]at h;obtain⟨k,j,rfl⟩:=jP.1 h;obtain⟨i,rfl⟩:=dX.1 j;have f:(eM b n)[a]?=E (kX (b a) a n[a]):=by simp[eM,i]
 simp only[List.getD,f,kx]
 match g,e with
 |0,e=>cases e;exact .cl _ (.sc _)
 |1,e=>cases e;exact .cl _ (.sc _)
 |2,e=>cases e;exact .cl _ (.sc _)
 |3,e=>cases e;exact .cl _ (kY _)
 |4,e=>
  cases e;exact Fz.aq (ob:=⟨b a,177,2,ao<|b3 n[a].p,Q⟩) (o a i) C C Zd (by simp[b3]) (oQ _) C λr f d s=>py _ d<|eL.2 ⟨r,f,s⟩
theorem Eb(b:Ag):∀d∈cr b,Cl d:=λd a=>by
 simp only[cr,cF,dt,gD]at a;obtain rfl|rfl|rfl|rfl|rfl:=a
 .exact .sc _
 .exact .sc _
 .exact .sc _
 .exact kY _
 grind [db,py,List.mem_flatten]
theorem Vd(e:List Pt):(b3 e).flatten.all cO=W:=en.2 λd a=>by
 have⟨r,b,a⟩:=eL.1 a;obtain⟨f,-,rfl⟩:=aP.1 b;simp at a;obtain rfl|rfl:=a<;>rfl
theorem Qr(a:Ag)(z:A a.d<=4)(r:A a.p<=4)(s:1<=A a.p){aI:gg}{H:a'}{n0:bi}{T:cf}{N:Nat}
 (o:∀(f:St)(j:Nat),f.T=T->d_ aB f [.cell 2 125]=E (.ag [I a.k,I a.l,I a.v,bm a.d,.ms 25 j<|A a.p])->f.H 25=E ⟨j,177,2,ao<|b3 a.p,Q⟩->aI .ret f):
 ∃i,f69.body=E i/\vc aB [] i aI ⟨ej [.cp<|cr a],H,n0,27,T,N⟩:=by
 refine⟨_,C,?_⟩;have q:=(Kw a.d Zo).sp<|iI _;have⟨w,x,y,u,g⟩:=a;obtain⟨e,b,rfl⟩:∃e b,g=e::b:=by
  obtain _|⟨e,b⟩:=g
  .simp at s
  exact⟨e,b,C⟩
 have m:b3 (e::b)=[I e.1,I e.2]::b3 b:=C;have t:=p_ b;have B:A b<=3:=Yq r;simp only[cr,m,bm,go_sem];refine lq [0,1,2,3,4,5,6,7,8,9,10,11,12,13,14,15,17,18,19,20,21,16,22,23,24] [] [20]<|(ZN)<|bR _ q (by(grind [nq]))<|(ad t) ?_;refine⟨⟨?_,Zo,Zo,l3⟩,o _ (n0 25) C Ii (Yu m)⟩
 grind [Vd]
def aeQ(a:Ag)(b:A a.d<=4)(h:A a.p<=4)(i:1<=A a.p):az 69 [.cp<|cr a]<|.ag<|cr a:=by
 obtain⟨l,g,k⟩:=Qr (H:=ma) (n0:=dY) (T:=[]) (N:=0) a b h i (aI:=nF aB [.cell 2 125]<|.ag<|cr a) λo m _ e f=>
  ⟨_,e,Fz.oy<|.c (.cl _<|.sc _)<|.c (.cl _<|.sc _)<|.c (.cl _<|.sc _)<|.c (.cl _<|kY _)<|.c (Fz.aq f C C Zd (by rw[p_]) (oQ _) C λr j d b=>py _ d<|eL.2 ⟨r,j,b⟩) .n⟩
 exact Sp.ey _ _ func69 g Zk ntmps69 C Zs k
def aeR(b:Ag)(a:A b.d<=4)(t:A b.p<=4)(u:1<=A b.p){s:St}{dst:ON}{K:aU}
 (o:∀H y f,H 25=E ⟨f,177,2,ao<|b3 b.p,Q⟩->(∀e,e≠25->H e=s.H e)->K ({s with H:=H,n:=y}.put dst<|.ag [I b.k,I b.l,I b.v,bm b.d,.ms 25 f<|A b.p])):er aB s 69 [.cp<|cr b] dst K:=by
 obtain⟨z,r,w⟩:=Qr (H:=b5 [25] s.H) (n0:=s.n) (T:=s.T) (N:=s.N) b a t u (aI:=nD aB [.cell 2 125] λd H n T=>In [25] d/\T=s.T/\(∀e∈[25],∀g,H e=E g->∀d∈g.cells,In [25] d)/\K ({s with H:=iD [25] [25] s.H H,n:=n}.put dst d)) λB f q m h=>by
  refine⟨_,m,.ag λx d a=>?_,q,λe j g i d a=>?_,o _ _ f ((vH Zs).trans h) λe b=>xw (Yr b)<|Yr b⟩
  .match x,a with
   |0,a=>cases a;exact .sc _
   |1,a=>cases a;exact .sc _
   |2,a=>cases a;exact .sc _
   |3,a=>cases a;exact(kY _).bB
   |4,a=>cases a;exact .ms _ _ Zs
  simp only[dg]at j;subst j;rw[h]at i;cases i;exact(py _ d a).bB
 exact A1 _ _ _ func69 r Zk ntmps69 C Zs w
def acZ(a:List Ag)(l:fK a)(Z:A a<=600):az 37 [.cp [cw a]]<|.ag [cw a]:=by
 have D:cE aB 28=E (125,5,72):=Zk;have K:A (a.map cr)=A a:=Zs;have M:=λ(z:Nat)(j:z<A a)=>aeQ a[z] (l _<|aD j).1 (l _<|aD j).2.1 (l _<|aD j).2.2;have L:cw a=.sl 5 (a.map cr):=C;rw[L];refine(ia [] [.cell 2 30])<|lp 4 (A a) [0,2,3] (λb F e _ B=>(∃i,e 2=E ⟨0,30,1,[i],Q⟩)/\∃m,e 3=E ⟨0,30,1,[m],Q⟩/\aL [25] e 125 5 ((Y b a).map cr) m) ⟨⟨_,l4⟩,_,ep,aG ⟨Zs,C⟩⟩ ?_;rintro b F e aa B R X⟨⟨i,p⟩,m,f,g⟩;refine dN K (λbw=>?_) λI=>?_
 .have o:=vJ a b bw;have V:((b:Int)<(A a:Int))=True:=dM Zo;have x:=M b bw;have O:(Y (b+1) a).map cr=(Y b a).map cr++[cr a[b]]:=wH;have w:A ((Y b a).map cr)=b:=co;have G r (hr:r∈(Y b a).map cr):A r=5:=yx;simp only[cr]at o x;refine(ZN)<|dP [3] [] ?_;simp only[f,o,jt,go_sem];refine hW x (.c (Cl.eT<|Eb a[b]) .n)<|(ad f)<|js (S:=[25]) (aq:=(Y b a).map cr) (bD:=[cr a[b]]) Zs D ((Pa)<|g.aA bF) G (by simp[aw,dS,ai,cr,bm]) Zs C (by rw[w];show(b+1)*72<=_;omega) (by rw[w];show b+1<=aE;unfold aE;omega) (by show 25<28;decide) λP ab ae y u=>?_;obtain⟨U,rfl,-⟩:=eG y Zs;have t:=(u 3 Zd Zd);have q:=(u 2 Zd Zd);simp only[a_,dG,bj,dv,p,f]at t q;refine(ad t) ?_;refine dI ⟨⟨i,Yu q⟩,_,my,?_⟩;rw[O];exact aL.aA y bF
 obtain rfl:b=A a:=Zo;rw[cc]at g;simp only[I,p,f,go_sem];refine⟨n9 g,Fz.oy<|.c ((g.aA bF).fz Zd (λr hr=>yx) λr hr d J=>by obtain⟨s,-,rfl⟩:=aP.1 hr;exact Eb s d J) .n⟩
structure ai0 (n:List Ag) (o:List Nat):Prop where
 p:o.Perm (cz (A n))
def ai0.nd(a:ai0 g0 gt):gt.Nodup:=a.p.nodup_iff.2 nodup_range
def ai0.len(a:ai0 g0 gt):A gt=A g0:=by rw[a.p.length_eq,length_range]
def ai0.mem(a:ai0 g0 gt):am∈gt↔am<A g0:=by rw[a.p.mem_iff,mem_range]
def ai0.lt(a:ai0 g0 gt)(b:am<A gt):gt[am]<A g0:=a.mem.1<|aD b
def ai0.idx{a:ax}(f:ai0 g0 a){b:Nat}(d:b<A a):a.idxOf a[b]=b:=by
 have e:a.idxOf a[b]<A a:=idxOf_lt_length_of_mem<|aD d;have g:a[a.idxOf a[b]]=a[b]:=List.getElem_idxOf e;obtain q|q|q:=Hn (a.idxOf a[b]) b
 .exact absurd g<|wt.1 f.nd _ _ e d q
 .exact q
 exact absurd g.symm<|wt.1 f.nd _ _ d e q
def Li(a:iS g0):ai0 g0<|p9 g0<|fV g0:=⟨aeO a.sym a.pos<|Gx a.sym⟩
def nB(o:ax)(i:Nat):IL:=(cz<|A o).map λk=>if k∈Y i o then(o.idxOf k:Int)else(o.getD k 0:Nat)
def K8(a:ax)(b:Nat):A (nB a b)=A a:=by simp[nB]
def aei(a:ax):nB a 0=zN a:=by
 refine lX (by simp[nB,zN]) λe b f=>?_;have d:e<A a:=by simpa[nB]using b
 simp[nB,zN,d]
def aek{b:ax}(h:ai0 g0 b){a:Nat}(f:a<A b):(nB b a).set b[a] (a:Int)=nB b (a+1):=by
 refine lX (by simp[nB]) λg i j=>?_;rw[getElem_set];simp only[nB,fk,Ao,dm f,ca,dg];by_cases d:b[a]=g
 .rw[aM d,aM<|aj d.symm,<-d,h.idx f]
 rw[aC d];by_cases e:g∈Y a b
 .rw[aM e,aM<|aG e]
 rw[aC e,aC (by rintro(w|w);exact e w;exact d w.symm)]
def aej(a:ai0 g0 gt)(b:am<A g0):(nB gt<|A gt)[am]'(by rw[K8,a.len];exact b)=(gt.idxOf am:Int):=by
 simp[nB,a.mem.2 b]
def mf(o:ax)(p:List Pt)(j:Nat):List Pt:=(Y j p).map (λq=>((o.idxOf q.1.toNat:Int),q.2))++p.drop j
def Lz(d:ax)(a:List Pt)(b:Nat):A (mf d a b)=A a:=by simp[mf];omega
def VA(d:ax)(a:List Pt)(b:a0<A a)(e:am<=a0):(mf d a am)[a0]'(by rw[Lz];exact b)=a[a0]:=by
 simp only[mf];rw[C6 ch];simp only[bE,ij,sr];congr 1;omega
def VB(d:ax)(b:List Pt){a:Nat}(e:a<A b):(mf d b a).set a ((d.idxOf b[a].1.toNat:Int),b[a].2)=mf d b (a+1):=by
 simp only[mf];rw[Dd _ _ ch,dm e,bX,dy];congr 1;rw[bE,ij,wx Zo,pJ,ml e];rfl
def Vz(b:ax)(a:List Pt):mf b a (A a)=a.map λd=>((b.idxOf d.1.toNat:Int),d.2):=by simp[mf]
def tg(o:ax)(a:Ag):Ag:={a with p:=a.p.map λq=>((o.idxOf q.1.toNat:Int),q.2)}
def gH(n:List Ag)(o:ax)(k:Nat):List Ag:=(Y k o).map λk=>tg o<|n.getD k ⟨0,0,0,[],[]⟩
def Ct{n:List Ag}{o:ax}{k:Nat}(a:k<=A o):A (gH n o k)=k:=by simp[gH];omega
def Vy{n:List Ag}{a:ax}(d:ai0 n a)(b:am<A a):gH n a (am+1)=gH n a am++[tg a<|n[a[am]]'(d.lt b)]:=by
 have e:=d.lt b;simp only[gH,dm b,bX,b4,eO];simp[e]
def Gw(a:ai0 g0 gt):gH g0 gt (A gt)=pz g0 gt:=by
 rw[gH,cc];exact jn λe b=>by have d:=a.mem.1 b;simp[d,tg]
def VT(a:List Pt){j:Nat}(e:j<A a)(v:Int):Y (j*2) (b3 a).flatten++[I v]++(b3 a).flatten.drop (j*2+1)=ao (b3<|a.set j (v,a[j].2)):=by
 have b:=qj j a;rw[ml e]at b;have h:A (ao<|b3<|Y j a)=j*2:=by rw[iY<|oQ _,p_,ij,wx Zo]
 have d:=eo b3 b;simp only[b3,bX,b4]at d;have f:ao (b3 a)=ao (b3<|Y j a)++(I a[j].1::I a[j].2::ao (b3<|a.drop<|j+1)):=by
  show ao (List.map _ a)=_;rw[<-d,eR,dT];rfl
 have g:ao (b3<|a.set j (v,a[j].2))=ao (b3<|Y j a)++(I v::I a[j].2::ao (b3<|a.drop<|j+1)):=by
  rw[Xc,aM e];simp only[b3,bX,b4,eR,dT];rfl
 rw[f,g,<-h,take_left,drop_append,ME Zo];simp
open Classical
def ac0{n:List Ag}(X:iS n){o:ax}(z:ai0 n o):az 176 [.cp [cw n],.sl 1<|Z<|zN o]<|.ag [cw<|pz n o]:=by
 have bl:cE aB 28=E (125,5,72):=Zk;have b_:A (n.map cr)=A n:=Zs;have cc:=X.len;have cd:=z.len;have aQ:=kv o;have bG:=Kw (zN o)<|Yv aQ;have bw:cw n=.sl 5 (n.map cr):=C;rw[bw];have bv:=X.sz;have bz:∀a∈n,∀j(aO:j<A a.p),∃g:Nat,(a.p[j]).1=g/\g<A n:=λa aM j aO=>by
  have R:=X.nn a aM _<|aD aO;exact⟨(a.p[j]).1.toNat,Zo,R.2⟩
 have bC:Z (zN o)≠[]:=by
  have R:=X.pos;intro av;have R:=eo A av;rw[pQ,gR]at R;omega
 refine(ia [1000066,1000068] [.cell 4 30])<|tS 2 1 _ bG ((Pc)<|nq _) λb5 ce ck bO bo=>?_;obtain⟨ae,rfl,y⟩:=eG bO bC;have D:=(bo 4 Zd);rw[pQ];rw[<-aei]at y;refine(ZN)<|lp 6 (A o) [0,1,4,5] (λk M e _ ay=>(∃x,e 4=E ⟨0,30,1,[x],Q⟩)/\e 12=E ⟨ae,2,1,ao<|Z<|nB o k,Q⟩) ⟨⟨_,D.trans l4⟩,y⟩ ?_;rintro k M e bV ay bf bt⟨⟨x,D⟩,y⟩;refine dN aQ (λF=>?_) λf=>?_
 .have aI:=pP o k F;have am:=z.lt F;have bB:((o[k]:Int)<(A o:Int))=True:=dM Zo;have a9:=K8 o k;have w:=(VP (nB o k) o[k] k<|Yv a9).trans<|Yw<|aek z F;simp only[lc,oW]at w;have aN:o[k]+1<=A (ao<|Z<|nB o k):=by rw[ox,bE,a9];omega
  simp only[aI,y,bB,h_,w,aN,go_sem];exact dI ⟨⟨x,Yu D⟩,ep⟩
 obtain rfl:k=A o:=Zo;refine(ad f) ?_;obtain⟨V,bq⟩:=Zx<|bV 7;rw[bq];refine lp 8 (A o) [0,1,4,5,7] (λk M e _ ay=>(∃x,e 4=E ⟨0,30,1,[x],Q⟩)/\e 12=E ⟨ae,2,1,ao<|Z<|nB o<|A o,Q⟩/\∃g u,e 7=E ⟨V,30,1,[g],Q⟩/\aL [68] e 125 5 (eM u<|gH n o k) g/\∀i(X:i<A (gH n o k)),e (2000+i)=E ⟨u i,177,2,ao<|b3 (gH n o k)[i].p,Q⟩) ⟨⟨x,Yu D⟩,Yu y,_,λ_=>0,ep,aG ⟨by simp[gH,eM],C⟩,by simp[gH]⟩ ?_;rintro k M e bW ay bf bt⟨⟨x,D⟩,y,g,u,aK,ar,aR⟩;refine lm aQ (λf=>?_) λf=>?_
 rotate_left 1
 .have bu:k=A o:=by simp at f;omega
  subst bu;rw[Gw z]at ar;simp only[Gw z]at aR;simp only[f,D,aK,go_sem];refine⟨n9 ar,Fz.oy<|.c (aaF (ar.aA bF) λi al=>by simpa[ai,show¬2000+i=4 by omega]using aR i al) .n⟩
 have F:k<A o:=Yq f;have aI:=pP o k F;have am:=z.lt F;have cb:((o[k]:Int)<(A n:Int))=True:=dM Zo;have aJ:=vJ n o[k] am;have w:=Vy z F;have ap:=bv n[o[k]]<|aD am;have ba:=bz n[o[k]]<|aD am;have an:=Ct (n:=n) (o:=o) (k:=k) Zo;generalize aM:n[o[k]]=a;simp only[aM]at aJ w ap ba;have aP:=λ(b0:St)(dst:ON)(K:aU)=>aeR a ap.1 ap.2.1 ap.2.2 (s:=b0) (dst:=dst) (K:=K);simp only[cr]at aJ aP;refine(ad f)<|wX (λbZ=>Fw.fF 71 [(0,.cp [.sl 5<|n.map cr]),(1,.sl 1<|Z<|zN o),(4,.rf 4 0 0),(5,.ms 12 ae<|A o),(7,.rf 7 V 0),(8,I k)] (λM H' _ bg=>∃P t,M 9=.rf 9 P 0/\H' 9=E ⟨P,125,5,[I a.k,I a.l,I a.v,bm a.d,.ms 25 t<|A a.p],Q⟩/\H' 25=E ⟨t,177,2,ao<|b3 a.p,Q⟩/\∀b,b≠9->b≠25->H' b=e b) bZ)
  (.bS [0,1,2,3,4,5,6,7,8] 9 (.fin [10,11]) 10<|.fin [9,11]) [] [] fb Zk ?_ ?_
 .refine(ad<|JJ aI aJ) ?_;refine⟨?_,?_⟩
  .refine aj<|aj (aP _ _ _ λaW aV t aF aa=>(ZN) ?_);exact⟨C,bU,aV 9,t,bU,ep,by simp[ai];exact aF,λb m q=>by simp[ai,m];exact aa b q⟩
  refine aj<|aj (aP _ _ _ λaW aV t aF aa=>?_);have aZ:=aa 9 Zd;simp only[bN]at aZ;refine(ad aZ) ?_;exact⟨C,bU,bW 9,t,bU,ep,by simp[ai];exact aF,λb m q=>by simp[ai,m];exact(aa b q).trans<|Yu m⟩
 rintro⟨b9,b6,aV,cj,T2,b7⟩⟨rfl,a8,P,t,a6,J,G,L⟩;simp only[bM]at a8;obtain⟨a1,ab,a2,a3,a4,a5,-⟩:=a8;simp only at a1 ab a2 a3 a4 a5 a6 J G L;have bA:=K8 o<|A o;refine(ZN)<|fG 10 (A a.p) (λj=>Fw.fF 71 [(0,.cp [.sl 5<|n.map cr]),(1,.sl 1<|Z<|zN o),(4,.rf 4 0 0),(5,.ms 12 ae<|A o),(7,.rf 7 V 0),(8,I k),(9,.rf 9 P 0)] λM H' _ bg=>H' 9=E ⟨P,125,5,[I a.k,I a.l,I a.v,bm a.d,.ms 25 t<|A a.p],Q⟩/\H' 25=E ⟨t,177,2,ao<|b3<|mf o a.p j,Q⟩/\∀b,b≠9->b≠25->H' b=e b) C
  ⟨C,by simp[aw,a1,ab,a2,a3,a4,a5,a6],J,by simpa[mf]using G,L⟩ ?_
 rintro j b' aW cf T3 b8 aO⟨J,G,L⟩;have bX:=(L 12 Zd Zd).trans y;have bY:=(L 7 Zd Zd).trans aK;refine lm J (λf=>?_) λf=>?_
 .have au:j<A a.p:=by simpa using f
  have bs:((j:Int)<(A a.p:Int))=True:=dM Zo;have⟨g,bd,bR⟩:=ba j au;have bQ:((g:Int)<(A o:Int))=True:=dM Zo;have bH:=Lz o a.p j;have a':=VA o a.p au<|bJ j;have aN:(ao<|b3<|mf o a.p j)[j*2]?=E (I g):=by
   have R:=mJ (oQ<|mf o a.p j) (i:=j) (j:=0) (r:=[I a.p[j].1,I a.p[j].2]) (d:=I g) (by rw[zE _ j Zo,a'])<|Yr bd;simpa using R
  have bp:(ao<|Z<|nB o<|A o)[g]?=E (I (o.idxOf g:Int)):=by
   rw[ox,fP,bL<|Yv bA,aej z bR];rfl
  have w:=VT (mf o a.p j) (j:=j) Zo (o.idxOf g:Int);have bb:=VB o a.p au;simp only[bd,q_]at bb;rw[a',bb]at w;refine(ad f)<|dP [9,25,12] [] ?_;simp only[J,G,bX,bs,bQ,h_,mn,aN,bp,go_sem];refine⟨by rw[iY<|oQ _,p_,bH];omega,gY au ⟨C,bU,by simp[ai,J,bm],by simp only[bN];rw[w],λb m q=>by simp[ai,q];exact L b m q⟩⟩
 obtain rfl:j=A a.p:=Ys f;rw[Vz]at G;have bI:(tg o a).p=a.p.map λav=>((o.idxOf av.1.toNat:Int),av.2):=C;rw[<-bI]at G;refine(ad<|JJ f bY)<|GK.qQ 25 (2000+k) 9 4 (A a.p) G J Zd Zo C λU cg O bh aH bi=>GK.cM ?_;have aH:U 9=E ⟨P,125,5,[I a.k,I a.l,I a.v,bm a.d,.ms (2000+k) O<|A a.p],Q⟩:=aH;have Y b (m:b≠9) (q:b≠25) (bn:b≠2000+k):U b=e b:=(bi b q bn m).trans<|L b m q;obtain⟨B,ak⟩:∃B:Nat->Nat,(λi=>if i=k then O else u i)=B:=⟨_,C⟩;have bK:eM B (gH n o<|k+1)=eM u (gH n o k)++[[I a.k,I a.l,I a.v,bm a.d,.ms (2000+k) O<|A a.p]]:=by
  rw[w,Qq,an];have ab:eM B (gH n o k)=eM u (gH n o k):=IU C λi m q=>by
   rw[<-ak];simp only[kX];rw[aC Zo]
  rw[ab,<-ak];simp only[kX,bx,tg,bE]
 have bP:=ar.aA (H':=U) λb aS=>Y b (Ys aS) (Ys aS)<|Ys aS;refine(ad aH)<|GK.cM (eC.eS (S:=[68]) (aq:=eM u<|gH n o k) (bD:=[[I a.k,I a.l,I a.v,bm a.d,.ms (2000+k) O<|A a.p]]) bl ((Pa)<|bP.aA bF) (u3 _ _) DF Zs C (by rw[lJ,an];simp;omega) (by rw[lJ,an];unfold aE;simp;omega) λaX ci cm bc ah=>?_);obtain⟨a7,rfl,-⟩:=eG bc Zs;have b4:=(ah 7 Zd Zd).trans (show _=_ by simp[ai];exact(Y 7 Zd Zd Zo).trans aK);have b2:=(ah 4 Zd Zd).trans (show _=_ by simp[ai];exact(Y 4 Zd Zd Zo).trans D);have b1:=(ah 12 Zd Zd).trans (show _=_ by simp[ai];exact(Y 12 Zd Zd Zo).trans y);refine(ad b4) ?_;refine dI ⟨⟨x,Yu b2⟩,Yu b1,_,B,my,?_,λi al=>?_⟩
 .rw[bK];exact aL.aA bc bF
 have ca:i<k+1:=by rw[Ct Zo]at al;exact al
 have hH (v:sC) (aT:U (2000+i)=v):ai aX 7 (E ⟨V,30,1,[.ms 68 a7<|A<|eM u (gH n o k)++[[I a.k,I a.l,I a.v,bm a.d,.ms (2000+k) O<|A a.p]]],Q⟩) (2000+i)=v:=by
  rw[a_ _ _ Zo];refine(ah _ Zo ch).trans ?_;simp[ai,show¬2000+i=67 by omega,aT]
 have br be (bk:(gH n o<|k+1)[i].p=be) (aT:U (2000+i)=E ⟨B i,177,2,ao<|b3 be,Q⟩):ai aX 7 (E ⟨V,30,1,[.ms 68 a7<|A<|eM u (gH n o k)++[[I a.k,I a.l,I a.v,bm a.d,.ms (2000+k) O<|A a.p]]],Q⟩) (2000+i)=E ⟨B i,177,2,ao<|b3 (gH n o<|k+1)[i].p,Q⟩:=(Yy bk)<|hH _ aT;refine br _ (Yw<|C7 w) ?_;by_cases a0:i=k
 .subst a0;rw[C6 Zo];simp only[an,pJ,fA];rw[bh,<-ak];simp only[bx]
 rw[tt Zo,<-ak];simp only[aC a0];exact(Y _ Zo Zo Zo).trans<|aR i Zo
def ac2{a:List Ag}(b:iS a):az 110 [.cp [cw a]]<|.ag [cw<|pz a<|p9 a<|fV a]:=by
 have d:=ac3 b;have e:=ac0 b<|Li b;have kJ:Cl<|.cp [cw a]:=Cl.eT ((Pb)<|oa a);refine(ia [] [.cell 2 30])<|bR _ d ((Pc) kJ)<|(ZN)<|bR _ e Iw<|(ZN) ?_;have f:cO (cw<|pz a<|p9 a<|fV a)=W:=C;refine⟨f,.cl _<|Cl.bC ((Pb)<|oa _)⟩
def jD(c:O):Int:=if c.fW 0=W then(if A c.hN<=600 then 0 else 4)else 9
def gM(c:O):List Ag:=if jD c=0 then pz c.hN (p9 c.hN<|fV c.hN)else[]
theorem wU:jD n5=0↔n5.fW 0=W/\A n5.hN<=600:=by
 grind [jD]
theorem ac8{b:O}(e:o0 b):az 68 [.cp b.ds]<|.tp [.ag [cw<|gM b],I<|jD b]:=by
 have aa:=KD b 0 e.g e.o (Yo e.n) Zo Zo;have an:Cl<|.cp b.ds:=Cl.eT<|O.cl b;refine(ia [1000011,1000016] [.cell 2 30,.tmp 3])<|bR _ aa (by(grind [bc])) ?_;have al:∀(l:a')(r:Int),jD b≠0->r=jD b->Fz l (.tp [.ag [bp],I r]) (.tp [.ag [cw<|gM b],I<|jD b]):=λl r V G=>by
  have ae:cw (gM b)=.sl 5 []:=by rw[gM,aC V];rfl
  rw[ae,G];exact Fz.lT (Fz.oy<|.c (.nil 5) .n)<|.cl _<|bc _
 cases y:b.fW 0
 .refine(ZN) ?_
  grind [wU,jD]
 refine(ZN) ?_;refine aj<|aj (X8 e y (λz i ob Y=>by simp[ai,dO i (u:=2),ma]at Y) λl j p q L=>?_);have J:=L 2 Zd;have ah:cO p=W:=by obtain⟨am,ab,ap⟩:=q.x;exact n9 ab
 refine(ZN) ?_;refine⟨ah,?_⟩;generalize m:b.hN=a;have U:A (a.map cr)=A a:=Zs;rw[m]at q;have M:NB (ai (ai (ai l 4 Q) 4<|some ⟨j 4,30,1,[bp],Q⟩) 4<|some ⟨j 4,30,1,[p],Q⟩) a p:=q.aA λz i=>Yu<|dO i (u:=4);refine GK.fc (B3<|A a) 4 0 (ob:=⟨j 4,30,1,[p],Q⟩) bF AK C (M.fz _ λz i=>i) (oa a) λB d D=>GK.cM ?_;have s:=(D 2 Zd AK).trans (show _=_ by simp[ai];exact J);replace d:B 4=E ⟨j 4,30,1,[cw a],Q⟩:=d;simp only[cw]at d;refine lm (JJ d U) (λf=>?_) λf=>?_
 .have ao:600<A a:=by simp at f;omega
  refine(ad<|JJ f s) ?_
  grind [wU,jD]
 have t:A a<=600:=Ys f;have w:=e.K5<|(Yy m) t;rw[m]at w;have X:=ac2 w;have P:jD b=0:=wU.2 ⟨y,(Yy m) t⟩;have S:gM b=pz a (p9 a<|fV a):=by(grind [gM])
 have R:Cl<|.cp [cw a]:=Cl.eT yq;have Z:cO (cw<|pz a<|p9 a<|fV a)=W:=C;refine(ad f)<|GK.fe [4] 4 (.cp [cw a]) (by simp only[aw,bx,bT,bj];exact Fz.cell (ob:=⟨j 4,30,1,[cw a],Q⟩) (by simp only[b5,dg,bx];exact d) C C yq) R λak F=>GK.cM ?_;have K:=(F 2 Zd).trans s;refine(ZN)<|bR _ X (by(grind))<|(ad K) ?_;refine⟨Z,?_⟩;rw[S,P];exact .cl _<|Cl.jf (by(grind [Cl.bC,List.mem_singleton,oa,bc]))
def iU(l:cm):Int:=if(l.all λc=>c.fW 0)=W then(if(l.all λc=>ah<|A c.hN<=600)=W then 0 else 4)else 9
def iK(l:cm):List<|List Ag:=if iU l=0 then l.map gM else[]
def gP(l:List<|List Ag):cB:=l.map λn=>[cw n]
def B9(a:List<|List Ag):∀r∈gP a,A r=1:=by simp[gP]
theorem K7(b:List<|List Ag):∀r∈gP b,∀d∈r,Cl d:=λr a d e=>by
 obtain⟨f,-,rfl⟩:=aP.1 a
 grind [oa]
theorem ac6{a:cm}(h:∀d∈a,o0 d)(av:A a<=24):az 36 [.cp [O.sl a]]<|.tp [.sl 1<|gP<|iK a,I<|iU a]:=by
 have M:cE aB 27=E (30,1,24):=Zk;have D:=O.b6 a;have ak:O.sl a=.sl 4 (O.ab a):=C;rw[ak];refine(ia [1000054] [.tmp 2,.tmp 3]) ?_;have fin (f:a') (J B:Nat) (l:Ob) (b:Int) (w:iU a≠0) (L:b=iU a) (P:f J=E l) (R:l.gen=B) (U:l.sz=1) (V:l.cells=[]) (X:l.keys=Q):Fz f (.tp [.ms J B 0,I b])<|.tp [.sl 1<|gP<|iK a,I<|iU a]:=by
  have ao:gP (iK a)=[]:=by rw[iK,aC w];rfl
  rw[ao,L];exact Fz.lT (Fz.aq P R U Zd C Zs V Zs X)<|.cl _<|bc _
 refine lp 4 (A a) [0] (λb _ _ _ _=>∀d∈Y b a,d.fW 0=W) Zs ?_;rintro b m f ay y K w G;refine dN D (λe=>?_) λj=>?_
 .have s:=O.bV a b e;have u:((b:Int)<(A a:Int))=True:=dM Zo;have x:=aD e;have t:=h _ x;have al:=KD a[b] 0 t.g t.o (Yo t.n) Zo Zo;refine(ad<|JJ s u)<|bR _ al (by(grind [Cl.eT,O.cl,bc])) ?_;cases ax:(a[b]).fW 0
  .have i:iU a=9:=by
    grind [iU,List.all_eq_true]
   exact(ZN)<|fin _ 26 _ ⟨_,30,1,[],Q⟩ 9 (by rw[i];decide) i.symm bF C C C C
  refine(ZN) ?_;refine jW wC e ⟨C,bU,λd j=>?_⟩
  grind [List.take_succ_eq_append_getElem,List.mem_singleton]
 obtain rfl:b=A a:=Zo;rw[cc]at G;have au:(a.all λd=>d.fW 0)=W:=en.2 G;refine(ad j)<|lp 6 (A a) [0] (λb m f _ y=>(∀d∈Y b a,A d.hN<=600)/\aL [27,54] f 30 1 (gP<|(Y b a).map gM) (m 5)) ⟨Zs,aj ⟨27,_,Zs,by simp[aw,gP];rfl,by simp[ai,gP]⟩⟩ ?_;rintro b m f aF y K w⟨ae,q⟩;generalize r:m 5=aJ;rw[r]at q;refine dN D (λe=>?_) λj=>?_
 rotate_left 1
 .obtain rfl:b=A a:=Zo;rw[cc]at ae q;have i:iU a=0:=by(grind [iU,List.all_eq_true])
  have Z:iK a=a.map gM:=by rw[iK,aM i]
  refine(ad<|JJ j r) ?_;rw[i,Z];exact Fz.lT (q.fz Zd (B9 _)<|K7 _)<|.cl _<|bc _
 have s:=O.bV a b e;have u:((b:Int)<(A a:Int))=True:=dM Zo;have x:=aD e;have am:=ac8<|h _ x;have p:jD a[b]=if A (a[b]).hN<=600 then 0 else 4:=by(grind [jD])
 have F:cO (cw<|gM a[b])=W:=C;refine(ad<|JJ s u)<|bR _ am (by(grind [Cl.eT,O.cl])) ?_;by_cases z:A (a[b]).hN<=600
 rotate_left 1
 .rw[aC z]at p;have i:iU a=4:=by
   grind [iU,List.all_eq_true]
  have f1:(jD a[b] !=0)=W:=Yf p;refine(ad f1) ?_;refine⟨F,?_⟩
  grind [jD,ai]
 rw[aM z]at p;have f1:(jD a[b] !=0)=af:=Yf p;have ah:gP ((Y (b+1) a).map gM)=gP ((Y b a).map gM)++[[cw<|gM a[b]]]:=by(grind [List.take_succ_eq_append_getElem,gP])
 have aa:A (gP<|(Y b a).map gM)=b:=by simp[gP];omega
 refine(ad<|JJ f1 r) ?_;refine⟨F,GK.cM (eC.eS (S:=[27,54]) (aq:=gP<|(Y b a).map gM) (bD:=[[cw<|gM a[b]]]) M ((Pa)<|q.aA bF) (B9 _) hF Zs C sG (by rw[aa];unfold aE;simp;omega) λap aH aI an ar=>(ZN) ?_)⟩;refine jW wC e ⟨C,bU,λd j=>?_,?_⟩
 .grind [List.take_succ_eq_append_getElem,List.mem_singleton]
 rw[ah];simpa[aw]using an.sub (S':=[27,54]) Zs
def X3{bf:aF}{a5:aO}(iz:gT bf a5)(ju:0<A a5){s:bu}{c:L}{F e:bq}{l:Int}(dJ:dW he)(jk:A F<=3)(hR:∀v∈F,v.l=0)(jx:A e<=1000000)(gb:0<=l/\l<=1000)(jq:A (bO s e)<=1000)(cd:RC bf a5 c (iv F (fj s e) l) 0)(dh:T7 105 bf a5 c (iv F (fj s e) l) 0):
 B7 bf a5 c F (bO s e) e l he (λx=>nw (A F+A (fj s e))<|oF (gk (A<|fj s e) ((fj s e).map λv=>ah<|v.l=l+1) 0 0) x) (iv F (fj s e) l):=by
 intro aW m i k hs hi hK e6 jp hY;have hX:∀H n d ci,(d=I (A a5+m:Nat)/\ci=i++(nw (A F+A (fj s e)) (oF (gk (A<|fj s e) ((fj s e).map λv=>ah<|v.l=l+1) 0 0) (cV bf a5 c (iv F (fj s e) l) 0<|m+1).1)::(cV bf a5 c (iv F (fj s e) l) 0<|m+1).2))->L7 bf a5 H aW ci->(∀f,f∉eY->H f=k.H f)->hi ({k with H:=H,n:=n}.put hs d):=by
  rintro H n d ci⟨rfl,rfl⟩c1 df;exact hY H n c1 df
 have hL:=hK.off;have fE:=gV e;obtain⟨b1,cS,cT,fK⟩:∃a b c,cY e=[a,b,c]:=⟨_,_,_,C⟩;have jD:=L.cl c;obtain⟨bR,jQ,eb,b0,i7,eH,ix,⟨NN,dK,hZ⟩,⟨TT,eX,h6⟩,BB,ji,fC,eM⟩:=hL.ob;have h2:O.ab i≠[]:=by rw[O.cu];cases i<;>simp at e6⊢;omega
 obtain⟨hG,rfl,iy⟩:=eG ix h2;have c3:A (O.ab i)=i.length:=O.b6 i;obtain⟨an,ar,ap⟩:=he;obtain⟨bt,bI,bw,⟨bA,bH,bB⟩,bz,bv⟩:=c;have dL:A (R<|F.map Ev.n)=A F:=by simp[R]
 have dO:A (R<|bO s e)=A (bO s e):=by simp[R]
 have h5:∀l,(R l).flatten.all cO=W:=λl=>by rw[en];intro d hd;obtain⟨r,cd,hd⟩:=eL.1 hd;obtain⟨x,-,rfl⟩:=aP.1 cd;simp at hd;subst hd;rfl
 have jn:∀l,A (ao<|R l)=A l:=λl=>by rw[iY<|Ds l];simp[R]
 rw[fK]at fE⊢;refine call7 hX [1000093,1000102,1000156,1000164,1000195,1000225] [.tmp 16] C C Zk Zt C Zs ?_;refine(ad eH) ?_;obtain⟨jb,jr⟩:=Zx<|D.cp [ae.sl bf,aa.sl a5];refine wX (λcf=>Fw.fF 278 [(0,.rf 12 aW 0),(1,.cp [I bt,I bI,S bw,I bA,S bH,.sl 3<|J.ab bB,.sl 1 (bz.map λk=>[S k]),.sl 8<|L.ab bv]),(2,.sl 1<|R<|F.map Ev.n),(3,.sl 3<|J.ab<|F.map Ev.t),(4,.sl 1<|R<|bO s e),(13,.cp [b1,cS,cT]),(6,I l),(15,.cp [I an,S ar,.sl 3<|J.ab ap]),(17,I i.length),(18,.rf 18 (k.n 18) 0)] (λenv H n P=>P=k.T/\(∃K M,H 18=E ⟨k.n 18,294,4,[I bR,K,M,bp],Q⟩/\aL [41,43] H 9 1 (R<|F.map Ev.n) K/\aL [44,46] H 9 1 (R<|bO s e) M)/\∀f,f∉[18,41,43,44,46]->H f=b5 eY k.H f) cf)
  (.w7 [0,1,2,3,5,8] 4 (.w7 [] 6 (.bS [] 7 (.bS [] 9 (.fin [10,11,12]) 11<|.fin [9,10,12]) 11<|.fin [7,9,10,12]) 7 (.bS [] 6 (.bS [] 9 (.fin [10,11,12]) 11<|.fin [9,10,12]) 11<|.fin [6,9,10,12]) 11<|.bS [] 6 (.fin [7,9,10,12]) 7<|.fin [6,9,10,12]) 7 (.bS [] 4 (.bS [] 6 (.bS [] 9 (.fin [10,11,12]) 11<|.fin [9,10,12]) 11<|.fin [6,9,10,12]) 11<|.fin [4,6,9,10,12]) 11<|.bS [] 4 (.bS [] 6 (.fin [7,9,10,12]) 7<|.fin [6,9,10,12]) 7<|.fin [4,6,9,10,12]) [12] [] fb Zk ?_ ?_
 .skip
  simp(maxSteps:=5000000) only[eH,dL,dO,h5,cF,dt,gD,kg,go_sem];have gQ:A F*16<=140737488355328:=Zo;have q2:A F<=aE:=l3;have jJ:A (bO s e)*16<=140737488355328:=Zo;have jK:A (bO s e)<=aE:=l3
  repeat' (with_reducible refine And.intro ?_ ?_)
  all_goals first
   |assumption
   |exact⟨C,ow,C,⟨_,_,my,.inr ⟨43,k.n 43,Zs,by rw[dL],ep⟩,.inr ⟨46,k.n 46,Zs,by rw[dO],ep⟩⟩,λf j=>by simp only[lh]at j;simp[ai,j]⟩
 rintro⟨env,H,a8,dX,P,cg⟩⟨rfl,be,aX,⟨K,M,ak,aZ,a0⟩,y⟩;simp only[bM]at be aX ak aZ a0 y;obtain⟨Z,cq,ht,fB,hu,er,hv,aV,a6,dD,-⟩:=be;refine(ad fB) ?_;have h8:A (J.ab<|F.map Ev.t)=A F:=yv;refine⟨⟨J.UX _,Zo,l3⟩,?_⟩;refine fG 21 (A F) (λq=>Fw.fF 278 [(0,.rf 12 aW 0),(1,.cp [I bt,I bI,S bw,I bA,S bH,.sl 3<|J.ab bB,.sl 1 (bz.map λk=>[S k]),.sl 8<|L.ab bv]),(2,.sl 1<|R<|F.map Ev.n),(3,.sl 3<|J.ab<|F.map Ev.t),(4,.sl 1<|R<|bO s e),(13,.cp [b1,cS,cT]),(6,I l),(15,.cp [I an,S ar,.sl 3<|J.ab ap]),(17,I i.length),(18,.rf 18 (k.n 18) 0),(19,.rf 19 (a8 19) 0),(20,.ms 51 (a8 51)<|A F)] λenv H n P=>P=k.T/\(∃K M,H 18=E ⟨k.n 18,294,4,[I bR,K,M,bp],Q⟩/\aL [41,43] H 9 1 (R<|F.map Ev.n) K/\aL [44,46] H 9 1 (R<|bO s e) M)/\H 51=E ⟨a8 51,99,3,ao<|J.ab<|F.map Ev.t,Q⟩/\(∃aK,H 19=E ⟨a8 19,198,3,aK,Q⟩/\sy (Y q F) aK)/\∀f∈eY,H f=b5 eY k.H f) C
  ⟨C,by simp[aw,Z,cq,ht,fB,hu,er,hv,aV,a6,dD],aX,⟨K,M,by simp[ai,ak],aZ.aA bF,a0.aA bF⟩,ep,⟨[bp,bp,bp],ep,aG ⟨C,C⟩⟩,λf j=>by
   rw[<-y f (by simp only[cF,dt,gD,lh];exact⟨cH j C,cH j C,cH j C,cH j C,cH j C⟩)];simp[ai,cH j (u:=19) C,cH j (u:=49) C,cH j (u:=51) C]⟩ ?_
 clear aZ a0 ak y aX;rintro q env H jH P cg aR⟨aX,⟨K,M,ak,aZ,a0⟩,eI,⟨aK,a7,al⟩,y⟩;refine dN dL (λaQ=>?_) λh=>?_
 .have b2:(R<|F.map Ev.n)[q]?=E [S F[q].n]:=by simp[R,aQ]
  have V:=J.bV (F.map Ev.t) q (by simpa using aQ);rw[fk]at V;have X:=pq (Y q F) F[q].n F[q].t 0 DM;have iE:Y q F++[⟨F[q].n,F[q].t,0⟩]=Y (q+1) F:=by
   rw[dm aQ];congr 2;have:=hR _<|aD aQ;rw[<-this]
  rw[iE]at X;have c2:=gV<|Y (q+1) F;obtain⟨av,aH,ay,ce⟩:=J.ex F[q].t;rw[ce]at X V;simp only[J.ds]at V;have X:az 165 [.ag<|cY<|Y q F,S F[q].n,.ag [I av,S aH,.sl 3<|J.ab ay],I 0]<|.ag [.sl 1 (((Y (q+1) F).map Ev.n).map λk=>[S k]),.sl 3<|J.ab<|(Y (q+1) F).map Ev.t,.sl 1 (((Y (q+1) F).map Ev.l).map λn=>[I n])]:=X;obtain⟨d1,d2,d3,rfl,gF,gG,gH⟩:=al.three;refine(ZN) ?_;refine dP [19] [] ?_;simp only[b2,V,a7,go_sem];refine ir [] X (.c al.fz<|.c (.cl _<|bc _)<|.c (.cl _<|Cl.bC<|J.cl<|.mk av aH ay)<|.c (.cl _<|bc _) .n) (Cl.bC c2) ?_;refine(ad<|JJ a7 @oM) ?_;exact gY aQ ⟨C,bU,aX,⟨K,M,by simp[ai,ak],aZ.aA bF,a0.aA bF⟩,by simp[ai,eI],⟨cY<|Y (q+1) F,yw,aj C⟩,λf j=>by simp[ai,cH j (u:=19) C,y f j]⟩
 obtain rfl:q=A F:=Zo;rw[cc]at al;obtain⟨g,dp⟩:=Zx<|fj s e;have eP:g=(bO s e).map λx=>(cZ e x).getD ⟨nE,lf,0⟩:=by
  rw[<-dp];refine s0 λx ck=>?_;have:=(nA.1 ck).1;cases gb:cZ e x with
  |none=>rw[gb]at this;cases this
  |some aS=>rfl
 have dU:A g=A (bO s e):=by rw[eP];simp
 have dH:=fK;rw[cY]at dH;have fH:b1=bG (e.map Ev.n):=by cases dH;rfl
 have fI:cS=.sl 3 (J.ab<|e.map Ev.t):=by cases dH;rfl
 have fJ:cT=bm (e.map Ev.l):=by cases dH;rfl
 have jj:=fE b1 Zs;have eu:cE aB 288=E (4,1,1):=Zk;have ew:cE aB 88=E (99,3,48):=Zk;have iH:cb.wrap (l+1)=l+1:=dE _ Zo;have jC:A (J.ab<|e.map Ev.t)=A e:=yv;have jz:A ((e.map Ev.l).map λn=>[I n])=A e:=Zs;refine(ad h) ?_;clear h;refine fG 22 (A<|bO s e) (λq=>Fw.fF 278 [(0,.rf 12 aW 0),(1,.cp [I bt,I bI,S bw,I bA,S bH,.sl 3<|J.ab bB,.sl 1 (bz.map λk=>[S k]),.sl 8<|L.ab bv]),(2,.sl 1<|R<|F.map Ev.n),(4,.sl 1<|R<|bO s e),(13,.cp [b1,cS,cT]),(6,I l),(15,.cp [I an,S ar,.sl 3<|J.ab ap]),(17,I i.length),(18,.rf 18 (k.n 18) 0),(19,.rf 19 (a8 19) 0)] λenv H n P=>P=k.T/\(∃K M cm,H 18=E ⟨k.n 18,294,4,[I bR,K,M,cm],Q⟩/\aL [41,43] H 9 1 (R<|F.map Ev.n) K/\aL [44,46] H 9 1 (R<|bO s e) M/\aL [93] H 4 1 ((Y q g).map λv=>[B<|ah<|v.l=l+1]) cm)/\aL [51,102] H 99 3 (J.ab<|F.map Ev.t++(Y q g).map Ev.t) (env 20)/\(∃aK,H 19=E ⟨a8 19,198,3,aK,Q⟩/\sy (F++jc F (Y q g) l) aK)/\∀f∈eY,H f=b5 eY k.H f) C
  ⟨C,bU,aX,⟨K,M,.sc<|.slice Q 0 0,ak,aZ,a0,aG ⟨C,C⟩⟩,aj ⟨51,a8 51,Zs,by simp[aw,h8],by simp[eI]⟩,⟨aK,a7,by simpa[jc]using al⟩,y⟩ ?_
 clear aZ a0 ak y aX eI a7 al;rintro q env H gE P cg aR⟨aX,⟨K,M,cm,ak,aZ,a0,br⟩,bn,⟨aK,a7,al⟩,y⟩;refine dN dO (λaQ=>?_) λh=>?_
 .obtain⟨x,cP⟩:=Zx<|(bO s e)[q];have b2:(R<|bO s e)[q]?=E [S x]:=by simp[R,aQ,cP]
  have cC:q<A g:=Zo;obtain⟨b',-⟩|⟨am,dR,b',e8⟩:=rY x e
  .have:=(nA.1 (cP▸aD aQ)).1;rw[b']at this;cases this
  have cI:g[q]=e[am]:=by simp[eP,cP,b']
  have eZ:=qN (e.map Ev.n) x m_;rw[e8,<-fH]at eZ;have V:=J.bV (e.map Ev.t) am (by simpa using dR);rw[fk]at V;have hE:((e.map Ev.l).map λn=>[I n])[am]?=E [I e[am].l]:=by simp[dR]
  obtain⟨av,aH,ay,ce⟩:=J.ex e[am].t;rw[ce]at V;simp only[J.ds]at V;have cv:jc F (Y (q+1) g) l=jc F (Y q g) l++[if e[am].l=l+1 then(⟨nE,mW<|.mk av aH ay,0⟩:Ev)else⟨jv F x,.mk av aH ay,0⟩]:=by
   rw[jc,dm cC,bX,<-jc,cI];simp only[b4,eO,ce,(l9 b').2]
  have eM:(Y (q+1) g).map (λv=>[B<|ah<|v.l=l+1])=(Y q g).map (λv=>[B<|ah<|v.l=l+1])++[[B<|ah<|e[am].l=l+1]]:=by
   rw[dm cC,bX,cI];rfl
  have h7:J.ab (F.map Ev.t++(Y (q+1) g).map Ev.t)=J.ab (F.map Ev.t++(Y q g).map Ev.t)++[(J.mk av aH ay).ds]:=by
   rw[dm cC,bX,cI,<-dy,J.cu,bX,<-J.cu];simp[ce]
  have cz:A (List.map (λv:Ev=>[B<|ah<|v.l=l+1])<|Y q g)=q:=co;have gg:A (J.ab<|F.map Ev.t++(Y q g).map Ev.t)=A F+q:=DN;obtain⟨aS,U⟩:=Zx<|env 20;rw[U]at bn;obtain⟨d1,d2,d3,rfl,gF,gG,gH⟩:=al.three;have gd:A (F++jc F (Y q g) l)<=4000000:=by rw[b9,jc,bE,ij];omega
  subst fI;simp only[bm]at fJ;subst fJ;have c6:(e[am].l==l+1)=ah (e[am].l=l+1):=nv ..;refine(fQ<|JJ b2<|JJ ak<|JJ hE<|JJ iH c6) ?_;refine GK.cM (eC.eS (S:=[93]) (aq:=(Y q g).map λv=>[B<|ah<|v.l=l+1]) (bD:=[[B<|ah<|e[am].l=l+1]]) eu (by simp only[aw,bx,bT,bj,e7,eQ,reduceCtorEq];exact br.aA bF) (by intro r cd;obtain⟨fq,-,rfl⟩:=aP.1 cd;rfl) hF Zs C (by rw[cz];show(q+1)*1<=_;omega) (by rw[cz];show q+1<=aE;unfold aE;omega) λee iW jO gl hS=>?_);obtain⟨jg,rfl,-⟩:=eG gl Zs;have r:∀f,f≠93->f≠92->ee f=H f:=λf a b=>by rw[hS f a (by simpa using a)];simp[ai,b]
  have i0:=(r 18 Zd Zd).trans ak;simp only[U,i0,V,go_sem];refine GK.cM (eC.eS (S:=[51,102]) (aq:=J.ab<|F.map Ev.t++(Y q g).map Ev.t) (bD:=[(J.mk av aH ay).ds]) ew (by simp only[aw,bx,bT,bj,e7,eQ,reduceCtorEq];exact bn.aA (by simp[ai,r 51 Zd Zd,r 102 Zd Zd])) (J.hQ _) DU Zs C (by rw[gg];show(A F+q+1)*48<=_;omega) (by rw[gg];show A F+q+1<=aE;unfold aE;omega) λdz cR i5 iK eU=>?_);have p:∀f,f≠102->f≠51->f≠101->f≠18->f≠93->f≠92->dz f=H f:=λf a b c d e ez=>by
   rw[eU f a D8];simp[ai,c,d,r f e ez]
  have gK:=eU 18 Zd Zd;have gP:=eU 93 Zd Zd;have Cg:=(p 19 Zd Zd Zd Zd Zd Zd).trans a7;simp only[a_,bN,dG,bj,dv]at gK gP;have fin:∀(cX:fL)(gz:bi)(ci:DL),(cX 22=I ((q+1:Nat):Int)/\∀fq∈[(0,.rf 12 aW 0),(1,.cp [I bt,I bI,S bw,I bA,S bH,.sl 3<|J.ab bB,.sl 1 (bz.map λk=>[S k]),.sl 8<|L.ab bv]),(2,.sl 1<|R<|F.map Ev.n),(4,.sl 1<|R<|bO s e),(13,.cp [b1,.sl 3<|J.ab<|e.map Ev.t,.sl 1 ((e.map Ev.l).map λn=>[I n])]),(6,I l),(15,.cp [I an,S ar,.sl 3<|J.ab ap]),(17,I i.length),(18,.rf 18 (k.n 18) 0),(19,.rf 19 (a8 19) 0)],cX fq.1=fq.2)->cX 20=i5->sy (F++jc F (Y (q+1) g) l) ci->
   uu 22 q (A<|bO s e) (λq=>Fw.fF 278 [(0,.rf 12 aW 0),(1,.cp [I bt,I bI,S bw,I bA,S bH,.sl 3<|J.ab bB,.sl 1 (bz.map λk=>[S k]),.sl 8<|L.ab bv]),(2,.sl 1<|R<|F.map Ev.n),(4,.sl 1<|R<|bO s e),(13,.cp [b1,.sl 3<|J.ab<|e.map Ev.t,.sl 1 ((e.map Ev.l).map λn=>[I n])]),(6,I l),(15,.cp [I an,S ar,.sl 3<|J.ab ap]),(17,I i.length),(18,.rf 18 (k.n 18) 0),(19,.rf 19 (a8 19) 0)] λenv H n P=>P=k.T/\(∃K M cm,H 18=E ⟨k.n 18,294,4,[I bR,K,M,cm],Q⟩/\aL [41,43] H 9 1 (R<|F.map Ev.n) K/\aL [44,46] H 9 1 (R<|bO s e) M/\aL [93] H 4 1 ((Y q g).map λv=>[B<|ah<|v.l=l+1]) cm)/\aL [51,102] H 99 3 (J.ab<|F.map Ev.t++(Y q g).map Ev.t) (env 20)/\(∃aK,H 19=E ⟨a8 19,198,3,aK,Q⟩/\sy (F++jc F (Y q g) l) aK)/\∀f∈eY,H f=b5 eY k.H f) ⟨cX,ai dz 19<|some ⟨a8 19,198,3,ci,Q⟩,gz,278,P,cg⟩:=λcX gz ci c1 df hI=>
   jW c1.1 aQ ⟨C,c1.2,aX,⟨K,M,_,by simp only[ai,bj,bT];exact gK,aZ.aA yA,a0.aA yA,by rw[eM];exact gl.aA (by simp[ai,gP])⟩,by show aL _ _ _ _ _ (cX 20);rw[df,h7];exact(iK.aA bF).sub Zs,⟨ci,ep,hI⟩,λf j=>by
    show ai dz 19 _ f=_;simp only[ai,cH j (u:=19) C,bT];rw[p f (cH j C) (cH j C) (cH j C) (cH j C) (cH j C)<|cH j C];exact y f j⟩
  have c2:=gV<|F++jc F (Y (q+1) g) l;by_cases bk:e[am].l=l+1
  .rw[aM bk]at cv;have X:=pq (F++jc F (Y q g) l) nE (mW<|.mk av aH ay) 0 gd;rw[dy,<-cv]at X;have ic:=Tu<|.mk av aH ay;generalize F++jc F (Y (q+1) g) l=OO at X c2 fin;have X:az 165 [.ag<|cY<|F++jc F (Y q g) l,S nE,.ag (mW<|.mk av aH ay).ds,I 0]<|.ag [.sl 1 ((OO.map Ev.n).map λk=>[S k]),.sl 3<|J.ab<|OO.map Ev.t,.sl 1 ((OO.map Ev.l).map λn=>[I n])]:=X;simp only[J.ds]at ic X;refine(ad<|b_ bk) ?_;refine dP [19] [] ?_;refine(bQ<|JJ Cg V) ?_;refine ir [] X (.c al.fz<|.c (.cl _<|bc _)<|.c (.cl _<|Cl.bC<|J.cl<|mW<|.mk av aH ay)<|.c (.cl _<|bc _) .n) (Cl.bC c2) ?_;exact P3
  rw[aC bk]at cv;have X:=pq (F++jc F (Y q g) l) (jv F x) (.mk av aH ay) 0 gd;rw[dy,<-cv]at X;have e9:=TS (F.map Ev.n) x m_;have il:(if x∈F.map Ev.n then nE else x)=jv F x:=C;rw[il]at e9;generalize F++jc F (Y (q+1) g) l=OO at X c2 fin;have X:az 165 [.ag<|cY<|F++jc F (Y q g) l,S<|jv F x,.ag [I av,S aH,.sl 3<|J.ab ay],I 0]<|.ag [.sl 1 ((OO.map Ev.n).map λk=>[S k]),.sl 3<|J.ab<|OO.map Ev.t,.sl 1 ((OO.map Ev.l).map λn=>[I n])]:=X;refine(ad<|bW bk) ?_;refine lq [0,1,2,3,4,5,7,8,9,10,11,6,12,13] [19] [] ?_;refine(bQ<|JJ Cg<|JJ b2 V) ?_;refine ir [] X (.c al.fz<|.c (.cl _<|bc _)<|.c (.cl _<|Cl.bC<|J.cl<|.mk av aH ay)<|.c (.cl _<|bc _) .n) (Cl.bC c2) ?_;exact P3
 obtain rfl:q=A (bO s e):=Zo;have gi:Y (A<|bO s e) g=g:=by rw[<-dU];exact cc
 rw[gi]at br bn al;obtain⟨aS,U⟩:=Zx<|env 20;rw[U]at bn;obtain⟨bs,c4⟩:∃bs:List Bool,bs=g.map λv=>ah<|v.l=l+1:=⟨_,C⟩;refine(ad h) ?_;clear h;refine fG 27 (A<|bO s e) (λq=>Fw.fF 278 [(0,.rf 12 aW 0),(1,.cp [I bt,I bI,S bw,I bA,S bH,.sl 3<|J.ab bB,.sl 1 (bz.map λk=>[S k]),.sl 8<|L.ab bv]),(2,.sl 1<|R<|F.map Ev.n),(4,.sl 1<|R<|bO s e),(13,.cp [b1,cS,cT]),(15,.cp [I an,S ar,.sl 3<|J.ab ap]),(17,I i.length),(18,.rf 18 (k.n 18) 0),(19,.rf 19 (a8 19) 0),(20,aS)] λenv H n P=>P=k.T/\(∃K M,H 18=E ⟨k.n 18,294,4,[I bR,K,M,cm],Q⟩/\aL [41,43] H 9 1 (R<|F.map Ev.n) K/\aL [44,46] H 9 1 (R<|bO s e) M)/\aL [93] H 4 1 (g.map λv=>[B<|ah<|v.l=l+1]) cm/\aL [51,102] H 99 3 (J.ab<|F.map Ev.t++g.map Ev.t) aS/\
  aL [125,156] H 2 1 (au I<|gk (A g) (Y q bs) 0 0) (env 25)/\aL [126,164] H 99 3 (J.ab<|(iB F (Y q g) l).map Ev.t) (env 26)/\(∃aK,H 19=E ⟨a8 19,198,3,aK,Q⟩/\sy (F++(jc F g l++iB F (Y q g) l)) aK)/\∀f∈eY,H f=b5 eY k.H f) C
  ⟨C,by simp[aw,U],aX,⟨K,M,by simp[ai,ak],aZ.aA bF,a0.aA bF⟩,br.aA bF,bn.aA bF,aj ⟨125,gE 125,Zs,by simp[aw,gk,au],by simp[ai,gk,au]⟩,aj ⟨126,gE 126,Zs,by simp[aw,iB,J.ab],by simp[ai,iB,J.ab]⟩,⟨aK,by simp[ai,a7],by simpa[iB]using al⟩,λf j=>by simp[ai,cH j (u:=125) C,cH j (u:=126) C,y f j]⟩ ?_
 clear aZ a0 ak y aX a7 al U br bn;rintro q env H iW P cg aR⟨aX,⟨K,M,ak,aZ,a0⟩,br,bn,cJ,cK,⟨aK,a7,al⟩,y⟩;refine dN dO (λaQ=>?_) λh=>?_
 .obtain⟨x,cP⟩:=Zx<|(bO s e)[q];have b2:(R<|bO s e)[q]?=E [S x]:=by simp[R,aQ,cP]
  have cC:q<A g:=Zo;obtain⟨b',-⟩|⟨am,dR,b',e8⟩:=rY x e
  .have:=(nA.1 (cP▸aD aQ)).1;rw[b']at this;cases this
  have cI:g[q]=e[am]:=by simp[eP,cP,b']
  have eZ:=qN (e.map Ev.n) x m_;rw[e8,<-fH]at eZ;have V:=J.bV (e.map Ev.t) am (by simpa using dR);rw[fk]at V;obtain⟨av,aH,ay,ce⟩:=J.ex e[am].t;rw[ce]at V;simp only[J.ds]at V;have ie:q<A bs:=by rw[c4];simpa using cC
  have ig:bs[q]=ah (e[am].l=l+1):=by simp[c4,cI]
  have di:=SE (A g) (Y q bs) bs[q] 0 0;rw[<-dm ie,ig]at di;have cA:=abH F (Y q g) l g[q];rw[<-dm cC,cI]at cA;have e0:Y q bs=(Y q g).map λv=>ah<|v.l=l+1:=by rw[c4,su]
  have e4:=Kp F (Y q g) l;rw[<-e0]at e4;have h':A (jc F g l)=A g:=by simp[jc]
  have iC:A (iB F (Y q g) l)<=q:=by rw[e4];have:=count_le_length (a:=W) (l:=Y q bs);rw[ij]at this;omega
  obtain⟨jf,rfl,hN⟩:=eG br (by intro q;rw[map_eq_nil_iff]at q;rw[q]at dU;simp at dU;omega);have cz:A (g.map λv:Ev=>[B<|ah<|v.l=l+1])=A g:=Zs;have ib:(ao (g.map λv:Ev=>[B<|ah<|v.l=l+1]))[q]?=E (B<|ah<|e[am].l=l+1):=by
   rw[show(g.map λv:Ev=>[B<|ah<|v.l=l+1])=au (λv:Ev=>B<|ah<|v.l=l+1) g from C,kM,fP,bL cC,cI];rfl
  have ia:(List.drop (q*1)<|ao (g.map λv:Ev=>[B<|ah<|v.l=l+1])).head?=E (B<|ah<|e[am].l=l+1):=by rw[h_,mn,ib]
  have iA:((q:Int)<(A g:Int))=True:=dM Zo;subst fI;simp only[ak,hN,cz,ia,iA,go_sem];rw[cz]at ak br;by_cases bk:e[am].l=l+1
  case neg=>
   rw[bW bk,aC Zs,de]at di;rw[aC bk,de]at cA;refine(ad<|bW bk) ?_;exact gY aQ ⟨C,bU,aX,⟨K,M,ak,aZ,a0⟩,br,bn,by rw[di];simpa[aw]using cJ,by rw[cA];simpa[aw]using cK,⟨aK,a7,by rw[cA];exact al⟩,y⟩
  rw[b_ bk,aM C]at di;rw[aM bk]at cA;obtain⟨bK,eV⟩:=Zx<|F++(jc F g l++iB F (Y q g) l);have eW:bK.length=A F+A g+(Y q bs).count W:=by rw[<-eV,b9,b9,h',e4];omega
  rw[eV]at al;obtain rfl:aK=cY bK:=by
   obtain⟨eF,-⟩|eF:=al
   .rw[eF]at eW;simp at eW;omega
   exact eF
  simp only[cY,bG,bm]at a7;have hU:A ((bK.map Ev.n).map λk=>[S k])=bK.length:=Zs;have hy:cE aB 110=E (2,1,8):=Zk;obtain⟨hb,aN⟩:=Zx<|env 25;obtain⟨hc,aU⟩:=Zx<|env 26;rw[aN]at cJ;rw[aU]at cK;refine(fQ<|JJ (b_ bk) b2) ?_;have dw:cb.wrap ((bK.length:Int)-1)=(bK.length:Int)-1:=dE _ Zo;have fp:cb.wrap ((A F:Int)+(q:Int))=(A F:Int)+q:=dE _ Zo;have i4:cb.wrap ((bK.length:Int)-1-((A F:Int)+q))=(A g:Int)+((0+(Y q bs).count W:Nat):Int)-1-((0+A (Y q bs):Nat):Int):=by
   rw[dE _ Zo,ij,eW];push_cast;omega
  simp only[aN,a7,dL,hU,dw,fp,i4,go_sem];have c6:A (au I<|gk (A g) (Y q bs) 0 0)<=q:=by rw[fg];exact gS (Fa _ _ _ _) DM
  refine GK.cM (eC.eS (S:=[125,156]) (aq:=au I<|gk (A g) (Y q bs) 0 0) (bD:=au I [(A g:Int)+((0+(Y q bs).count W:Nat):Int)-1-((0+A (Y q bs):Nat):Int)]) hy (by simp only[aw,bx,bT,bj,e7,eQ,reduceCtorEq];exact cJ.aA bF) (ha _) Im kl (by simp[au];rfl) (by simp only[fg,oW]at c6⊢;omega) (by simp only[fg,oW]at c6⊢;unfold aE;omega) λef cR i6 e_ dI=>?_);have r:∀f,f≠156->f≠125->f≠155->ef f=H f:=λf a b c=>by
   rw[dI f a D8];simp[ai,c]
  have jh:A (J.ab<|(iB F (Y q g) l).map Ev.t)<=q:=by rw[J.b6,bE];exact iC
  refine(ad<|JJ aU V) ?_;refine GK.cM (eC.eS (S:=[126,164]) (aq:=J.ab<|(iB F (Y q g) l).map Ev.t) (bD:=[(J.mk av aH ay).ds]) ew (by simp only[aw,bx,bT,bj,e7,eQ,reduceCtorEq];exact cK.aA (by simp[ai,r 126 Zd Zd Zd,r 164 Zd Zd Zd])) (J.hQ _) DU Zs C (by simp only[oW];omega) Om λeg jI jP iL fN=>?_);have p:∀f,f≠164->f≠126->f≠163->f≠156->f≠125->f≠155->eg f=H f:=λf a b c d e ez=>by
   rw[fN f a D8];simp[ai,c,r f d e ez]
  have Cg:=(p 19 Zd Zd Zd Zd Zd Zd).trans a7;have gI:=fN 156 Zd Zd;simp only[a_,dG,bj,dv]at gI;have X:=pq bK (jv F x) (.mk av aH ay) 1 Zo;have h1:bK++[⟨jv F x,.mk av aH ay,1⟩]=F++(jc F g l++iB F (Y (q+1) g) l):=by rw[cA,(l9 b').2,ce,<-eV,dy,dy]
  rw[h1]at X;have e9:=TS (F.map Ev.n) x m_;rw[show(if x∈F.map Ev.n then nE else x)=jv F x from C]at e9;have hT:=gV bK;simp only[J.ds,cY,bG,bm]at X hT;refine(ZN) ?_;refine lq [0,1,2,3,4,5,7,8,9,10,11,6,12,13] [19] [] ?_;refine(bQ<|JJ Cg<|JJ b2 V) ?_;have bY:J.ab ((iB F (Y (q+1) g) l).map Ev.t)=J.ab ((iB F (Y q g) l).map Ev.t)++[(J.mk av aH ay).ds]:=by
   rw[cA,bX,J.cu,bX,<-J.cu];simp[ce]
  have h3:au I (gk (A g) (Y (q+1) bs) 0 0)=au I (gk (A g) (Y q bs) 0 0)++au I [(A g:Int)+((0+(Y q bs).count W:Nat):Int)-1-((0+A (Y q bs):Nat):Int)]:=by rw[di];simp[au]
  refine gY aQ ⟨C,bU,aX,⟨K,M,by simp[ai,p,ak],aZ.aA yA,a0.aA yA⟩,br.aA yA,bn.aA yA,?_,?_,⟨cY<|F++(jc F g l++iB F (Y (q+1) g) l),yw,aj C⟩,λf j=>?_⟩
  .rw[h3];simp only[aw,bx,bT,bj,e7,eQ,reduceCtorEq];exact(e_.aA (by simp[ai,gI])).sub Zs
  .rw[bY];simp only[aw,bx,bT,bj,e7,eQ,reduceCtorEq];exact(iL.aA bF).sub Zs
  simp only[ai,cH j (u:=19) C,bT];rw[p f (cH j C) (cH j C) (cH j C) (cH j C) (cH j C)<|cH j C];exact y f j
 obtain rfl:q=A (bO s e):=Zo;have cz:A bs=A (bO s e):=by rw[c4,bE,dU]
 have e0:Y (A<|bO s e) bs=bs:=by rw[<-cz];exact cc
 rw[e0]at cJ;rw[gi]at cK al;have gR:=(y 12 fa).trans eH;have iX:=(y 185 fa).trans iy;have dZ:∀u∈eY,∀{ty sz:Nat}{aq:cB}{x:D},aL [u] (b5 eY k.H) ty sz aq x->aL [u] H ty sz aq x:=λu iG _ _ _ _ h=>h.aA (by simp only[dg,kg];exact y u iG);have gM:=dZ 195 fa hZ;have gO:=dZ 218 fa h6;have gN:=dZ 205 fa eM;clear y dZ;have hx:cE aB 51=E (112,4,64):=Zk;obtain⟨hb,aN⟩:=Zx<|env 25;obtain⟨hc,aU⟩:=Zx<|env 26;rw[aN]at cJ;rw[aU]at cK;have jw:=iz.len;have hf:((i.length:Int)<((i.length+1:Nat):Int))=True:=dM Zo;have i8:(i.length+1)*64<=140737488355328:=Zo;have fr:i.length+1<=aE:=l3;refine(ad h) ?_;clear h;refine wX (λcf=>Fw.fF 278 [(0,.rf 12 aW 0),(1,.cp [I bt,I bI,S bw,I bA,S bH,.sl 3<|J.ab bB,.sl 1 (bz.map λk=>[S k]),.sl 8<|L.ab bv]),(13,.cp [b1,cS,cT]),(15,.cp [I an,S ar,.sl 3<|J.ab ap]),(17,I i.length),(18,.rf 18 (k.n 18) 0),(19,.rf 19 (a8 19) 0),(20,aS),(25,hb),(26,hc)] (λenv a9 iO T1=>T1=P/\(∃ct,a9 12=E ⟨aW,91,6,[.cp [ae.sl bf,aa.sl a5],I bR,.ms 185 ct<|i.length+1,eb,b0,i7],Q⟩/\a9 185=E ⟨ct,112,4,ao (O.ab i)++[I 0,I 0,bp,bp],Q⟩)/\∀f,f∉[12,184,185]->a9 f=H f) cf)
  (.bS [0,1,2,3,4,5,6,7,8,10,11] 9 (.fin [12]) 12<|.fin [9]) [12] [] fb Zk ?_ ?_
 .refine(ad<|JJ gR @jt) ?_;refine js (S:=[185]) (aq:=O.ab i) (bD:=[[I 0,I 0,bp,bp]]) Zs hx (by simp only[aw,bx,bT,bj,e7,eQ,reduceCtorEq];exact aj ⟨185,hG,Zs,by rw[c3],by simp[ai,iX]⟩) (O.hQ _) hF Zs C (by rw[c3];exact i8) (by rw[c3];exact fr) (by show 185<278;decide) ?_;intro ef cR i6 e_ dI;obtain⟨ct,rfl,hJ⟩:=eG e_ Zs;have iu:A (O.ab i++[[I 0,I 0,bp,bp]])=i.length+1:=by rw[b9,c3];rfl
  have du:=dI 12 Zd Zd;simp only[a_,dG,bj,dv,gR]at du;have b7:A (ao<|O.ab i)=i.length*4:=by rw[iY<|O.hQ i,c3]
  have i9:=Gm (ao<|O.ab i) [I 0,I 0,bp,bp] [I 0,I 0,bp,bp] b7 C;simp only[du,hJ,iu,hf,eR,Am,go_sem];have z3:i.length*4+4<=A (ao (O.ab i)++[I 0,I 0,bp,bp]):=by rw[b9,b7];simp
  refine⟨⟨z3,?_⟩,⟨z3,?_⟩⟩
  all_goals
   exact⟨C,by simp[aw,aN,aU],C,⟨ct,ep,by simp only[ai,bx,bT,bj];exact eo (λc=>E<|Ob.mk ct 112 4 c Q) i9⟩,λf j=>by
    simp only[lh]at j;simp only[ai,j.1,j.2.2,bT];rw[dI f j.2.2 (by simpa using j.2.2)];simp[ai,j.2.1]⟩
 rintro⟨env,a9,cR,dX,T1,cg⟩⟨rfl,be,rfl,⟨ct,dY,fl⟩,b3⟩;simp only[bM]at be dY fl b3;clear aN aU;obtain⟨Z,cq,er,aV,a6,dD,da,U,aN,aU,-⟩:=be;refine(ad<|JJ Z dY) ?_;have b7:A (ao<|O.ab i)=i.length*4:=by rw[iY<|O.hQ i,c3]
 have dd:∀f,f≠194->ai (ai a9 194 Q) 194 (E {gen:=cR 194,elem:=88,sz:=1,cells:=[bp]}) f=a9 f:=λf j=>by simp[ai,j]
 have eE:ai (ai a9 194 Q) 194 (E {gen:=cR 194,elem:=88,sz:=1,cells:=[bp]}) 194=E {gen:=cR 194,elem:=88,sz:=1,cells:=[bp]}:=ep;generalize ai (ai a9 194 Q) 194 (E {gen:=cR 194,elem:=88,sz:=1,cells:=[bp]})=dx at dd eE;have g0:=(dd 12 Zd).trans dY;have g2:=(dd 185 Zd).trans fl;have ea:∀f,f≠12->f≠184->f≠185->f≠194->dx f=H f:=λf a b c d=>(dd f d).trans<|b3 f (by simp[a,b,c]);clear dY fl b3 dd;have g1:=(ea 18 Zd Zd Zd Zd).trans ak;have bZ:∀{S:ax}{ty sz:Nat}{aq:cB}{x:D},(∀f∈S,f≠12/\f≠184/\f≠185/\f≠194)->aL S H ty sz aq x->aL S dx ty sz aq x:=λdQ h=>h.aA λf j=>ea f (dQ f j).1 (dQ f j).2.1 (dQ f j).2.2.1 (dQ f j).2.2.2;have g4:=bZ Zd aZ;have g5:=bZ Zd a0;have g9:=bZ Zd br;have g6:=bZ Zd bn;have g7:=bZ Zd cJ;have g8:=bZ Zd cK;have g3:=(ea 19 Zd Zd Zd Zd).trans a7;have d_:=bZ Zd gM;have gU:=bZ Zd gN;have gW:=bZ Zd gO;clear ea bZ aZ a0 br bn cJ cK ak a7 gM gN gO;simp only at aX;refine GK.fc [] 185 (i.length*4+2) (d:=bp) (e:=.sl 1 []) g2 Zs (y_ _ _ 2 b7) (.nil 1) (yS 1) λed ek a'=>?_;rw[zM _ _ 2 _ b7]at ek;refine GK.fc [] 185 (i.length*4+3) (d:=bp) (e:=.sl 4 []) ek Zs (y_ _ _ 3 b7) (.nil 4) (yS 4) λee dA bP=>?_;rw[zM _ _ 3 _ b7]at dA;simp only[dt,dv,yc,List.set]at a' bP dA;have fy:=(bP 18 Zd).trans<|(a' 18 Zd).trans g1;have fV:∀l,∀r∈R l,A r=1:=λl r h=>IF;have fU:∀l,∀r∈R l,∀d∈r,Cl d:=HC;refine GK.fc [41,43] 18 1 (e:=.sl 1<|R<|F.map Ev.n) fy Zs C (aL.fz (g4.aA (by simp[b5,a',bP])) Zd (fV _)<|fU _) (pc _) λdz fv cj=>?_;refine GK.fc [44,46] 18 2 (e:=.sl 1<|R<|bO s e) fv Zs C (aL.fz (g5.aA (by simp[b5,a',bP,cj])) Zd (fV _)<|fU _) (pc _) λef fw cn=>?_;have hP:∀r∈g.map λv:Ev=>[B<|ah<|v.l=l+1],A r=1:=λr h=>IF;have eN:∀r∈g.map λv:Ev=>[B<|ah<|v.l=l+1],∀d∈r,Cl d:=λr h d hd=>O9;refine GK.fc [93] 18 3 (e:=.sl 1 (g.map λv:Ev=>[B<|ah<|v.l=l+1])) fw Zs C (aL.fz (g9.aA (by simp[b5,a',bP,cj,cn])) Zd hP eN) (db.2 eN) λeg el cW=>?_;simp only[List.set]at el;refine GK.fe [51,102] 20 (.sl 3<|J.ab<|F.map Ev.t++g.map Ev.t) (by simp only[aw,bT,bj,U,reduceCtorEq];exact aL.fz (g6.aA (by simp[b5,a',bP,cj,cn,cW])) Zd (J.hQ _)<|J.dl _) (db.2<|J.dl _) λi_ c'=>?_;refine GK.fe [125,156] 25 (.sl 1<|au I<|gk (A g) bs 0 0) (by simp only[aw,bT,bj,aN,reduceCtorEq];exact aL.fz (g7.aA (by simp[b5,a',bP,cj,cn,cW,c'])) Zd (ha _) λr h d hd=>O9) (ff λaS _=>bc _) λja dB=>?_;refine GK.fe [126,164] 26 (.sl 3<|J.ab<|(iB F g l).map Ev.t) (by simp only[aw,bT,bj,aU,reduceCtorEq];exact aL.fz (g8.aA (by simp[b5,a',bP,cj,cn,cW,c',dB])) Zd (J.hQ _)<|J.dl _) (db.2<|J.dl _) λcU eq=>?_;have fo:∀u,u∉[51,102,125,156,126,164]->cU u=eg u:=λu h=>by
  simp only[cF,dt,gD,lh]at h c' dB eq;rw[eq u Zo,dB u Zo,c' u Zo]
 have fm:∀u,u∉[18,41,43,44,46,93,51,102,125,156,126,164]->cU u=ee u:=λu h=>by
  simp only[cF,dt,gD,lh]at h cj cn cW;rw[fo u ch,cW u Zo Zo,cn u Zo Zo,cj u Zo Zo]
 have r:∀u,u∉[185,18,41,43,44,46,93,51,102,125,156,126,164]->cU u=dx u:=λu h=>by
  simp only[cF,dt,gD,lh]at h;rw[fm u ch,bP u Zo,a' u Zo]
 have c9:=(r 12 Zd).trans g0;have dq:=(fm 185 Zd).trans dA;have gm:=(fo 18 Zd).trans el;have gn:=(r 19 Zd).trans g3;have go:=(r 194 Zd).trans eE;have dr:=d_.aA (H':=cU) (by simp[r]);have gp:=gU.aA (H':=cU) (by simp[r]);have gr:=gW.aA (H':=cU) (by simp[r]);clear r fm fo;clear ek dA fv fw el a' bP cj cn cW c' dB eq g0 g1 g2 g3 g4 g5 g9 g6 g7 g8 d_ gU gW eE fy U aN aU;have hz:cE aB 87=E (88,1,24):=Zk;refine GK.cM (eC.eS (S:=[195]) (aq:=h4 NN) (bD:=[[bp]]) hz (by simp only[aw,bx,bT,bj,reduceCtorEq];exact dr) (ha _) (by simp[aw,dS,go]) Zs C (by rw[fg,dK];simp only[oW];omega) (by rw[fg,dK];exact fr) λfs jF jL gj cw=>?_);have gs:=(cw 12 Zd Zd).trans c9;have fh:=(cw 18 Zd Zd).trans gm;have gu:=(cw 19 Zd Zd).trans gn;have gt:=(cw 185 Zd Zd).trans dq;have gx:=gp.aA (H':=fs) (by simp[cw]);have gy:=gr.aA (H':=fs) (by simp[cw]);clear c9 gm gn dq gp gr go dr cw;obtain⟨hA,rfl,gw⟩:=eG gj Zs;refine(ad gs) ?_;have eu:cE aB 89=E (294,4,80):=Zk;refine dP [12,18] [] ?_;simp only[Z,dD,fh,jt,go_sem];refine js (S:=[205]) (aq:=BB) (bD:=[[I bR,.sl 1<|R<|F.map Ev.n,.sl 1<|R<|bO s e,.sl 1 (g.map λv:Ev=>[B<|ah<|v.l=l+1])]]) Zs eu (by simp only[aw,bx,bT,bj,reduceCtorEq];exact gx.aA bF) (λr h=>(fC r h).1) hF Zs C (by simp only[oW];omega) Om (by show 205<278;decide) ?_;intro ft jG jM iI cx;obtain⟨hB,rfl,iS⟩:=eG iI Zs;have fi:=cx 12 Zd Zd;have iR:=(cx 18 Zd Zd).trans fh;have gB:=(cx 19 Zd Zd).trans gu;have gA:=(cx 185 Zd Zd).trans gt;have gC:=(cx 195 Zd Zd).trans gw;have iU:=gy.aA (H':=ft) (by simp[cx,ai]);simp only[a_,bN,dG,bj,dv]at fi iR gB gA gC;clear gs fh gu gt gw gx gy cx gj;refine(ad fi) ?_;have e3:∀x∈F.map Ev.t++g.map Ev.t,dW x:=λx ck=>by
  have hw:=cd.w;rw[dp]at hw;obtain h|h:=ca.1 ck
  .obtain⟨aS,c8,rfl⟩:=aP.1 h;exact pf<|hw aS<|gf _ c8
  obtain⟨aS,c8,rfl⟩:=aP.1 h;by_cases c:aS.l=l+1
  .exact pf<|hw ⟨jv F aS.n,aS.t,1⟩<|gq _<|gq _<|aP.2 ⟨aS,nP.2 ⟨c8,by simpa using c⟩,C⟩
  exact pf<|hw ⟨jv F aS.n,aS.t,0⟩<|gq _<|gf _<|aP.2 ⟨aS,c8,by rw[aC c]⟩
 have ii:=w6 e3 dJ;have dj:=FP (F.map Ev.t++g.map Ev.t) (.mk an ar ap) (by rw[b9,bE,bE];omega);obtain⟨eA,eD,eB,f_⟩:=J.ex<|iZ (F.map Ev.t++g.map Ev.t)<|.mk an ar ap;have f':=FJ (.mk eA eD eB) (f_▸ii);rw[f_]at dj;have fY:=J.cl<|cD<|.mk eA eD eB;obtain⟨es,ey,et,e2⟩:=J.ex<|cD<|.mk eA eD eB;rw[e2]at f' fY;simp only[J.ds]at dj f' fY;have b8:A (J.ab TT)=i.length:=by rw[J.b6,eX]
 have fW:A (ao<|J.ab TT)=i.length*3:=by rw[iY<|J.hQ TT,b8]
 obtain⟨hC,rfl,iV⟩:=eG iU (by intro q;rw[q]at b8;simp at b8;omega);rw[b8]at fi;obtain⟨hj,fS⟩:=Zx<|A<|h4 NN++[[bp]];obtain⟨BL,fD⟩:∃a,A (BB++[[I bR,D.sl 1 (R (List.map Ev.n F)),D.sl 1 (R (bO s e)),D.sl 1 (List.map (λv=>[B<|ah<|v.l=l+1]) g)]])=a:=⟨_,C⟩;simp only[fS,fD,b8];refine wX (λcf=>Fw.fF 278 [(0,.rf 12 aW 0),(1,.cp [I bt,I bI,S bw,I bA,S bH,.sl 3<|J.ab bB,.sl 1 (bz.map λk=>[S k]),.sl 8<|L.ab bv]),(15,.cp [I an,S ar,.sl 3<|J.ab ap]),(17,I i.length),(19,.rf 19 (a8 19) 0),(20,.sl 3<|J.ab<|F.map Ev.t++g.map Ev.t),(25,.sl 1<|au I<|gk (A g) bs 0 0),(26,.sl 3<|J.ab<|(iB F g l).map Ev.t)] (λenv a9 iO hk=>hk=T1/\(∃c0,a9 12=E ⟨aW,91,6,[.cp [ae.sl bf,aa.sl a5],I bR,.ms 185 ct<|i.length+1,.ms 195 hA hj,.ms 218 c0<|i.length+1,.ms 205 hB BL],Q⟩/\a9 218=E ⟨c0,99,3,ao (J.ab TT)++[I es,S ey,.sl 3<|J.ab et],Q⟩)/\∀f,f∉[12,217,218]->a9 f=ft f) cf)
  (.bS [0,1,2,3,4,5,8] 6 (.bS [] 7 (.bS [9,10,11,13,14] 12 (.fin [15]) 15<|.fin [12]) 9<|.bS [7,10,11,13,14] 12 (.fin [15]) 15<|.fin [12]) 9<|.bS [6,7,10,11,13,14] 12 (.fin [15]) 15<|.fin [12]) [12] [] fb Zk ?_ ?_
 .simp only[Z,aV,jt,go_sem];refine⟨?_,?_⟩
  all_goals
   refine(ZC) ?_
   try refine⟨?_,?_⟩
  all_goals
   refine(ZC) ?_;refine js (S:=[218]) (aq:=J.ab TT) (bD:=[[I 0,.sc<|.string {data:=#[]},bp]]) Zs ew (by simp only[aw,bx,bT,bj,reduceCtorEq];exact aj ⟨218,hC,Zs,by rw[b8],by simp only[ai,bT,bj];exact iV⟩) (J.hQ _) hF Zs C (by rw[b8];simp only[oW];omega) (by rw[b8];exact fr) (by show 218<278;decide) ?_;intro i' iP jN iJ fM;obtain⟨c0,rfl,hH⟩:=eG iJ Zs;have it:A (J.ab TT++[[I 0,.sc<|.string {data:=#[]},bp]])=i.length+1:=by rw[b9,b8];rfl
   have du:=fM 12 Zd Zd;simp only[a_,bN,dG,bj,dv]at du;have hg:i.length*3+3<=A (ao (J.ab TT)++[I 0,D.sc<|.string {data:=#[]},bp]):=by rw[b9,fW];simp
   simp only[du,hH,it,hf,eR,Am,go_sem];refine⟨⟨hg,?_⟩,⟨hg,?_⟩⟩
   all_goals
    exact⟨C,by simp[aw,Z,cq,aV,a6,da],C,⟨c0,ep,by simp only[ai,bx,bT,bj];exact eo (λc=>E<|Ob.mk c0 99 3 c Q)<|Gm (ao<|J.ab TT) [I 0,D.sc<|.string {data:=#[]},bp] [I es,S ey,D.sl 3<|J.ab et] fW C⟩,λf j=>by
     simp only[lh]at j;simp only[ai,j.1,j.2.2,bT];rw[fM f j.2.2 (by simpa using j.2.2)];simp[ai,j.1,j.2.1]⟩
 rintro⟨env,a9,iP,dX,T1,cg⟩⟨rfl,be,rfl,⟨c0,gX,v218⟩,b3⟩;simp only[bM]at be gX v218 b3;clear Z cq er aV a6 dD da;obtain⟨Z,cq,aV,a6,da,U,aN,aU,-⟩:=be;obtain⟨d1,d2,d3,rfl,gF,gG,gH⟩:=al.three;simp only[Z,cq,da,(b3 19 Zd).trans gB,go_sem];have gZ:=(b3 195 Zd).trans gC;have fT:A (ao<|h4 NN)=i.length:=by rw[iY<|ha _,fg,dK];omega
 rw[eR,Am]at gZ;refine GK.fc [] 195 (i.length+0) (d:=bp) (e:=.sl 3 []) gZ Zs (y_ _ _ 0 fT) (.nil 3) (yS 3) λdx a2 fx=>?_;rw[zM _ _ 0 _ fT]at a2;refine GK.fe [] 224 (.ag<|cY<|F++(jc F g l++iB F g l)) (by simp only[aw,bx,bT,bj];exact al.fz) (Cl.bC<|gV _) λed a'=>?_;simp only[dt,dv,yc]at fx a';have d':∀u,u≠195->ed u=a9 u:=λu h=>(a' u).trans<|fx u h;have hM:L7 bf a5 ed aW<|i++[.mk 0 0 [] []]:=by
  refine L7.of (NN:=NN++[[]]) (TT:=TT++[.mk es ey et]) (BB:=BB++[[I bR,D.sl 1<|R<|List.map Ev.n F,D.sl 1<|R<|bO s e,D.sl 1<|List.map (λv=>[B<|ah<|v.l=l+1]) g]]) ((d' 12 Zd).trans gX) ((d' 185 Zd).trans<|((b3 185 Zd).trans gA).trans ?_) ?_ ((a' 195).trans<|a2.trans ?_) ?_ ?_ ((d' 218 Zd).trans<|v218.trans ?_) ?_ ?_ ((d' 205 Zd).trans<|(b3 205 Zd).trans iS) fD.symm ?_ ?_
  .simp[O.cu,O.ds,bm]
  .simp[O.b6]
  .simp[au,J.sl,J.ab]
  .rw[<-fS];simp[au]
  .simp[dK]
  .simp[J.cu,J.ds]
  .simp[J.b6,eX]
  .simp[eX]
  .simp;omega
  intro r cd;obtain h|h:=ca.1 cd
  .exact fC r h
  simp only[dg]at h;subst h;refine⟨C,?_⟩;simp only[bM];exact⟨bc _,pc _,pc _,db.2 eN,Zs⟩
 refine GK.cM ?_;rw[dp,qL]at dh;unfold T7 at dh;simp only[L.ds,J.ds,bG,bg,aY]at dh;refine(ad<|JJ dp @qL) ?_;obtain⟨c_,OO,e1⟩:∃a b,cV bf a5 (L.mk bt bI bw (J.mk bA bH bB) bz bv) (F++(jc F g l++iB F g l)) 0 (m+1)=(a,b):=⟨_,_,C⟩;simp only[e1]at dh⊢;refine aj<|aj<|dh aW (m+1) (i++[.mk 0 0 [] []]) _ _ _ hM (by simp[e6];omega) Zo ?_;intro ec dV bh dn eJ ik;have dn:gL c_ (W7<|L.mk bt bI bw (J.mk bA bH bB) bz bv) bh:=by have:=dn;rw[e1]at this;exact this
 have eJ:L7 bf a5 ec aW<|i++[.mk 0 0 [] []]++OO:=by have:=eJ;rw[e1]at this;exact this
 generalize h9:W7 (L.mk bt bI bw (J.mk bA bH bB) bz bv)=ei at dn;have hV:dW<|cD<|.mk an ar ap:=jE _ dJ;have jo:ei<=10000000000:=by have:=cd.l1;rw[<-h9];unfold W7;omega
 obtain⟨⟨ho,hr,hn,hp⟩,hq⟩:=bh;simp only[aN,bo,go_sem];obtain⟨z,dk⟩:=Zx<|gk (A g) bs 0 0;have c6:A z=A (iB F g l):=by rw[<-dk,E',Kp,c4]
 have jy:A z<=1000:=by rw[<-dk,E'];have:=count_le_length (a:=W) (l:=bs);omega
 have i3:cb.wrap ((A z:Int)-1)=(A z:Int)-1:=dE _ Zo;obtain⟨cQ,e5⟩:=Zx<|(iB F g l).map Ev.t;have iq:A cQ=A z:=by rw[c6,<-e5,bE]
 have ip:∀x∈cQ,dW x:=λx ck=>by
  have hw:=cd.w;rw[dp]at hw;rw[<-e5]at ck;obtain⟨aS,c8,rfl⟩:=aP.1 ck;exact pf<|hw aS<|gq _<|gq _ c8
 simp only[dk,i3];rw[dk]at aN;rw[e5]at aU;refine l' (λcf=>∃o:Nat,o<=A z/\Fw.fF 278 [(0,.rf 12 aW 0),(15,.cp [I an,S ar,.sl 3<|J.ab ap]),(17,I i.length),(20,.sl 3<|J.ab<|F.map Ev.t++g.map Ev.t),(25,.sl 1<|au I z),(26,.sl 3<|J.ab cQ),(29,.rf 29 (dV 29) 0),(30,I<|(o:Int)-1)] (λenv H n P=>P=k.T/\(∃bh,H 29=E ⟨dV 29,194,5,bo bh,Q⟩/\gL (oF (z.drop o) c_) (ei+2*(A z-o)) bh)/\∀f∈eY,H f=ec f) cf) (λk=>match k.env 30 with|.sc (.int _ n)=>(n+1).toNat|_=>0)
  ⟨A z,bJ _,C,by simp[aw,Z,aV,a6,U,aN,aU],aX,⟨⟨.mk ho hr hn hp,hq⟩,AP,by simpa[oF]using dn⟩,λf j=>by simp[ai,cH j (u:=29) C]⟩ ?_
 clear Z cq aV a6 da U aN aU dn ik;rintro⟨env,H,iQ,dX,P,cg⟩⟨o,im,rfl,be,bY,⟨bh,bb,aR⟩,y⟩;simp only[bM]at be bb bY y;obtain⟨Z,aV,a6,U,aN,aU,bl,dc,-⟩:=be;obtain⟨⟨a1,a4,bd,a3⟩,ba⟩:=bh;have cy:=eK ⟨.mk a1 a4 bd a3,ba⟩;simp only[bo,O.ds,bg,aY]at bb cy;obtain _|o:=o
 rotate_left
 .have aQ:o<A z:=Zo;have e:((o+1:Nat):Int)-1=(o:Int):=Zo;have b2:(au I z)[o]?=E [I z[o]]:=by simp[au,aQ]
  have V:=J.bV cQ o Zo;have jA:A (au I z)=A z:=fg _ _;have jB:A (J.ab cQ)=A z:=by rw[J.b6,iq]
  have cN:=ip _<|aD (show o<A cQ by omega);have c7:=jE _ cN;generalize cQ[o]=b0 at V cN c7;have ge:=FQ 1 z[o] b0 cN;have cG:=s_ 7 0 (.mk an ar ap) [⟨eh z[o],[cD b0]⟩,⟨.mk a1 a4 bd a3,ba⟩] dJ (by simp;exact aR.ne) Zs (by have:=aR.len;simp at this⊢;omega);have hd:oF (z.drop o) c_=.mk 7 0 [] [eh z[o],oF (z.drop<|o+1) c_]:=by rw[ml aQ];rfl
  generalize e2:cD b0=cr at ge cG c7;obtain⟨g',eb,g_⟩:=b0;simp only[bo,J.ds,O.ds,eh,bg,aY,b4,eO,dT,fX,de]at V ge cG;have dw:cb.wrap ((o:Int)-1)=(o:Int)-1:=dE _ Zo;refine(ad<|JJ e dc) ?_;refine lq [0,1,2,3,4,5,6,7,8,10,9,11,12,13] [29] [] ?_;refine(bQ<|JJ e<|JJ aV<|JJ aN<|JJ aU<|JJ bl<|JJ dc<|JJ bb<|JJ b2 V) ?_;have e':=eK ⟨.mk 7 0 [] [eh z[o],.mk a1 a4 bd a3],cD (.mk an ar ap)::cr::ba⟩;refine ir [244] cG (.c (.cl _<|bc _) (.c (.cl _<|bc _) (.c (.cl _<|Cl.bC<|J.cl<|.mk an ar ap) (.c (Fz.aq (ob:=⟨_,194,5,[I 1,I z[o],bm [],.sl 4<|O.ab [],.sl 3<|J.ab [cr],I a1,I a4,bm bd,.sl 4<|O.ab a3,.sl 3<|J.ab ba],Q⟩) pO C C Zd C Zs C (by
   have gh:=eK ⟨eh z[o],[cr]⟩;simp only[bo,eh,O.ds,bg,aY,cF,dt,gD,ri,kg]at cy gh⊢;exact⟨gh,cy⟩)) .n)))) (Cl.bC e') ?_
  simp only[aT,bl,dc,bb,dw,e,go_sem];exact⟨⟨o,Zo,C,by simp[aw,Z,aV,a6,U,aN,aU,bl],bY,⟨⟨.mk 7 0 [] [eh z[o],.mk a1 a4 bd a3],cD (.mk an ar ap)::cr::ba⟩,by simp[ai,bo,O.ds,eh,bm],⟨by rw[hd,<-aR.c],Zs,by have:=aR.len;simp only[dC]at this⊢;omega,by simpa using hV⟩⟩,λf j=>by simp[ai,aT,cH j (u:=29) C,cH j (u:=244) C,y f j]⟩,bU⟩
 have ga:ah (((0:Nat):Int)-1>=0)=af:=Zs;obtain⟨G,cv⟩:=Zx<|F.map Ev.t++g.map Ev.t;have hO:G.length=A F+A g:=by rw[<-cv,b9,bE,bE]
 rw[cv]at e3 U;have iw:A (J.ab G)=G.length:=J.b6 G;have fp:cb.wrap ((G.length:Int)-1)=(G.length:Int)-1:=dE _ Zo;simp only[dc,ga,U,fp,go_sem];rw[ra]at aR;obtain⟨fd,gc⟩:=Zx<|oF z c_;rw[gc]at aR;refine l' (λcf=>∃o:Nat,o<=G.length/\Fw.fF 278 [(0,.rf 12 aW 0),(15,.cp [I an,S ar,.sl 3<|J.ab ap]),(17,I i.length),(20,.sl 3<|J.ab G),(29,.rf 29 (dV 29) 0),(31,I<|(o:Int)-1)] (λenv H n P=>P=k.T/\(∃bh,H 29=E ⟨dV 29,194,5,bo bh,Q⟩/\gL (nw (G.length-o) fd) (ei+2000+(G.length-o)) bh)/\∀f∈eY,H f=ec f) cf) (λk=>match k.env 31 with|.sc (.int _ n)=>(n+1).toNat|_=>0)
  ⟨G.length,bJ _,C,by simp[aw,Z,aV,a6,U,bl],bY,⟨⟨.mk a1 a4 bd a3,ba⟩,by simp[bo,O.ds,bb],by rw[pJ];exact aR.FU Zo⟩,y⟩ ?_
 clear Z aV a6 U aN aU bl dc bb aR y cy bY;rintro⟨env,H,iQ,dX,P,cg⟩⟨o,im,rfl,be,bY,⟨bh,bb,aR⟩,y⟩;simp only[bM]at be bb bY y;obtain⟨Z,aV,a6,U,bl,dF,-⟩:=be;obtain⟨⟨a1,a4,bd,a3⟩,ba⟩:=bh;have cy:=eK ⟨.mk a1 a4 bd a3,ba⟩;simp only[bo,O.ds,bg,aY]at bb cy;obtain _|o:=o
 rotate_left
 .have aQ:o<G.length:=Zo;have e:((o+1:Nat):Int)-1=(o:Int):=Zo;have cN:=w6 (l:=G.drop o) (λx ck=>e3 x<|uL ck) dJ;have c7:=jE _ cN;have dj:=FP (G.drop o) (.mk an ar ap) Io;generalize iZ (G.drop o) (.mk an ar ap)=b0 at dj cN c7;have cG:=s_ 4 0 b0 [⟨.mk a1 a4 bd a3,ba⟩] cN (by simp;exact aR.ne) Zs (by have:=aR.len;simp at this⊢;omega);have hd:nw (G.length-o) fd=.mk 4 0 [] [nw (G.length-(o+1)) fd]:=by rw[show G.length-o=G.length-(o+1)+1 by omega];rfl
  generalize e2:cD b0=cr at cG c7;obtain⟨g',eb,g_⟩:=b0;have ih:(J.ab G).drop o=J.ab (G.drop o):=by rw[J.cu,J.cu,map_drop]
  have iF:Y G.length (J.ab G)=J.ab G:=by rw[<-iw];exact cc
  have io:((o:Int)<=(G.length:Int))=True:=dM Zo;simp only[bo,J.ds,O.ds,bg,aY,b4,eO,dT,fX,de]at dj cG;have dw:cb.wrap ((o:Int)-1)=(o:Int)-1:=dE _ Zo;refine(ad<|JJ e dF) ?_;refine p3 (.bS [0,1,2,3,5] 4 (.fin [6,7,8]) 6<|.fin [4,7,8]) [29] [] ?_;simp only[e,aV,U,bl,dF,bb,ih,iF,io,go_sem];have e':=eK ⟨.mk 4 0 [] [.mk a1 a4 bd a3],cr::ba⟩;refine⟨?_,?_⟩
  all_goals
   refine(bQ bb) ?_;refine ir [259] cG (.c (.cl _<|bc _)<|.c (.cl _<|bc _)<|.c (.cl _<|Cl.bC<|J.cl<|.mk g' eb g_)<|.c (Fz.aq (ob:=⟨_,194,5,[I a1,I a4,bm bd,.sl 4<|O.ab a3,.sl 3<|J.ab ba],Q⟩) pO C C Zd C Zs C (by simp only[dg,kg];exact cy)) .n) (Cl.bC e') ?_;simp only[aT,e,bl,dF,bb,dw,go_sem];exact⟨⟨o,Zo,C,by simp[aw,Z,aV,a6,U,bl],bY,⟨⟨.mk 4 0 [] [.mk a1 a4 bd a3],cr::ba⟩,AP,⟨by rw[hd,<-aR.c],Zs,by have:=aR.len;simp only[dC]at this⊢;omega,by simpa using c7⟩⟩,λf j=>by simp[ai,aT,cH j (u:=29) C,cH j (u:=259) C,y f j]⟩,bU⟩
 rw[Nat.sub_zero,hO,<-gc,<-dk]at aR;obtain⟨je,gQ,q2,jS,jR,aI,i1,i2,jm,d_,iD⟩:=eJ.set Zs;have c9:=(y 12 fa).trans i1;have dq:=(y 185 fa).trans i2;have dr:=(y 195 fa).trans d_;obtain⟨fu,fO⟩:=Zx<|A<|i++[O.mk 0 0 [] []]++OO;have jl:fu=i.length+1+OO.length:=by rw[<-fO];simp;omega
 have hh:((i.length:Int)<(fu:Int))=True:=dM Zo;have hl:ao (O.ab<|i++[.mk 0 0 [] []]++OO)=ao (O.ab i)++([I 0,I 0,.sl 1 [],.sl 4 []]++ao (O.ab OO)):=by simp[O.cu,O.ds,bm]
 have h0:i.length<aI.length:=Zo;have hm:ao (h4 aI)=ao (h4<|aI.take i.length)++([J.sl aI[i.length]]++ao (h4<|aI.drop<|i.length+1)):=by
  have:aI=aI.take i.length++aI[i.length]::aI.drop (i.length+1):=by rw[<-ml h0,qj]
  exact Qc
 have fA:A (ao<|h4<|aI.take i.length)=i.length:=O';rw[fO]at c9;rw[hl]at dq;rw[hm]at dr;have c5:=Gn (ao<|h4<|aI.take i.length) (ao<|h4<|aI.drop<|i.length+1) [J.sl aI[i.length]] [.sl 3<|J.ab ba] fA C;have iM:i.length*4+4<=A (ao (O.ab i)++([I 0,I 0,.sl 1 [],.sl 4 []]++ao (O.ab OO))):=by rw[b9,b7,b9];simp
 have iN:i.length+1<=A (ao (h4<|aI.take i.length)++([J.sl aI[i.length]]++ao (h4<|aI.drop<|i.length+1))):=by rw[b9,fA,b9];simp
 refine(ad<|JJ dF ga) ?_;refine dP [12,29] [] ?_;simp only[Z,a6,bl,c9,dq,bb,hh,go_sem];refine⟨iM,?_⟩;refine dP [12,29] [] ?_;simp only[Z,a6,bl,c9,dr,bb,hh,go_sem];refine⟨by rw[h_];exact iN,?_⟩;refine⟨bc _,bY,_,⟨by rw[e6],C⟩,?_⟩;rw[<-c4,<-aR.c,show i++O.mk a1 a4 bd a3::OO=i++[O.mk a1 a4 bd a3]++OO by simp];refine iD _ _ (aI.take i.length++[ba]++aI.drop (i.length+1)) Zs ch ?_ ?_ λf j c1 df=>?_
 .simp only[ai,bx,bT,bj];refine eo (λc=>E<|Ob.mk gQ 112 4 c Q)<|(Gn (ao<|O.ab i) (ao<|O.ab OO) [I 0,I 0,.sl 1 [],.sl 4 []] [I a1,I a4,.sl 1 (bd.map λn=>[I n]),.sl 4<|O.ab a3] b7 C).trans ?_;simp[O.cu,O.ds,bm]
 .simp only[ai,bx,h_];exact Pn
 simp only[ai,c1,df,bT];exact y f j
section
section
variable{V:aF}{ds:aO}{k v:Int}{n:BA}{t:J}{ns:aX}{ks:bu}{e:bq}{l:Int}{m:Nat}
def pb(V:aF)(ds:aO)(k:Int)(n:BA)(t:J)(ns:aX)(ks:bu)(e:bq)(l:Int)(m i:Nat):O×cm:=j_ V ds k n t ns ks (ks.map L.bf) (ks.map<|cV V ds) e l m i
def iV(k:Int)(ks:bu)(m i:Nat):Nat:=cK k (ks.map L.bf) m i
def pX(V:aF)(ds:aO)(k:Int)(n:BA)(t:J)(ns:aX)(ks:bu)(e:bq)(l:Int)(m i:Nat):cm:=(if ig k i then[q' V ks e l i (pb V ds k n t ns ks e l m i).1]else[])++(pb V ds k n t ns ks e l m i).2
def Wi(a:k=9\/k=11):cV V ds (.mk k v n t ns ks) e l m=(nc (O.mk (if k=9 then 9 else 10) 0 ((range' 1<|A ks-1).map λb=>((A ds+iV k ks m b:Nat):Int)) [(pb V ds k n t ns ks e l m 0).1]) ((bO ks e).map<|nf ds e l),
 ao ((cz<|A ks).map<|pX V ds k n t ns ks e l m)):=by
 rw[GQ,tj,aC Zo,aC Zo,aM a,bE];rfl
def ju:L->L
 |.mk k v n t ns ks=>if k=10 then ks.headD (.mk k v n t ns ks)else .mk k v n t ns ks
def Ri(d:k=9\/k=11)(b:0<A ks):pb V ds k n t ns ks e l m 0=cV V ds ks[0] e l m:=by
 have g:=zX (V:=V) (ds:=ds) (k:=k) (n:=n) (t:=t) (ns:=ns) (e:=e) (l:=l) (m:=m) b λf=>Yo f.2;rw[pb,g];have a:cK k (ks.map L.bf) m 0=m:=by simp[cK]
 rw[a];obtain rfl|rfl:=d<;>simp[cU,eB,ct]
def Rj(f:k=9\/k=11){a:Nat}(d:0<a)(b:a<A ks):pb V ds k n t ns ks e l m a=cV V ds ks[a] (iv (fM V ks[a]) (fj ks e) l) 0 (iV k ks m a+1):=by
 rw[pb,j_,aM ⟨f,d⟩,getD_map b];simp only[bL b,eE,kx];rfl
def QQ{a:L}(h:Sh V a)(d:bq)(f:Int)(m:Nat):cV V ds a d f m=cV V ds (ju a) d f m/\L.bf a=L.bf (ju a)/\(ju a).num<=a.num:=by
 have⟨k,v,n,t,ns,ks⟩:=a;by_cases g:k=10
 .subst g;obtain⟨b,rfl⟩:=h.one Zs;refine⟨L5,?_,?_⟩
  .rw[L.o8];simp[ju,ix,f']
  simp only[ju,bx,tu];rw[L.num,L.aZ];omega
 simp[ju,g]
def Ey:iV k ks m 0=m:=by simp[iV,cK]
def yQ{i:Nat}(a:i<A ks):iV k ks m (i+1)=iV k ks m i+(f' k i+L.bf ks[i]):=by
 have b:=QV (k:=k) (l:=ks.map L.bf) (m:=m) (i:=i)<|Yq a;simpa[iV]using b
def Jr:iV k ks m (A ks)=m+L.bf (.mk k v n t ns ks):=by
 rw[iV,cK,L.o8,dj (by simp[ix])]
def Js{i j:Nat}(b:i<=j)(f:j<=A ks):iV k ks m i<=iV k ks m j:=by
 obtain⟨d,rfl⟩:∃d,j=i+d:=⟨j-i,Zo⟩
 induction d with
 |zero=>exact bJ _
 |succ d a=>have:=a Zo;have:=yQ (k:=k) (ks:=ks) (m:=m) (i:=i+d) Zo;rw[<-jA];omega
def YH(h:Sh V<|.mk k v n t ns ks)(d:k=9\/k=11){i:Nat}(a:i<A ks):A (pX V ds k n t ns ks e l m i)=f' k i+L.bf ks[i]:=by
 have b:A (pb V ds k n t ns ks e l m i).2=L.bf ks[i]:=by
  rw[pb,j_];split<;>rw[getD_map a,CJ _ _ _ _<|h.dh _<|aD a]
 rw[pX,b9,b,pB];split<;>simp
def mD(ds:aO)(k:Int)(ks:bu)(m i:Nat):IL:=(range' 1<|i-1).map λj=>((A ds+iV k ks m j:Nat):Int)
def YG{a:Nat}(d:1<=a):mD ds k ks m (a+1)=mD ds k ks m a++[((A ds+iV k ks m a:Nat):Int)]:=by
 obtain⟨b,rfl⟩:∃b,a=b+1:=⟨a-1,Zo⟩;simp[mD,range'_concat,tA]
def Rk{a:Nat}:A (mD ds k ks m a)=a-1:=by simp[mD]
def Rm(a:Sh V<|.mk k v n t ns ks)(b:k=9\/k=11):∀i,i<=A ks->m+A (ao<|(cz i).map<|pX V ds k n t ns ks e l m)=iV k ks m i
 |0,_=>by simp[Ey]
 |i+1,f=>by
  have:=Rm a b i Zo;have d:=YH (ds:=ds) (e:=e) (l:=l) (m:=m) a b (i:=i) Zo;rw[wv,bX,eR,b9,yQ Zo];simp only[b4,eO,dT,fX,de];omega
def VC(a:Nat->cm)(i:Nat):ao ((cz<|i+1).map a)=ao ((cz i).map a)++a i:=by
 rw[wv,bX,eR];simp
end
def YM{V:aF}{ds:aO}(cq:gT V ds){k v:Int}(bY:k=9\/k=11){n:BA}{t:J}{ns:aX}{ks:bu}{e:bq}{l:Int}(a0:RC V ds (.mk k v n t ns ks) e l)(gz:∀aS∈ks,aS.sz<=1048576)(b0:0<A ks)(cm:T7 105 V ds ks[0] e l)
 (f_:∀bA,dW bA->bt V ds (.mk k v n t ns ks) e l=E bA->∀(i:Nat)(eA:i<A ks),0<i->B7 V ds (ju ks[i]) (fM V ks[i]) (bO ks e) e l bA (q' V ks e l i) (iv (fM V ks[i]) (fj ks e) l)):T7 162 V ds (.mk k v n t ns ks) e l:=by
 intro aW m bB s g4 K fN go g6 bL;have⟨U,Z,X⟩:=t;have bL:=T7.fin bL;rw[Wi bY]at bL;have gq:L.num (.mk k v n (.mk U Z X) ns ks)=L.aZ ks+1:=sH;have g':=a0.el;have hc:=a0.l1;have hb:=a0.l0;have g_:A ks<=1000:=Yo<|KF ks;have ep:=acW k v n U Z X ns ks e (w_ a0.tc.gd).2 gz Zo Zo Zo Zo;have bP:A (bO ks e)<=1000:=by
  have z:L.aZ (ks.drop 1)<=L.aZ ks:=by cases ks<;>simp[L.aZ]
  unfold bO;refine gS (qi _ _)<|gS (Sy _ _) ?_;rw[gR];omega
 have⟨bA,fV,fW,dw⟩:=a0.tp cq (by simp[L.kd];omega);have dd:=pf fW;have c8:=f_ bA dd fV;have eb:=fN.off;have fS:=gV e;obtain⟨be,fw,fx,ch⟩:∃a b aS,cY e=[a,b,aS]:=⟨_,_,_,C⟩;have g9:Cl<|.cp [.sl 2<|ae.ab V,.sl 12<|aa.ab ds]:=Cl.eT da;have gt:=L.cl<|.mk k v n (.mk U Z X) ns ks;have⟨a_,bb,ba⟩:=bA;have cC:=ch;rw[cY]at cC;have c':be=bG (e.map Ev.n):=by cases cC;rfl
 have fT:fw=.sl 3 (J.ab<|e.map Ev.t):=by cases cC;rfl
 have ee:fx=bm (e.map Ev.l):=by cases cC;rfl
 have g5:Cl be:=(Yy c')<|mE _;subst fT;simp only[bm]at ee;subst ee;rw[ch]at fS dw ep⊢;unfold T7 at cm;unfold B7 at c8;rw[ch]at cm;simp only[ch]at c8;simp only[L.ds,J.ds,bG,bg,aY,ae.sl,aa.sl]at dw gt ep;obtain⟨g2,hr,bd,ft,hq,ea,-⟩:=eb.ob;simp only[ae.sl,aa.sl]at ea;generalize e2:fj ks e=g;have c_:g=(bO ks e).map λj=>(cZ e j).getD ⟨nE,lf,0⟩:=by
  rw[<-e2];refine s0 λj a2=>?_;have ak:=(nA.1 a2).1;rcases gn:cZ e j with _|y
  .rw[gn]at ak;cases ak
  rfl
 have e1:A g=A (bO ks e):=Yx c_;have eh:A (R<|bO ks e)=A (bO ks e):=by simp[R]
 have hg:A (J.ab<|e.map Ev.t)=A e:=yv;have hd:A ((e.map Ev.l).map λn=>[I n])=A e:=Zs;have fE:cE aB 88=E (99,3,48):=Zk;have eD:(k==9)=ah (k=9):=nv ..;have c9:=Ri (V:=V) (ds:=ds) (n:=n) (t:=.mk U Z X) (ns:=ns) (e:=e) (l:=l) (m:=m) bY b0;have eU:=yQ (k:=k) (ks:=ks) (m:=m) b0;have he:=Jr (k:=k) (v:=v) (n:=n) (t:=.mk U Z X) (ns:=ns) (ks:=ks) (m:=m);have hf:=Js (k:=k) (ks:=ks) (m:=m) (show 1<=A ks by omega)<|bJ _;rw[Ey,ew]at eU;have c7:=L.bV ks 0 b0;have e3:=L.cl ks[0];have a1:=L.jw<|aD b0;have gp:ks[0].num<=1000:=Yo<|L.jw<|aD b0;obtain⟨a4,eE⟩:∃a4:Int,(if k=9 then 9 else 10)=a4:=⟨_,C⟩;have dx j (a2:j∈g.map Ev.t):dW j:=by
  obtain⟨y,gy,rfl⟩:=aP.1 a2;exact pf<|a0.w y (l9 (Ad (e2▸gy)).2).1
 have dn:=w6 dx dd;have dk:=jE _ dn;have ez:=FP (g.map Ev.t) (.mk a_ bb ba) yr;generalize iZ (g.map Ev.t) (.mk a_ bb ba)=c4 at ez dn dk;have dr:=λ(aU:bZ)(p:aU.ty≠[])(z:A aU.ty<=2000000000000)=>TR a4 0 c4 [aU] dn (Yq p) Zs<|Yq z;generalize cD c4=cA at dk dr;have⟨fI,fK,fJ⟩:=c4;generalize g7:ks[0]=fD at c7 e3 gp a1 c9 eU cm;have⟨e9,fp,fd,⟨fi,fm,fl⟩,fh,e_⟩:=fD;simp only[L.ds,J.ds,bG,xx,bo,bg,aY,b4,eO,dT,fX,de]at c7 e3 cm ez dr;generalize fP:pb V ds k n (.mk U Z X) ns ks e l m 0=bz at c9 bL;rw[eE]at bL;refine call7 bL [1000021,1000155] [.cell 8 194] C C Zk Zt C Zs ?_;refine(ZN) ?_;by_cases c0:k=9
 all_goals
  first|simp only[eD,b_ (show k=9 from c0),go_sem]|simp only[eD,bW c0,go_sem]
  refine(ZC) ?_;refine fG 12 (A<|bO ks e) (λq=>Fw.fF 203 [(0,.rf 12 aW 0),(1,.cp [I k,I v,S n,I U,S Z,.sl 3<|J.ab X,.sl 1 (ns.map λs=>[S s]),.sl 8<|L.ab ks]),(3,I l),(6,.cp [be,.sl 3<|J.ab<|e.map Ev.t,.sl 1 ((e.map Ev.l).map λn=>[I n])]),(8,.rf 8 (s.n 8) 0),(9,I a4),(10,.sl 1<|R<|bO ks e)] λaz o n bH=>bH=s.T/\(∃aV,o 8=E ⟨s.n 8,194,5,aV,Q⟩/\A aV=5)/\aL [31,51] o 99 3 (J.ab<|(Y q g).map Ev.t) (az 11)/\∀t∈eY,o t=b5 eY s.H t) C
   ⟨C,by simp[aw,ej,<-eE,c0],C,⟨_,l4,C⟩,aj ⟨31,s.n 31,Zs,by simp[aw,J.ab],by simp[ai,J.ab]⟩,λt f=>by simp[ai,cH f (u:=8) C,cH f (u:=31) C]⟩ ?_
  rintro q az o cQ bH cU bl⟨ei,⟨aV,ed,eo⟩,a2,hH⟩;generalize c3:az 11=y;rw[c3]at a2;refine dN eh (λam=>?_) λcf=>?_
  .skip
   generalize a':(bO ks e)[q]=j;have dF:j∈bO ks e:=a'▸aD am;have a6:(R<|bO ks e)[q]?=E [S j]:=by simp[R,am,a']
   have cJ:q<A g:=Zo;obtain⟨a1,-⟩|⟨i,cG,a1,du⟩:=rY j e
   .have ak:=(nA.1 dF).1;rw[a1]at ak;cases ak
   have cN:g[q]=e[i]:=by simp[c_,a',a1]
   have di:=qN (e.map Ev.n) j m_;rw[du,<-c']at di;have a7:=J.bV (e.map Ev.t) i<|Yq cG;rw[fk]at a7;have⟨aK,aQ,aN,b2⟩:=J.ex e[i].t;rw[b2]at a7;simp only[J.ds]at a7;have ax:J.ab ((Y (q+1) g).map Ev.t)=J.ab ((Y q g).map Ev.t)++[(J.mk aK aQ aN).ds]:=by
    rw[dm cJ,bX,J.cu,bX,<-J.cu,cN];simp[b2]
   have e0:A (J.ab<|(Y q g).map Ev.t)=q:=DN;refine(uZ<|JJ c3<|JJ a6<|JJ a7 @jt)<|js (S:=[31,51]) (aq:=J.ab<|(Y q g).map Ev.t) (bD:=[(J.mk aK aQ aN).ds]) Zs fE ((Pa)<|a2.aA bF) (J.hQ _) DU Zs C (by rw[e0];show(q+1)*48<=_;omega) (by rw[e0];show q+1<=aE;unfold aE;omega) (by show 51<203;decide) λcx gB hp gx fU=>?_;have e5:∀t,t≠51->t≠31->t≠50->cx t=o t:=λt a b aS=>by
    rw[fU t a D8];simp[ai,aS]
   refine(ZN) ?_;exact gY am ⟨C,bU,ei,⟨aV,(e5 8 Zd Zd Zd).trans ed,eo⟩,by rw[ax];simp only[aw,bx,bT,bj,e7,eQ,reduceCtorEq];exact gx.sub Zs,λt f=>(e5 t (cH f C) (cH f C)<|cH f C).trans<|hH t f⟩
  obtain rfl:q=A (bO ks e):=Zo;rw[show Y (A<|bO ks e) g=g by rw[<-e1];exact cc]at a2;have gF:=(hH 12 fa).trans ea;refine(ad cf)<|dP [12] [60]<|(ad gF) ?_;apply l6 _ dw da;refine(ZN)<|RZ fb (GK.fe [31,51] 11 (.sl 3<|J.ab<|g.map Ev.t) (by simp only[aw,bT,bj,c3,e7,eQ,reduceCtorEq];exact aL.fz (a2.aA yu) Zd (J.hQ _)<|J.dl _) (db.2<|J.dl _) λbh dX=>?_);have fq t (a:t≠13) (b:t∉[31,51]):bh t=o t:=(dX t b).trans<|Yu a;have cw:=dX 13 Zd;simp only[bN]at cw;have gH:=(fq 8 Zd Zd).trans ed;have gI t (f:t∈eY):bh t=b5 eY s.H t:=(fq t (cH f C) (by simp only[cF,dt,gD,lh];exact⟨cH f C,cH f C⟩)).trans<|hH t f;refine GK.cM<|JL (K:=λct=>Fw.fF 203 [(0,.rf 12 aW 0),(1,.cp [I k,I v,S n,I U,S Z,.sl 3<|J.ab X,.sl 1 (ns.map λs=>[S s]),.sl 8<|L.ab ks]),(3,I l),(6,.cp [be,.sl 3<|J.ab<|e.map Ev.t,.sl 1 ((e.map Ev.l).map λn=>[I n])]),(8,.rf 8 (s.n 8) 0),(10,.sl 1<|R<|bO ks e),(11,.sl 3<|J.ab<|g.map Ev.t),(13,.rf 13 (cQ 13) 0)] (λaz o dH bi=>bi=bH/\o 8=E ⟨s.n 8,194,5,aV,Q⟩/\o 13=E ⟨cQ 13,99,3,[I a_,S bb,.sl 3<|J.ab ba],Q⟩/\(∃a8 cv,az 15=.rf 15 a8 0/\o 15=E ⟨a8,194,5,xx a4 0 [bz.1] (cA::cv),Q⟩/\A cv<=W7 (L.mk e9 fp fd (J.mk fi fm fl) fh e_))/\L7 V ds o aW (bB++bz.2)) ct) ?_<|rH (mu:=[1000021,1000155]) (.bS [0,1,2,4,5,6,7,8,9,10,11] 3 (.bS [] 12 (.bS [] 13 (.bS [] 14 (.fin [15,16]) 15<|.fin [14,16]) 15<|.fin [13,14,16]) 15<|.fin [12,13,14,16]) 15<|.fin [3,12,13,14,16]) [13] [] fb Zk ?_
  rotate_left
  .skip
   refine(ad<|JJ cw c7) ?_
   repeat' (with_reducible refine And.intro ?_ ?_)
   all_goals
    refine(bQ cw) ?_
    repeat' (with_reducible refine And.intro ?_ ?_)
    all_goals
     refine aj<|aj (cm aW m bB _ _ _ (eb.aA λt f=>by simp[ai,cH f (u:=15) C,gI t f]) go Zo λcx gB aU bl ec aC=>?_);rw[<-c9]at bl ec;have P:cx 13=E ⟨cQ 13,99,3,[I a_,S bb,.sl 3<|J.ab ba],Q⟩:=(aC 13 Zd).trans<|Yu cw;have aR:cx 8=E ⟨s.n 8,194,5,aV,Q⟩:=(aC 8 Zd).trans<|Yu gH;have ay:=aC 15 Zd;simp only[ai,bx]at ay;have⟨⟨ap,av,an,ar⟩,al⟩:=aU;have cj:=eK ⟨.mk ap av an ar,al⟩;have eI:=dr ⟨.mk ap av an ar,al⟩ bl.ne<|gS bl.len (by unfold W7;omega);simp only[bo,O.ds,bg,aY]at cj eI⊢;have eV:=eK ⟨.mk a4 0 [] [.mk ap av an ar],cA::al⟩;refine(ad<|JJ P cw) ?_
     repeat' (with_reducible refine And.intro ?_ ?_)
     all_goals
      refine ir [76] eI (.c (.cl _<|bc _)<|.c (.cl _<|bc _)<|.c (.cl _<|Cl.bC<|J.cl<|.mk fI fK fJ)<|.c (Fz.aq (ob:=⟨_,194,5,[I ap,I av,bm an,.sl 4<|O.ab ar,.sl 3<|J.ab al],Q⟩) pO C C Zd C Zs C ((Pb) cj)) .n) ?_ ?_
      .apply Cl.bC;simp only[bo,O.ds,bg,aY,bm,cF,dt,gD,ri,kg]at eV⊢;exact⟨bc _,bc _,bc _,eV.2.2.2⟩
      simp only[aT,P,ay,go_sem];exact⟨C,bU,C,by simp[ai,aT,aR],by simp[ai,aT,P],⟨_,al,by simp only[aw,bx,e7,eQ,bT,reduceCtorEq,bj];rfl,by simp only[bN,xx,<-bl.c],bl.len⟩,ec.aA λt f=>by simp[ai,aT,cH f (u:=15) C,cH f (u:=76) C]⟩
  rintro⟨az,gQ,hi,e4,gW,gU⟩⟨rfl,a9,ax,aR,P,⟨a8,cv,d',ay,hh⟩,aH⟩;simp only[bM]at a9 ax aR P d' ay aH;obtain⟨f0,f1,f3,f6,f8,f10,f11,f13,-⟩:=a9;refine(ZN) ?_;have ge:=λ(i:Nat)(eA:i<=A ks)=>Rm (V:=V) (ds:=ds) (v:=v) (n:=n) (t:=.mk U Z X) (ns:=ns) (e:=e) (l:=l) (m:=m) a0.sh bY i eA;have d_:cE aB 110=E (2,1,8):=Zk;generalize gj:cQ 13=ca;rw[gj]at f13 P;refine l' (λct=>∃i:Nat,1<=i/\i<=A ks/\Fw.fF 203 [(0,.rf 12 aW 0),(1,.cp [I k,I v,S n,I U,S Z,.sl 3<|J.ab X,.sl 1 (ns.map λs=>[S s]),.sl 8<|L.ab ks]),(3,I l),(6,.cp [be,.sl 3<|J.ab<|e.map Ev.t,.sl 1 ((e.map Ev.l).map λn=>[I n])]),(8,.rf 8 (s.n 8) 0),(10,.sl 1<|R<|bO ks e),(11,.sl 3<|J.ab<|g.map Ev.t),(13,.rf 13 ca 0),(15,.rf 15 a8 0),(16,I i)] (λaz o dH bi=>bi=s.T/\o 8=E ⟨s.n 8,194,5,aV,Q⟩/\o 13=E ⟨ca,99,3,[I a_,S bb,.sl 3<|J.ab ba],Q⟩/\(∃dO,o 15=E ⟨a8,194,5,[I a4,I 0,dO,.sl 4<|O.ab [bz.1],.sl 3<|J.ab (cA::cv)],Q⟩/\aL [155] o 2 1 (au I<|mD ds k ks m i) dO)/\L7 V ds o aW (bB++ao ((cz i).map<|pX V ds k n (.mk U Z X) ns ks e l m))) ct) (λs=>match s.env 16 with|.sc (.int _ n)=>((A ks:Int)-n).toNat|_=>0)
   ⟨1,bJ _,b0,C,by simp[aw,f0,f1,f3,f6,f8,f10,f11,f13,d'],ax.trans ei,aR,P,⟨_,ay,aG ⟨by simp[mD,au],C⟩⟩,by
    have ak:ao ((cz 1).map<|pX V ds k n (.mk U Z X) ns ks e l m)=bz.2:=by
     rw[show(1:Nat)=0+1 from C,VC];simp[pX,ig,fP]
    rw[ak];exact aH⟩ ?_
  rintro⟨az,o,gC,e4,bH,cU⟩⟨i,gk,gl,rfl,a9,ax,aR,P,⟨dO,ay,cP⟩,aH⟩;simp only[bM]at a9 ax aR P ay cP aH;obtain⟨f0,f1,f3,f6,f8,f10,f11,f13,f15,f16,-⟩:=a9;refine dN (JJ f1 f16) (λam=>?_) λcf=>?_
  .skip
   have eJ:=aD am;have ce:=L.bV ks i am;have dG:=L.cl ks[i];have fO:=c8 i am Zo;have cK:=a0.sh.dh _ eJ;have en:=QQ (ds:=ds) cK (iv (fM V ks[i]) (fj ks e) l) 0<|iV k ks m i+1;have gb:pX V ds k n (.mk U Z X) ns ks e l m i=q' V ks e l i (cV V ds (ju ks[i]) (iv (fM V ks[i]) (fj ks e) l) 0<|iV k ks m i+1).1::(cV V ds (ju ks[i]) (iv (fM V ks[i]) (fj ks e) l) 0<|iV k ks m i+1).2:=by
    rw[pX,aM (show ig k i from⟨bY,Zo⟩),Rj (V:=V) (ds:=ds) (n:=n) (t:=.mk U Z X) (ns:=ns) (e:=e) (l:=l) (m:=m) bY (show 0<i by omega) am,en.1];rfl
   have gs:=ge i gl;have gc:=yQ (k:=k) (ks:=ks) (m:=m) am;rw[pB,aM (show ig k i from⟨bY,Zo⟩),en.2.1]at gc;have g8:=Js (k:=k) (ks:=ks) (m:=m) (show i+1<=A ks by omega)<|bJ _;have bp:=VC (pX V ds k n (.mk U Z X) ns ks e l m) i;have eP:=YG (ds:=ds) (k:=k) (ks:=ks) (m:=m) gk;rw[gb]at bp;generalize f':ao ((cz i).map<|pX V ds k n (.mk U Z X) ns ks e l m)=OL;rw[f']at gs aH bp;have bk:=fO aW (iV k ks m i)<|bB++OL;have eF:A (bB++OL)=A ds+iV k ks m i:=wG;have ck:iV k ks m i+1+L.bf (ju ks[i])<=1000000:=Zo;have er:=(lN a0.tc.fit).2 _ eJ;generalize ga:ks[i]=aS;rw[ga]at ce dG cK bk ck bp er;obtain⟨e',ho,dJ,⟨gZ,g1,g0⟩,fC,gX⟩:=aS;by_cases cX:e'=10
   .subst cX;obtain⟨b,rfl⟩:=cK.one Zs;have eN:=cK.xB C;obtain⟨c2,gf,c1,es,fu,gM,fv,gN,gO⟩:=rG (by have ak:=(lN er).1;simp[fo]at ak;omega);have dj:=vF V dJ cq.oA.len cq.oA.cs;rw[fu,gO]at dj;have a6:=ae.bV V c2 gf;obtain⟨dZ,b8,bR⟩:∃dZ b8,V[c2]=.mk dZ b8:=by cases V[c2];exact⟨_,_,C⟩
    have gm:c1<A b8:=by rw[bR]at es;exact es
    obtain⟨dY,cB,eq⟩:∃dY cB,b8[c1]=.mk dY cB:=aJ.ex _;have ey:kG V dJ=cB:=by rw[fv];simp only[bR,ae.cs,eq,aJ.fs]
    have cd:=aJ.bV b8 c1 gm;rw[bR]at a6;rw[eq]at cd;have gh:(dA V dJ fC 0).map Ev.t=cB:=by
     rw[dA,eu,ey];rw[ey]at eN;exact map_snd_zip Zo
    simp only[ae.ds,aJ.ds,aJ.sl]at a6 cd;simp only[fM,bx,E6 (l:=0) eN,gh,ju,tu]at bk bp ck;have gA:=L.cl b;have⟨B,F,hj,⟨hl,hn,hm⟩,hk,D⟩:=b;simp only[L.ds,L.ab,J.ds,bG,bg,aY]at ce dG bk gA;obtain⟨g3,hv,hu,hw,ht,cR,-⟩:=aH.ob;simp only[ae.sl,aa.sl]at cR dj;simp only[f0,f1,f16,ce,go_sem];refine fB ?_;simp only[cR,go_sem];refine nV dj ?_;simp only[f0,cR,go_sem];refine sX [13] [126] fb Zk ?_;simp only[f0,f3,f6,f10,f13,a6,cd,cR,P,go_sem];refine aj<|aj (bk _ _ _ (aH.aA λt f=>by simp) eF ck λb3 dI cg aC=>?_);have a5:=(aC 13 Zd).trans P;have aI:=(aC 15 Zd).trans ay;have dK:=cP.aA (H':=b3) ((Pb)<|aC 155 Zd);rw[dy,<-bp]at cg;simp only[f15,a5,P,aI,go_sem];refine GK.cM (eC.eS (S:=[155]) (aq:=au I<|mD ds k ks m i) (bD:=[[I ((A ds+iV k ks m i:Nat):Int)]]) d_ ((Pa)<|dK.aA bF) (ha _) hF Zs C O_ Ph λcT gE gK br dc=>?_);have r t (a:t≠155) (b:t≠154):cT t=b3 t:=by rw[dc t a<|Yq a];simp[ai,b]
    obtain⟨fL,rfl,-⟩:=eG br Zs;have dv:au I (mD ds k ks m i)++[[I ((A ds+iV k ks m i:Nat):Int)]]=au I (mD ds k ks m<|i+1):=by rw[eP];simp[au]
    generalize cr:A (au I (mD ds k ks m i)++[[I ((A ds+iV k ks m i:Nat):Int)]])=gP;rw[cr,dv]at br;simp only[f15,f16,(r 15 Zd Zd).trans aI,gJ i Zo,cr,go_sem];exact⟨⟨i+1,Zo,Zo,C,by simp[aw,f0,f1,f3,f6,f8,f10,f11,f13,f15],ax,by simp[ai,r,(aC 8 Zd).trans aR],by simp[ai,r,a5],⟨_,DG,br.aA bF⟩,cg.aA λt f=>by simp[ai,cH f (u:=15) C,r t (cH f C)<|cH f C]⟩,rn⟩
   .have fH:(e'==10)=af:=by simp[cX]
    simp only[fM,cX,bT,eO,ju]at bk bp ck;simp only[L.ds,J.ds,bG,bg,aY]at ce dG bk;simp only[f0,f1,f3,f6,f10,f13,f16,ce,fH,P,go_sem];refine aj<|aj (A4 (bk _ _ _ (aH.aA λt f=>by simp) eF ck ?_) C λi d e p z=>?_)
    rotate_left
    .match i,p,z with
     |0,p,z=>cases p;cases z;exact gi.rfl
     |1,p,z=>cases p;cases z;exact gi.rfl
     |2,p,z=>cases p;cases z;exact gi.nil
     |3,p,z=>cases p;cases z;exact gi.nil
     |4,p,z=>cases p;cases z;exact gi.rfl
     |5,p,z=>cases p;cases z;exact gi.rfl
     |6,p,z=>cases p;cases z;exact gi.rfl
     |7,p,z=>cases p;cases z;exact gi.rfl
    intro b3 dI cg aC;have aI:=(aC 15 Zd).trans ay;have dK:=cP.aA (H':=b3) ((Pb)<|aC 155 Zd);rw[dy,<-bp]at cg;refine(ad<|JJ f15 aI) ?_;refine GK.cM (eC.eS (S:=[155]) (aq:=au I<|mD ds k ks m i) (bD:=[[I ((A ds+iV k ks m i:Nat):Int)]]) d_ ((Pa)<|dK.aA bF) (ha _) hF Zs C O_ Ph λcT gE gK br dc=>?_);have r t (a:t≠155) (b:t≠154):cT t=b3 t:=by rw[dc t a<|Yq a];simp[ai,b]
    obtain⟨fL,rfl,-⟩:=eG br Zs;have dv:au I (mD ds k ks m i)++[[I ((A ds+iV k ks m i:Nat):Int)]]=au I (mD ds k ks m<|i+1):=by rw[eP];simp[au]
    generalize cr:A (au I (mD ds k ks m i)++[[I ((A ds+iV k ks m i:Nat):Int)]])=gP;rw[cr,dv]at br;have gG:cb.wrap ((i:Int)+1)=((i+1:Nat):Int):=gJ i Zo;simp only[f15,f16,(r 15 Zd Zd).trans aI,gG,cr,go_sem];exact⟨⟨i+1,Zo,Zo,C,by simp[aw,f0,f1,f3,f6,f8,f10,f11,f13,f15],ax,by simp[ai,r,(aC 8 Zd).trans aR],by simp[ai,r,(aC 13 Zd).trans P],⟨_,DG,br.aA bF⟩,cg.aA λt f=>by simp[ai,cH f (u:=15) C,r t (cH f C)<|cH f C]⟩,rn⟩
  obtain rfl:i=A ks:=Zo;refine(ad cf) ?_;have eL r (gr:r∈au I (mD ds k ks m<|A ks)) d (et:d∈r):Cl d:=by
   obtain⟨j,-,rfl⟩:=aP.1 gr;simp only[dg]at et;subst et;exact bc _
  refine GK.fc [155] 15 2 (e:=.sl 1<|au I<|mD ds k ks m<|A ks) ay Zd C (aL.fz (cP.aA o4) Zd (ha _) eL) (db.2 eL) λdQ dU cW=>?_;simp only[De,Df]at dU;have fA:=(cW 8 Zd Zd).trans aR;have fy:=(cW 13 Zd Zd).trans P;have dV:=aH.aA (H':=dQ) λt f=>cW t (cH f C) (by simp only[dg];exact cH f C);generalize ef:O.mk a4 0 (mD ds k ks m<|A ks) [bz.1]=b7;generalize eg:bB++ao ((cz<|A ks).map<|pX V ds k n (.mk U Z X) ns ks e l m)=dR;have fY:(O.mk a4 0 ((range' 1<|A ks-1).map λi=>((A ds+iV k ks m i:Nat):Int)) [bz.1])=b7:=ef;rw[eg]at dV;simp only[fY,eg];apply GK.cM;refine(ZN) ?_;refine fG 21 (A<|bO ks e) (λq=>Fw.fF 203 [(0,.rf 12 aW 0),(3,I l),(6,.cp [be,.sl 3<|J.ab<|e.map Ev.t,.sl 1 ((e.map Ev.l).map λn=>[I n])]),(8,.rf 8 (s.n 8) 0),(10,.sl 1<|R<|bO ks e),(11,.sl 3<|J.ab<|g.map Ev.t),(13,.rf 13 ca 0),(15,.rf 15 a8 0)] λaz o dH bi=>bi=s.T/\o 8=E ⟨s.n 8,194,5,aV,Q⟩/\o 13=E ⟨ca,99,3,[I a_,S bb,.sl 3<|J.ab ba],Q⟩/\(∃aU,o 15=E ⟨a8,194,5,bo aU,Q⟩/\gL (nc b7<|(Y q<|bO ks e).map<|nf ds e l) (1+W7 (L.mk e9 fp fd (J.mk fi fm fl) fh e_)+3*q) aU)/\L7 V ds o aW dR) C
   ⟨C,by simp[aw,f0,f3,f6,f8,f10,f11,f13,f15],ax,fA,fy,⟨⟨b7,cA::cv⟩,by show dQ 15=_;rw[dU,<-ef];simp[bo,O.ds,bm,au],⟨C,Zs,by simp only[dC];omega,Yq dk⟩⟩,dV⟩ ?_
  rintro q az o gC bH cU bl⟨ax,aR,P,⟨aU,ay,b1⟩,aH⟩;refine dN eh (λam=>?_) λcf=>?_
  .generalize a':(bO ks e)[q]=j;have dF:j∈bO ks e:=a'▸aD am;have a6:(R<|bO ks e)[q]?=E [S j]:=by simp[R,am,a']
   have cJ:q<A g:=Zo;obtain⟨a1,-⟩|⟨i,cG,a1,du⟩:=rY j e
   .have ak:=(nA.1 dF).1;rw[a1]at ak;cases ak
   have cN:g[q]=e[i]:=by simp[c_,a',a1]
   have di:=qN (e.map Ev.n) j m_;rw[du,<-c']at di;have a7:=J.bV (e.map Ev.t) i<|Yq cG;rw[fk]at a7;have⟨aK,aQ,aN,b2⟩:=J.ex e[i].t;rw[b2]at a7;simp only[J.ds]at a7;have cI:cZ e j=E e[i]:=a1;have eM:=UA aH (Yo cq.len) j e Zo a0.w cq.Bb λq=>by rw[q]at cI;cases cI
   rw[ch]at eM;refine(ZN) ?_;refine wX (λct=>Fw.fF 203 [(3,I l),(6,.cp [be,.sl 3<|J.ab<|e.map Ev.t,.sl 1 ((e.map Ev.l).map λn=>[I n])]),(0,.rf 12 aW 0),(8,.rf 8 (s.n 8) 0),(10,.sl 1<|R<|bO ks e),(11,.sl 3<|J.ab<|g.map Ev.t),(13,.rf 13 ca 0),(15,.rf 15 a8 0),(21,I q)] (λaz bh dH bi=>bi=bH/\(∀t,t≠22->bh t=o t)/\∃c5 fr,az 22=.rf 22 c5 0/\bh 22=E ⟨c5,194,5,bo fr,Q⟩/\gL (mO ds e j) 1 fr) ct) (.bS [0,1,2,3,4,5] 6 (.fin [7,8]) 7<|.fin [6,8]) [] [] fb Zk ?_ ?_
   .refine(ad a6) ?_;refine⟨?_,?_⟩
    all_goals
     refine aj<|aj<|eM _ _ _ (λt f=>Yu<|cH f (u:=22) C) ?_;rintro dI r⟨⟨⟨B,F,G,D⟩,M⟩,rfl,bn⟩bP;have eW:bo ⟨.mk B F G D,M⟩=[I B,I F,bm G,.sl 4<|O.ab D,.sl 3<|J.ab M]:=by simp[bo,O.ds]
     refine(ad eW) ?_;exact⟨C,bU,C,λt f=>Yu f,_,⟨.mk B F G D,M⟩,by simp only[aw,bx,bT,bj,e7,eQ,reduceCtorEq];rfl,by simp[ai,eW,bm],bn⟩
   rintro⟨az,bh,dI,e4,T7,cU⟩⟨rfl,a9,rfl,ci,c5,⟨⟨B,F,G,D⟩,M⟩,b',bK,bn⟩;simp only[bM]at a9 ax ci b' bK;obtain⟨f3,f6,f0,f8,f10,f11,f13,f15,bI,-⟩:=a9;have e8:=(ci 8 Zd).trans aR;have a5:=(ci 13 Zd).trans P;have aI:=(ci 15 Zd).trans ay;have e6:=aH.aA (H':=bh) λt f=>ci t<|cH f C;have⟨⟨ap,av,an,ar⟩,al⟩:=aU;have cn:=eK ⟨.mk ap av an ar,al⟩;have eR:=eK ⟨.mk B F G D,M⟩;have cd:((e.map Ev.l).map λn=>[I n])[i]?=E [I e[i].l]:=Yr cG;have gw:cb.wrap (l+1)=l+1:=dE _ Zo;have gg:(e[i].l==l+1)=ah (e[i].l=l+1):=nv ..;have c6:=J.bV (g.map Ev.t) q<|Yq cJ;rw[fk,cN,b2]at c6;have dz:A (J.ab<|g.map Ev.t)=A (bO ks e):=by rw[J.b6,bE,e1]
   have eX:dW<|.mk aK aQ aN:=by rw[<-b2,<-cN];exact dx _<|aP.2 ⟨_,aD cJ,C⟩
   have gu:=jE _ eX;have eH:=s_ 6 0 (.mk aK aQ aN) [⟨.mk B F G D,M⟩] eX (by simp;exact bn.ne) Zs (by have ak:=bn.len;simp at ak⊢;omega);have dB:=w6 (l:=(g.map Ev.t).drop<|q+1) (λj a2=>dx j<|uL a2) dd;have dD:=jE _ dB;have dp:=FP ((g.map Ev.t).drop<|q+1) (.mk a_ bb ba) (by rw[C9,bE];omega);generalize iZ ((g.map Ev.t).drop<|q+1) (.mk a_ bb ba)=ft at dp dB dD;have⟨bv,bd,bw⟩:=ft;have bR:(J.ab<|g.map Ev.t).drop (q+1)=J.ab ((g.map Ev.t).drop<|q+1):=by rw[J.cu,J.cu,map_drop]
   have eZ:Y (A<|bO ks e) (J.ab<|g.map Ev.t)=J.ab (g.map Ev.t):=by rw[<-dz];exact cc
   have eB:(((q+1:Nat):Int)<=(A (bO ks e):Int))=True:=dM Zo;have cS:cb.wrap ((q:Int)+1)=((q+1:Nat):Int):=gJ q Zo;have ek:nc b7 ((Y (q+1)<|bO ks e).map<|nf ds e l)=.mk 5 0 [] [nc b7<|(Y q<|bO ks e).map<|nf ds e l,nf ds e l j]:=by
    rw[dm am,bX,nc,so,a'];rfl
   have bP:=b1.len;have dq:=λ(dL:bZ)(p:dL.ty≠[])(z:A dL.ty<=2)=>s_ 5 0 (.mk bv bd bw) [⟨.mk ap av an ar,al⟩,dL] dB (by simp;exact⟨b1.ne,p⟩) Zs (by simp only[b4,eO,kS,sum_nil];unfold W7 at bP;dsimp only at bP;omega);simp only[bo,J.ds,O.ds,bg,aY,b4,eO,dT,fX,de]at c6 eH dp dq aI bK cn eR;refine(fQ<|JJ bI<|JJ f6<|JJ f10<|JJ a6<|JJ f3<|JJ cd<|JJ gw gg) ?_;by_cases cy:e[i].l=l+1
   .have df:nf ds e l j=.mk 6 0 [] [mO ds e j]:=by simp[nf,cI,cy]
    refine(ad<|b_ cy)<|dP [22] [] ?_;simp only[bI,f11,b',bK,c6,go_sem];refine ir [190] eH (.c (.cl _<|bc _)<|.c (.cl _<|bc _)<|.c (.cl _<|Cl.bC<|J.cl<|.mk aK aQ aN)<|.c (Fz.aq (ob:=⟨_,194,5,[I B,I F,bm G,.sl 4<|O.ab D,.sl 3<|J.ab M],Q⟩) pO C C Zd C Zs C ((Pb) eR)) .n) (Cl.bC<|eK ⟨.mk 6 0 [] [.mk B F G D],cD (.mk aK aQ aN)::M⟩) ?_;simp only[aT,b',bK,go_sem];have a3:gL (nf ds e l j) 2 ⟨.mk 6 0 [] [.mk B F G D],cD (.mk aK aQ aN)::M⟩:=⟨by rw[df,<-bn.c],Zs,by have ak:=bn.len;simp only[dC]at ak⊢;omega,Yq gu⟩;have co:=dq ⟨.mk 6 0 [] [.mk B F G D],cD (.mk aK aQ aN)::M⟩ a3.ne a3.len;have bs:=eK ⟨.mk 6 0 [] [.mk B F G D],cD (.mk aK aQ aN)::M⟩;simp only[bo,O.ds,bm,eO,bg,aY]at co bs;refine p3 (.bS [0,1,2,3,4,6,7] 5 (.fin [8,9,10]) 8<|.fin [5,9,10]) [13,15,22] [] ?_;simp only[f11,bI,cS,f13,f15,b',a5,aI,bR,eZ,eB,dz,aT,go_sem];refine⟨?_,?_⟩
    all_goals
     refine mB dp ?_;simp only[a5,aI,aT,go_sem];refine ir [200] co (.c (.cl _<|bc _) (.c (.cl _<|bc _) (.c (.cl _<|Cl.bC<|J.cl<|.mk bv bd bw) (.c (Fz.aq pO C C Zd C Zs Zs (by
      simp only[bM]at cn bs⊢;exact⟨cn,bs,Zs⟩)) .n)))) (Cl.bC<|eK ⟨.mk 5 0 [] [.mk ap av an ar,.mk 6 0 [] [.mk B F G D]],cD (.mk bv bd bw)::(al++(cD (.mk aK aQ aN)::M))⟩) ?_
     simp only[aT,bI,cS,f15,aI,go_sem];apply GK.cM;refine(ZN) ?_;exact jW fR am ⟨C,by simp[aw,f0,f3,f6,f8,f10,f11,f13,f15],ax,by simp[ai,aT,e8],by simp[ai,aT,a5],⟨⟨.mk 5 0 [] [.mk ap av an ar,.mk 6 0 [] [.mk B F G D]],cD (.mk bv bd bw)::(al++(cD (.mk aK aQ aN)::M))⟩,AP,⟨by rw[ek,<-b1.c,<-a3.c],Zs,by have p:=a3.len;simp only[dC,b9]at p bP⊢;omega,Yq dD⟩⟩,e6.aA λt f=>by simp[ai,aT,cH f (u:=22) C,cH f (u:=15) C,cH f (u:=190) C,cH f (u:=200) C]⟩
   have df:nf ds e l j=mO ds e j:=by simp[nf,cI,cy]
   refine(ad<|bW cy) ?_;have a3:gL (nf ds e l j) 2 ⟨.mk B F G D,M⟩:=(Yy df)<|bn.FU Zo;have co:=dq ⟨.mk B F G D,M⟩ a3.ne a3.len;have bs:=eK ⟨.mk B F G D,M⟩;simp only[bo,O.ds,bm,eO,bg,aY]at co bs;refine p3 (.bS [0,1,2,3,4,6,7] 5 (.fin [8,9,10]) 8<|.fin [5,9,10]) [13,15,22] [] ?_;simp only[f11,bI,cS,f13,f15,b',a5,aI,bK,bR,eZ,eB,dz,go_sem];refine⟨?_,?_⟩
   all_goals
    refine(bQ<|JJ a5<|JJ aI bK) ?_;refine ir [200] co (.c (.cl _<|bc _) (.c (.cl _<|bc _) (.c (.cl _<|Cl.bC<|J.cl<|.mk bv bd bw) (.c (Fz.aq pO C C Zd C Zs Zs (by
     simp only[bM]at cn bs⊢;exact⟨cn,bs,Zs⟩)) .n)))) (Cl.bC<|eK ⟨.mk 5 0 [] [.mk ap av an ar,.mk B F G D],cD (.mk bv bd bw)::(al++(M))⟩) ?_
    simp only[aT,bI,cS,f15,aI,go_sem];apply GK.cM;refine(ZN) ?_;exact jW fR am ⟨C,by simp[aw,f0,f3,f6,f8,f10,f11,f13,f15],ax,by simp[ai,aT,e8],by simp[ai,aT,a5],⟨⟨.mk 5 0 [] [.mk ap av an ar,.mk B F G D],cD (.mk bv bd bw)::(al++(M))⟩,AP,⟨by rw[ek,<-b1.c,<-a3.c],Zs,by have p:=a3.len;simp only[dC,b9]at p bP⊢;omega,Yq dD⟩⟩,e6.aA λt f=>by simp[ai,aT,cH f (u:=15) C,cH f (u:=200) C]⟩
  obtain rfl:q=A (bO ks e):=Zo;rw[cc]at b1;have⟨⟨ap,av,an,ar⟩,al⟩:=aU;have cj:=eK ⟨.mk ap av an ar,al⟩;simp only[bo,O.ds,bg,aY]at ay cj;obtain⟨hs,fu,gM,fv,gN,rfl⟩:∃a b aS d e,aV=[a,b,aS,d,e]:=by
   match aV,eo with
   |[a,b,aS,d,e],_=>exact⟨a,b,aS,d,e,C⟩
  simp only[cf,aR,ay,go_sem];exact⟨Cl.bC cj,ax,dR,⟨⟨.mk ap av an ar,al⟩,by simp[bo,O.ds,bm],b1.FU (by simp only[W7,gq];omega),C⟩,aH.aA λt f=>Yu<|cH f (u:=8) C⟩
end
def agn{a v:Int}(K:a=9\/a=11){e:J}{r:Int}(f:T7 162 a5 be (.mk a v gs e hH h1) it r):T7 105 a5 be (.mk a v gs e hH h1) it r:=by
 intro x R s ae aa Z z M G F;have⟨ah,al,ak⟩:=e;have B:=gV it;obtain⟨U,V,X,D⟩:∃t b w,cY it=[t,b,w]:=⟨_,_,_,C⟩;unfold T7 at f;rw[D]at B f⊢;simp only[L.ds,J.ds,bG,bg,aY]at f;refine call7 (T7.fin F) [] [.cell 8 194] C C Zk Zt C Zs<|(ZN) ?_;have o:(a==1)=af:=co;have d:(a==9)=W\/(a==9)=af/\(a==11)=W:=by obtain rfl|rfl:=K<;>simp
 obtain d|⟨d,y⟩:=d
 all_goals
  first|simp only[o,d,y,go_sem]|simp only[o,d,go_sem]
  refine aj<|aj (f x R s _ _ _ (z.off.aA λe g=>Yu<|cH g (u:=8) C) M G λY ab S P A I=>?_);have q:=I 8 Zd;simp only[ai,bx]at q;have⟨⟨j,m,i,k⟩,l⟩:=S;have p:=eK ⟨.mk j m i k,l⟩;simp only[bo,O.ds,bg,aY]at p⊢;refine(ad q) ?_;exact⟨Cl.bC p,_,⟨⟨.mk j m i k,l⟩,by simp[O.ds,bm],P,C⟩,A.aA λe g=>Yu<|cH g (u:=8) C⟩
def QP{f:aF}{h:aO}(I:gT f h)(B:0<A h){a:bu}{e:Nat}(k:e<A a)(o:0<e){d:bq}{g:Int}(x:dW he)(S:A d+3*L.aZ a<=1000000)(D:0<=g)(U:g+L.aZ a<=1000)(O:∀b∈d,J.w b.t){c:L}{F F':bq}(y:ju a[e]=c)(j:fM f a[e]=F)(G:F.map Ev.n=F'.map Ev.n)(M:∀b,gl F b=gl F' b)(P:∀b∈F,J.w b.t)(u:A F<=3)(s:∀v∈F,v.l=0)
 (K:RC f h c (d++F') g) (C:∀b,fv c [] b->b∉F.map Ev.n->fv a[e] [] b) (z:∀i,RC f h c i 0->T7 105 f h c i 0) (V:c.num<=L.aZ a):B7 f h (ju a[e]) (fM f a[e]) (bO a d) d g he (q' f a d g e)<|iv (fM f a[e]) (fj a d) g:=by
 have m:=RC.root K G M O P (λb p q r=>nA.2 ⟨r,e,k,o,C b p q⟩) Zo;have:=X3 I B x u s Zo ⟨D,Zo⟩ (Yo<|Jm a d) m<|z _ m;rw[y,j];have R:q' f a d g e=λb=>nw (A F+A (fj a d))<|oF (gk (A<|fj a d) ((fj a d).map λv=>ah<|v.l=g+1) 0 0) b:=by
  funext b;rw[q',bL k];simp only[eE,kx,j]
 rwa[R]
def L1{f:aF}{k:aO}(m:gT f k)(M:0<A k):∀(o:L)(a:bq)(l:Int),o.sz<=1048576->RC f k o a l->L.kd o≠10->T7 105 f k o a l
 |.mk h v B o D e,a,l,ay,i,ab=>by
  have V c (hc:c∈e):c.sz<=1048576:=by have q:=L.gz hc;rw[L.sz]at ay;omega
  have z c (hc:c∈e) a l (j:RC f k c a l) (hk:L.kd c≠10):T7 105 f k c a l:=L1 m M c a l (V c hc) j hk;have az (c:L) (hc:c∈e) aJ aA aI aB b (K:c=.mk 10 aJ aA aI aB [b]) a l (j:RC f k b a l) (hk:L.kd b≠10):T7 105 f k b a l:=L1 m M b a l (by have q:=V c hc;rw[K,L.sz]at q;have q:=L.gz (l:=[b]) (x:=b) Zs;omega) j hk;have ak:=i.sh.case;have X:=i.sh.len;have y:=i.dh m;simp only[L.kd]at ab;have J (g:Nat) (p:g<A e) (aH:h≠9):L.kd e[g]≠10:=by rw[Ne,ak g p];exact λam=>aH am.1
  have U:h=3\/h=5\/h=8->T7 105 f k (.mk h v B o D e) a l:=λhk=>agr m hk i λc hc=>by
   obtain⟨g,p,rfl⟩:=ec hc;have j:=y g p;have S:eB h g=af:=DI;have u:ct h l=l:=by rw[ct,aC Zo]
   rw[cU,S,u]at j;exact z _ hc _ _ j<|J g p Zo
  have ah:h=4\/h=6->T7 105 f k (.mk h v B o D e) a l:=λhk=>by
   obtain⟨c,rfl⟩:=i.sh.one Zo;exact agq m hk i<|z c Zs _ _ (y 0 Zs)<|J 0 Zs Zo
  have ad:h=9\/h=11->T7 105 f k (.mk h v B o D e) a l:=λhk=>by
   have O:0<A e:=by obtain rfl|rfl:=hk<;>simp[bY,dw]at X<;>omega
   have r g:cU f k h B o D e a l g=a:=by
    have S:eB h g=af:=DI;rw[cU,S];rfl
   have u:ct h l=l:=by rw[ct,aC Zo]
   have aS:L.num (.mk h v B o D e)=L.aZ e+1:=sH;have aN:=i.el;have aQ:=i.l1;refine agn hk<|YM m hk i V O ?_ ?_
   .have j:=y 0 O;rw[r,u]at j;exact z _ (aD O) _ _ j (by rw[Ne,ak 0 O];omega)
   intro aK ae aM g p t;have j:=y g p;rw[r,u]at j;have P:=i.sh.dh _<|aD p;have Y:=L.jw<|aD p;obtain⟨an,ao,s,aa,nX,aL,hc⟩:∃G b c d a ap,e[g]=.mk G b c d a ap:=by cases e[g];exact⟨_,_,_,_,_,_,C⟩
   by_cases I:an=10
   .subst I;rw[hc]at P j Y;obtain⟨b,rfl⟩:=P.one Zs;have Z:=j.dh m 0 Zs;have aq:cU f k 10 s aa nX [b] a l 0=a++dA f s nX l:=wE;have au:ct 10 l=l:=lI;rw[aq,au]at Z;simp only[fA]at Z;have K:L.kd b≠10:=by have q:=P.case 0 Zs;simp only[fA]at q;rw[Ne,q];simp
    have aR:A nX<=3:=by have q:=j.tc.form.2.2.2.1;simp[jI]at q;omega
    rw[L.num,L.aZ,L.aZ]at Y;refine QP m M p t (c:=b) (F:=dA f s nX 0) (F':=dA f s nX l) ae Zo i.l0 Zo i.w (by rw[hc];simp[ju]) (by rw[hc];simp[fM]) (w4 f s nX 0 l nE).1 (λx=>(w4 f s nX 0 l x).2) (xR m) DH (λv al=>?_) Z (λx h1 h2=>?_) (λR r=>az _ (aD p) ao s aa nX b hc R 0 r K) Zo
    .simp only[dA,aP]at al;obtain⟨am,-,rfl⟩:=al;rfl
    rw[E6<|P.xB C]at h2;exact PG
   have ax:L.kd e[g]≠10:=by rw[hc];exact I
   have ar:fM f e[g]=[]:=by rw[hc];simp[fM,I]
   have av:ju e[g]=e[g]:=by rw[hc];simp[ju,I]
   exact QP m M p t (c:=e[g]) (F:=[]) (F':=[]) ae Zo i.l0 Zo i.w av ar C (λx=>C) Zs Zs Zs (by rw[de];exact j) (λx h1 _=>h1) (λR r=>z _ (aD p) R 0 r ax) Y
  obtain rfl|rfl|hk|hk|hk|hk|hk|hk|hk|hk|hk|hk:=rW h
  .exact agm m i
  .exact agp m i
  .exact U Zo
  .exact ah Zo
  .exact U Zo
  .exact ah Zo
  .subst hk;obtain⟨G,b,rfl⟩:=v7 (show A e=2 by simp[bY,dw]at X;omega);have t:=y 0 Zs;have h1:=y 1 Zs;have u:ct 7 l=l:=lI;have r:cU f k 7 B o D [G,b] a l 0=a:=tL;rw[u]at t h1;rw[r]at t;exact ago m i (z G Zs _ _ t<|J 0 Zs Zo)<|z b Zs _ _ h1<|J 1 Zs Zo
  .exact U Zo
  .exact ad Zo
  .exact absurd hk ab
  .exact ad Zo
  exfalso;simp[bY,dw,hk]at X;omega
termination_by o=>SizeOf.sizeOf o
decreasing_by
 .have q:=fl hc;simp;omega
 have q:=fl hc;subst K;simp at q⊢;omega
section
def UN:∀a b:bu,L.aZ (a++b)=L.aZ a+L.aZ b
 |[],b=>yt
 |c::a,b=>by rw[bg,L.aZ,L.aZ,UN a b];omega
def I9(t:L):L.bf t+1<=t.num:=by
 have⟨e,v,n,ty,ns,b⟩:=t;have g d (l:d∈b):L.bf d+1<=d.num:=I9 d;have h a:a<=A b->iV e b 0 a<=L.aZ (Y a b):=by
  induction a with
  |zero=>intro _;simp[Ey]
  |succ a i=>
   intro m;have j:=g _<|aD (show a<A b by omega);have k:f' e a<=1:=by rw[pB];split<;>omega
   rw[yQ Zo,dm Zo,UN,L.aZ,L.aZ];omega
 have f:=h (A b)<|bJ _;rw[Jr (v:=v) (n:=n) (t:=ty) (ns:=ns),cc]at f;rw[L.num];omega
section
variable{V:aF}{ds:aO}
def QL:∀(a:bu)(b:Nat),A (iq V ds a b)=A a
 |[],_=>rfl
 |t::a,b=>by rw[iq,dC,QL a,dC]
def kE(ts:bu)(j:Nat):Nat:=((Y j ts).map L.bf).sum
def Eo:∀(a:bu)(m b:Nat)(d:b<A a),(iq V ds a m)[b]?=E (cV V ds a[b] [] 0<|m+kE a b)
 |t::a,m,0,_=>by simp[iq,kE]
 |t::a,m,b+1,d=>by
  have f:=Eo a (m+L.bf t) b<|Yq d;have e:m+L.bf t+kE a b=m+kE (t::a) (b+1):=by simp only[kE,jz,b4,kS];omega
  rw[iq,xY,f,e];rfl
def En{ts:bu}{j:Nat}(a:j<A ts):kE ts (j+1)=kE ts j+L.bf ts[j]:=by
 rw[kE,kE,dm a,bX,tx];rfl
def qx(V:aF)(ds:aO)(j:Nat):cm:=(Y j<|iq V ds (ds.map aa.bd) 0).map Prod.fst++fu (A ds-j) (.mk 0 0 [] [])++ao ((Y j<|iq V ds (ds.map aa.bd) 0).map Prod.snd)
def XR:qx V ds 0=fu (A ds) (.mk 0 0 [] []):=by simp[qx]
def QJ:qx V ds (A ds)=cJ V ds:=by
 have:A (iq V ds (ds.map aa.bd) 0)=A ds:=DJ;rw[qx,dj Zo,pJ];simp[cJ]
def QK(g:∀d∈ds,Sh V<|aa.bd d){a:Nat}(f:a<=A ds):A (qx V ds a)=A ds+kE (ds.map aa.bd) a:=by
 have j:A (iq V ds (ds.map aa.bd) 0)=A ds:=DJ;have i a:a<=A ds->A (ao<|(Y a<|iq V ds (ds.map aa.bd) 0).map Prod.snd)=kE (ds.map aa.bd) a:=by
  induction a with
  |zero=>intro _;simp[kE]
  |succ a h=>
   intro f;have b:=Eo (V:=V) (ds:=ds) (ds.map aa.bd) 0 a yr;have e:a<A (iq V ds (ds.map aa.bd) 0):=Zo;rw[bL e,eH]at b;rw[dm e,bX,eR,b9,h Zo,En yr,b];simp only[b4,eO,dT,fX,de];rw[CJ];rw[fk];exact g _ (aD _)
 rw[qx,b9,b9,i a f,bE,ij,ss];omega
def XS{a:Nat}(f:a<A ds):∃b R,b.length=a/\qx V ds a++(cV V ds (aa.bd ds[a]) [] 0<|kE (ds.map aa.bd) a).2=b++[.mk 0 0 [] []]++R/\qx V ds (a+1)=b++[(cV V ds (aa.bd ds[a]) [] 0<|kE (ds.map aa.bd) a).1]++R:=by
 have g:A (iq V ds (ds.map aa.bd) 0)=A ds:=DJ;have d:=Eo (V:=V) (ds:=ds) (ds.map aa.bd) 0 a<|Yq f;have e:a<A (iq V ds (ds.map aa.bd) 0):=Zo;rw[bL e,eH,fk,ew]at d;refine⟨(Y a<|iq V ds (ds.map aa.bd) 0).map Prod.fst,fu (A ds-(a+1)) (.mk 0 0 [] [])++(ao ((Y a<|iq V ds (ds.map aa.bd) 0).map Prod.snd)++(cV V ds (aa.bd ds[a]) [] 0<|kE (ds.map aa.bd) a).2),co,?_,?_⟩
 .rw[qx,show A ds-a=(A ds-(a+1))+1 by omega,As];simp
 rw[qx,dm e,d];simp
end
def L7.df{V:aF}{ds:aO}{g H':a'}{f:Nat}{k:cm}(L:L7 V ds g f k)(u:Int)(M:∀q l b p d,g 12=E ⟨f,91,6,[.cp [ae.sl V,aa.sl ds],I q,l,b,p,d],Q⟩->H' 12=E ⟨f,91,6,[.cp [ae.sl V,aa.sl ds],I u,l,b,p,d],Q⟩)(hk:∀a∈eY,a≠12->H' a=g a):L7 V ds H' f k:=by
 have⟨⟨q,S,R,U,P,m,z,⟨x,A,B⟩,⟨y,D,F⟩,w,G,J,K⟩,s⟩:=L;have o:=M _ _ _ _ _ m;refine⟨⟨u,S,R,U,P,o,z.aA ((Pb)<|hk _ fa Zd),⟨x,A,B.aA ((Pb)<|hk _ fa Zd)⟩,⟨y,D,F.aA ((Pb)<|hk _ fa Zd)⟩,w,G,J,K.aA ((Pb)<|hk _ fa Zd)⟩,λa t O i d e=>?_⟩;by_cases r:a=12
 .subst r;rw[o]at i;cases i;have j:=s 12 fa _ m;simp only[cF,dt,gD]at e j;obtain rfl|rfl|e:=e
  .exact j _<|aG C
  .exact .sc _
  exact j _<|aj<|aj e
 exact s a t O ((hk a t r).symm.trans i) d e
def L7.init{V:aF}{ds:aO}{m:aU}{a:St}{o i f n:Nat}{h:cm}{g:List (dp)}{e:dp}(u:a.H 12=E ⟨0,91,6,[.cp [ae.sl V,aa.sl ds],I 0,.ms 36 o n,.ms 46 i n,.ms 64 f n,bp],Q⟩)
 (y:a.H 36=E ⟨o,112,4,ao<|O.ab h,Q⟩) (j:h.length=n) (z:a.H 46=E ⟨i,88,1,ao<|h4 g,Q⟩) (p:g.length=n) (A:a.H 64=E ⟨f,99,3,ao<|J.ab e,Q⟩) (q:e.length=n) (w:a.H 205=Q)
 (B:∀l F,L7 V ds l 0 h->GK m {a with H:=l,n:=F}):GK m a:=by
 refine GK.n4<|GK.F6 36 185 12 2 n _ _ y C u Zd Zd C (GK.n4<|GK.F6 46 195 12 3 n ⟨i,88,1,ao<|h4 g,Q⟩ ⟨0,91,6,[.cp [ae.sl V,aa.sl ds],I 0,.ms 185 (a.n 185) n,.ms 46 i n,.ms 64 f n,bp],Q⟩ (by simp[ai,z]) C bF Zd Zd C ?_);refine GK.n4<|GK.F6 64 218 12 4 n ⟨f,99,3,ao<|J.ab e,Q⟩ ⟨0,91,6,[.cp [ae.sl V,aa.sl ds],I 0,.ms 185 (a.n 185) n,.ms 195 (eP a.n 185 195) n,.ms 64 f n,bp],Q⟩ (Yu A) C bF Zd Zd C (B _ _ ⟨⟨0,.ms 185 (a.n 185) n,.ms 195 (eP a.n 185 195) n,.ms 218 (eP (eP a.n 185) 195 218) n,.sc<|.slice Q 0 0,ep,aj ⟨185,a.n 185,Zs,by rw[O.b6,j],ep⟩,⟨g,by rw[p,j],aj ⟨195,_,Zs,by rw[fg,p],ep⟩⟩,⟨e,by rw[q,j],aj ⟨218,_,Zs,by rw[J.b6,q],ep⟩⟩,[],Zs,Zs,aG ⟨C,C⟩⟩,λK s G b d hd=>?_⟩);simp only[eY,cF,dt,gD]at s;have k (t:cB) (D:(∀r∈t,∀d∈r,Cl d)) (hd:d∈ao t):In eY d:=by obtain⟨r,hr,hd⟩:=eL.1 hd;exact(D r hr d hd).bB
 obtain rfl|rfl|rfl|rfl|rfl:=s
 .simp[ai]at b;subst b;simp only[cF,dt,gD]at hd;obtain rfl|rfl|rfl|rfl|rfl|rfl:=hd
  .exact(Cl.eT da).bB
  .exact .sc _
  .exact .ms _ _ fa
  .exact .ms _ _ fa
  .exact .ms _ _ fa
  exact .sc _
 .simp[ai]at b;subst b;exact k _ (O.dl h) hd
 .simp[ai]at b;subst b;exact k _ (λr hr d hd=>Pj) hd
 .simp[ai,w]at b
 simp[ai]at b;subst b;exact k _ (J.dl e) hd
def Xi(V:aF)(ds:aO)(r:D):Prop:=∃x,r=.tp [x,I<|gU V ds]/\(gU V ds=0->∃a,x=.cp [.cp [ae.sl V,aa.sl ds],I a,.sl 4<|O.ab<|cJ V ds])
def RE{V:aF}{ds:aO}(a:i_ (.mk V ds)=0):1<=A ds:=by
 rw[i_]at a;split at a
 .rename_i b;exact b.2.1
 cases a
def qg(ds:aO)(i:Nat):dp:=(Y i ds).map λd=>cD<|aa.ty d
def acY{V:aF}{ds:aO}(cy:(bH.mk V ds).sz<=1048576)(cv:(bH.mk V ds).ok):kW aB 65 [.cp [ae.sl V,aa.sl ds]] λ_=>Xi V ds:=by
 have bI:=acL V ds cy cv;have cr:Cl<|.cp [.sl 2<|ae.ab V,.sl 12<|aa.ab ds]:=Cl.eT da;have dx:ae.sl V=.sl 2 (ae.ab V):=C;have dz:aa.sl ds=.sl 12 (aa.ab ds):=C;rw[dx,dz]at bI⊢;by_cases aH:gU V ds=0
 case neg=>
  have f0:(gU V ds==0)=af:=Yr aH;refine kW.ey [12] [.tmp 2,.tmp 3] C C Zk Zt C Zs λaz=>?_;simp only[qV,go_sem];refine(ZC) ?_;simp only[bne,f0,go_sem];exact⟨_,Fz.lT (Fz.rf (s:=12) (ob:=⟨0,91,6,_,Q⟩) (off:=0) [.cp [.sl 2<|ae.ab V,.sl 12<|aa.ab ds]] (λ_=>.cp [.sl 2<|ae.ab V,.sl 12<|aa.ab ds]) l4 C (λa e f=>by
   match a,f with
   |0,f=>cases f;rfl) (λa e f=>by
   match a,f with
   |0,f=>cases f;exact .cl _ cr))<|.cl _<|bc _,Cl.jf da,_,C,λX=>absurd X aH⟩
 have ct:=sV<|vj aH;have cq:=p0 ct;have M:=p' cq cv;have dB:=RE cq;have eL:=M.pg.len;have cx:=λ(d:aa)(a7:d∈ds)=>M.rc a7<|nR.tp ct d a7;rw[aH]at bI;have dp:cE aB 51=E (112,4,64):=Zk;have dq:cE aB 87=E (88,1,24):=Zk;have dr:cE aB 88=E (99,3,48):=Zk;refine kW.ey [12,1000027,1000008,1000046] [.tmp 2,.tmp 3] C C Zk Zt C Zs λaz=>?_;simp only[qV,go_sem];refine mB bI ?_;simp only[bne,go_sem];obtain⟨eA,eK⟩:=Zx<|D.cp [.sl 2<|ae.ab V,.sl 12<|aa.ab ds];refine lp 7 (A ds) [0,4,6] (λi B m bR aC=>aC=[]/\m 205=Q/\∃b1 bh bi,m 12=E ⟨0,91,6,[.cp [.sl 2<|ae.ab V,.sl 12<|aa.ab ds],I 0,b1,bh,bi,bp],Q⟩/\aL [36] m 112 4 (O.ab<|fu i<|.mk 0 0 [] []) b1/\aL [46] m 88 1 (h4<|fu i []) bh/\aL [64] m 99 3 (J.ab<|qg ds i) bi) ⟨C,by simp[ai,ma],_,_,_,DG,aG ⟨C,C⟩,aG ⟨C,C⟩,aG ⟨C,C⟩⟩ ?_;rintro i B m bb aC az dD⟨aT,a4,b1,bh,bi,ap,av,a',aV⟩;refine ZL (λK=>?_) λf=>?_
 .have bK:=aL.len av (P:=aB) (t:=51) Zk;have bL:=aL.len aV (P:=aB) (t:=88) Zk;have Y:A (O.ab<|fu i<|.mk 0 0 [] [])=i:=by rw[O.b6];simp
  have Z:A (J.ab<|qg ds i)=i:=by rw[J.b6];simp[qg];omega
  rw[Y]at bK;rw[Z]at bL;simp only[go_sem]at bK bL;have dc:((i:Int)<((i+1:Nat):Int))=True:=dM Zo;have er:(i+1)*64<=140737488355328:=Zo;have b3:i+1<=aE:=l3;generalize bz:O.ab (fu i<|.mk 0 0 [] [])=p;have cn:∀r∈p,A r=4:=bz▸O.hQ _;rw[bz]at av Y;have ar:A p.flatten=i*4:=by rw[iY cn,Y]
  refine(ZN)<|wX (λb0=>Fw.fF 104 [(0,.cp [.sl 2<|ae.ab V,.sl 12<|aa.ab ds]),(4,.rf 12 0 0),(6,I<|A ds),(7,I i)] (λB o bb T1=>T1=[]/\(∃q,o 12=E ⟨0,91,6,[.cp [.sl 2<|ae.ab V,.sl 12<|aa.ab ds],I 0,.ms 36 q<|i+1,bh,bi,bp],Q⟩/\o 36=E ⟨q,112,4,p.flatten++[I 0,I 0,bp,bp],Q⟩)/\∀t,t∉[12,35,36]->o t=m t) b0)
   (.bS [0,1,2,3,4,5,6,7,8,10,11] 9 (.fin [12]) 12<|.fin [9]) [12] [] fb Zk ?_ ?_
  .simp only[ap,bK,jt,go_sem];refine js (S:=[36]) (aq:=p) (bD:=[[I 0,I 0,bp,bp]]) Zs dp ((Pa)<|av.aA bF) cn hF Zs C ((Yy Y) er) ((Yy Y) b3) (by show 36<104;decide) λay aW en bP aR=>?_;obtain⟨q,rfl,bt⟩:=eG bP Zs;have bO:A (p++[[I 0,I 0,bp,bp]])=i+1:=by rw[b9,Y];rfl
   have aX:=aR 12 Zd Zd;simp only[a_,dG,bj,dv,ap]at aX;have b5:=Gm p.flatten [I 0,I 0,bp,bp] [I 0,I 0,bp,bp] ar C;simp only[aX,bt,bO,dc,eR,Am,go_sem];have z3:i*4+4<=A (p.flatten++[I 0,I 0,bp,bp]):=by rw[b9,ar];simp
   refine⟨⟨z3,?_⟩,⟨z3,?_⟩⟩
   all_goals
    exact⟨C,bU,aT,⟨q,ep,by simp only[ai,bx,bT,bj];exact eo (λc=>E<|Ob.mk q 112 4 c Q) b5⟩,λt g=>by
     simp only[lh]at g;simp only[ai,g.1,g.2.2,bT];rw[aR t g.2.2<|Yq g.2.2];simp[ai,g.2.1]⟩
  clear ap av;rintro⟨B,o,aW,dZ,T1,az⟩⟨rfl,aU,rfl,⟨q,w,bY⟩,aN⟩;simp only[bM]at aU w bY aN;obtain⟨aK,an,a2,aM,-⟩:=aU;have aZ:=(aN 205 Zd).trans a4;have cU:=a'.aA (H':=o) ((Pb)<|aN 46 Zd);have cW:=aV.aA (H':=o) ((Pb)<|aN 64 Zd);clear aN a4 a' aV;have a0:A (h4<|fu i [])=i:=by rw[fg];simp
  refine(ad<|JJ an w) ?_;have G:∀t,t≠45->ai (ai o 45 Q) 45 (E {gen:=aW 45,elem:=88,sz:=1,cells:=[bp]}) t=o t:=λt g=>Yu g;have bs:ai (ai o 45 Q) 45 (E {gen:=aW 45,elem:=88,sz:=1,cells:=[bp]}) 45=E {gen:=aW 45,elem:=88,sz:=1,cells:=[bp]}:=ep;generalize ai (ai o 45 Q) 45 (E {gen:=aW 45,elem:=88,sz:=1,cells:=[bp]})=ah at G bs;have c0:=(G 12 Zd).trans w;have c2:=(G 36 Zd).trans bY;have c1:=(G 205 Zd).trans aZ;have c3:=cU.aA (H':=ah) ((Pb)<|G 46 Zd);have c4:=cW.aA (H':=ah) ((Pb)<|G 64 Zd);clear G w bY aZ cU cW;refine GK.cM (eC.eS (S:=[46]) (aq:=h4<|fu i []) (bD:=[[bp]]) dq ((Pa) c3) (ha _) (by simp[aw,dS,bs]) Zs C (by rw[a0];simp only[oW];omega) ((Yy a0) b3) λb7 eU eX cB aP=>?_);obtain⟨ce,rfl,cQ⟩:=eG cB Zs;have cK:=(aP 12 Zd Zd).trans c0;have cP:=(aP 36 Zd Zd).trans c2;have cN:=(aP 205 Zd Zd).trans c1;have bQ:=c4.aA (H':=b7) ((Pb)<|aP 64 Zd Zd);clear c0 c2 c1 c3 c4 cB aP bs;have dJ:A (h4 (fu i [])++[[bp]])=i+1:=by rw[b9,a0];rfl
  rw[dJ];have F:=aa.bV ds i K;have cz:=pf<|M.pg.Bb _<|aD K;have a8:=FJ (aa.ty ds[i]) cz;have bJ:=jE _ cz;have U:J.ab (qg ds<|i+1)=J.ab (qg ds i)++[(cD<|aa.ty ds[i]).ds]:=by
   rw[qg,dm K,bX,<-qg,J.cu,J.cu,bX];rfl
  generalize ds[i]=d at F a8 bJ U;obtain⟨dn,⟨bn,br,bq⟩,eB⟩:=d;simp only[aa.ty]at a8 bJ U;have dC:=J.cl<|.mk bn br bq;obtain⟨c9,c_,c',dO⟩:=J.ex<|cD<|.mk bn br bq;rw[dO]at a8 bJ U;simp only[aa.ds,J.ds,bg,aY]at F a8 U dC;generalize ck:J.ab (qg ds i)=z;have cj:∀r∈z,A r=3:=ck▸J.hQ _;rw[ck]at bQ Z U;have cm:A z.flatten=i*3:=by rw[iY cj,Z]
  have eq:(i+1)*48<=140737488355328:=Zo;refine(ad cK)<|wX (λb0=>Fw.fF 104 [(0,.cp [.sl 2<|ae.ab V,.sl 12<|aa.ab ds]),(4,.rf 12 0 0),(6,I<|A ds),(7,I i)] (λB ah bb T1=>T1=[]/\(∃cf,ah 12=E ⟨0,91,6,[.cp [.sl 2<|ae.ab V,.sl 12<|aa.ab ds],I 0,.ms 36 q<|i+1,.ms 46 ce<|i+1,.ms 64 cf<|i+1,bp],Q⟩/\ah 64=E ⟨cf,99,3,ao<|z++[[I c9,S c_,.sl 3<|J.ab c']],Q⟩)/\∀t,t∉[12,63,64]->ah t=b7 t) b0)
   (.bS [0,1,2,3,4,5,6,7,8,9,10,11,13] 12 (.bS [14,15,16,18,19] 17 (.fin [20]) 20<|.fin [17]) 14<|.bS [12,15,16,18,19] 17 (.fin [20]) 20<|.fin [17]) [12] [] fb Zk ?_ ?_
  .simp only[aK,an,aM,bL,F,jt,go_sem];refine⟨?_,?_⟩
   all_goals
    refine(ZC)<|js (S:=[64]) (aq:=z) (bD:=[[.sc<|.int .i64 0,.sc<|.string {data:=#[]},bp]]) Zs dr ((Pa)<|bQ.aA bF) cj hF Zs C ((Yy Z) eq) ((Yy Z) b3) (by show 64<104;decide) λay cR en bP aR=>?_;obtain⟨a3,rfl,bt⟩:=eG bP Zs;have bO:A (z++[[D.sc<|.int .i64 0,.sc<|.string {data:=#[]},bp]])=i+1:=by rw[b9,Z];rfl
    have aX:=aR 12 Zd Zd;simp only[a_,bN,dG,bj,dv]at aX;have b5:=Gm z.flatten [D.sc<|.int .i64 0,.sc<|.string {data:=#[]},bp] [I c9,S c_,.sl 3<|J.ab c'] cm C;simp only[aX,bt,bO,dc,eR,Am,go_sem];have z3:i*3+3<=A (z.flatten++[D.sc<|.int .i64 0,.sc<|.string {data:=#[]},bp]):=by rw[b9,cm];simp
    refine⟨⟨z3,?_⟩,⟨z3,?_⟩⟩
    all_goals
     exact⟨C,by simp[aw,aK,an,a2,aM],C,⟨a3,ep,by simp only[ai,bx,bT,bj];exact eo (λc=>E<|Ob.mk a3 99 3 c Q) b5⟩,λt g=>by
      simp only[lh]at g;simp only[ai,g.1,g.2.2,bT];rw[aR t g.2.2<|Yq g.2.2];simp[ai,g.1,g.2.1]⟩
  clear aK an a2 aM cK bQ;rintro⟨B,es,cR,dZ,T3,az⟩⟨rfl,aU,rfl,⟨a3,w,bZ⟩,aQ⟩;simp only[bM]at aU w bZ aQ;obtain⟨aK,an,a2,aM,-⟩:=aU;have aZ:=(aQ 205 Zd).trans cN;have cS:=(aQ 36 Zd).trans cP;have bW:=(aQ 46 Zd).trans cQ;clear aQ cN cP cQ;refine(ZN) ?_;have ch:A (ao<|h4<|fu i [])=i:=by rw[iY<|ha _,a0];omega
  rw[eR,Am]at bW;refine GK.fc [] 36 (i*4+2) (d:=bp) (e:=.sl 1 []) cS Zs (y_ _ _ 2 ar) (.nil 1) (yS 1) λet bk ak=>?_;rw[zM _ _ 2 _ ar]at bk;refine GK.fc [] 36 (i*4+3) (d:=bp) (e:=.sl 4 []) bk Zs (y_ _ _ 3 ar) (.nil 4) (yS 4) λeu a1 al=>?_;rw[zM _ _ 3 _ ar]at a1;simp only[dt,dv,yc,List.set]at ak al a1;have cT:=(al 46 Zd).trans<|(ak 46 Zd).trans bW;refine GK.fc [] 46 (i+0) (d:=bp) (e:=.sl 3 []) cT Zs (y_ _ _ 0 ch) (.nil 3) (yS 3) λay bl am=>?_;rw[zM _ _ 0 _ ch]at bl;simp only[dt,dv,yc,List.set]at am bl;have ei:=(am 12 Zd).trans<|(al 12 Zd).trans<|(ak 12 Zd).trans w;have ek:=(am 36 Zd).trans a1;have el:=(am 64 Zd).trans<|(al 64 Zd).trans<|(ak 64 Zd).trans bZ;have ej:=(am 205 Zd).trans<|(al 205 Zd).trans<|(ak 205 Zd).trans aZ;clear ak al am bk a1 cS bW cT aZ w bZ;refine GK.cM<|(ad aM) ?_;have f1:O.ab (fu (i+1)<|.mk 0 0 [] [])=p++[[I 0,I 0,.sl 1 [],.sl 4 []]]:=by
   rw[Dc,O.cu,bX,<-O.cu,bz];simp[O.ds,bm,O.cu]
  have f2:h4 (fu (i+1) [])=h4 (fu i [])++[[.sl 3 []]]:=by
   rw[Dc];simp[au,J.sl,J.ab]
  exact nM ⟨C,by simp[aw,aK,an,a2],C,ej,_,_,_,ei,aj ⟨36,q,Zs,by rw[f1,b9,Y];rfl,by show ay 36=_;rw[ek,f1,eR];rfl⟩,aj ⟨46,ce,Zs,by rw[f2,b9,a0];rfl,by show ay 46=_;rw[bl,f2,eR];rfl⟩,aj ⟨64,a3,Zs,by rw[U,b9,Z];rfl,by show ay 64=_;rw[el,U]⟩⟩
 obtain rfl:i=A ds:=Zo;refine(ad f) ?_;have bb:O.ab (fu (A ds)<|.mk 0 0 [] [])≠[]:=by intro X;have:=eo A X;rw[O.b6,ss,gR]at this;omega
 have dX:h4 (fu (A ds) [])≠[]:=by intro X;have:=eo A X;rw[fg,ss,gR]at this;omega
 have dY:J.ab (qg ds<|A ds)≠[]:=by intro X;have:=eo A X;rw[J.b6,qg,bE,ij,gR]at this;omega
 obtain⟨eE,rfl,cC⟩:=eG av bb;obtain⟨eF,rfl,cG⟩:=eG a' dX;obtain⟨eH,rfl,cI⟩:=eG aV dY;rw[O.b6,ss,fg,ss,J.b6,show A (qg ds<|A ds)=A ds by simp[qg]]at ap;refine L7.init (V:=V) (ds:=ds) ap cC Zs cG Zs cI (by simp[qg]) a4 λH' eP bw=>GK.cM<|(ZN) ?_;clear av a' aV cC cG cI ap a4 f;rw[<-XR (V:=V) (ds:=ds)]at bw;refine lp 8 (A ds) [0,4,6] (λa B m bR aC=>aC=[]/\L7 V ds m 0 (qx V ds a)) ⟨aT,bw⟩ ?_;clear bw aT;rintro a B m eV aC az eN⟨aT,ba⟩;refine ZL (λK=>?_) λf=>?_
 .have a9:=aD K;have F:=aa.bV ds a K;have dK:=cx _ a9;have dN:(aa.bd ds[a]).sz<=1048576:=by
   simp only[bH.sz]at cy;have k:=aa.gz a9;have l:=L0 ds[a];omega
  have aS:=L1 M.pg dB (aa.bd ds[a]) [] 0 dN dK (M.bd _ a9).2.1;have bA:=L.cl<|aa.bd ds[a];have bB:kE (ds.map aa.bd) a+L.bf (aa.bd ds[a])<=1000000:=by
   have k:∀i,i<=A ds->kE (ds.map aa.bd) i<=160*i:=λi=>by
    induction i with
    |zero=>intro _;simp[kE]
    |succ i dQ=>
     intro dD;have l:=dQ Zo;have du:=I9<|aa.bd<|ds[i]'Zo;have dw:=(M.bd _<|aD (show i<A ds by omega)).2.2;rw[En yr,fk];omega
   have l:=k a Zo;have du:=I9<|aa.bd ds[a];have dw:=(M.bd _ a9).2.2;omega
  obtain⟨y,R,bv,a6,a5⟩:=XS (V:=V) K;have dF:=QK (V:=V) (ds:=ds) (λd a7=>(cx d a7).sh) (show a<=A ds by omega);generalize ds[a]=d at F aS bA a6 a5 bB;obtain⟨dn,⟨bn,br,bq⟩,⟨d_,eg,eb,⟨ed,ef,ee⟩,ec,ea⟩⟩:=d;simp only[aa.bd]at aS bA a6 a5 bB;obtain⟨dk,ez,co⟩:∃b' b,cV V ds (L.mk d_ eg eb (J.mk ed ef ee) ec ea) [] 0 (kE (ds.map aa.bd) a)=(b',b):=⟨_,_,C⟩;simp only[co]at a6 a5;unfold T7 at aS;simp only[aa.ds,L.ds,J.ds,bG,bg,aY]at F aS bA;obtain⟨aI,b2,c7,c8,c6,ax,-⟩:=ba.ob;have dR:=ba.df (H':=ai m 12<|some ⟨0,91,6,[.cp [ae.sl V,aa.sl ds],I a,b2,c7,c8,c6],Q⟩) (a:Int) (λaI b' b c d e=>by rw[ax]at e;cases e;simp[ai]) λt g f=>Yu f;simp only[ae.sl,aa.sl]at ax;refine(ad<|JJ ax F) ?_;refine aj<|aj (A4 (aS 0 (kE (ds.map aa.bd) a) (qx V ds a) _ _ _ (dR.aA λt g=>by simp[ae.sl,aa.sl]) dF bB ?_) C λi d e k l=>?_)
  rotate_left
  .match i,k,l with
   |0,k,l=>cases k;cases l;exact gi.rfl
   |1,k,l=>cases k;cases l;exact gi.rfl
   |2,k,l=>
    cases k;cases l;exact gi.ag C λeW cA=>by
     simp only[cY,bG,bm,eO,rb,re,cF,dt,gD]at cA;obtain rfl|rfl|rfl:=cA<;>exact gi.nil
   |3,k,l=>cases k;cases l;exact gi.rfl
  intro ew cR eh cw bu eM;rw[co]at cw bu;rw[a6]at bu;obtain⟨⟨b_,cc,bd,ca⟩,cb⟩:=eh;simp only[bo,O.ds,bg,aY];have dH:O.mk b_ cc bd ca=dk:=cw.c;obtain⟨eD,d',q2,eZ,eY,j,be,cX,eJ,cZ,dL⟩:=bu.set Zs;generalize cg:A (y++[O.mk 0 0 [] []]++R)=b8;have eI:b8=a+1+A R:=by rw[<-cg];simp[bv];omega
  have dd:((a:Int)<(b8:Int))=True:=dM Zo;have ci:A (ao<|O.ab y)=a*4:=by rw[iY<|O.hQ y,O.b6,bv]
  have dh:ao (O.ab<|y++[.mk 0 0 [] []]++R)=ao (O.ab y)++([I 0,I 0,.sl 1 [],.sl 4 []]++ao (O.ab R)):=by simp[O.cu,O.ds,bm]
  have dA:a<j.length:=Zo;have di:ao (h4 j)=ao (h4<|j.take a)++([J.sl j[a]]++ao (h4<|j.drop<|a+1)):=by
   have:j=j.take a++j[a]::j.drop (a+1):=by rw[<-ml dA,qj]
   exact Qc
  have cd:A (ao<|h4<|j.take a)=a:=O';rw[cg]at be;rw[dh]at cX;rw[di]at cZ;have dj:=Gn (ao<|O.ab y) (ao<|O.ab R) [I 0,I 0,.sl 1 [],.sl 4 []] [I b_,I cc,.sl 1 (bd.map λbR=>[I bR]),.sl 4<|O.ab ca] ci C;have c5:=Gn (ao<|h4<|j.take a) (ao<|h4<|j.drop<|a+1) [J.sl j[a]] [.sl 3<|J.ab cb] cd C;have dV:a*4+4<=A (ao (O.ab y)++([I 0,I 0,.sl 1 [],.sl 4 []]++ao (O.ab R))):=by rw[b9,ci,b9];simp
  have dW:a+1<=A (ao (h4<|j.take a)++([J.sl j[a]]++ao (h4<|j.drop<|a+1))):=by rw[b9,cd,b9];simp
  simp only[ae.sl,aa.sl]at be;refine(ZN)<|dP [9,12] [] ?_;simp only[be,cX,dd,go_sem];refine⟨dV,dP [9,12] [] ?_⟩;simp only[be,cZ,dd,go_sem];refine⟨by rw[h_];exact dW,GK.cM ?_⟩;refine(ZN) ?_;refine dI ⟨aT,?_⟩;rw[a5,<-dH];refine dL _ _ (j.take a++[cb]++j.drop (a+1)) Zs (by simp[bv];omega) ?_ ?_ λt g k l=>?_
  .simp only[ai,bx,bT,bj];refine eo (λc=>E<|Ob.mk d' 112 4 c Q)<|dj.trans ?_;simp[O.cu,O.ds,bm]
  .simp only[ai,bx,bT,bj,h_];exact Pn
  simp only[ai,k,l,cH g (u:=9) C,bT]
 obtain rfl:a=A ds:=Zo;rw[QJ]at ba;obtain⟨aI,b2,c7,c8,c6,ax,dU,-⟩:=ba.ob;simp only[ae.sl,aa.sl]at ax;refine(ad f) ?_;refine⟨_,Fz.lT (Fz.rf (s:=12) (ob:=⟨0,91,6,_,Q⟩) (off:=0) [.cp [.sl 2<|ae.ab V,.sl 12<|aa.ab ds],I aI,.sl 4<|O.ab<|cJ V ds] (λa=>[.cp [.sl 2<|ae.ab V,.sl 12<|aa.ab ds],I aI,b2].getD a .any) ax C (λa e f=>by
  match a,f with
  |0,f=>cases f;rfl
  |1,f=>cases f;rfl
  |2,f=>cases f;rfl) (λa e f=>by
  match a,f with
  |0,f=>cases f;exact .cl _ cr
  |1,f=>cases f;exact .cl _ (bc _)
  |2,f=>cases f;exact aL.fz dU Zd (O.hQ _) (O.dl _)))<|.cl _<|bc _,Cl.jf ?_,_,Yf aH,λ_=>⟨aI,C⟩⟩
 simp only[bM];exact⟨Cl.eT da,bc _,Zs⟩
end
def MZ(V:aF)(ds:aO)(r:D):Prop:=∃x,r=.tp [x,I<|fO V ds]/\(fO V ds=0->∃a,x=.cp [.cp [ae.sl V,aa.sl ds],I a,.sl 4<|O.ab<|cJ V ds])
def acV{V:aF}{ds:aO}(G:(bH.mk V ds).sz<=1048576)(B:(bH.mk V ds).ok):kW aB 34 [.cp [ae.sl V,aa.sl ds]] λ_=>MZ V ds:=by
 have F:=acY G B;have X:Cl<|.cp [.sl 2<|ae.ab V,.sl 12<|aa.ab ds]:=Cl.eT da;have s:ae.sl V=.sl 2 (ae.ab V):=C;have t:aa.sl ds=.sl 12 (aa.ab ds):=C;rw[s,t]at F⊢;have fin (e:D) (i:Int) (K:Cl e) (U:i=fO V ds) (h:(fO V ds=0->∃j,e=.cp [.cp [ae.sl V,aa.sl ds],I j,.sl 4<|O.ab<|cJ V ds])) (p:a'):∃r,Fz p (.tp [e,I i]) r/\Cl r/\MZ V ds r:=by
  subst U;have w:Cl<|.tp [e,I<|fO V ds]:=Cl.jf da;exact⟨_,.cl _ w,w,e,C,h⟩
 refine kW.ey [] [.tmp 2,.tmp 3] C C Zk Zt C Zs λP=>?_;simp only[qV,go_sem];refine u' [] F (.c (.cl _ X) .n) ?_;rintro am r⟨e,rfl,K⟩al-;have g:Cl e:=by cases al with|tp _ h=>exact h 0 e C
 refine(ad @oM) ?_;by_cases f:gU V ds=0
 case neg=>
  have f0:(gU V ds==0)=af:=Yr f;have b:gU V ds=fO V ds:=by rw[fO,aM f]
  simp only[bne,f0,go_sem];exact fin e _ g b (λa=>absurd (b.trans a) f) _
 obtain⟨j,rfl⟩:=K f;have ak:=I4 (V:=V) (ds:=ds) (λd Z=>((p' (p0<|sV<|vj f) B).bd d Z).2.2) G;have u:A (O.ab<|cJ V ds)=A (cJ V ds):=O.b6 _;rw[s,t]at g;simp only[f,bne,u,go_sem];by_cases q:24<A (cJ V ds)
 .have f24:ah ((A (cJ V ds):Int)>24)=W:=by simp;omega
  have b:(4:Int)=fO V ds:=by rw[fO,aC<|Yr f,aM q]
  exact(ad f24)<|fin _ _ g b (λa=>by rw[a]at b;exact absurd b Zd) _
 have f24:ah ((A (cJ V ds):Int)>24)=af:=co;have y:fO V ds=if(cJ V ds).all O.valid then 0 else 4:=by rw[fO,aC<|Yr f,aC q]
 refine(ad f24)<|lp 6 (A<|cJ V ds) [4] (λa _ _ _ _=>∀i∈Y a (cJ V ds),i.valid=W) Zs ?_;rintro a ao p aq an P ap l;refine dN u (λk=>?_) λh=>?_
 .have z:=aD k;refine(ad<|O.bV (cJ V ds) a k)<|mB (acS (cJ V ds)[a] (ak _ z).o) ?_;cases m:((cJ V ds)[a]).valid
  .have b:(4:Int)=fO V ds:=by
    rw[y,aC];intro M;rw[en]at M;rw[M _ z]at m;cases m
   exact(ZN)<|fin _ _ g b (λa=>by rw[a]at b;exact absurd b Zd) _
  refine(ZN) ?_;refine dI ?_;rw[dm k];intro R S;obtain h|h:=ca.1 S
  .exact l R h
  simp only[dg]at h;subst h;exact m
 obtain rfl:a=A (cJ V ds):=Zo;rw[cc]at l;exact(ad h)<|fin _ _ g (by rw[y,aM<|en.2 l]) (λ_=>⟨j,C⟩) _
mutual
def O.uB:O->List Int
 |.mk k v d ks=>(if k=11 then[v]else[])++d++O.zH ks
def O.zH:List O->List Int
 |[]=>[]
 |c::cs=>c.uB++O.zH cs
end
def O.Vx:a3∈O.zH v1↔∃a∈v1,a3∈a.uB:=by
 induction v1 with
 |nil=>simp[O.zH]
 |cons a v1 b=>rw[O.zH,ca,b];simp
open Classical
def aaK:ah (a3>=g1)=!ah (a3<g1):=by
 by_cases a:a3<g1
 .simp[a]
 simp[a];omega
def r7(n:Int)(c:O):Bool:=c.uB.all λa=>ah<|a<n
def Lt:r7 a3 n5=W↔∀a∈n5.uB,a<a3:=by simp[r7]
def u6(l:cm):Bool:=ah (1<=A l/\A l<=24)&&l.all λc=>(c.valid&&!c.ji 0)&&r7 (A l:Int) c
def I3(b:u6 v1=W):(1<=A v1/\A v1<=24)/\∀a∈v1,a.valid=W/\∀e∈a.uB,e<(A v1:Int):=by
 simp only[u6,cy,ee,en]at b;exact⟨b.1,λa d=>⟨(b.2 a d).1.1,Lt.1 (b.2 a d).2⟩⟩
def Qz(f:O->Bool)(a:bI)(aV:DL)(i:∀d∈aV,Cl d)(m:∀x:O,x.ok->az a ([.ag x.ds]++aV) (B<|f x))(c:O)(e:c.ok):az 141 [.ag c.ds,.fn a [] aV]<|B<|c.ry f:=by
 match c,e with
 |.mk g v d b,e=>
 have u:=e;simp only[O.ok]at e;have r:O.ds (.mk g v d b)=[I g,I v,bm d,.sl 4<|O.ab b]:=qs;have t:Cl<|.fn a [] aV:=Cl.ue Zs i;have p:∀d∈[D.cp [.fn a [] aV]],Cl d:=by simp only[dg,kg];exact Cl.eT<|(Pb) t
 have s:∀x∈b,az 207 ([]++[.ag x.ds]++[.cp [.fn a [] aV]])<|B<|x.ry f:=λc y=>by
  have z:=Qz f a aV i m c<|O.eJ e.2.2 c y;simp only[aY,bg];have q:=O.bP c;have w:Y 4 c.ds=c.ds:=dj Zo;exact(cR)<|(bQ<|JJ q w)<|Fz.aK C
 have j:=m (.mk g v d b) u;have l:=O.cl<|.mk g v d b;rw[r]at j l;refine(dH)<|bR _ j (by simp only[aY,bg,bM];exact⟨Cl.bC l,i⟩) ?_;cases o:f (.mk g v d b)
 .exact(ZN)<|(nl<|EG b (O.ry f) _ [] [.cp [.fn a [] aV]] e.2.1 Zs p s)<|Fz.aK (by rw[O.ry,o,O.IV];rfl)
 exact(ZN)<|Fz.aK (by rw[O.ry,o];rfl)
def uv(n:Int):O->Bool
 |.mk k v d _=>(ah (k=11)&&ah (v>=n))||d.any λx=>ah<|x>=n
def QC(b:Int):∀a:O,a.ry (uv b)=!r7 b a
 |.mk k v d h=>by
  have l:∀a∈h,a.ry (uv b)=!r7 b a:=λa f=>QC b a;rw[O.ry,O.IV];have m:r7 b (.mk k v d h)=(!(ah (k=11)&&ah (v>=b))&&(d.all λx=>ah<|x<b)&&(h.all λa=>r7 b a)):=by
   rw[oi];simp only[Lt,O.uB,ca,O.Vx,cy,oV,wg,jo,en,ee];constructor
   .refine λg=>⟨⟨?_,λx s=>g x<|aG<|aj s⟩,λa f i e=>g i<|aj ⟨a,f,e⟩⟩;by_cases j:k=11
    .have:=g v (aG<|aG<|Yr j);exact aj Zo
    exact aG j
   rintro⟨⟨h1,q⟩,r⟩i((e|e)|⟨a,f,e⟩)
   .split at e
    .rename_i j;simp only[dg]at e;subst e;obtain h1|h1:=h1
     .exact absurd j h1
     omega
    cases e
   .exact q i e
   exact r a f i e
  have o:(h.any<|O.ry<|uv b)=!h.all λa=>r7 b a:=by
   rw[MQ];rw[oi];simp only[m'];exact⟨λ⟨a,f,g⟩=>⟨a,f,by rw[<-l a f];exact g⟩,λ⟨a,f,g⟩=>⟨a,f,by rw[l a f];exact g⟩⟩
  have p:(d.any λx=>ah<|x>=b)=!d.all λx=>ah<|x<b:=by
   rw[MQ];congr 1;funext x;exact aaK
  rw[m,o,uv,p];cases(ah (k=11)&&ah (v>=b))<;>cases(d.all λx=>ah<|x<b)<;>cases(h.all λa=>r7 b a)<;>rfl
def adX(a x:Int):az 144 [I x,.cp [I a]]<|B<|ah<|x>=a:=by
 exact(dH)<|Fz.aK C
def adW(a:Int)(e:O)(i:e.ok):az 142 [.ag e.ds,.cp [I a]]<|B<|uv a e:=by
 obtain⟨g,v,d,o⟩:=e;simp only[O.ok]at i;have j:∀d∈[D.cp [I a]],Cl d:=Pl;have l:=RP d (λx=>ah<|x>=a) 144 [] [.cp [I a]] i.1 Zs j λx _=>Yq<|adX a x;simp only[bm]at l;have m:=kY d;refine(dH) ?_;by_cases b:g=11
 .have f1:(g==11)=W:=by simp[b]
  by_cases f:v>=a
  .simp only[f1,b_ f,go_sem];exact Fz.aK (by simp[uv,b,f])
  exact(bQ<|JJ f1<|bW f)<|Fz.aK (by simp[uv,b,bW f])
 have f1:(g==11)=af:=by simp[b]
 exact(bQ f1)<|Fz.aK (by simp[uv,b])
def adZ(b:Int)(a:O)(i:a.ok):az 88 [.ag a.ds,I b]<|B<|r7 b a:=by
 have f:∀d∈[D.cp [I b]],Cl d:=Pl;have e:=Qz (uv b) 142 [.cp [I b]] f (λl k=>adW b l k) a i;rw[QC]at e;have g:=O.bP a;have j:Y 4 a.ds=a.ds:=dj Zo;exact(cR)<|(bQ<|JJ g j)<|Fz.aK Zs
def yI(l:cm)(c:O):Bool:=!((c.valid&&!c.ji 0)&&r7 (A l:Int) c)
def XX(b:cm)(k:A b<=1000000)(a:O)(d:a.b7<=1000000000/\a.ok):az 86 [.ag a.ds,.cp [O.sl b]]<|B<|yI b a:=by
 have i:=isClosed a d.1 d.2;have e:=O.bP a;have f:Y 4 a.ds=a.ds:=dj Zo;have j:=O.cl a;refine(cR)<|(bQ<|JJ e f) ?_;cases g:(a.valid&&!a.ji 0)
 .exact(ZN)<|Fz.aK (by simp[yI,g])
 have:=adZ (A b:Int) a d.2;exact(bQ<|JJ e<|JJ f<|O.b6 b)<|Fz.aK (by simp[yI,g])
def ahI(a:cm)(l:∀b∈a,b.b7<=1000000000/\b.ok)(p:A a<=1000000):az 44 [.ag [O.sl a]]<|B<|u6 a:=by
 have j:=O.b6 a;have i:∀d∈[D.cp [O.sl a]],Cl d:=by simp only[dg,kg];exact Cl.eT ((Pb)<|O.db a)
 have o:=EG a (yI a) 86 [] [.cp [O.sl a]] jC Zs i λb k=>Yq<|XX a p b<|l b k;have q:O.sl a=.sl 4 (O.ab a):=C;have m:=O.db a;have e:(ah (1<=A a/\A a<=24)&&!a.any (yI a))=u6 a:=by
  rw[u6,not_any_eq_all_not];congr 1;congr 1;funext b;simp[yI]
 rw[q]at o i m⊢;refine(lj j) ?_;by_cases f:(A a:Int)<1
 .exact(ad<|b_ f)<|Fz.aK (by rw[<-e,bW Zo,wh])
 simp only[bW f,j,go_sem];by_cases g:(A a:Int)>24
 .exact(ad<|b_ g)<|Fz.aK (by rw[<-e,bW Zo,wh])
 exact(bQ<|bW g)<|Fz.aK (by rw[<-e,b_ Zo,kf])
def Vm(b:iS g0)(a:ai0 g0 gt):fK (pz g0 gt)/\A (pz g0 gt)<=600:=by
 refine⟨λh d=>?_,?_⟩
 .rw[<-Gw a,gH,cc]at d;obtain⟨i,g,rfl⟩:=aP.1 d;have e:=a.mem.1 g;have f:=b.sz _<|aD e;simpa[tg,e]using f
 have f:=b.len;rw[pz,bE,a.len];omega
def JE(b:o0 n5):fK (gM n5)/\A (gM n5)<=600:=by
 unfold gM;split
 .rename_i d;have a:=b.K5 (wU.1 d).2;exact Vm a<|Li a
 exact⟨λf e=>by simp at e,Zs⟩
def lL(V:aF)(ds:aO):Int:=if fO V ds=0 then(if eV ds nz<0 then 3 else iU (cJ V ds))else fO V ds
def tV(V:aF)(ds:aO):List<|List Ag:=if lL V ds=0 then iK (cJ V ds)else[]
def sU(V:aF)(ds:aO):List Ag:=if lL V ds=0 then(iK<|cJ V ds).getD (eV ds nz).toNat []else[]
def pY(V:aF)(ds:aO):D:=.tp [.sl 1<|gP<|tV V ds,.ag [cw<|sU V ds],I<|lL V ds]
structure Ht (V:List ae) (ds:List aa):Prop where
 c:∀c∈cJ V ds,o0 c
 l:A ds<=A (cJ V ds)
 b:u6 (cJ V ds)=W
theorem aaG(a:qo fd a9 g6):Fz fd (.tp a9)<|.tp g6:=.tp _ _ a.len.symm λe d b f g=>a.zip (d,b)<|jg.2 ⟨e,by(grind [List.getElem?_zip_eq_some])⟩
def Rz(a:lL a5 be=a3)(d:a3≠0):pY a5 be=.tp [.sl 1 [],.ag [.sl 5 []],I a3]:=by
 have b:¬lL a5 be=0:=(Yy a) d;rw[pY,tV,sU,aC b,aC b,a];rfl
theorem ac7{e:aF}{a:aO}(M:(bH.mk e a).sz<=1048576)(G:(bH.mk e a).ok)(Z:fO e a=0->Ht e a):az 18 [.cp [ae.sl e,aa.sl a]]<|pY e a:=by
 have K:=acV M G;have al:Cl<|.cp [.sl 2<|ae.ab e,.sl 12<|aa.ab a]:=Cl.eT da;have B:ae.sl e=.sl 2 (ae.ab e):=C;have u:aa.sl a=.sl 12 (aa.ab a):=C;rw[B,u]at K⊢;refine(ia [] [.tmp 2,.cell 3 30,.tmp 4])<|u' [] K (.c (.cl _ al) .n) ?_;rintro aC r⟨R,rfl,aA⟩ay-;have aB:Cl R:=by cases ay with|tp _ S=>exact S 0 R C
 refine(ad @oM) ?_;have aI:∀(o:a')(y q:Nat)(g:Ob)(f:Int),lL e a=f->f≠0->o y=E g->g.gen=q->g.sz=1->g.cells=[]->g.keys=Q->Fz o (.tp [.ms y q 0,.ag [bp],I f]) (pY e a):=λo y q g f an U s t V X Y=>by
  rw[Rz an U];exact aaG<|.c (Fz.aq s t V Zd C Zs X Zs Y)<|.c (Fz.oy<|.c (.nil 5) .n)<|.c (.cl _<|bc _) .n
 by_cases i:fO e a=0
 case neg=>
  have f0:(fO e a !=0)=W:=Yr i;refine(ad f0) ?_
  grind [lL,ai]
 obtain⟨aH,rfl⟩:=aA i;have m:=Z i;obtain⟨aT,aQ,-⟩:=KK i M G;have f0:(fO e a !=0)=af:=Yr i;have w:=BR a nz jC;have ak:Cl<|aa.sl a:=aa.db a;rw[u]at w ak;rw[B,u]at aB;simp only[nz]at w;refine(ad f0)<|bR _ w (by(grind [bc])) ?_;obtain⟨j,F⟩:∃j,eV a {data:=#[109,97,105,110]}=j:=⟨_,C⟩;have ar:eV a nz=j:=F;rw[F];by_cases z:j<0
 .refine(ad<|b_ z) ?_
  grind [lL,ai]
 have D:=ac6 m.c (I3 m.b).1.2;have aP:lL e a=iU (cJ e a):=by(grind [lL])
 have aN:Cl<|.cp [.sl 4<|O.ab<|cJ e a]:=Cl.eT ((Pb)<|O.db _);rw[show O.sl (cJ e a)=.sl 4 (O.ab<|cJ e a)from C]at D;refine(ad<|bW z)<|bR _ D (by(grind)) ?_;by_cases p:iU (cJ e a)=0
 rotate_left 1
 .have f1:(iU (cJ e a) !=0)=W:=by simp[p]
  refine(ad f1) ?_
  grind [ai]
 have f1:(iU (cJ e a) !=0)=af:=Yr p;obtain⟨f,t,s,-⟩:=uj (show 0<=fT (λd=>ah<|aa.nm d=nz) a by(grind [eV,nz]));have ap:j=(f:Int):=by rw[<-ar];exact s
 have aK:iK (cJ e a)=(cJ e a).map gM:=by rw[iK,aM p]
 have ao:f<A (cJ e a):=iR t m.l;have aS:A (gP<|iK<|cJ e a)=A (cJ e a):=by(grind [gP,List.length_map])
 have am:(gP<|iK<|cJ e a)[f]?=E [cw<|gM (cJ e a)[f]]:=by(grind [gP])
 have aR:((f:Int)<(A (cJ e a):Int))=True:=dM Zo;have P:=JE<|m.c _<|aD ao;have av:=acZ _ P.1 P.2;have aL:Cl<|.cp [cw<|gM (cJ e a)[f]]:=Cl.eT yq;have au:cO (cw<|gM (cJ e a)[f])=W:=C;subst ap;refine(ad<|JJ f1 am)<|bR _ av (by(grind))<|(ZN) ?_;refine⟨au,?_⟩;have ax:pY e a=.tp [.sl 1<|gP<|iK<|cJ e a,.ag [cw<|gM (cJ e a)[f]],I 0]:=by
  grind [lL,pY,tV,sU]
 rw[ax];exact .cl _<|Cl.jf (by(grind [db,K7,Cl.bC,List.mem_singleton,oa,bc]))
theorem afK{a:aF}{b:aO}(l:(bH.mk a b).sz<=1048576)(i:(bH.mk a b).ok)(g:fO a b=0->Ht a b):az 5 [.ag [ae.sl a,aa.sl b]]<|pY a b:=by
 have d:=ac7 l i g;have m:Cl<|.cp [.sl 2<|ae.ab a,.sl 12<|aa.ab b]:=Cl.eT da;have e:ae.sl a=.sl 2 (ae.ab a):=C;have f:aa.sl b=.sl 12 (aa.ab b):=C;rw[e,f]at d⊢;simp only[pY]at d;have j:cO (cw<|sU a b)=W:=C;refine(ia [] [.tmp 2,.cell 3 30,.tmp 4])<|bR _ d (by(grind))<|(ZN) ?_;refine⟨j,.cl _<|Cl.jf (by(grind [db,K7,Cl.bC,List.mem_singleton,oa,bc]))⟩
theorem YS(d:List Pt)(g:A d<=4)(i:1<=A d):gE aB 93 [.sl 2<|b3 d] 177 2<|b3 d:=by
 obtain⟨b,a,rfl⟩:∃b a,d=b::a:=by
  obtain _|⟨b,a⟩:=d
  .simp at i
  exact⟨b,a,C⟩
 have j:b3 (b::a)=[I b.1,I b.2]::b3 a:=C;have f:=p_ a;have k:A a<=3:=Yq g;have e:=Vd (b::a);rw[j]at e⊢;refine gE.ey [] [.tmp 2] C C Zk Zt C Zs (by(grind [py]))<|(ad<|JJ e f) ?_;refine⟨⟨Zo,l3⟩,.inr ⟨7,⟨0,177,2,_,Q⟩,Yr f,C,C,C,⟨[],Zs⟩,C⟩⟩
theorem Qp(a:Ag)(s:A a.d<=4)(ae:A a.p<=4)(ah:1<=A a.p){aI:gg}{H:a'}{n0:bi}{T:cf}{N:Nat}
 (K:∀(e:St)(u:D)(y:Nat),e.T=T->d_ aB e [.cell 2 125]=E (.ag [I a.k,I a.l,I a.v,u,.ms 1110 y<|A a.p])->aL [1111] e.H 2 1 (Z a.d) u->e.H 1110=E ⟨y,177,2,ao<|b3 a.p,Q⟩->(∀j,e.H 1111=E j->∀d∈j.cells,Cl d)->aI .ret e):
 ∃x,f49.body=E x/\vc aB [1,1000011] x aI ⟨ej [.ag<|cr a],H,n0,12,T,N⟩:=by
 refine⟨_,C,?_⟩;have aa:gE aB 79 [bm a.d] 2 1<|Z a.d:=Rv a.d Zo;have ab:=YS a.p ae ah;have t:=p_ a.p;have ak:b3 a.p≠[]:=λau=>by have ax:=eo A au;rw[t,gR]at ax;omega
 simp only[cr,go_sem];refine lq [0,1,3,4,2,6,5,7,8,9] [1] []<|(ZN)<|tS 2 1 _ aa ((Pc)<|kY _) λay aC u an J=>?_;have g:=J 1 Zd;have M:=J 2 Zd;simp only[a_,bN,dG,bj,dv]at g M;refine(ad g)<|tS 177 2 _ ab ((Pc)<|db.2 λr al d s=>py _ d<|eL.2 ⟨r,al,s⟩) λR aD aH aq q=>?_;have O:=(q 1 Zd).trans g;have P:=(q 2 Zd).trans M;have ap:=an.aA (H':=R) λav am=>q av<|Ys am;obtain⟨B,rfl,G⟩:=eG aq ak;obtain⟨X,rfl⟩|⟨t5,V,L,rfl,Y⟩:=ap
 .refine(ad<|JJ O t) ?_;refine⟨g.symm,GK.qQ 8 1110 1 4 (A a.p) (g0:=B) (by simp[ai];exact G) my Zd Zd C λb ar o w f i=>?_⟩;have m:=(i 2 Zd Zd Zd).trans (show _=_ by simp[ai];exact P);simp only[List.set]at f;refine GK.off [1111] ?_;have S:aT [1111] b 1=_:=(by simp[aT]:aT [1111] b 1=b 1).trans f;have U:aT [1111] b 2=_:=(by simp[aT]:aT [1111] b 2=b 2).trans m;exact(ad<|JJ S U)<|K _ (.sc<|.slice Q 0 0) o C Ii (.inl ⟨X,C⟩) (by simp[ai,aT];exact w) λj F=>by simp[ai,aT]at F
 simp only[dg]at L;subst L;refine(ad<|JJ O t) ?_;refine⟨g.symm,GK.qQ 8 1110 1 4 (A a.p) (g0:=B) (by simp[ai];exact G) my Zd Zd C λb ar o w f i=>?_⟩;simp only[List.set]at f;refine GK.qQ 5 1111 1 3 (A a.d) (g0:=V) ((i 5 Zd Zd Zd).trans (show _=_ by simp[ai];exact Y)) f Zd Zd C λaz aF z d1 d2 d3=>GK.cM ?_;have m:=(d3 2 Zd Zd Zd).trans<|(i 2 Zd Zd Zd).trans (show _=_ by simp[ai];exact P);simp only[List.set]at d2;exact(ad<|JJ d2 m)<|K _ (.ms 1111 z<|A a.d) o C Ii (.inr ⟨1111,z,Zs,by rw[fm],by simp[ai];exact d1⟩) (by(grind [ai])) λj F d s=>by(grind [a_,bj,Option.some.injEq,nW])
theorem Zz(e:Ag)(a:A e.d<=4)(y:A e.p<=4)(z:1<=A e.p){s:St}{dst:ON}{K:aU}
 (u:∀H G g h,aL [1111] H 2 1 (Z e.d) g->H 1110=E ⟨h,177,2,ao<|b3 e.p,Q⟩->(∀f,f≠1110->f≠1111->H f=s.H f)->K ({s with H:=H,n:=G}.put dst<|.ag [I e.k,I e.l,I e.v,g,.ms 1110 h<|A e.p])):er aB s 49 [.ag<|cr e] dst K:=by
 obtain⟨J,x,B⟩:=Qp (H:=b5 [1110,1111] s.H) (n0:=s.n) (T:=s.T) (N:=s.N) e a y z (aI:=nD aB [.cell 2 125] λd H n T=>In [1110,1111] d/\T=s.T/\(∀f∈[1110,1111],∀j,H f=E j->∀d∈j.cells,In [1110,1111] d)/\K ({s with H:=iD [1110,1111] [1110,1111] s.H H,n:=n}.put dst d)) λM g h w r o q t=>by
  have D:In [1110,1111] g:=by
   obtain⟨-,rfl⟩|⟨f,L,i,rfl,-⟩:=o
   .exact .sc _
   exact .ms _ _ sG
  refine⟨_,r,.ag λF d a=>?_,w,λf i j m d a=>?_,u _ _ g h (o.aA λf i=>by(grind [vH])) ((vH Zs).trans q) λf e b=>xw (by simp[e,b]) (by simp[e,b])⟩
  .match F,a with
   |0,a=>cases a;exact .sc _
   |1,a=>cases a;exact .sc _
   |2,a=>cases a;exact .sc _
   |3,a=>cases a;exact D
   |4,a=>cases a;exact .ms _ _ Zs
  simp only[cF,dt,gD]at i;obtain rfl|rfl:=i
  .rw[q]at m;cases m;exact(py _ d a).bB
  exact(t j m d a).bB
 exact A1 _ _ _ func49 x Zk ntmps49 C Zs B
def Es{t:Nat}{H:a'}{a:Nat}{aq:cB}{x:D}(j:aL [t] H g4 a aq x)(o:0<a)(m:∀r∈aq,A r=a)(l:∀d∈ao aq,∃v,d=.sc v):∃us,C1 H x (.sl a aq) us/\fp us=[]/\(iw us=[]\/iw us=[t]):=by
 obtain⟨rfl,rfl⟩|⟨h,i,f,rfl,k⟩:=j
 .exact⟨[],.nil a,C,.inl C⟩
 simp only[dg]at f;subst f;have g:(cz<|A<|ao aq).flatMap (λ_=>([]:Us))=[]:=Zs;refine⟨.inr h::(cz<|A<|ao aq).flatMap λ_=>[],.ms h ⟨i,g4,a,ao aq,Q⟩ aq (λe=>aq.flatten.getD e .any) (λ_=>[]) k C o m (λe d b=>?_) λe d b=>?_,Yf g,by rw[g];exact .inr C⟩
 .rw[b];simp[List.getD,b]
 obtain⟨v,rfl⟩:=l d<|fE b;simp only[List.getD,b,kx];exact .sc v
theorem W8(a:IL):∀d∈ao (Z a),∃v,d=.sc v:=λd b=>by
 grind [ox]
theorem Ve(e:List Pt):∀d∈ao (b3 e),∃v,d=.sc v:=λd a=>by
 have⟨r,b,a⟩:=eL.1 a;obtain⟨f,-,rfl⟩:=aP.1 b
 grind
theorem Zy(a:Ag)(i:A a.d<=4)(j:A a.p<=4)(k:1<=A a.p):dR aB 49 [.ag<|cr a] [] []<|.ag<|cr a:=by
 obtain⟨u,h,l⟩:=Qp (H:=ma) (n0:=dY) (T:=[]) (N:=0) a i j k (aI:=xI aB [.cell 2 125] [] []<|.ag<|cr a) λq F b w e f g _=>by
  have⟨r,m,y,z⟩:=Es f Zd (iI _)<|W8 _;have⟨s,o,B,D⟩:=Es (t:=1110) (H:=q.H) (x:=.ms 1110 b<|A a.p) (aq:=b3 a.p) (.inr ⟨1110,b,Zs,by rw[p_],g⟩) Zd (oQ _)<|Ve _;refine⟨_,e,Ju (us:=[]++([]++([]++(r++(s++[]))))) (.cons (.sc _)<|.cons (.sc _)<|.cons (.sc _)<|.cons m<|.cons o .nil) (by(grind [BJ])) ?_⟩
  grind [BM]
 exact dR.ey _ _ func49 h Zk ntmps49 C Zs C l
def xy(g:bi)(b:fL)(i:Nat)(a:Ag):DL:=[I a.k,I a.l,I a.v,b i,.ms (2000+i) (g i)<|A a.p]
def iN(g:bi)(b:fL)(n:List Ag):cB:=n.mapIdx λi a=>xy g b i a
def B5(b:bi)(d:fL)(a:List Ag):A (iN b d a)=A a:=by simp[iN]
def K1(a:bi)(e:fL)(d:List Ag):∀r∈iN a e d,A r=5:=λr b=>by
 obtain⟨g,f,rfl⟩:=ec b;simp[iN,xy]
def ad8(a:bi)(d:fL)(b:List Ag)(e:Ag):iN a d (b++[e])=iN a d b++[xy a d (A b) e]:=by simp[iN,mapIdx_append]
theorem ad9{b d:fL}(e:∀a,a<A g0->m6 a=g8 a/\d a=b a):iN m6 d g0=iN g8 b g0:=by
 refine lX (by simp[iN]) λa f g=>?_
 grind [iN,xy]
structure AA (H:Nat->Option Ob) (g:Nat->Nat) (a:Nat->D) (n:List Ag):Prop where
 p:∀i(h:i<A n),H (2000+i)=E ⟨g i,177,2,ao (b3 n[i].p),Q⟩
 d:∀i(h:i<A n),aL [3000+i] H 2 1 (Z n[i].d) (a i)
def abM{f:Nat->Us}:iw (gt.flatMap f)=gt.flatMap λb=>iw<|f b:=by
 induction gt with
 |nil=>rfl
 |cons d gt a=>rw[tq,tq,BM,a]
def abG{a:Nat->Us}(b:∀e,fp (a e)=[]):fp (gt.flatMap a)=[]:=by
 induction gt with
 |nil=>rfl
 |cons f gt d=>rw[tq,BJ,b,d];rfl
def Ya{t:Nat}{H:a'}{f:bi}{g:fL}{n:List Ag}{x:D}(P:aL [t] H 125 5 (iN f g n) x)(J:AA H f g n)(ak:A n<=600)(am:t<2000):∃us,C1 H x (cw n) us/\fp us=[]/\(iw us).Nodup:=by
 obtain⟨l,rfl⟩|⟨B,O,L,rfl,Y⟩:=P
 .have k:n=[]:=by have k:=eo A l;rw[B5]at k;exact pI.1 k
  subst k;exact⟨[],.nil 5,C,uV⟩
 simp only[dg]at L;subst L;have q:∀r∈n.map cr,A r=5:=λr hr=>yx;have j:∀a,∃us:Us,(∀d,(ao<|n.map cr)[a]?=E d->C1 H ((iN f g n).flatten.getD a .any) d us)/\fp us=[]/\(iw us).Nodup/\∀s∈iw us,(a%5=3/\s=3000+a/5)\/(a%5=4/\s=2000+a/5):=λa=>by
  by_cases U:a<A n*5
  rotate_left 1
  .refine⟨[],λd hd=>?_,C,uV,uV⟩;have k:=(dX.1 hd).1;rw[iY q,bE]at k;omega
  have u:a/5<A n:=Zo;have o:∀(l:Nat)(m d:D),a%5=l->(xy f g (a/5) n[a/5])[l]?=E m->(cr n[a/5])[l]?=E d->(iN f g n).flatten.getD a .any=m/\∀w,(ao<|n.map cr)[a]?=E w->w=d:=λl m d h R S=>by
   have aa:(iN f g n)[a/5]?=E (xy f g (a/5) n[a/5]):=by simp[iN,u]
   have ab:(n.map cr)[a/5]?=E (cr n[a/5]):=Yr u;have G:=mJ (K1 f g n) aa R;have I:=mJ q ab S;rw[<-h,show a/5*5+a%5=a by omega]at G I;exact⟨by simp[List.getD,G],λw hd=>by rw[I]at hd;cases hd;rfl⟩
  obtain h|h|h|h|h:=(show a%5=0\/a%5=1\/a%5=2\/a%5=3\/a%5=4 by omega)
  .obtain⟨a1,a2⟩:=o 0 _ _ h C C;exact HH
  .obtain⟨a1,a2⟩:=o 1 _ _ h C C;exact HH
  .obtain⟨a1,a2⟩:=o 2 _ _ h C C;exact HH
  .obtain⟨a1,a2⟩:=o 3 _ _ h C C;obtain⟨F,y,z,e⟩:=Es (J.d (a/5) u) Zd (iI _)<|W8 _;refine⟨F,λd hd=>by rw[a1,a2 d hd];exact y,z,by obtain e|e:=e<;>simp[e],λs i=>.inl ⟨h,?_⟩⟩;obtain e|e:=e
   .rw[e]at i;cases i
   rw[e]at i;simpa using i
  obtain⟨a1,a2⟩:=o 4 _ _ h C C;obtain⟨F,y,z,e⟩:=Es (t:=2000+a/5) (H:=H) (x:=.ms (2000+a/5) (f<|a/5)<|A n[a/5].p) (aq:=b3 n[a/5].p) (.inr ⟨2000+a/5,_,Zs,by rw[p_],J.p (a/5) u⟩) Zd (oQ _)<|Ve _;refine⟨F,λd hd=>by rw[a1,a2 d hd];exact y,z,by obtain e|e:=e<;>simp[e],λs i=>.inr ⟨h,?_⟩⟩;obtain e|e:=e
  .rw[e]at i;cases i
  rw[e]at i;simpa using i
 have V:A (iN f g n)=A (n.map cr):=by rw[B5,bE]
 have al:A (ao<|n.map cr)=A n*5:=by rw[iY q,bE]
 rw[V];refine⟨.inr B::(cz<|A<|ao<|n.map cr).flatMap λa=>(j a).choose,.ms B ⟨O,125,5,ao<|iN f g n,Q⟩ (n.map cr) (λa=>(iN f g n).flatten.getD a .any) (λa=>(j a).choose) Y C (ya 4) q (λa d hd=>?_) λa d hd=>(j a).choose_spec.1 d hd,?_,?_⟩
 .have U:=(dX.1 hd).1;have k:a<A (ao<|iN f g n):=by rw[iY<|K1 f g n,B5];omega
  show(ao<|iN f g n)[a]?=_;rw[List.getD,bL k];rfl
 .show fp ((cz _).flatMap _)=[];exact abG λa=>(j a).choose_spec.2.1
 show(B::iw _).Nodup;rw[lg,abM];refine⟨λX=>?_,?_⟩
 .obtain⟨a,-,i⟩:=Da.1 X;obtain⟨-,ad⟩|⟨-,ad⟩:=(j a).choose_spec.2.2.2 _ i<;>omega
 show List.Pairwise (·≠·) _;rw[pairwise_flatMap];refine⟨λa _=>(j a).choose_spec.2.2.1,(pairwise_lt_range (n:=A<|ao<|n.map cr)).imp_of_mem λ{M b}ae K ah s i ar Z m=>?_⟩;have K:=oo.1 K;subst m;have an:=(j M).choose_spec.2.2.2 _ i;have ap:=(j b).choose_spec.2.2.2 _ Z;omega
def afE{d:D}(a:a9[am]?=E d):a9.set am d=a9:=by
 refine CY λf=>?_;rw[getElem?_set];split
 .rename_i b;subst b;have e:=(dX.1 a).1;rw[aM e,a]
 rfl
def GK.adV{a:St}(t0 t1 e h:Nat){o:Nat}{g:Ob}{d:D}(x:aL [t0] a.H g4 o ip d)(l:a.H e=E g)(u:e≠t0)(w:e≠t1)(k:g.cells[h]?=E d)
 (j:∀H n i,H e=E {g with cells:=g.cells.set h i}->aL [t1] H g4 o ip i->(∀f,f≠t0->f≠t1->f≠e->H f=a.H f)->GK c2 {a with H:=H,n:=n}):GK c2 a:=by
 obtain⟨s,rfl⟩|⟨y,z,m,rfl,t⟩:=x
 .exact j a.H a.n _ (by rw[afE k];exact l) (aG ⟨s,C⟩) λ_ _ _ _=>C
 simp only[dg]at m;subst m;exact GK.qQ y t1 e h (A ip) t l u w k λH n r p b q=>j H n _ b (aj ⟨t1,r,Zs,C,p⟩) q
def AA.aA{H H':a'}{i:fL}(h:AA H g8 i g0)(g:∀a,2000<=a->a<4000->H' a=H a)(j:A g0<=600):AA H' g8 i g0:=
 ⟨λe b=>(g _ Zo Zo).trans<|h.p e b,λe b=>(h.d e b).aA λa f=>by simp at f;subst f;exact g _ Zo Zo⟩
def ae6{n:List Ag}(ak:iS n){o:ax}(F:ai0 n o):dR aB 152 [.cp [cw n],.sl 1<|Z<|zN o] [] []<|.ag [cw<|pz n o]:=by
 have bp:cE aB 28=E (125,5,72):=Zk;have a6:(cb==cb)=W:=C;have b9:A (n.map cr)=A n:=Zs;have b_:=ak.len;have ca:=F.len;have a8:=kv o;have bA:=ak.sz;have bC:∀a∈n,∀j(aS:j<A a.p),∃L:Nat,(a.p[j]).1=L/\L<A n:=λa aP j aS=>by
  have aY:=ak.nn a aP _<|aD aS;exact⟨(a.p[j]).1.toNat,Zo,aY.2⟩
 have bB:cw n=.sl 5 (n.map cr):=C;rw[bB];refine dR.ey [1000061,1000063] [.cell 4 30] C C Zk Zt C Zs C<|(ad a8)<|lp 16 (A o) [0,1,4,5,14,15] (λk ae H _ X=>X=[]/\(∃w,H 4=E ⟨0,30,1,[w],Q⟩)/\H 13=E (uA 0<|Y k o)) ⟨C,⟨_,l4⟩,by simp[ai,uA]⟩ ?_;rintro k ae H bW X bi bw⟨rfl,⟨w,B⟩,J⟩;refine ZS (λb=>?_) λb=>?_
 .have G:k<A o:=by simpa using b
  have aJ:=pP o k G;have aQ:kp (.int .i64) (.int .i64 (o[k]:Int)) ((Y k o).map kI)=E Q:=EY<|UE F.nd G;have J:H 13=E ⟨0,0,1,(cz<|A<|Y k o).map λ(i:Nat)=>I (i:Int),E<|(Y k o).map kI⟩:=J;simp only[b,aJ,J,a6,aQ,go_sem];refine⟨Zs,dI ⟨C,⟨w,Yu B⟩,?_⟩⟩;rw[dm G,<-Va 0 (Y k o) o[k] k ch];simp[ai]
 obtain rfl:k=A o:=Ys b;rw[cc]at J;refine(ad<|JJ b a8) ?_;obtain⟨ah,bs⟩:=Zx<|bW 8;rw[bs];have J:H 13=E ⟨0,0,1,(cz<|A o).map λ(i:Nat)=>I (i:Int),E<|o.map kI⟩:=J;refine lp 27 (A o) [0,4,5,8,25,26] (λk ae H _ X=>X=[]/\(∃w,H 4=E ⟨0,30,1,[w],Q⟩)/\H 13=E ⟨0,0,1,(cz<|A o).map λ(i:Nat)=>I (i:Int),E<|o.map kI⟩/\∃L f g,H 8=E ⟨ah,30,1,[L],Q⟩/\aL [63] H 125 5 (iN f g<|gH n o k) L/\AA H f g (gH n o k)) ⟨C,⟨w,Yu B⟩,Yu J,_,λ_=>0,λ_=>.any,ep,aG ⟨by simp[gH,iN],C⟩,⟨by simp[gH],by simp[gH]⟩⟩ ?_;rintro k ae H cd X bi bw⟨rfl,⟨w,B⟩,a4,L,f,g,aO,au,an⟩;refine ZS (λb=>?_) λb=>?_
 rotate_left 1
 .have bz:k=A o:=by simp at b;omega
  subst bz;rw[Gw F]at au an;have x:A (pz n o)<=600:=(Vm ak F).2;simp only[b,B,aO,go_sem];have⟨us,bR,bU,bV⟩:=Ya (H:=ai H 4<|some ⟨0,30,1,[L],Q⟩) (t:=63) (au.aA bF) (an.aA (λt q u=>Yu (show t≠4 by omega)) x) x Zd;exact⟨n9 au,Ju (us:=us++[]) (.cons bR .nil) (by rw[de];exact bU) (by rw[de];exact bV)⟩
 have G:k<A o:=Yq b;have aJ:=pP o k G;have aT:=F.lt G;have b':((o[k]:Int)<(A n:Int))=True:=dM Zo;have aN:=vJ n o[k] aT;have ap:=Vy F G;have ar:=bA n[o[k]]<|aD aT;have a':=bC n[o[k]]<|aD aT;have x:=Ct (n:=n) (o:=o) (k:=k) Zo;generalize aP:n[o[k]]=a;simp only[aP]at aN ap ar a';have a7:=λ(b1:St)(dst:ON)(K:aU)=>Zz a ar.1 ar.2.1 ar.2.2 (s:=b1) (dst:=dst) (K:=K);simp only[cr]at aN a7;simp only[b,aJ,aN,go_sem];refine aj<|aj (a7 _ _ _ λbh bX aZ a3 a1 bl bm=>?_);have bH:=n9 a1;refine(ZN) ?_;refine⟨bH,?_⟩;obtain⟨aM,bt⟩:=Zx<|bX 11;rw[bt];refine lp 42 (A a.p) [0,4,5,8,11,25,26,27,41] (λj ae H' _ bk=>bk=[]/\H' 11=E ⟨aM,125,5,[I a.k,I a.l,I a.v,aZ,.ms 1110 a3<|A a.p],Q⟩/\H' 1110=E ⟨a3,177,2,ao<|b3<|mf o a.p j,Q⟩/\aL [1111] H' 2 1 (Z a.d) aZ/\∀t,t≠11->t≠1110->t≠1111->H' t=H t) ⟨C,ep,by simpa[mf,ai]using bl,a1.aA bF,λt q u P=>by simp[ai,q];exact bm t u P⟩ ?_;rintro j b8 bh bY T3 b7 aS⟨rfl,aX,ay,bf,az⟩;have bZ:=(az 13 Zd Zd Zd).trans a4;have b0:=(az 8 Zd Zd Zd).trans aO;refine ZS (λb=>?_) λb=>?_
 .have aW:j<A a.p:=by simpa using b
  have bv:((j:Int)<(A a.p:Int))=True:=dM Zo;have⟨U,bd,bQ⟩:=a' j aW;have be:U∈o:=F.mem.2 bQ;have aQ:kp (.int .i64) (.int .i64 (U:Int)) (o.map kI)=E (E<|o.idxOf U):=EZ be;have bK:=U_ be;have bI:=Lz o a.p j;have a9:=VA o a.p aW<|bJ j;have br:(ao<|b3<|mf o a.p j)[j*2]?=E (I U):=by
   have aY:=mJ (oQ<|mf o a.p j) (i:=j) (j:=0) (r:=[I a.p[j].1,I a.p[j].2]) (d:=I U) (by rw[zE _ j Zo,a9])<|Yr bd;simpa using aY
  have ba:=VT (mf o a.p j) (j:=j) Zo (o.idxOf U:Int);have bb:=VB o a.p aW;simp only[bd,q_]at bb;rw[a9,bb]at ba;refine(ad b)<|dP [11,1110,13] [] ?_;simp only[aX,ay,bZ,bv,mn,br,a6,aQ,bK,go_sem];refine⟨by rw[iY<|oQ _,p_,bI];omega,dI ⟨C,Yu aX,by simp only[bN];rw[ba],bf.aA bF,λt q u P=>by simp[ai,u];exact az t q u P⟩⟩
 obtain rfl:j=A a.p:=Ys b;rw[Vz]at ay;have bL:(tg o a).p=a.p.map λbg=>((o.idxOf bg.1.toNat:Int),bg.2):=C;have bM:(tg o a).d=a.d:=C;rw[<-bL]at ay;refine(ad<|JJ b b0)<|GK.qQ 1110 (2000+k) 11 4 (A a.p) ay aX Zd Zo C λa0 ce m bn aH a2=>?_;have aH:a0 11=E ⟨aM,125,5,[I a.k,I a.l,I a.v,aZ,.ms (2000+k) m<|A a.p],Q⟩:=aH;refine GK.adV 1111 (3000+k) 11 3 (bf.aA (H':=a0) λt e=>by simp at e;subst e;exact a2 1111 Zd Zo Zd) aH Zd Zo C λy bY O d2 d1 d3=>GK.cM ?_;have d2:y 11=E ⟨aM,125,5,[I a.k,I a.l,I a.v,O,.ms (2000+k) m<|A a.p],Q⟩:=d2;have V t (q:t≠11) (u:t≠1110) (P:t≠1111) (B:t≠2000+k) (bq:t≠3000+k):y t=H t:=(d3 t P bq q).trans<|(a2 t u B q).trans<|az t q u P;have b6:y (2000+k)=E ⟨m,177,2,ao<|b3 (tg o a).p,Q⟩:=(d3 _ Zo Zo Zo).trans bn;obtain⟨z,am⟩:∃z:Nat->Nat,(λi=>if i=k then m else f i)=z:=⟨_,C⟩;obtain⟨M,av⟩:∃M:Nat->D,(λi=>if i=k then O else g i)=M:=⟨_,C⟩;have bO:iN z M (gH n o<|k+1)=iN f g (gH n o k)++[[I a.k,I a.l,I a.v,O,.ms (2000+k) m<|A a.p]]:=by
  rw[ap,ad8,x];have bo:iN z M (gH n o k)=iN f g (gH n o k):=ad9 λi R=>by
   rw[<-am,<-av];simp only[aC (show¬i=k by omega)];exact⟨trivial,trivial⟩
  rw[bo,<-am,<-av];simp only[xy,bx,tg,bE]
 have bP:=au.aA (H':=y) λt e=>V t (Ys e) (Ys e) (Ys e) (Ys e)<|Ys e;have bG:=n9 d1;refine(ad d2)<|GK.cM (eC.eS (S:=[63]) (aq:=iN f g<|gH n o k) (bD:=[[I a.k,I a.l,I a.v,O,.ms (2000+k) m<|A a.p]]) bp ((Pa)<|bP.aA bF) (K1 _ _ _) hF Zs (by simp only[dT,fX,de,Aj,Ak,bG,xT];rfl) (by rw[B5,x];simp;omega) (by rw[B5,x];unfold aE;simp;omega) λaF cf cg bc al=>?_);obtain⟨aK,rfl,-⟩:=eG bc Zs;have b5:=(al 8 Zd Zd).trans (show _=_ by simp[ai];exact(V 8 Zd Zd Zd Zo Zo).trans aO);have b4:=(al 4 Zd Zd).trans (show _=_ by simp[ai];exact(V 4 Zd Zd Zd Zo Zo).trans B);have b2:=(al 13 Zd Zd).trans (show _=_ by simp[ai];exact(V 13 Zd Zd Zd Zo Zo).trans a4);refine(ad b5) ?_;have a5 t (q:2000<=t) (u:t<4000):ai aF 8 (E ⟨ah,30,1,[.ms 63 aK<|A<|iN f g (gH n o k)++[[I a.k,I a.l,I a.v,O,.ms (2000+k) m<|A a.p]]],Q⟩) t=y t:=by
  rw[a_ _ _ Zo];refine(al _ Zo ch).trans ?_;simp[ai,show¬t=62 by omega]
 refine dI ⟨C,⟨w,Yu b4⟩,Yu b2,_,z,M,my,?_,⟨λi R=>?_,λi R=>?_⟩⟩
 .rw[bO];exact aL.aA bc bF
 .have bu:i<k+1:=by rw[Ct Zo]at R;exact R
  have aR ab (aI:(gH n o<|k+1)[i].p=ab) (aV:y (2000+i)=E ⟨z i,177,2,ao<|b3 ab,Q⟩):ai aF 8 (E ⟨ah,30,1,[.ms 63 aK<|A<|iN f g (gH n o k)++[[I a.k,I a.l,I a.v,O,.ms (2000+k) m<|A a.p]]],Q⟩) (2000+i)=E ⟨z i,177,2,ao<|b3 (gH n o<|k+1)[i].p,Q⟩:=(Yy aI)<|(a5 _ Zo Zo).trans aV;refine aR _ (Yw<|C7 ap) ?_;by_cases aa:i=k
  .subst aa;rw[C6 Zo];simp only[x,pJ,fA];rw[b6,<-am];simp only[bx]
  rw[tt Zo,<-am];simp only[aC aa];exact(V _ Zo Zo Zo Zo Zo).trans<|an.p i Zo
 have bu:i<k+1:=by rw[Ct Zo]at R;exact R
 have aR ab (aI:(gH n o<|k+1)[i].d=ab) (aV:aL [3000+i] y 2 1 (Z ab)<|M i):aL [3000+i] (ai aF 8<|some ⟨ah,30,1,[.ms 63 aK<|A<|iN f g (gH n o k)++[[I a.k,I a.l,I a.v,O,.ms (2000+k) m<|A a.p]]],Q⟩) 2 1 (Z (gH n o<|k+1)[i].d)<|M i:=by
  rw[aI];exact aV.aA λt e=>by simp at e;subst e;exact a5 _ Zo Zo
 refine aR _ (Yw<|C7 ap) ?_;by_cases aa:i=k
 .subst aa;rw[C6 Zo];simp only[x,pJ,fA,bM];rw[<-av];simp only[bx];exact d1
 rw[tt Zo,<-av];simp only[aC aa];exact(an.d i Zo).aA λt e=>by simp at e;subst e;exact V _ Zo Zo Zo Zo Zo
def Yl{a:List Ag}(b:iS a):dR aB 92 [.ag [cw a]] [] []<|.ag [cw<|pz a<|p9 a<|fV a]:=by
 have g:=Ym b;have i:=ae6 b<|Li b;have kJ:Cl<|.cp [cw a]:=Cl.eT ((Pb)<|oa a);have s:cO (cw a)=W:=C;refine dR.ey [] [.cell 2 30] C C Zk Zt C Zs C<|(ZN)<|bR _ g ((Pc) kJ)<|(ZN)<|vb _ i Iw λp k f=>?_;obtain⟨q,rfl,d⟩:=xD f;obtain⟨m,t,o,j,r,l,rfl,rfl,e⟩:=oP.1 d;obtain⟨rfl,rfl⟩:=mc.1 e;exact(ZN)<|Rw d
def YW{v:aN}(a:OL O1 a9 g6 bv.T):mF [] [] (.tp [.ag a9,.sc v]) bv<|.tp [.ag g6,.sc v]:=
 ⟨_,[],.tp<|.cons (.ag a.cl)<|.cons (.one<|.sc v) .nil,by simp[i7,BK],by simp[xj]⟩
theorem YZ{v:aN}(a:bv.T=[]):mF [] [] (.tp [.ag [.sl am []],.sc v]) bv<|.tp [.ag [bp],.sc v]:=
 ⟨[]++([]++[]),[],.tp<|.cons (.ag (us:=[])<|CL.cons (us:=[]) (Ma:=[]) (.nil am) .nil)<|.cons (.one<|.sc v) .nil,by simp[i7,fp,a],uV⟩
theorem Zl{b:O}(i:o0 b)(au:b.valid=W):dR aB 48 [.ag b.ds] [] []<|.tp [.ag [cw<|gM b],I<|jD b]:=by
 have G:=O.bP b;have R:Y 4 b.ds=b.ds:=dj Zo;have aQ:(b.ds).all cO=W:=(Pf)<|O.one b;have aP:=i.n;have an:=isClosed b Zo i.o;have ar:=Ti b Zo i.o;simp only[au,i.a,kf,CV]at an ar;have aH:∀(r:St)(p:Int),jD b≠0->p=jD b->r.T=[]->mF [] [] (.tp [.ag [cw<|gM b],I<|jD b]) r (.tp [.ag [bp],I p]):=λr p aO e aL=>by
  grind [cw,gM,YZ]
 refine dR.ey [1000015,1000023] [.cell 2 30,.tmp 3] C C Zk Zt C Zs C<|(bQ<|JJ G R) ?_;cases aq:b.fW 0
 .refine(ZN) ?_
  grind [wU,jD]
 refine(ZN)<|GK.F7 4 1000 4 0 (g0:=0) (e:=173) (z:=3) (cs:=[bp,bp,.sc<|.map Q]) bF fR λs aT B t w=>GK.cM ?_;have U:∀g∈BL,g≠1000->s g=Q:=λg j z=>(w g (dO j Zd) z).trans (by simp[ai,dO j (u:=4),dO j (u:=2),ma]);have V:=(w 2 Zd Zd).trans (show _=E _ by simp[ai];rfl);have ah:BI B s []:=⟨⟨.sc<|.slice Q 0 0,λ_=>0,t,.nil,Zs⟩,(λg j aV l=>by
  by_cases z:g=1000
  .subst z;rw[t]at l;cases l;intro d F;simp at F;obtain rfl|rfl:=F<;>exact .sc _
  rw[U g j z]at l;cases l),Zs⟩
 refine(ad<|JJ G R) ?_;refine aj<|aj (ain i ah λay aU X Z=>?_);have y:=(Z 2 Zd).trans V;obtain⟨aZ,q,m⟩:=X.nb;generalize D:b.hN=f;have ap:=i.lk.2.1;have M:=i.K5;rw[D]at m ap M;obtain⟨aK,av,aW⟩:=m.x;obtain⟨aI,rfl,aX⟩:=eG av (by(grind [List.length_eq_zero_iff,lJ]));rw[lJ]at q m;refine lm q (λk=>?_) λk=>?_
 .have aN:600<A f:=by simp at k;omega
  refine(ad<|JJ k y) ?_
  grind [wU,jD]
 have K:A f<=600:=Ys k;have al:=Yl<|M K;have am:jD b=0:=wU.2 ⟨aq,(Yy D) K⟩;have ao:gM b=pz f (p9 f<|fV f):=by(grind [gM])
 have aM:Cl<|.ag [cw f]:=Cl.bC yq;have aR:cO (cw f)=W:=C;rw[ao,am];refine(ad k)<|GK.fc (B3<|A f) 1000 0 q AK C (m.fz _ λg j=>j) (oa f) λS d1 d2=>GK.cM ?_;have d3:=(d2 2 Zd AK).trans y;replace d1:S 1000=E ⟨B,173,3,cw f::RI,Q⟩:=d1;simp only[d1,RI,go_sem];refine vb _ al (by(grind)) λe az ak=>?_;obtain⟨aD,rfl,P⟩:=xD ak;obtain⟨aY,aS,aC,ax,aF,aA,rfl,rfl,ab⟩:=oP.1 P;obtain⟨rfl,rfl⟩:=mc.1 ab;exact(ad d3)<|YW P
def YX{v:aN}{a:Ob}(h:bv.H am=E a)(b:a.gen=a0)(i:a.sz=a4)(j:0<a4)(f:a2=A ip)(e:∀r∈ip,A r=a4)(g:OL O1 (ao ip) a.cells bv.T)(d:a.keys=Q:=by rfl):
 mF [] [] (.tp [.sl a4 ip,.sc v]) bv (.tp [.ms am a0 a2,.sc v]):=
 ⟨_,[],.tp<|.cons (.one<|C1.rows h b i j f e g d)<|.cons (.one<|.sc v) .nil,Ij,by simp[iw,xj]⟩
def YY{v:aN}:mF [] [] (.tp [.sl am [],.sc v]) bv<|.tp [bp,.sc v]:=
 ⟨[]++([]++[]),bv.T,.tp<|.cons (.one<|.nil am)<|.cons (.one<|.sc v) .nil,by simp[i7,fp],uV⟩
def aeh(a:O)(e:a.b7<=100000000)(d:a.ok):az 46 [.ag a.ds]<|B<|!(a.valid&&!a.ji 0&&a.fW 0):=by
 have i:=Ti a e d;have b:=O.bP a;have f:Y 4 a.ds=a.ds:=dj Zo;have g:=O.cl a;exact(cR)<|(bQ<|JJ b f)<|Fz.aK C
def Zi{l:cm}(g:∀b∈l,o0 b/\b.valid=W)(P:u6 l=W):dR aB 23 [.ag [O.sl l]] [] []<|.tp [.sl 1<|gP<|iK l,I<|iU l]:=by
 have al:cE aB 27=E (30,1,24):=Zk;have a0:=(I3 P).1;have aF:=O.b6 l;have F:=ahI l (λb f=>⟨Yo<|(g b f).1.n,(g b f).1.o⟩) Zo;have X:=EG l (λb=>!(b.valid&&!b.ji 0&&b.fW 0)) 46 [] [] jC Zs Zs λb f=>aeh b (Yo<|(g b f).1.n) (g b f).1.o;have z:=O.db l;have aK:O.sl l=.sl 4 (O.ab l):=C;rw[P]at F;rw[aK]at F X z⊢;have au:(l.any λb=>!(b.valid&&!b.ji 0&&b.fW 0))=!(l.all λb=>b.fW 0):=by
  rw[<-MQ];congr 1;rw[oi,en,en];exact⟨λe b f=>by have j:=e b f;rw[(g b f).2,(g b f).1.a]at j;simpa using j,λe b f=>by rw[(g b f).2,(g b f).1.a,e b f];rfl⟩
 have fin:∀(ah:St)(e:Int),iU l≠0->e=iU l->mF [] [] (.tp [.sl 1<|gP<|iK l,I<|iU l]) ah (.tp [bp,I e]):=λah e p M=>by
  have j:gP (iK l)=[]:=by rw[iK,aC p];rfl
  rw[j,M];exact YY
 refine dR.ey [1000033] [.tmp 2,.tmp 3] C C Zk Zt C Zs C<|(ZN)<|bR _ F (by simp only[aY,de,cF,dt,gD,kg];exact Cl.bC<|(Pb) z)<|(ZN)<|bR _ X (by simp only[aY,de,cF,dt,gD,ri,kg];exact⟨z,.fn _ _ _ Zs Zs⟩) ?_;rw[au];cases x:l.all λb=>b.fW 0
 .refine(ad CV) ?_;have p:iU l=9:=by rw[iU,x];rfl
  exact fin _ 9 (by rw[p];decide) p.symm
 have aN:=en.1 x;refine(ad<|JJ wi aF)<|lp 18 (A l) [1,16,17] (λe y J _ K=>(∀b∈Y e l,A b.hN<=600)/\∃i,A i=e/\(∀r∈i,A r=1)/\i.flatten.all cO=W/\OL O1 (ao<|gP<|(Y e l).map gM) (ao i) K/\aL [33] J 30 1 i (y 4)) ⟨Zs,[],C,Zs,C,.nil,.nil⟩ ?_;rintro e y J a1 K aT p⟨D,i,m,V,ax,B,G⟩;generalize s:y 4=a4;rw[s]at G;refine ZL (λt=>?_) λf=>?_
 rotate_left 1
 .obtain rfl:e=A l:=Zo;rw[cc]at D B;have R:iU l=0:=by rw[iU,aM x,aM (en.2 λb f=>b_<|D b f)]
  have av:iK l=l.map gM:=by rw[iK,aM R]
  obtain⟨aX,rfl,ap⟩:=eG G (by rintro rfl;simp at m;omega);refine(ad<|JJ f s) ?_;rw[R,av];exact YX ap C C Zd (by rw[m,gP,bE,bE]) (B9 _) B
 have am:=O.bV l e t;have aH:((e:Int)<(A l:Int))=True:=dM Zo;have u:=aD t;have aP:=Zl (g _ u).1 (g _ u).2;have k:jD l[e]=if A (l[e]).hN<=600 then 0 else 4:=by rw[jD,aM<|aN _ u]
 have az:=O.bP l[e];have aO:Y 4 (l[e]).ds=(l[e]).ds:=dj Zo;have aI:((l[e]).ds).all cO=W:=(Pf)<|O.one _;simp only[am,aH,az,aO,aI,go_sem];refine vb _ aP ((Pc)<|Cl.bC λd ay=>O.cl l[e] d ay) λM T2 ar=>?_;obtain⟨aV,rfl,Z⟩:=aep ar;obtain⟨ak,aa,L,aR,aW,aU,rfl,rfl,an⟩:=oP.1 Z;obtain⟨rfl,rfl⟩:=mc.1 an;by_cases q:A (l[e]).hN<=600
 rotate_left 1
 .rw[aC q]at k;have U:iU l=4:=by
   rw[iU,aM x,aC];intro ae;rw[en]at ae;have j:=ae _ u;exact q (Hr j)
  have f1:(jD l[e] !=0)=W:=Yf k;exact(ad f1)<|fin _ _ (by rw[U];decide) (by rw[U,k])
 rw[aM q]at k;have f1:(jD l[e] !=0)=af:=Yf k;have aJ:gP ((Y (e+1) l).map gM)=gP ((Y e l).map gM)++[[cw<|gM l[e]]]:=by rw[dm t,bX,gP,bX];rfl
 refine(ad<|JJ f1 s)<|GK.cM (eC.eS (S:=[33]) (aq:=i) (bD:=[[.sc<|.slice ak aa L]]) al (by simp only[aw,bx,bT,bj,e7,eQ,s];exact G.aA bF) V hF Zs (by simp only[dT,fX,de,Aj,Ak];rfl) (by rw[m];simp;omega) (by rw[m];unfold aE;simp;omega) λaS a2 a3 aQ aZ=>(ZN) ?_);refine dI ⟨λb f=>?_,i++[[.sc<|.slice ak aa L]],Yr m,λr w=>?_,?_,?_,?_⟩
 .rw[dm t,ca,dg]at f;obtain f|rfl:=f
  .exact D b f
  exact q
 .rw[ca,dg]at w;obtain w|rfl:=w
  .exact V r w
  rfl
 .rw[eR,Ai,ax];rfl
 .rw[aJ,eR,eR];exact B.eS Z
 simpa[aw]using aQ.sub (S':=[33]) Zs
def ZA(a:List Ag)(t:fK a)(aO:A a<=600):dR aB 24 [.ag [cw a]] [] []<|.ag [cw a]:=by
 have U:cE aB 28=E (125,5,72):=Zk;have ak:A (a.map cr)=A a:=Zs;have ar:=λ(O:Nat)(m:O<A a)=>Zy a[O] (t _<|aD m).1 (t _<|aD m).2.1 (t _<|aD m).2.2;have an:cw a=.sl 5 (a.map cr):=C;rw[an];refine dR.ey [] [.cell 2 30] C C Zk Zt C Zs C<|(ad ak) ?_;refine⟨Zo,lp 14 (A a) [2,3,12,13] (λb V e _ x=>(∃j,e 2=E ⟨0,30,1,[j],Q⟩)/\∃w d,e 3=E ⟨0,30,1,[w],Q⟩/\aL [9,23] e 125 5 d w/\A d=b/\(∀r∈d,A r=5)/\d.flatten.all cO=W/\OL O1 (ao<|(Y b a).map cr) (ao d) x) ⟨⟨_,l4⟩,_,[],ep,aj ⟨9,0,Zs,C,C⟩,C,Zs,C,.nil⟩ ?_⟩;rintro b V e aQ x aI aN⟨⟨j,B⟩,w,d,g,q,f,J,ah,i⟩;refine ZL (λbw=>?_) λae=>?_
 .have z:=vJ a b bw;have al:((b:Int)<(A a:Int))=True:=dM Zo;have L:=ar b bw;have au:(Y (b+1) a).map cr=(Y b a).map cr++[cr a[b]]:=wH;have K:=Eb a[b];simp only[cr]at z L K;refine(ad<|JJ z al)<|dP [3,5] []<|(ad<|JJ g @jt)<|vb _ L ((Pc)<|Cl.bC K) λaJ T2 aa=>?_;obtain⟨aK,rfl,o⟩:=xD aa;have ap:=o;simp only[bm,r5,oP,mc]at o;obtain⟨_,rfl,_,rfl,_,rfl,ay,av,P,aC,_,_,rfl,rfl,az,ax,R,aF,_,_,rfl,rfl,rfl,rfl⟩:=o;refine(ad g)<|js (S:=[9,23]) (aq:=d) (bD:=[[I a[b].k,I a[b].l,I a[b].v,.sc<|.slice ay av P,.sc<|.slice az ax R]]) Zs U ((Pa)<|q.aA bF) J hF Zs C (by rw[f];show(b+1)*72<=_;omega) (by rw[f];show b+1<=aE;unfold aE;omega) (by show 23<27;decide) λaH aR aS M G=>?_;obtain⟨aM,rfl,-⟩:=eG M Zs;have F:=(G 3 Zd Zd);have D:=(G 2 Zd Zd);simp only[a_,dG,bj,dv,B,g]at F D;refine(ad F) ?_;refine dI ⟨⟨j,Yu D⟩,_,d++[_],DG,aL.aA (M.sub (S':=[9,23]) Zs) λu p=>a_ _ _<|Ys p,Yr f,λr hr=>?_,?_,?_⟩
  .rw[ca,dg]at hr;obtain hr|rfl:=hr
   .exact J r hr
   rfl
  .rw[eR,Ai,ah];rfl
  rw[au,eR,eR];exact i.eS (by simp only[dT,fX,de];exact ap)
 obtain rfl:b=A a:=Zo;rw[cc]at i;simp only[ae,B,g,go_sem];refine⟨n9 q,?_⟩;obtain⟨rfl,rfl⟩|⟨u,y,p,rfl,X⟩:=q
 .have am:a=[]:=pI.1 (by rw[<-f];rfl);subst am;obtain⟨-,ab⟩:=mc.1 i;exact Ju (us:=[]++[]) (.cons (.nil 5) .nil) (Yf ab) uV
 have Z:ai e 2 (E ⟨0,30,1,[.ms u y<|A d],Q⟩) u=E ⟨y,125,5,ao d,Q⟩:=by simp at p;rw[a_ _ _ Zo];exact X
 exact⟨_,[],.one<|.ag<|.cons (C1.rows Z C C Zd (Yx f) (λr hr=>yx) i) .nil,Ij,by simp[iw,xj]⟩
def Co(N:Nat)(n:Nat)(c:O):Prop:=c.ji n=af/\∀a∈c.uB,a<(N:Int)
theorem Qe:∀{b:cm}{e:Nat},(∀(a:Nat)(d:a<A b),b[a].ji (g1+ez a3 (e+a))=af)->O.sL a3 b e g1=af
 |[],_,_=>rfl
 |c::b,e,d=>by
  rw[O.sL,xU];refine⟨d 0<|ya _,Qe λa f=>?_⟩;have:=d (a+1)<|Yq f;exact Zg
theorem Co.mk{v:Int}{d:IL}(j:a3≠1)(r:a3=11->v<(am:Int))(l:∀e∈d,e<(am:Int))(g:∀(b:Nat)(g:b<A v1),∃f:Nat,(f:Int)=a0+ez a3 b/\Co am f v1[b]):Co am a0<|.mk a3 v d v1:=by
 refine⟨?_,λe a=>?_⟩
 .rw[O.ji,aC j];refine Qe λp o=>?_;have⟨f,i,h⟩:=g p o;rw[ew,<-i];exact h.1
 rw[O.uB,ca,ca]at a;obtain(a|a)|a:=a
 .exact Zg
 .exact l e a
 have⟨q,k,a⟩:=O.Vx.1 a;obtain⟨b,m,rfl⟩:=ec k;obtain⟨f,-,h⟩:=g b m;exact h.2 e a
theorem Co.var(a:a3<a0):Co am a0<|eh a3:=⟨by simp[eh,O.ji];omega,by simp[eh,O.uB,O.zH]⟩
theorem Co.one{v:Int}(d:a3=4\/a3=6)(a:Co am (a0+if a3=4 then 1 else 0) n5):Co am a0<|.mk a3 v [] [n5]:=by
 refine .mk Zo Zo Zs λe b=>?_
 grind [ez]
theorem Co.two{v:Int}{b:O}(a:a3=5\/a3=7)(d:Co am a0 n5)(e:Co am (a0+if a3=7 then 1 else 0) b):Co am a0<|.mk a3 v [] [n5,b]:=by
 refine .mk Zo Zo Zs λg f=>?_
 match g,f with
 |0,_=>exact⟨a0,by obtain rfl|rfl:=a<;>simp[ez],d⟩
 |1,_=>exact⟨_,by obtain rfl|rfl:=a<;>simp[ez],e⟩
theorem Co.BT:∀{q a:Nat},Co am (a+q) n5->Co am a (nw q n5)
 |0,a,b=>b
 |q+1,a,b=>Co.one (aG C) (by simp only[bx];exact Co.BT cq)
theorem Co.lets:∀{a:IL}{d:Nat},(∀(b:Nat)(e:b<A a),a[b]<(d+b:Nat))->Co am (d+A a) n5->Co am d (oF a n5)
 |[],d,_,e=>e
 |i::a,d,f,e=>by
  refine Co.two (aj C) (Co.var<|f 0<|ya _) (by
   simp only[bx];refine Co.lets (λb g=>?_) cq;have h:=f (b+1)<|Yq g;rw[jA,tA 1];simpa using h)
theorem Co.Ef:∀{l:cm}{d:O},Co am a0 d->(∀a∈l,Co am a0 a)->Co am a0 (nc d l)
 |[],_,b,_=>b
 |a::l,d,b,e=>Co.Ef (l:=l) (Co.two (aG C) b cq) λg f=>e g<|Yr f
def J0(e:Nat):∀(f:List Bool)(d a g:Nat)(h:g<A (gk e f d a)),(gk e f d a)[g]<((e+(a+g):Nat):Int)
 |[],_,_,_,h=>by simp[gk]at h
 |b::f,d,a,g,h=>by
  cases b
  .have i:gk e (af::f) d a=gk e f (d+1) a:=C;have j:=J0 e f (d+1) a g (by rw[<-i];exact h);rw[C7 i];exact j
  have i:gk e (W::f) d a=((e:Int)+a-1-d)::gk e f (d+1) (a+1):=C;rw[C7 i];cases g with
  |zero=>simp;omega
  |succ g=>
   have j:=J0 e f (d+1) (a+1) g (by rw[i]at h;simpa using h);simp only[jm];omega
theorem Co.nm(e:A be<=am)(a:bq)(d:BA):Co am (A a)<|mO be a d:=by
 unfold mO;split
 .grind [cZ,l9,Co.var,k6,List.findIdx_lt_length,List.length_reverse]
 refine .mk Zd (λ_=>?_) Zs λf b=>by simp at b
 by_cases b:0<=eV be d
 .grind [uj,fT,aa.nm,eV]
 omega
theorem Co.arg(e:A be<=am)(a:bq)(b:Int)(d:BA):Co am (A a)<|nf be a b d:=by
 grind [nf,Co.one,Co.nm]
theorem Co.wrap{f:aF}{a:bu}{b:bq}{e:Int}{d:Nat}(i:d<A a)(g:Co am (A<|iv (fM f a[d]) (fj a b) e) n5):Co am 0<|q' f a b e d n5:=by
 rw[q',bL i];simp only[eE,kx];change Co am 0 (nw (A (fM f a[d])+A (fj a b))<|oF (gk (A<|fj a b) ((fj a b).map λv=>ah<|v.l=e+1) 0 0) n5);have h:A (iv (fM f a[d]) (fj a b) e)=A (fM f a[d])+A (fj a b)+((fj a b).map λv=>ah<|v.l=e+1).count W:=by
  have:=Kp (fM f a[d]) (fj a b) e
  grind [iv,iB]
 refine Co.BT<|Co.lets (λk j=>Int.lt_of_lt_of_le (J0 (A<|fj a b) ((fj a b).map λv=>ah<|v.l=e+1) 0 0 k j) Zo) ?_;rw[E',ew,<-h];exact g
def afq{f:aF}{l:aO}(y:gT f l){i v:Int}(aa:i=9\/i=11){e:bu}{h:bq}{g:Int}(j:RC f l (.mk i v gs he hH e) h g)(a:Nat)(m:a<A e)(B:0<a):
 RC f l (ju e[a]) (iv (fM f e[a]) (fj e h) g) 0/\L.kd (ju e[a])≠10:=by
 have P:cU f l i gs he hH e h g a=h:=by
  have O:eB i a=af:=DI;rw[cU,O];rfl
 have S:ct i g=g:=by rw[ct,aC Zo]
 have ah:L.num (.mk i v gs he hH e)=L.aZ e+1:=sH;have ad:=j.l1;have ab:=j.l0;have o:=j.dh y a m;rw[P,S]at o;have q:=j.sh.dh _<|aD m;have D:=L.jw<|aD m;obtain⟨I,Z,k,K,nX,Y,hc⟩:∃F b G d h M,e[a]=.mk F b G d h M:=by cases e[a];exact⟨_,_,_,_,_,_,C⟩
 by_cases p:I=10
 .subst p;rw[hc]at q o D;obtain⟨b,rfl⟩:=q.one Zs;have X:=q.xB C;have z:=o.dh y 0 Zs;have R:cU f l 10 k K nX [b] h g 0=h++dA f k nX g:=wE;have U:ct 10 g=g:=lI;rw[R,U]at z;simp only[fA]at z;have ae:A nX<=3:=by have r:=o.tc.form.2.2.2.1;simp[jI]at r;omega
  rw[L.num,L.aZ,L.aZ]at D;have u:ju e[a]=b:=by rw[hc];simp[ju]
  have t:fM f e[a]=dA f k nX 0:=by rw[hc];simp[fM]
  rw[u,t];refine⟨RC.root z (w4 f k nX 0 g nE).1 (λx=>(w4 f k nX 0 g x).2) j.w (xR y) (λx h1 h2 s=>nA.2 ⟨s,a,m,B,?_⟩) DH,by have r:=q.case 0 Zs;simp only[fA]at r;rw[Ne,r];simp⟩;rw[E6 X]at h2;exact PG
 have V:L.kd e[a]≠10:=by rw[hc];exact p
 have t:fM f e[a]=[]:=by rw[hc];simp[fM,p]
 have u:ju e[a]=e[a]:=by rw[hc];simp[ju,p]
 rw[u,t];exact⟨RC.root (F':=[]) (by rw[de];exact o) C (λx=>C) j.w Zs (λx h1 h2 s=>nA.2 ⟨s,a,m,B,h1⟩) ch,V⟩
def XW(a:L):SizeOf.sizeOf (ju a)<=SizeOf.sizeOf a:=by
 have⟨e,v,h,ty,i,d⟩:=a;by_cases b:e=10
 .subst b;obtain _|⟨f,g⟩:=d
  .exact bJ _
  simp only[ju,bx,tu,L.mk.sizeOf_spec,List.cons.sizeOf_spec];omega
 simp only[ju,aC b,bJ]
def GV{e:aF}{ds:aO}(z:gT e ds){q:Nat}:∀(t:L)(b:bq)(d:Int)(m:Nat),RC e ds t b d->L.kd t≠10->A ds+m+L.bf t<=q->Co q (A b) (cV e ds t b d m).1/\∀l∈(cV e ds t b d m).2,Co q 0 l
 |.mk k v n t ns ks,b,d,m,o,I,ah=>by
  simp only[L.kd]at I;have ae:=Jr (k:=k) (v:=v) (n:=n) (t:=t) (ns:=ns) (ks:=ks) (m:=m);have D:=λ(i:Nat)(a:i<A ks)=>Js (k:=k) (ks:=ks) (m:=m) (i:=i+1) (j:=A ks) Zo<|bJ _;have F:=λ(i:Nat)(a:i<A ks)=>yQ (k:=k) (ks:=ks) (m:=m) a;by_cases w:k=1
  .subst w;have ab:=o.sh.zero C;subst ab;rw[GQ,tj,aC I,aM C];exact⟨Co.nm Zo b n,Zs⟩
  by_cases p:k=9\/k=11
  .have y:0<A ks:=by have aa:=o.sh.len;obtain rfl|rfl:=p<;>simp[bY,dw]at aa<;>omega
   rw[Wi p];have u:Co q (A b) (pb e ds k n t ns ks b d m 0).1/\∀l∈(pb e ds k n t ns ks b d m 0).2,Co q 0 l:=by
    have s:=o.dh z 0 y;have X:cU e ds k n t ns ks b d 0=b:=by
     have V:eB k 0=af:=DI;rw[cU,V];rfl
    have Y:ct k d=d:=by rw[ct,aC Zo]
    rw[X,Y]at s;rw[Ri p y];exact GV z ks[0] b d m s (by rw[Ne,o.sh.case 0 y];omega) (by have w:=F 0 y;have g:=D 0 y;rw[Ey]at w;omega)
   have a:=λ(i:Nat)(a:i<A ks)(u:0<i)=>(afq z p o i a u);have B:∀(i:Nat)(o:i<A ks),0<i->Co q (A<|iv (fM e ks[i]) (fj ks b) d) (pb e ds k n t ns ks b d m i).1/\∀l∈(pb e ds k n t ns ks b d m i).2,Co q 0 l:=λi x u=>by
    have⟨s,Z⟩:=a i x u;have K:=QQ (ds:=ds) (o.sh.dh _<|aD x) (iv (fM e ks[i]) (fj ks b) d) 0<|iV k ks m i+1;have w:f' k i=1:=by rw[pB,aM ⟨p,u⟩]
    rw[Rj p u x,K.1];exact GV z (ju ks[i]) _ 0 _ s Z (by have g:=F i x;have g:=D i x;rw[<-K.2.1];omega)
   refine⟨Co.Ef (Co.mk yp (λh=>by split at h<;>omega) (λP J=>?_) λi a=>?_) λP J=>?_,λl f=>?_⟩
   .obtain⟨i,a,rfl⟩:=aP.1 J;have M:=List.mem_range'_1.1 a;have w:f' k i=1:=by rw[pB,aM ⟨p,Zo⟩]
    have g:=F i Zo;have g:=D i Zo;omega
   .have g:i=0:=by simpa using a
    subst g;exact⟨_,by split<;>simp[ez],u.1⟩
   .obtain⟨ad,-,rfl⟩:=aP.1 J;exact Co.arg Zo b d ad
   have⟨r,s,f⟩:=eL.1 f;obtain⟨i,a,rfl⟩:=aP.1 s;have a:=oo.1 a;rw[pX,ca]at f;by_cases G:0<i
   .rw[aM ⟨p,G⟩,dg]at f;obtain rfl|f:=f
    .exact Co.wrap a (B i a G).1
    exact(B i a G).2 l f
   have g:i=0:=Zo;subst g;rw[aC λh=>G h.2]at f;simp only[dt,Dm]at f;exact u.2 l f
  rw[CK I w p];have B (i:Nat) (a:i<A ks):∃h:Nat,(h:Int)=A b+ez k i/\Co q h (j_ e ds k n t ns ks (ks.map L.bf) (ks.map<|cV e ds) b d m i).1/\∀l∈(j_ e ds k n t ns ks (ks.map L.bf) (ks.map<|cV e ds) b d m i).2,Co q 0 l:=by
   have s:=o.dh z i a;have O:=eo A<|Tp o.sh o.ty i;rw[bE,b9,bE]at O;rw[zX a λh=>p h.1];refine⟨A<|cU e ds k n t ns ks b d i,?_,GV z ks[i] _ _ _ s (by rw[Ne,o.sh.case i a];omega) ?_⟩
   .rw[O];unfold cW ez;split
    .simp
    simp
   have g:=F i a;have g:=D i a;show A ds+iV k ks m i+_<=q;omega
  refine⟨Co.mk w (λh=>absurd (aj h) p) Zs λi a=>?_,λl f=>?_⟩
  .have M:i<A ks:=by simpa using a
   obtain⟨h,R,S,-⟩:=B i M;exact⟨h,R,by rw[fk,Ao];exact S⟩
  have⟨r,s,f⟩:=eL.1 f;obtain⟨i,a,rfl⟩:=aP.1 s;obtain⟨h,-,-,U⟩:=B i<|oo.1 a;exact U l f
decreasing_by
 all_goals first
  |(have g:=fl (aD y);simp;omega)
  |(have g:=fl (aD x);have g:=XW ks[i];simp;omega)
  |(have g:=fl (aD a);simp;omega)
def KJ{V:aF}{ds:aO}(D:(bH.mk V ds).sz<=1048576)(u:(bH.mk V ds).ok)(g:fO V ds=0):Ht V ds:=by
 have z:gU V ds=0:=by
  by_cases a:gU V ds=0
  .exact a
  rw[fO,aM a]at g;exact g
 have h:=sV<|vj z;have k:=p' (p0 h) u;have i:=Ep g;obtain⟨-,-,y,-⟩:=KK g D u;have L:=RE<|p0 h;have M:A (cJ V ds)=A ds+kE (ds.map aa.bd) (A ds):=by
  rw[<-QJ];exact QK (λd t=>(k.rc t<|nR.tp h d t).sh) (bJ _)
 have K:A (iq V ds (ds.map aa.bd) 0)=A ds:=DJ;have o a (b:a∈cJ V ds):Co (A<|cJ V ds) 0 a:=by
  have w:∀(j:Nat)(f:j<A (iq V ds (ds.map aa.bd) 0)),Co (A<|cJ V ds) 0 ((iq V ds (ds.map aa.bd) 0)[j]).1/\∀a∈((iq V ds (ds.map aa.bd) 0)[j]).2,Co (A<|cJ V ds) 0 a:=λj f=>by
   have p:j<A ds:=Zo;have m:=Eo (V:=V) (ds:=ds) (ds.map aa.bd) 0 j (by rw[bE];exact p);rw[bL f,eH,fk,ew]at m;rw[m];have q:=aD p;have x:=En (ts:=ds.map aa.bd) (j:=j) (by rw[bE];exact p);rw[fk]at x;have B e:j+1<=e->e<=A ds->kE (ds.map aa.bd) (j+1)<=kE (ds.map aa.bd) e:=by
    induction e with
    |zero=>omega
    |succ e F=>
     intro m J;by_cases G:j+1=e+1
     .rw[G];exact bJ _
     have l:=F Zo Zo;rw[En (ts:=ds.map aa.bd) (j:=e) yr];omega
   have l:=B (A ds) Zo<|bJ _;exact GV k.pg (aa.bd ds[j]) [] 0 _ (k.rc q<|nR.tp h _ q) (k.bd _ q).2.1 Zo
  rw[cJ]at b;obtain b|b:=ca.1 b
  .obtain⟨I,s,rfl⟩:=aP.1 b;obtain⟨j,f,rfl⟩:=ec s;exact(w j f).1
  have⟨r,C,b⟩:=eL.1 b;obtain⟨I,s,rfl⟩:=aP.1 C;obtain⟨j,f,rfl⟩:=ec s;exact(w j f).2 a b
 refine⟨λa b=>⟨WI<|i.2 a b,(o a b).1,?_,(y a b).2⟩,Zo,?_⟩
 .have l:=i.2 a b;simp only[O.valid,cy,ee]at l;exact l.2.2
 rw[u6,cy,ee,en];refine⟨⟨Zo,i.1⟩,λa b=>?_⟩;rw[i.2 a b,show a.ji 0=af from(o a b).1,Lt.2 (o a b).2];rfl
def GK.tf{s:St}(t V:Nat){am:Option Addr}{n u ad:Nat}{p:cB}{F:ax}{K:cf}(G:s.T.Perm (⟨.slice am n u,.sl ad p,F⟩::K))(B:p≠[])(he:s.env V=.sc (.slice am n u))
 (aI:∀H aO l m an al,H t=E ⟨l,m,ad,an,Q⟩->OL O1 (ao p) an al->(∀P,P≠t->H P=s.H P)->GK c2 {s with env:=aw s.env V (.ms t l<|A p),H:=H,n:=aO,T:=al++K}):GK c2 s:=by
 intro ah z l ac ae g;obtain⟨aq,ab⟩:=g.tree _<|G.mem_iff.2<|MO;simp only at aq ab;cases aq with
 |nil=>exact absurd C B
 |gv=>exact absurd C B
 |sl _ _ b aS aP m us ak aJ ar aN aA aT aL U aD=>
 obtain⟨T,aF,aH,ap⟩:=Lf (ao p) us ak aD;have aa:∀a,a∈b::(cz<|A<|ao p).flatMap ak↔a=b\/a∈bl T:=λa=>Yx ap;have au:∀a,z a↔ah.M a\/(a=b\/a∈bl T)\/∃m∈K,a∈m.F:=λa=>by
  rw[g.mm a];refine Dn sj ⟨λ⟨m,he,x⟩=>?_,λq=>?_⟩
  .obtain rfl|he:=cF.1<|G.mem_iff.1 he
   .exact aG<|(aa a).1 x
   exact aj ⟨m,he,x⟩
  obtain q|⟨m,he,x⟩:=q
  .exact⟨_,G.mem_iff.2 MO,(aa a).2 q⟩
  exact⟨m,G.mem_iff.2<|mo _ he,x⟩
 have R:z b:=(au b).2<|aj<|aG<|aG C;have az:=ab b Zs;have ay:(b::(bl T++bl K)).Nodup:=by
  have Y:=(G.flatMap_right (·.F)).nodup_iff.1 g.nd;rw[tq]at Y;simpa[ap,bl]using Y
 have x:(aR ae z l s.n).Ext<|aR ae (λa=>z a/\a≠b) (ai (ai l t Q) t<|some (s.n t,b,u))<|eP s.n t:=by
  refine⟨λy aV P e=>⟨fD (eW e) (λq=>(dQ e).1 q.1) λr a w q=>?_,ku⟩,λk=>Q0 _ _ k,λr a y w aM q=>?_⟩
  .by_cases f:r=t
   .subst f;rw[bN]at q;cases q;exact(dQ e).1 R
   rw[a_ _ _ f,a_ _ _ f]at q;exact(dQ e).2 _ _ _ q
  have q:ai (ai l t Q) t (E (s.n t,b,u)) r=E (a,y,w):=q;by_cases f:r=t
  .subst f;rw[bN]at q;cases q;exact absurd aM (Nat.lt_irrefl _)
  rw[a_ _ _ f,a_ _ _ f]at q;exact q
 have J:∀r Z,r≠t->ai (ai l t Q) t (E (s.n t,b,u)) r=E Z->l r=E Z:=λr Z f q=>by rwa[a_ _ _ f,a_ _ _ f]at q
 refine aI (ai (ai s.H t Q) t<|some ⟨s.n t,m,ad,_,Q⟩) (eP s.n t) (s.n t) m _ T (bN _ _ _) aF (λP U=>by rw[a_ _ _ U,a_ _ _ U]) ah (λa=>z a/\a≠b) (ai (ai l t Q) t<|some (s.n t,b,u)) ac ae<|⟨g.defers,g.size,λk=>?_,λj aB I=>?_,λj a y w e=>?_,λt1 t2 a y w aW aQ e X=>?_,g.below,λa e=>⟨(g.m0 a e.1).1,λj Z w q=>?_⟩,λa=>?_,g.zm,λi h=>?_,?_,g.og.ext x,g.wm⟩
 .by_cases D:k=V
  .subst D;have B:=g.env k;rw[he]at B;generalize ac.tmps.getD k eX=v at B;cases B;show Rd _ (aw s.env k (.ms t (s.n t)<|A p) k) _;simp only[aw,bx];exact .ms t (s.n t) _ _ _ ⟨rr,ar⟩ λy w e=>by
    have e:ai (ai l t Q) t (E (s.n t,b,u)) t=E (s.n t,y,w):=e;rw[bN]at e;cases e;exact⟨C,C⟩
  show Rd _ (aw s.env V (.ms t (s.n t)<|A p) k) _;simp only[aw,aC D];exact(g.env k).mono x
 .have I:ai (ai s.H t Q) t _ j=E aB:=I;by_cases f:j=t
  .subst f;rw[bN]at I;cases I;refine⟨by show s.n j<eP s.n j j;rw[wO];omega,b,u,aP,by show ai _ j _ j=_;rw[bN],.of aJ C,λ_=>aA,aN,?_,λk d L=>?_⟩
   .have Y:=iY aL;simp only[bE,length_range];rw[Y,aA];exact wy _ ar
   simp only[fP]at L;by_cases D:k<A (ao p)
   .rw[xZ D]at L;cases L;exact⟨_,U k _<|bL D,.sc _⟩
   rw[sq<|Yq D]at L;cases L
  rw[a_ _ _ f,a_ _ _ f]at I;refine(g.obj j aB I).mono x λa y w e=>⟨?_,C⟩;show ai (ai l t Q) t _ j=_;rw[a_ _ _ f,a_ _ _ f];exact e
 .by_cases f:j=t
  .subst f;rw[bN]at e;cases e;exact⟨az,(g.m0 b R).1⟩
  exact g.base _ _ _ _<|J _ _ f e
 .by_cases S:t1=t
  .by_cases O:t2=t
   .rw[S,O]
   subst S;rw[bN]at e;cases e;exact absurd (J _ _ O X)<|(g.m0 b R).2 _ _ _
  by_cases O:t2=t
  .subst O;rw[bN]at X;cases X;exact absurd (J _ _ S e)<|(g.m0 b R).2 _ _ _
  exact g.inj _ _ _ _ _ _ _ (J _ _ S e)<|J _ _ O X
 .by_cases f:j=t
  .subst f;rw[bN]at q;cases q;exact e.2 C
  exact(g.m0 a e.1).2 _ _ _<|J _ _ f q
 .show z a/\a≠b↔ah.M a\/∃i∈T++K,a∈i.F;rw[au a];have av:=(lg.1 ay).1;constructor
  .rintro⟨q|(q|q)|⟨i,h,o⟩,aK⟩
   .exact aG q
   .exact absurd q aK
   .obtain⟨i,h,o⟩:=k8.1 q;exact aj ⟨i,gf _ h,o⟩
   exact aj ⟨i,gq _ h,o⟩
  rintro(q|⟨i,h,o⟩)
  .exact⟨aG q,by rintro rfl;exact g.zm _ q az⟩
  obtain h|h:=ca.1 h
  .exact⟨aj<|aG<|aj<|k8.2 ⟨i,h,o⟩,by rintro rfl;exact av (gf _ (k8.2 ⟨i,h,o⟩))⟩
  exact⟨aj<|aj ⟨i,h,o⟩,by rintro rfl;exact av (gq _ (k8.2 ⟨i,h,o⟩))⟩
 .obtain h|h:=ca.1 h
  .exact⟨aH i h,λa o=>ab a<|(aa a).2<|aj<|k8.2 ⟨i,h,o⟩⟩
  exact g.tree i<|G.mem_iff.2<|mo _ h
 show((T++K).flatMap (·.F)).Nodup;rw[MH];exact(lg.1 ay).2
theorem OL.tree(b:OL O1 a9 g6 i3):∀{a:Nat},a9[a]?=E (.sl am ip)->∃f∈i3,f.d=.sl am ip/\g6[a]?=E (.sc f.u):=by
 induction b with
 |nil=>intro a b;simp at b
 |@cons d k i3 a9 g6 j b _ l=>
  intro a e;cases a with
  |zero=>
   simp only[MJ,eH]at e;subst e;cases b with|sl _ _ g i h F=>exact⟨⟨.slice g i h,.sl am ip,F⟩,Zs,C,C⟩
  |succ a=>
   exact Zg
def YV{v:aN}:mF [] [] (.tp [.sl 1 [],.ag [.sl 5 []],.sc v]) bv<|.tp [bp,.ag [bp],.sc v]:=
 ⟨[]++(([]++[])++([]++[])),bv.T,.tp<|.cons (.one<|.nil 1)<|.cons (.ag<|.cons (.nil 5) .nil)<|.cons (.one<|.sc v) .nil,by simp[i7,fp],uV⟩
def YU{v:aN}{ob:Ob}{T1 T2:cf}(i:bv.H am=E ob)(d:ob.gen=a0)(j:ob.sz=a4)(k:0<a4)(g:a2=A ip)(f:∀r∈ip,A r=a4)(h:OL O1 (ao ip) ob.cells T1)(a:OL O1 a9 g6 T2)(b:bv.T=T1++T2)(e:ob.keys=Q):
 mF [] [] (.tp [.sl a4 ip,.ag a9,.sc v]) bv (.tp [.ms am a0 a2,.ag g6,.sc v]):=
 ⟨_,[],.tp<|.cons (.one<|C1.rows i d j k g f h e)<|.cons (.ag a.cl)<|.cons (.one<|.sc v) .nil,by simp[i7,fp,BJ,BK,b],by simp[iw,BM,xj]⟩
theorem Zj{e:aF}{a:aO}(s:(bH.mk e a).sz<=1048576)(q:(bH.mk e a).ok):dR aB 7 [.ag [ae.sl e,aa.sl a]] [] []<|pY e a:=by
 have w:=adm s q;have a6:Cl<|.ag [.sl 2<|ae.ab e,.sl 12<|aa.ab a]:=Cl.bC da;have M:ae.sl e=.sl 2 (ae.ab e):=C;have P:aa.sl a=.sl 12 (aa.ab a):=C;rw[M,P]at w⊢;generalize t:(if fO e a=0 then cJ e a else[])=B;rw[t,show O.sl B=.sl 4 (O.ab B)from C]at w;have fin:∀(al:St)(f:Int),lL e a=f->f≠0->mF [] [] (pY e a) al (.tp [bp,.ag [bp],I f]):=λal f ar aL=>by
  rw[Rz ar aL];exact YV
 refine dR.ey [1000036] [.tmp 2,.cell 3 30,.tmp 4] C C Zk Zt C Zs C<|(ZN)<|bR _ w (by(grind)) ?_;by_cases g:fO e a=0
 case neg=>
  have f0:(fO e a !=0)=W:=Yr g;exact(ad f0)<|fin _ _ (by rw[lL,aC g]) g
 rw[aM g]at t;subst t;have p:=KJ s q g;obtain⟨aR,az,-⟩:=KK g s q;have U:=adE s q aR az;rw[M,P]at U;have f0:(fO e a !=0)=af:=Yr g;refine(ad f0)<|bR _ U (by(grind)) ?_;by_cases G:eV a nz<0
 .simp only[aM G,go_sem]
  grind [lL]
 have aH:=(Ep g).2;have S:=Zi (l:=cJ e a) (λF R=>⟨p.c F R,aH F R⟩) p.b;rw[show O.sl (cJ e a)=.sl 4 (O.ab<|cJ e a)from C]at S;have ax:lL e a=iU (cJ e a):=by(grind [lL])
 simp only[aC G,go_sem];refine vb _ S (by simp only[aY,de,cF,dt,gD,kg];exact Cl.bC ((Pb)<|O.db _)) λk aX au=>?_;obtain⟨ba,a7,a_,aU,rfl,rfl⟩:=aeq au;by_cases o:iU (cJ e a)=0
 rotate_left 1
 .have f1:(iU (cJ e a) !=0)=W:=by simp[o]
  exact(ad f1)<|fin _ _ ax o
 have f1:(iU (cJ e a) !=0)=af:=Yr o;obtain⟨f,i,m,-⟩:=uj (show 0<=fT (λd=>ah<|aa.nm d=nz) a by(grind [eV,nz]));have aP:eV a nz=(f:Int):=m;have a5:iK (cJ e a)=(cJ e a).map gM:=by rw[iK,aM o]
 have aN:f<A (cJ e a):=iR i p.l;have V:A (gP<|iK<|cJ e a)=A (cJ e a):=by(grind [gP,List.length_map])
 have aI:(gP<|iK<|cJ e a)[f]?=E [cw<|gM (cJ e a)[f]]:=by(grind [gP])
 have aA:(ao<|gP<|iK<|cJ e a)[f]?=E (cw<|gM (cJ e a)[f]):=by
  have aT:=mJ (B9<|iK<|cJ e a) aI (j:=0) C;simpa using aT
 have Y:=JE<|p.c _<|aD aN;have ay:=ZA _ Y.1 Y.2;have aK:((f:Int)<(A (cJ e a):Int))=True:=dM Zo;have aS:pY e a=.tp [.sl 1<|gP<|iK<|cJ e a,.ag [cw<|gM (cJ e a)[f]],I 0]:=by
  grind [lL,pY,tV,sU]
 rw[aP,aS];refine(ad f1)<|GK.tf 1200 8 (Hc _) (λa'=>cq) fR λaW a9 ap k K aZ z D am=>GK.cM ?_;obtain⟨y,t1,t2,t3⟩:=D.tree aA;have an:=(am 3 Zd).trans (show _=E _ by simp[ai];rfl);obtain⟨r,t4⟩:∃r,K.drop f=.sc y.u::r:=by
  obtain⟨aq,k⟩:=dX.1 t3;exact⟨_,by rw[ml aq,k]⟩
 simp only[V,aK,z,t4,h_,q_,go_sem];refine Q' [.ag [y.d]] _ ((Yy t2) ay) C (λbd Z=>?_) ?_
 .simp only[aY,de,rb,re,dg]at Z;subst Z;exact .ag _ _ C λak d k m i=>by
   cases ak with
   |zero=>simp at m i;subst m;subst i;exact .tr y (Yr t1)
   |succ ak=>simp at m
 intro a2 T2 av;obtain⟨a4,rfl,X⟩:=xD av;have aQ:=X;obtain⟨bb,a8,a1,aV,a3,a0,rfl,rfl,i⟩:=oP.1 X;obtain⟨rfl,rfl⟩:=mc.1 i;refine(ad an) ?_;exact YU (ob:=⟨ap,k,1,K,Q⟩) (by simp[ai];exact z) C C Zd V.symm (B9 _) D aQ C C
end
end Go.Fw
namespace Go.Proofs.YtblbcplhbjkkjaaGreat
noncomputable section
section
open Go.Fw Go.ChangeShapes
def J.oO:∀{a:List J},(∀c∈a,c.ok)->J.gZ a
 |[],_=>by simp[J.gZ]
 |c::a,b=>by simp only[J.gZ];exact⟨b c Zs,J.oO λd e=>b d (by simp[e])⟩
def J.dec:∀n,ef aB n 74 J.ds J.ok
 |0=>λenc a m A p o f B r g=>by
  obtain⟨D,k,rfl,_⟩:=DataW.trod_struct underlying74 g;omega
 |n+1=>λenc a m A p o f B r g=>by
  obtain⟨D,k,rfl,_,q,j,h⟩:=DataW.trod_struct underlying74 g;have i:k<=n:=Zo;obtain⟨b,F,x⟩:=ef.field (ef.int underlying2) i (h 0 _ C) (by simp[j]);have t:kh (V0 a) [I b] f 0:=x;obtain⟨d,s,y⟩:=ef.field (ef.str underlying9) i (h 1 _ C) (by simp[j]);have u:kh (V0 a) [S d] f 1:=y;obtain⟨e,l,z⟩:=ef.field (ef.mono (ef.slice (sz:=3) underlying72 Zk Zd J.bP (J.dec n)) (oq _)) i (h 2 _ C) (by simp[j]);have w:kh (V0 a) [J.sl e] f 2:=by simpa[J.sl,J.cu]using z
  refine⟨.mk b d e,(by simp only[J.ok];exact⟨s,l.1,J.oO l.2⟩),.of (by rw[J.bP,q,show aB.cellsOf 74=3 by kernel_rfl]) ?_⟩;rw[show J.ds (.mk b d e)=[I b]++([S d]++([J.sl e]))by first|(simp[J.ds];done)|simp[J.ds,J.sl]];exact t.append (u.append (w) (by first|rfl|simp[J.bP])) (by first|rfl|simp[J.bP])
def aJ.oO{a:List aJ}(d:∀b∈a,b.ok):aJ.gZ a:=d
def aJ.dec:∀n,ef aB n 188 aJ.ds aJ.ok
 |0=>λenc d l x o m e y q f=>by
  obtain⟨z,j,rfl,_⟩:=DataW.trod_struct underlying188 f;omega
 |n+1=>λenc d l x o m e y q f=>by
  obtain⟨z,j,rfl,_,p,i,g⟩:=DataW.trod_struct underlying188 f;have h:j<=n:=Zo;obtain⟨a,r,u⟩:=ef.field (ef.str underlying9) h (g 0 _ C) (by simp[i]);have s:kh (V0 d) [S a] e 0:=u;obtain⟨b,k,w⟩:=ef.field (ef.mono (ef.slice (sz:=3) underlying72 Zk Zd J.bP (J.dec n)) (oq _)) h (g 1 _ C) (by simp[i]);have t:kh (V0 d) [J.sl b] e 1:=by simpa[J.sl,J.cu]using w
  refine⟨.mk a b,(by simp only[aJ.ok];exact⟨r,k.1,J.oO k.2⟩),.of (by rw[aJ.bP,p,show aB.cellsOf 188=2 by kernel_rfl]) ?_⟩;rw[show aJ.ds (.mk a b)=[S a]++([J.sl b])by first|(simp[aJ.ds];done)|simp[aJ.ds,aJ.sl]];exact s.append (t) (by first|rfl|simp[J.bP])
def ae.oO{a:List ae}(d:∀b∈a,b.ok):ae.gZ a:=d
def ae.dec:∀n,ef aB n 70 ae.ds ae.ok
 |0=>λenc d l x o m e y q f=>by
  obtain⟨z,j,rfl,_⟩:=DataW.trod_struct underlying70 f;omega
 |n+1=>λenc d l x o m e y q f=>by
  obtain⟨z,j,rfl,_,p,i,g⟩:=DataW.trod_struct underlying70 f;have h:j<=n:=Zo;obtain⟨a,r,u⟩:=ef.field (ef.str underlying9) h (g 0 _ C) (by simp[i]);have s:kh (V0 d) [S a] e 0:=u;obtain⟨b,k,w⟩:=ef.field (ef.mono (ef.slice (sz:=2) underlying68 Zk Zd aJ.bP (aJ.dec n)) (oq _)) h (g 1 _ C) (by simp[i]);have t:kh (V0 d) [aJ.sl b] e 1:=by simpa[aJ.sl,aJ.cu]using w
  refine⟨.mk a b,(by simp only[ae.ok];exact⟨r,k.1,aJ.oO k.2⟩),.of (by rw[ae.bP,p,show aB.cellsOf 70=2 by kernel_rfl]) ?_⟩;rw[show ae.ds (.mk a b)=[S a]++([aJ.sl b])by first|(simp[ae.ds];done)|simp[ae.ds,ae.sl]];exact s.append (t) (by first|rfl|simp[aJ.bP])
def L.oO:∀{a:List L},(∀c∈a,c.ok)->L.gZ a
 |[],_=>by simp[L.gZ]
 |c::a,b=>by simp only[L.gZ];exact⟨b c Zs,L.oO λd e=>b d (by simp[e])⟩
def L.dec:∀n,ef aB n 78 L.ds L.ok
 |0=>λenc a r V t s b X w m=>by
  obtain⟨Y,o,rfl,_⟩:=DataW.trod_struct underlying78 m;omega
 |n+1=>λenc a r V t s b X w m=>by
  obtain⟨Y,o,rfl,_,u,f,d⟩:=DataW.trod_struct underlying78 m;have e:o<=n:=Zo;obtain⟨g,Z,K⟩:=ef.field (ef.int underlying2) e (d 0 _ C) (by simp[f]);have z:kh (V0 a) [I g] b 0:=K;obtain⟨h,aa,M⟩:=ef.field (ef.int underlying2) e (d 1 _ C) (by simp[f]);have A:kh (V0 a) [I h] b 1:=M;obtain⟨i,x,O⟩:=ef.field (ef.str underlying9) e (d 2 _ C) (by simp[f]);have B:kh (V0 a) [S i] b 2:=O;obtain⟨j,y,P⟩:=ef.field (J.dec n) e (d 3 _ C) (by simp[f]);have D:kh (V0 a) j.ds b 3:=P;obtain⟨k,p,R⟩:=ef.field (ef.mono (ef.slice (sz:=1) underlying75 Zk Zd (λ_=>C) (ef.str underlying9)) (oq _)) e (d 4 _ C) (by simp[f]);have F:kh (V0 a) [bG k] b 6:=R;obtain⟨l,q,U⟩:=ef.field (ef.mono (ef.slice (sz:=8) underlying76 Zk Zd L.bP (L.dec n)) (oq _)) e (d 5 _ C) (by simp[f]);have G:kh (V0 a) [L.sl l] b 7:=by simpa[L.sl,L.cu]using U
  refine⟨.mk g h i j k l,(by simp only[L.ok];exact⟨x,y,p.1,p.2,q.1,L.oO q.2⟩),.of (by rw[L.bP,u,show aB.cellsOf 78=8 by kernel_rfl]) ?_⟩;rw[show L.ds (.mk g h i j k l)=[I g]++([I h]++([S i]++(j.ds++([bG k]++([L.sl l])))))by first|(simp[L.ds];done)|simp[L.ds,L.sl]];exact z.append (A.append (B.append (D.append (F.append (G) (by first|rfl|simp[L.bP,J.bP])) (by first|rfl|simp[L.bP,J.bP])) (by first|rfl|simp[L.bP,J.bP])) (by first|rfl|simp[L.bP,J.bP])) (by first|rfl|simp[L.bP,J.bP])
def aa.oO{a:List aa}(d:∀b∈a,b.ok):aa.gZ a:=d
def aa.dec:∀n,ef aB n 80 aa.ds aa.ok
 |0=>λenc a l B o m f D q g=>by
  obtain⟨F,k,rfl,_⟩:=DataW.trod_struct underlying80 g;omega
 |n+1=>λenc a l B o m f D q g=>by
  obtain⟨F,k,rfl,_,p,j,h⟩:=DataW.trod_struct underlying80 g;have i:k<=n:=Zo;obtain⟨b,r,y⟩:=ef.field (ef.str underlying9) i (h 0 _ C) (by simp[j]);have u:kh (V0 a) [S b] f 0:=y;obtain⟨d,s,z⟩:=ef.field (J.dec n) i (h 1 _ C) (by simp[j]);have w:kh (V0 a) d.ds f 1:=z;obtain⟨e,t,A⟩:=ef.field (L.dec n) i (h 2 _ C) (by simp[j]);have x:kh (V0 a) e.ds f 4:=A;refine⟨.mk b d e,(by simp only[aa.ok];exact⟨r,s,t⟩),.of (by rw[aa.bP,p,show aB.cellsOf 80=12 by kernel_rfl]) ?_⟩;rw[show aa.ds (.mk b d e)=[S b]++(d.ds++(e.ds))by first|(simp[aa.ds];done)|simp[aa.ds,aa.sl]];exact u.append (w.append (x) (by first|rfl|simp[L.bP,J.bP])) (by first|rfl|simp[L.bP,J.bP])
def bH.dec:∀n,ef aB n 25 bH.ds bH.ok
 |0=>λenc d m x p o e y r f=>by
  obtain⟨z,j,rfl,_⟩:=DataW.trod_struct underlying25 f;omega
 |n+1=>λenc d m x p o e y r f=>by
  obtain⟨z,j,rfl,_,q,i,g⟩:=DataW.trod_struct underlying25 f;have h:j<=n:=Zo;obtain⟨a,k,u⟩:=ef.field (ef.mono (ef.slice (sz:=2) underlying22 Zk Zd ae.bP (ae.dec n)) (oq _)) h (g 0 _ C) (by simp[i]);have s:kh (V0 d) [ae.sl a] e 0:=by simpa[ae.sl,ae.cu]using u
  obtain⟨b,l,w⟩:=ef.field (ef.mono (ef.slice (sz:=12) underlying23 Zk Zd aa.bP (aa.dec n)) (oq _)) h (g 1 _ C) (by simp[i]);have t:kh (V0 d) [aa.sl b] e 1:=by simpa[aa.sl,aa.cu]using w
  refine⟨.mk a b,(by simp only[bH.ok];exact⟨k.1,ae.oO k.2,l.1,aa.oO l.2⟩),.of (by rw[bH.bP,q,show aB.cellsOf 25=2 by kernel_rfl]) ?_⟩;rw[show bH.ds (.mk a b)=[ae.sl a]++([aa.sl b])by first|(simp[bH.ds];done)|simp[bH.ds,bH.sl]];exact s.append (t) (by first|rfl|simp[ae.bP,aa.bP])
end
end
end Go.Proofs.YtblbcplhbjkkjaaGreat
namespace Go.Proofs.YtblbcplhbjkkjaaGreat.fnExactCompileMain
noncomputable section
abbrev iH:=Rows.fnExactCompileMainRow
abbrev AB:=Rows.fnExactCompileMainSpec
noncomputable abbrev Hz:=f3.params.toList
noncomputable abbrev yl:=f3.resultTypes.toList
abbrev yk:=Hz++AB.plain.varTypes aB
variable {z9:Bool}
def iJ{b:Bool}(a:z9=W)(d:b=W):(z9&&b)=W:=by rw[a,d];rfl
def j0:iH.wf (OpenSpec.ofChange AB)=W:=by kernel_rfl
def j1:laidOutB aB=W:=by kernel_rfl
def j2:mapsRowed aB=W:=by kernel_rfl
def j3:f3.params.all (aB.readableRec ·)=W:=by kernel_rfl
def j4:namedTie aB iH.named AB.vars=W:=by kernel_rfl
def j5:(iH.stops==[])=W:=by kernel_rfl
def j6:(aB.stops==[])=W:=by kernel_rfl
def j7:(iH.knobs==[])=W:=by kernel_rfl
def j8:(aB.stopKnobs==[])=W:=by kernel_rfl
def j9:(iH.inPlace==aB.inPlace 3)=W:=by kernel_rfl
def abT:(iH.unfollowed==aB.unfollowed 3)=W:=by kernel_rfl
def abU:(iH.recurses==aB.recurses 3)=W:=by kernel_rfl
def abV:(iH.named==aB.varsNamed 3)=W:=by kernel_rfl
def abW:(iH.maps==yk.any (aB.mapsRec ·))=W:=by kernel_rfl
def abX:(iH.ifaces==yk.any (aB.ifacesRec ·))=W:=by kernel_rfl
def abY:(iH.mapsOut==aB.mapsAmong yl)=W:=by kernel_rfl
def abZ:(iH.loops==yk.any (aB.loopsFrom ·))=W:=by kernel_rfl
def ab0:(iH.wideKeys==(yk++yl).any (aB.wideKeysFrom ·))=W:=by kernel_rfl
def ab1:AB.vars.all (aB.varReadable ·)=W:=by kernel_rfl
def ab2:f3.resultTypes.all (λa=>aB.readableRec a&&decide (a<aB.types.size))=W:=by kernel_rfl
def ab3:(iH.ifacesOut==yl.any (aB.ifacesRec ·))=W:=by kernel_rfl
def ab4:(iH.loopsOut==yl.any (aB.loopsFrom ·))=W:=by kernel_rfl
def ab5:(iH.plainKeys==aB.plainKeys)=W:=by kernel_rfl
def ab6:iH.shortTexts.isNone=W:=by kernel_rfl
def ab7:aB.stopsHeard=W:=by kernel_rfl
def ab8:aB.mayEnter=W:=by kernel_rfl
def ab9:(iH.lifted==aB.liftsFinal)=W:=by kernel_rfl
def aca:(aB.make==E iH.make)=W:=by kernel_rfl
def acb:(iH.kinds==(if iH.domain.isEmpty then[]else Hz.map λb=>match aB.underlying b with|some (.int a)=>E a|_=>Q))=W:=by kernel_rfl
def BO:(iH.pinned==iH.pinnedBy)=W:=by kernel_rfl
def acd:(iH.veiled==(yk++yl).any (aB.veiledRec ·))=W:=by kernel_rfl
def ace:iH.veiledFits aB Hz (yk++yl)=W:=by kernel_rfl
def acf:joinedFacts aB 3 f3 AB iH=W:=(iJ (iJ (iJ (iJ (iJ (iJ (iJ (iJ (iJ (iJ (iJ (iJ (iJ (iJ (iJ (iJ (iJ (iJ (iJ (iJ (iJ (iJ (iJ (iJ (iJ (iJ (iJ (iJ (iJ (iJ (iJ j0 j1) j2) j3) j4) j5) j6) j7) j8) j9) abT) abU) abV) abW) abX) abY) abZ) ab0) ab1) ab2) ab3) ab4) ab5) ab6) ab7) ab8) ab9) aca) acb) BO) acd) ace)
def adY:aB.funcNamed iH.func=E 3:=by kernel_rfl
def abN:f3.isInstance aB iH.origin iH.targs:=Hr (by kernel_rfl)
def aiw:f3.isWrapper aB iH.wrapper iH.mainSum:=by unfold Func.isWrapper;first|(rw[aM (by decide+kernel)];kernel_rfl)|(rw[aC (by decide+kernel)];exact⟨C,C⟩)
end
end Go.Proofs.YtblbcplhbjkkjaaGreat.fnExactCompileMain
namespace Go.Fw
noncomputable section
open Classical
attribute [local irreducible] St.put
abbrev cI:Int->Nat:=λ_=>1
abbrev mI:Int->Int->DL:=λ_ k=>[I k]
abbrev cP:Pt->Nat:=λ_=>2
abbrev mP:Pt->Int->DL:=λ_ k=>[I k,I<|k+1]
def cA(a:Ag):Nat:=3+cS cI a.d+cS cP a.p
def mA(a:Ag)(k:Int):DL:=[I k,I<|k+1,I<|k+1+1,.sl 1<|mS cI mI a.d<|k+1+1+1,.sl 2<|mS cP mP a.p<|k+1+1+1+cS cI a.d]
abbrev cN(n:List Ag):Nat:=cS cA n
def mN(n:List Ag)(k:Int):DL:=[.sl 5<|mS cA mA n k]
def adK(a:IL)(k:Int)(B:A a<=1000000000)(t:0<=k)(u:k+cS cI a<=1099511627776):∀(d:aN)(F:ax),dR aB 58 [.sc d,I k] [⟨d,bm a,F⟩] [.sl 1<|mS cI mI a k]<|I<|k+cS cI a:=by
 refine te func58 ntmps58 (λ_=>C) (λ_ _=>C) Zo λq D x e r l m o p s T1 T2 T3 y z i h f w g b=>?_;simp only[r5,mc]at b;obtain⟨_,rfl,rfl,rfl⟩:=b;have j:=wr (k:=e) Zo Zo;simp only[h,f,i,g,j,go_sem];exact⟨co,C,C,C,C,C,[_],[],ep,C,.jZ .nil,C⟩
def adN(a:List Pt)(k:Int)(D:A a<=1000000000)(w:0<=k)(x:k+cS cP a<=1099511627776):∀(f:aN)(F:ax),dR aB 59 [.sc f,I k] [⟨f,.sl 2<|b3 a,F⟩] [.sl 2<|mS cP mP a k]<|I<|k+cS cP a:=by
 refine te func59 ntmps59 (λ_=>C) (λ_ _=>C) Zo λs G z b t o p q r u T1 T2 T3 B d j i g y h e=>?_;simp only[r5,mc]at e;obtain⟨_,rfl,_,rfl,rfl,rfl⟩:=e;have d:b+2<=k+cS cP a:=d;have l:=wr (k:=b) Zo Zo;have m:=wr (k:=b+1) Zo Zo;simp only[i,g,j,h,l,m,jA,dy,bg,aY,go_sem];exact⟨co,co,C,C,C,rn,C,[_,_],[],ep,C,.jZ<|.jZ .nil,C⟩
def Um(a:List Ag)(q:fK a)(k:Int)(S:A a<=1000000000)(M:0<=k)(O:k+cS cA a<=1099511627776):∀(l:aN)(F:ax),dR aB 30 [.sc l,I k] [⟨l,cw a,F⟩] [.sl 5<|mS cA mA a k]<|I<|k+cS cA a:=by
 refine te func30 ntmps30 (λ_=>C) (λ_ _=>C) Zo λJ e o b K x y D G L T1 T2 T3 R i f h m P g j=>?_;have U:=q _<|aD o;simp only[cr,bm,r5,oP,mc]at j;obtain⟨_,rfl,_,rfl,_,rfl,z,V,Y,u,_,_,rfl,rfl,B,X,Z,w,_,_,rfl,rfl,rfl,rfl⟩:=j;have i:b+(3+cS cI a[e].d+cS cP a[e].p:Nat)<=k+cS cA a:=i;have r:=wr (k:=b) Zo Zo;have s:=wr (k:=b+1) Zo Zo;have t:=wr (k:=b+1+1) Zo Zo;simp only[h,m,f,g,r,s,t,jA,dy,bg,aY,go_sem];refine⟨co,co,co,nk (T1:=T1) (jQ:=[]) C (adK a[e].d _ Zo Zo Zo _ _) ?_⟩;simp only[h,f,g,jA,dy,bg,aY,go_sem];refine nk (T1:=T1) (jQ:=[_]) C (adN a[e].p _ Zo Zo Zo _ _) ?_;simp only[f,jA,dy,bg,aY,go_sem];exact⟨C,C,C,by simp[aw,cA];omega,C,[_,_,_,_,_],[_,_],ep,C,.jZ<|.jZ<|.jZ<|.qf<|.qf .nil,by simp[bl]⟩
def adM(a:List<|List Ag)(q:∀b∈a,fK b/\A b<=1000000000)(k:Int)(L:A a<=1000000000)(D:0<=k)(G:k+cS cN a<=1099511627776):∀(j:aN)(F:ax),dR aB 12 [.sc j,I k] [⟨j,.sl 1 (a.map λb=>[cw b]),F⟩] [.sl 1<|mS cN mN a k]<|I<|k+cS cN a:=by
 refine te func12 ntmps12 (λ_=>C) (λ_ _=>C) Zo λy i o l z s t w x B T1 T2 T3 K e g p d J m f=>?_;have h:=q _<|aD o;simp only[cw,oP,mc]at f;obtain⟨u,M,O,r,_,_,rfl,rfl,rfl,rfl⟩:=f;have e:l+(cS cA a[i]:Nat)<=k+cS cN a:=e;simp only[p,d,g,m,jA,dy,bg,aY,go_sem];refine nk (T1:=T1) (jQ:=[]) C (Um a[i] h.1 _ h.2 Zo Zo _ _) ?_;simp only[g,jA,dy,bg,aY,go_sem];exact⟨C,C,C,C,C,[_],[_],d,C,.qf .nil,by simp[bl]⟩
def adL(a:List Ag)(i:fK a)(h:A a<=1000000000)(k:Int)(f:0<=k)(g:k+cS cA a<=1099511627776)(b:Option Addr)(e d:Nat)(F:ax):
 dR aB 13 [.ag [.sc<|.slice b e d],I k] [⟨.slice b e d,cw a,F⟩] [.sl 5<|mS cA mA a k] (I<|k+cS cA a):=by
 refine dR.ey [] [.tmp 4] C C Zk Zt C Zs C ?_;simp only[go_sem];exact nk (T1:=[]) (jQ:=[]) C (Um a i k h f g _ _)<|Nj
def Ro(e:IL)(b:Int):Cl<|.sl 1<|mS cI mI e b:=db.2<|F1 cI mI (λ_ _ d a=>by simp at a;subst a;exact bc _) e b
def Rp(e:List Pt)(b:Int):Cl<|.sl 2<|mS cP mP e b:=db.2<|F1 cP mP (λ_ _ d a=>by simp at a;obtain rfl|rfl:=a<;>exact bc _) e b
def Rn(e:List Ag)(b:Int):Cl<|.sl 5<|mS cA mA e b:=db.2<|F1 cA mA (λ_ _ d a=>by simp only[mA,cF,dt,gD]at a;obtain rfl|rfl|rfl|rfl|rfl:=a<;>first|exact bc _|exact Ro _ _|exact Rp _ _) e b
def aba(a:IL)(k:Int)(g:A a<=1000000000)(p:0<=k)(q:k+cS cI a<=1099511627776):az 60 [.sl 1<|mS cI mI a k,I k]<|I<|k+cS cI a:=by
 refine Fm func60 ntmps60 (λ_ _=>C) g λt r b o j u m l s d e h f=>?_;have d:b+1<=k+cS cI a:=d;have i:=wr (k:=b) Zo Zo;simp only[f,h,e,i,uN,go_sem];rfl
def abd(a:List Pt)(k:Int)(g:A a<=1000000000)(q:0<=k)(r:k+cS cP a<=1099511627776):az 61 [.sl 2<|mS cP mP a k,I k]<|I<|k+cS cP a:=by
 refine Fm func61 ntmps61 (λ_ _=>C) g λu s b p l w o m t d e h f=>?_;have d:b+2<=k+cS cP a:=d;have i:=wr (k:=b) Zo Zo;have j:=wr (k:=b+1) Zo Zo;simp only[f,h,e,i,j,uN,go_sem];exact Dq ch
def SY(a:List Ag)(m:fK a)(k:Int)(l:A a<=1000000000)(x:0<=k)(y:k+cS cA a<=1099511627776):az 31 [.sl 5<|mS cA mA a k,I k]<|I<|k+cS cA a:=by
 refine Fm func31 ntmps31 (λ_ _=>C) l λe j b w s D u t z i g f h=>?_;have B:=m _<|aD j;have i:b+(3+cS cI a[e].d+cS cP a[e].p:Nat)<=k+cS cA a:=i;have o:=wr (k:=b) Zo Zo;have q:=wr (k:=b+1) Zo Zo;have r:=wr (k:=b+1+1) Zo Zo;simp only[h,f,g,mA,o,q,r,uN,go_sem];refine bR _ (aba a[e].d _ Zo Zo Zo) (by simp;exact db.1<|Ro _ _) ?_;simp(disch:=omega) only[h,f,g,mA,A_,go_sem];refine bR _ (abd a[e].p _ Zo Zo Zo) (by simp;exact db.1<|Rp _ _) ?_;simp(disch:=omega) only[f,A_,go_sem];exact Dq (by rw[cA];omega)
def abc(a:List<|List Ag)(o:∀b∈a,fK b/\A b<=1000000000)(k:Int)(m:A a<=1000000000)(t:0<=k)(u:k+cS cN a<=1099511627776):az 14 [.sl 1<|mS cN mN a k,I k]<|I<|k+cS cN a:=by
 refine Fm func14 ntmps14 (λ_ _=>C) m λg j h s p b r q w d i e l=>?_;have f:=o _<|aD j;have d:h+(cS cA a[g]:Nat)<=k+cS cN a:=d;simp only[l,e,i,mN,go_sem];refine bR _ (SY a[g] f.1 _ f.2 Zo Zo) (by simp;exact db.1<|Rn _ _) ?_;simp(disch:=omega) only[e,A_,go_sem]
def abb(a:List Ag)(f:fK a)(e:A a<=1000000000)(k:Int)(b:0<=k)(d:k+cS cA a<=1099511627776):az 15 [.ag [.sl 5<|mS cA mA a k],I k]<|I<|k+cS cA a:=by
 have g:ah (k+(cS cA a:Nat)<0)=af:=co;refine(dH)<|bR _ (SY a f _ e b d) (by simp;exact db.1<|Rn _ _) ?_;simp only[g,go_sem];exact Fz.di C
def Z_(a:IL)(k:A a<=1000000000):az 94 [bm a,bm a]<|B W:=by
 refine(cR) ?_;simp only[uN,go_sem];refine zq (len:=A a) _ (λ_=>_) (λ_=>True) Zo C C C trivial (λl b i f j h g _ e d=>?_) λi f j h g _=>?_
 .simp only[d,e,fP,bL b,eE,go_sem];refine fB ?_;simp only[d,e,fP,bL b,eE,uN,go_sem]
 simp only[sn,mw,go_sem];exact Fz.aK C
def aab(a:List Pt)(f:A a<=1000000000):az 95 [.sl 2<|b3 a,.sl 2<|b3 a]<|B W:=
 vq (ds:=λb:Pt=>[I b.1,I b.2]) func95 ntmps95 (λ_=>C) (λb d e=>by simp at e;obtain rfl|rfl:=e<;>exact bc _) a Zo λb _=>uc func154 ntmps154
def ZV(a:List Ag)(h:fK a)(k:A a<=1000000000):az 25 [cw a,cw a]<|B W:=
 vq (ds:=cr) func25 ntmps25 (λ_=>C) Eb a Zo λb e=>by
  have m:=h b e;have i:=Z_ b.d Zo;have j:=aab b.p Zo;have l:Cl<|.sl 2<|b3 b.p:=db.2 λr g d f=>py _ d<|eL.2 ⟨r,g,f⟩;simp only[cr];exact uc func50 ntmps50
def R4(a:List Ag)(e:fK a)(d:A a<=1000000000):az 9 [.ag [cw a],.ag [cw a]]<|B W:=by
 have f:=ZV a e d;have b:=oa a;simp only[cw]at b⊢;exact uc func9 ntmps9
def aaa(b:List<|List Ag)(g:∀a∈b,fK a/\A a<=1000000000)(h:A b<=1000000000):az 8 [.sl 1 (b.map λa=>[cw a]),.sl 1 (b.map λa=>[cw a])]<|B W:=
 vq (ds:=λa=>[cw a]) func8 ntmps8 (λ_=>C) (λa d e=>by simp at e;subst e;exact oa a) b Zo λa f=>R4 a (g a f).1 (g a f).2
abbrev cT:ByteArray->Nat:=λ_=>1
abbrev mT:ByteArray->Int->DL:=λ_ k=>[S<|rZ k]
mutual
def J.cn:J->Nat
 |.mk _ _ ts=>2+J.tW ts
def J.tW:List J->Nat
 |[]=>0
 |c::cs=>c.cn+J.tW cs
end
def J.vh:∀a:dp,J.tW a=cS J.cn a
 |[]=>rfl
 |c::b=>by rw[J.tW,J.vh b];simp[cS]
mutual
def J.mr:J->Int->List D
 |.mk _ _ ts,k=>[I k,S (rZ (k+1)),.sl 3 (J.uo ts (k+1+1))]
def J.uo:List J->Int->List (List D)
 |[],_=>[]
 |c::cs,k=>c.mr k::J.uo cs (k+c.cn)
end
def J.zx:∀(b:dp)(a:Int),J.uo b a=mS J.cn J.mr b a
 |[],_=>rfl
 |c::d,a=>by rw[J.uo,J.zx d];rfl
def J.tX(a:J):1<=a.cn:=by cases a;rw[J.cn];omega
def J.adU(a:J)(b:Int):A (a.mr b)=3:=by cases a;simp[J.mr]
def aJ.cn:aJ->Nat
 |.mk _ x=>1+cS J.cn x
def aJ.mr:aJ->Int->List D
 |.mk _ x,k=>[S<|rZ k,.sl 3<|mS J.cn J.mr x<|k+1]
def ae.cn:ae->Nat
 |.mk _ x=>1+cS aJ.cn x
def ae.mr:ae->Int->List D
 |.mk _ x,k=>[S<|rZ k,.sl 2<|mS aJ.cn aJ.mr x<|k+1]
mutual
def L.cn:L->Nat
 |.mk _ _ _ (.mk _ _ ts) ns ks=>5+cS J.cn ts+cS cT ns+L.tW ks
def L.tW:List L->Nat
 |[]=>0
 |c::cs=>c.cn+L.tW cs
end
def L.vh:∀a:bu,L.tW a=cS L.cn a
 |[]=>rfl
 |c::b=>by rw[L.tW,L.vh b];simp[cS]
mutual
def L.mr:L->Int->List D
 |.mk _ _ _ (.mk _ _ ts) ns ks,k=>[I k,I (k+1),S (rZ (k+1+1)),I (k+1+1+1),S (rZ (k+1+1+1+1)),.sl 3 (mS J.cn J.mr ts (k+1+1+1+1+1)),.sl 1 (mS cT mT ns (k+1+1+1+1+1+cS J.cn ts)),.sl 8 (L.uo ks (k+1+1+1+1+1+cS J.cn ts+cS cT ns))]
def L.uo:List L->Int->List (List D)
 |[],_=>[]
 |c::cs,k=>c.mr k::L.uo cs (k+c.cn)
end
def L.zx:∀(b:bu)(a:Int),L.uo b a=mS L.cn L.mr b a
 |[],_=>rfl
 |c::d,a=>by rw[L.uo,L.zx d];rfl
def L.tX(a:L):1<=a.cn:=by obtain⟨_,_,_,⟨_,_,_⟩,_,_⟩:=a;rw[L.cn];omega
def L.Uv(a:L)(b:Int):A (a.mr b)=8:=by obtain⟨_,_,_,⟨_,_,_⟩,_,_⟩:=a;simp[L.mr]
def aa.cn:aa->Nat
 |.mk _ (.mk _ _ ts) b=>3+cS J.cn ts+b.cn
def aa.mr:aa->Int->List D
 |.mk _ (.mk _ _ ts) b,k=>[S<|rZ k,I<|k+1,S<|rZ<|k+1+1,.sl 3<|mS J.cn J.mr ts<|k+1+1+1]++b.mr (k+1+1+1+cS J.cn ts)
def aa.tX(a:aa):1<=a.cn:=by obtain⟨_,⟨_,_,_⟩,_⟩:=a;rw[aa.cn];omega
def aa.adT(a:aa)(b:Int):A (a.mr b)=12:=by obtain⟨_,⟨_,_,_⟩,_⟩:=a;simp[aa.mr,L.Uv]
def aJ.tX(a:aJ):1<=a.cn:=by cases a;rw[aJ.cn];omega
def aJ.KW(a:aJ)(b:Int):A (a.mr b)=2:=by cases a;rfl
def ae.tX(a:ae):1<=a.cn:=by cases a;rw[ae.cn];omega
def ae.KW(a:ae)(b:Int):A (a.mr b)=2:=by cases a;rfl
open Classical
def td(e:Int)(y:0<=e)(z:e<=1099511627776):az 53 [I e]<|S<|rZ e:=by
 refine(dH)<|fx (λd=>?_) λd=>?_
 .simp only[d,go_sem];simp at d;exact Fz.val (by rw[rZ,aM d])
 simp only[d,go_sem];simp at d;obtain⟨h,rfl⟩:∃h:Nat,e=h:=⟨e.toNat,Zo⟩;refine l' (λf=>f.nt=20/\∃(a:Nat)(b:BA),f.env 0=I a/\f.env 3=S b/\zt a b=zt h ByteArray.empty/\a+b.size<=1099511627776) (λf=>match f.env 0 with|.sc (.int _ a)=>a.toNat|_=>0) ⟨C,h,ByteArray.empty,ow,AM,C,by have:ByteArray.empty.size=0:=C;omega⟩ ?_;rintro⟨x,t,B,D,w,u⟩⟨rfl,a,b,i,j,l,p⟩;simp only at i j;simp only[i,go_sem];refine fx (λg=>?_) λg=>?_
 .simp at g;have r:((a:Int).tdiv 10)=((a/10:Nat):Int):=by
   rw[Int.tdiv_eq_ediv_of_nonneg Zo];omega
  have s:cb.wrap (((a/10:Nat):Int))=((a/10:Nat):Int):=dE _ Zo;have q:∀o:Int,(strOfNums [o]).size+b.size<=aE:=λo=>by rw[strOfNums_size];simp[aE];omega
  have t10:((10:Int)=0)=False:=Zs;simp only[i,j,r,s,q,t10,go_sem];refine⟨⟨C,a/10,_,bU,AM,?_,?_⟩,?_⟩
  .rw[<-l,zt.eq_def a b,dif_neg Zo]
  .rw[ByteArray.size_append,strOfNums_size];simp;omega
  simp[aw];omega
 simp at g;subst g;have m:(#[(109:UInt8)].size+b.size<=aE)=True:=dM (by simp[aE]at p⊢;omega);have A:((⟨#[109]⟩:BA).size+b.size<=aE)=True:=m;simp only[MA,sn,m,j,go_sem];refine Fz.val ?_;rw[rZ,aC Zo,q_,<-l,zt.eq_def 0 b,dif_pos C]
def Un(a:aX)(k:Int)(u:0<=k)(w:k+cS cT a<=1099511627776):∀(g:aN)(F:ax),dR aB 56 [.sc g,I k] [⟨g,bG a,F⟩] [.sl 1<|mS cT mT a k]<|I<|k+cS cT a:=by
 have A:=wQ (c:=cT) (λ_=>bJ 1) a;refine te func56 ntmps56 (λ_=>C) (λ_ _=>C) Zo λr B y b s m o p q t T1 T2 T3 z e j d h x i f=>?_;have e:b+1<=k+cS cT a:=e;simp only[r5,mc]at f;obtain⟨_,rfl,rfl,rfl⟩:=f;have l:=wr (k:=b) Zo Zo;simp only[d,go_sem];refine bR _ (td b Zo Zo) Zs ?_;simp only[d,h,j,l,i,go_sem];refine⟨co,C,C,C,C,C,[_],[],ep,C,.jZ .nil,C⟩
def BZ(l:dp)(k:Int)(S:0<=k)(U:k+cS J.cn l<=1099511627776):∀(e:aN)(F:ax),dR aB 55 [.sc e,I k] [⟨e,J.sl l,F⟩] [.sl 3<|mS J.cn J.mr l k]<|I<|k+cS J.cn l:=by
 have Y:=wQ J.tX l;have f:∀(d:Nat)(j:d<A l)(v:Int)(g:BA)(a:dp)(K:Int),l[d]=.mk v g a->0<=K->K+cS J.cn a<=1099511627776->∀(e:aN)(F:ax),dR aB 55 [.sc e,I K] [⟨e,J.sl a,F⟩] [.sl 3<|mS J.cn J.mr a K]<|I<|K+cS J.cn a:=λd j v g a K i r b=>BZ a K r b;rw[J.sl,J.cu];refine te func55 ntmps55 J.bP J.adU Zo λi d t K P D G M O R T1 T2 T3 X p u o s V m h=>?_;replace f:=f d t;obtain⟨z,w⟩:=Zx<|l[d];rw[w]at p h f⊢;obtain⟨v,g,a⟩:=z;simp only[J.cn,J.vh]at p⊢;simp only[J.mr,J.zx];simp only[J.ds,r5,oP,mc]at h;obtain⟨_,rfl,_,rfl,L,Z,aa,B,_,_,rfl,rfl,rfl,rfl⟩:=h;have x:=wr (k:=K) Zo Zo;have y:=wr (k:=K+1) Zo Zo;simp only[o,s,x,m,dy,bg,aY,go_sem];refine⟨co,bR _ (td (K+1) Zo Zo) Zs ?_⟩;simp only[o,y,m,jA,dy,bg,aY,go_sem];refine⟨co,nk (T1:=T1) (jQ:=[]) C (f v g a _ C Zo Zo _ _) ?_⟩;simp only[u,aY,go_sem];refine⟨C,C,C,rn,C,[_,_,_],[_],ep,C,.jZ<|.jZ<|.qf .nil,by simp[bl]⟩
decreasing_by have q:=fl (aD j);rw[i]at q;simp at q⊢;omega
def adH(l:li)(k:Int)(A:0<=k)(B:k+cS aJ.cn l<=1099511627776):∀(f:aN)(F:ax),dR aB 54 [.sc f,I k] [⟨f,aJ.sl l,F⟩] [.sl 2<|mS aJ.cn aJ.mr l k]<|I<|k+cS aJ.cn l:=by
 have L:=wQ aJ.tX l;rw[aJ.sl,aJ.cu];refine te func54 ntmps54 aJ.bP aJ.KW Zo λx j G b y r s u w z T1 T2 T3 K e hw d g D h a=>?_;obtain⟨p,i⟩:=Zx<|l[j];rw[i]at e a⊢;obtain⟨M,m⟩:=p;simp only[aJ.cn]at e⊢;simp only[aJ.mr];simp only[aJ.ds,J.sl,r5,oP,mc]at a;obtain⟨_,rfl,t,O,P,q,_,_,rfl,rfl,rfl,rfl⟩:=a;have o:=wr (k:=b) Zo Zo;simp only[d,bg,aY,go_sem];refine bR _ (td b Zo Zo) Zs ?_;simp only[d,g,o,h,dy,bg,aY,go_sem];refine⟨co,nk (T1:=T1) (jQ:=[]) C (BZ m _ Zo Zo _ _) ?_⟩;exact PI
def adI(l:aF)(k:Int)(A:0<=k)(B:k+cS ae.cn l<=1099511627776):∀(f:aN)(F:ax),dR aB 28 [.sc f,I k] [⟨f,ae.sl l,F⟩] [.sl 2<|mS ae.cn ae.mr l k]<|I<|k+cS ae.cn l:=by
 have K:=wQ ae.tX l;rw[ae.sl,ae.cu];refine te func28 ntmps28 ae.bP ae.KW Zo λx j G b y r s u w z T1 T2 T3 J e hw d g D h a=>?_;obtain⟨p,i⟩:=Zx<|l[j];rw[i]at e a⊢;obtain⟨L,m⟩:=p;simp only[ae.cn]at e⊢;simp only[ae.mr];simp only[ae.ds,aJ.sl,r5,oP,mc]at a;obtain⟨_,rfl,t,M,O,q,_,_,rfl,rfl,rfl,rfl⟩:=a;have o:=wr (k:=b) Zo Zo;simp only[d,bg,aY,go_sem];refine bR _ (td b Zo Zo) Zs ?_;simp only[d,g,o,h,dy,bg,aY,go_sem];refine⟨co,nk (T1:=T1) (jQ:=[]) C (adH m _ Zo Zo _ _) ?_⟩;exact PI
def Uo(l:bu)(k:Int)(al:0<=k)(am:k+cS L.cn l<=1099511627776):∀(h:aN)(F:ax),dR aB 57 [.sc h,I k] [⟨h,L.sl l,F⟩] [.sl 8<|mS L.cn L.mr l k]<|I<|k+cS L.cn l:=by
 have ap:=wQ L.tX l;have j:∀(d:Nat)(q:d<A l)(i b:Int)(m:BA)(ty:J)(g:aX)(a:bu)(K:Int),l[d]=.mk i b m ty g a->0<=K->K+cS L.cn a<=1099511627776->∀(h:aN)(F:ax),dR aB 57 [.sc h,I K] [⟨h,L.sl a,F⟩] [.sl 8<|mS L.cn L.mr a K]<|I<|K+cS L.cn a:=λd q i b m ty g a K p y z=>Uo a K y z;rw[L.sl,L.cu];refine te func57 ntmps57 L.bP L.Uv Zo λp d u K ah X Y ad ae ak T1 T2 T3 ao r w f t an e o=>?_;replace j:=j d u;obtain⟨R,x⟩:=Zx<|l[d];rw[x]at r o j⊢;obtain⟨i,b,m,⟨aA,aC,B⟩,g,a⟩:=R;simp only[L.cn,L.vh]at r⊢;simp only[L.mr,L.zx];simp only[L.ds,J.ds,bG,bg,aY,r5,oP,mc]at o;obtain⟨_,rfl,_,rfl,_,rfl,_,rfl,_,rfl,Z,aq,av,S,_,_,rfl,rfl,aa,ar,ay,U,_,_,rfl,rfl,ab,au,az,V,_,_,rfl,rfl,rfl,rfl⟩:=o;have D:=wr (k:=K) Zo Zo;have G:=wr (k:=K+1) Zo Zo;have M:=wr (k:=K+1+1) Zo Zo;have O:=wr (k:=K+1+1+1) Zo Zo;have P:=wr (k:=K+1+1+1+1) Zo Zo;simp only[f,t,e,D,G,jA,dy,bg,aY,go_sem];refine⟨co,co,bR _ (td _ Zo Zo) Zs ?_⟩;simp only[f,e,M,O,jA,dy,bg,aY,go_sem];refine⟨co,co,bR _ (td _ Zo Zo) Zs ?_⟩;simp only[f,e,P,jA,dy,bg,aY,go_sem];refine⟨co,nk (T1:=T1) (jQ:=[]) C (BZ B _ Zo Zo _ _) ?_⟩;simp only[f,e,aY,go_sem];refine nk (T1:=T1) (jQ:=[_]) C (Un g _ Zo Zo _ _) ?_;simp only[f,e,bg,aY,go_sem];refine nk (T1:=T1) (jQ:=[_,_]) C (j i b m _ g a _ C Zo Zo _ _) ?_;simp only[w,bg,aY,go_sem];refine⟨C,C,C,rn,C,[_,_,_,_,_,_,_,_],[_,_,_],ep,C,.jZ<|.jZ<|.jZ<|.jZ<|.jZ<|.qf<|.qf<|.qf .nil,by simp[bl]⟩
decreasing_by have s:=fl (aD q);rw[p]at s;simp at s⊢;omega
def adJ(l:aO)(k:Int)(ao:0<=k)(ap:k+cS aa.cn l<=1099511627776):∀(j:aN)(F:ax),dR aB 29 [.sc j,I k] [⟨j,aa.sl l,F⟩] [.sl 12<|mS aa.cn aa.mr l k]<|I<|k+cS aa.cn l:=by
 have av:=wQ aa.tX l;rw[aa.sl,aa.cu];refine te func29 ntmps29 aa.bP aa.adT Zo λal q ar f am R S ab ad an T1 T2 T3 au i o a m aq e g=>?_;obtain⟨G,p⟩:=Zx<|l[q];rw[p]at i g⊢;obtain⟨ak,⟨ae,ah,us⟩,⟨U,b,ay,⟨aK,aL,t⟩,s,r⟩⟩:=G;simp only[aa.cn,L.cn,L.vh]at i⊢;simp only[aa.mr,L.mr,L.zx,bg,aY];simp only[aa.ds,L.ds,J.ds,bG,bg,aY,r5,oP,mc]at g;obtain⟨_,rfl,_,rfl,_,rfl,V,az,aF,K,_,_,rfl,rfl,_,rfl,_,rfl,_,rfl,_,rfl,_,rfl,X,aA,aH,M,_,_,rfl,rfl,Y,aC,aI,O,_,_,rfl,rfl,Z,aD,aJ,P,_,_,rfl,rfl,rfl,rfl⟩:=g;obtain⟨d,h⟩:∃d,f+1+1+1+(cS J.cn us:Nat)=d:=⟨_,C⟩;have u:=wr (k:=f) Zo Zo;have w:=wr (k:=f+1) Zo Zo;have x:=wr (k:=f+1+1) Zo Zo;have y:=wr (k:=d) Zo Zo;have z:=wr (k:=d+1) Zo Zo;have A:=wr (k:=d+1+1) Zo Zo;have B:=wr (k:=d+1+1+1) Zo Zo;have D:=wr (k:=d+1+1+1+1) Zo Zo;rw[h];simp only[a,jA,bg,aY,go_sem];refine bR _ (td _ Zo Zo) Zs ?_;simp only[a,m,u,w,e,jA,dy,bg,aY,go_sem];refine⟨co,co,bR _ (td _ Zo Zo) Zs ?_⟩;simp only[a,x,e,jA,dy,bg,aY,go_sem];refine⟨co,nk (T1:=T1) (jQ:=[]) C (BZ us _ Zo Zo _ _) ?_⟩;rw[h];simp only[a,e,y,z,jA,dy,bg,aY,go_sem];refine⟨co,co,bR _ (td _ Zo Zo) Zs ?_⟩;simp only[a,e,A,B,jA,dy,bg,aY,go_sem];refine⟨co,co,bR _ (td _ Zo Zo) Zs ?_⟩;simp only[a,e,D,jA,dy,bg,aY,go_sem];refine⟨co,nk (T1:=T1) (jQ:=[_]) C (BZ t _ Zo Zo _ _) ?_⟩;simp only[a,e,jA,bg,aY,go_sem];refine nk (T1:=T1) (jQ:=[_,_]) C (Un s _ Zo Zo _ _) ?_;simp only[a,e,jA,bg,aY,go_sem];refine nk (T1:=T1) (jQ:=[_,_,_]) C (Uo r _ Zo Zo _ _) ?_;simp only[o,bg,aY,go_sem];refine⟨C,C,C,rn,C,[_,_,_,_,_,_,_,_,_,_,_,_],[_,_,_,_],ep,C,.jZ<|.jZ<|.jZ<|.qf<|.jZ<|.jZ<|.jZ<|.jZ<|.jZ<|.qf<|.qf<|.qf .nil,by simp[bl]⟩
def adO(a:aF)(b:aO)(k:Int)(m:0<=k)(o:k+cS ae.cn a+cS aa.cn b<=1099511627776)(h:Option Addr)(f d:Nat)(j:ax)(i:Option Addr)(g e:Nat)(l:ax):
 dR aB 11 [.ag [.sc<|.slice h f d,.sc<|.slice i g e],I k] [⟨.slice h f d,ae.sl a,j⟩,⟨.slice i g e,aa.sl b,l⟩] [.sl 2<|mS ae.cn ae.mr a k,.sl 12<|mS aa.cn aa.mr b<|k+cS ae.cn a] (I<|k+cS ae.cn a+cS aa.cn b):=by
 refine dR.ey [] [.tmp 4] C C Zk Zt C Zs C ?_;simp only[go_sem];refine nk (T1:=[]) (jQ:=[]) C (adI a k m Zo _ _) ?_;simp only[go_sem];exact nk (T1:=[]) (jQ:=[_]) C (adJ b _ Zo Zo _ _)<|Nj
variable {g3:aH}{g5:bI}{eq hw m2:D}{g7:ON}{c2:aU}{fd:a'}{i3:cf}{am a0 a2:Nat}{ip qr:cB}{g2:Type}{g0:List Ag}
theorem u_{s:St}{a b:D}{r:D}(d:Sp g3 g5 [a,b] r)(g:Fb s.H s.T eq a)(h:Fb s.H s.T hw b)(f:(sW r).isSome=W)(e:c2<|s.put g7 r):jU g3 s (.fn g5 [] []) [eq,hw] g7 c2:=
 aG ⟨r,aj ⟨[a,b],C,Sf (by(grind [List.zip_cons_cons,List.zip_nil_right])),d,f⟩,e⟩
theorem Fb.sc{a:Option Addr}(F:ax)(b:(⟨.slice a am a0,.sl a2 ip,F⟩:TE)∈i3):Fb fd i3 (.sc<|.slice a am a0)<|.sl a2 ip:=.tr ⟨.slice a am a0,.sl a2 ip,F⟩ b
theorem Fb.one(b:Fb fd i3 eq hw):Fb fd i3 (.ag [eq])<|.ag [hw]:=.ag _ _ C λg d a e f=>Zg
theorem Fb.two{b:D}(e:Fb fd i3 eq m2)(i:Fb fd i3 hw b):Fb fd i3 (.ag [eq,hw])<|.ag [m2,b]:=.ag _ _ C λh d a f g=>Zg
def aem{v:aN}(a:O3 (.tp [.sl 1 ip,.ag [.sl 5 qr],.sc v]) eq i3):∃e i g F f j h k,eq=.tp [.sc<|.slice e i g,.ag [.sc<|.slice f j h],.sc v]/\i3=[⟨.slice e i g,.sl 1 ip,F⟩,⟨.slice f j h,.sl 5 qr,k⟩]:=by
 cases a with
 |one a=>cases a with|one a=>cases a
 |tp a=>
  cases a with|cons a d=>
  cases d with|cons b d=>
  cases d with|cons l d=>
  cases d;cases a with|one a=>
  cases a with|sl _ _ e i g F=>
  cases b with
  |one b=>cases b
  |ag b=>
   obtain⟨f,j,h,k,p,o,rfl,rfl,m⟩:=oP.1 b;obtain⟨rfl,rfl⟩:=mc.1 m;cases l with|one l=>cases l;exact⟨e,i,g,F,f,j,h,k,C,C⟩
theorem yN{a:g2->Nat}{b:Nat}:∀{l:List g2},(∀x∈l,a x<=b)->cS a l<=b*A l
 |[],_=>by simp[cS]
 |x::l,d=>by
  have g:=d x Zs;have h:=yN (l:=l) λf e=>d f<|Yr e
  grind [cS,Nat.mul_add]
theorem Q2(b:fK g0):cS cA g0<=15*A g0:=yN λa e=>by
 have:=b a e;have f:cS cI a.d<=1*A a.d:=yN λ_ _=>bJ 1;have g:cS cP a.p<=2*A a.p:=yN λ_ _=>bJ 2;rw[cA];omega
theorem yM{a d:g2->Nat}:∀{l:List g2},(∀x∈l,a x<=8+8*d x)->cS a l<=8*(A l+(l.map d).sum)
 |[],_=>by simp[cS]
 |x::l,b=>by
  have g:=b x Zs;have h:=yM (l:=l) λf e=>b f<|Yr e
  grind [cS,List.length_cons]
def ahy:∀x:J,x.cn<=8+8*x.sz
 |.mk _ d a=>by
  have b:cS J.cn a<=8*(A a+J.fr a):=Dz;rw[J.cn,J.vh,J.sz];omega
theorem V_:∀x:L,x.cn<=5+8*x.sz
 |.mk _ _ i (.mk _ h b) d a=>by
  have e:cS L.cn a<=8*(A a+L.fr a):=by
   rw[L.lS];exact yM λx hx=>Yo<|V_ x
  have f:cS J.cn b<=8*(A b+J.fr b):=Dz;have g:cS cT d<=1*A d:=yN λ_ _=>bJ 1;rw[L.cn,L.vh,L.sz,J.sz];omega
theorem aeX(d:aF)(b:aO):cS ae.cn d+cS aa.cn b<=8*(bH.mk d b).sz:=by
 have f:cS ae.cn d<=8*(A d+ae.fr d):=yM λx _=>by
  obtain⟨h,e⟩:=x;have:cS aJ.cn e<=8*(A e+aJ.fr e):=yM λi _=>by
   obtain⟨g,a⟩:=i;have:cS J.cn a<=8*(A a+J.fr a):=Dz;rw[aJ.cn,aJ.sz];omega
  rw[ae.cn,ae.sz];omega
 have j:cS aa.cn b<=8*(A b+aa.fr b):=yM λx _=>by
  obtain⟨h,⟨l,g,a⟩,k⟩:=x;have f:cS J.cn a<=8*(A a+J.fr a):=Dz
  grind [V_,aa.cn,aa.sz,J.sz]
 rw[bH.sz];omega
theorem Y4{d:aF}{a:aO}(r:(bH.mk d a).sz<=1048576)(q:(bH.mk d a).ok):((∀n∈tV d a,fK n/\A n<=600)/\A (tV d a)<=24)/\fK (sU d a)/\A (sU d a)<=600:=by
 by_cases e:lL d a=0
 .have p:fO d a=0:=by
   grind [fO,lL]
  have i:=KJ r q p;have s:=I3 i.b;have h:∀n∈iK (cJ d a),fK n/\A n<=600:=λn f=>by
   rw[iK]at f;split at f
   .obtain⟨k,m,rfl⟩:=aP.1 f;exact JE<|i.c k m
   simp at f
  have l:A (iK<|cJ d a)<=24:=by
   grind [iK]
  rw[tV,sU,aM e,aM e];refine⟨⟨h,l⟩,?_⟩;rw[xX];rcases o:(iK (cJ d a))[(eV a nz).toNat]? with _|n
  .exact⟨λj g=>by simp at g,Zs⟩
  exact h n<|fE o
 rw[tV,sU,aC e,aC e];exact⟨⟨Zs,Zs⟩,λj g=>by simp at g,Zs⟩
theorem adb(t:bH)(o:t.ok):az 3 [.ag t.ds]<|B W:=by
 have r:=agh t o 1048576 Zo Zo;obtain⟨a,b⟩:=t;have V:bH.ds (.mk a b)=[.sl 2<|ae.ab a,.sl 12<|aa.ab b]:=C;rw[V]at r;have aP:Cl<|.ag [.sl 2<|ae.ab a,.sl 12<|aa.ab b]:=Cl.bC (by simp;exact⟨ae.dl a,aa.dl b⟩);by_cases aH:((bH.mk a b).sz:Int)<=1048576
 case neg=>
  have d1:ah ((-1:Int)<0)=W:=C;rw[vX aH]at r;refine(cR) ?_;simp only[bH.ds,go_sem];exact(bQ d1)<|Fz.aK C
 rw[zS aH]at r;have d1:ah ((1048576:Int)-(bH.mk a b).sz<0)=af:=co;have j:(bH.mk a b).sz<=1048576:=Zo;have i:=afK j o λaR=>KJ j o aR;have f:=Zj j o;have X:=ag4 (.mk a b) j;have Y:=X.sp;have av:=aac (.mk a b) j;obtain⟨⟨aI,a3⟩,z3,a4⟩:=Y4 j o;have a9:=aeX a b;rw[pY]at i f;generalize K:tV a b=R;generalize m:sU a b=d;generalize au:lL a b=ap;rw[K,m,au]at i f;rw[K]at aI a3;rw[m]at z3 a4;clear K m au;rw[V]at av;rw[V]at X Y;simp only[ae.sl,aa.sl]at i f;have am:∀d∈R,fK d/\A d<=1000000000:=λd m=>⟨(aI d m).1,sG⟩;have a5:cS cN R<=9000*A R:=yN λa_ a'=>by(grind [Q2,cS,cA])
 have a6:=Q2 z3;generalize aW:(1:Int)+cS cN R=s;generalize aX:s+cS cA d=ak;have l:=aaa R am Zo;have p:=R4 d z3 Zo;have U:=adO a b 1 Zo Zo;have q:=adM R am 1 Zo Zo Zo;have S:=adL d z3 Zo s Zo Zo;have M:=abc R am 1 Zo Zo Zo;have P:=abb d z3 Zo s Zo Zo;have F:Cl<|.sl 1<|gP R:=db.2<|K7 R;have G:Cl<|.ag [cw d]:=Cl.bC yq;rw[aW]at q M;rw[aX]at S P;have aU:(R.map λd=>[cw d])=gP R:=C;rw[aU]at l q;have ax:cw d=.sl 5 (d.map cr):=C;generalize aS:d.map cr=jQ;rw[aS]at ax;rw[ax]at i f p S G;generalize aT:gP R=aL;rw[aT]at i f l q F;generalize aV:(1:Int)+cS ae.cn a+cS aa.cn b=a1;rw[aV]at U;simp only[ae.sl,aa.sl]at U;have a8:(!W)=af:=C;have Z:(ap !=ap)=af:=Zs;have a0:ah (a1<0)=af:=co;have aA:ah (s<0)=af:=co;have aB:ah (ak<0)=af:=co;have aC:(ak !=ak)=af:=Zs;refine(cR) ?_;simp only[bH.ds,go_sem];refine mB r ?_;simp only[d1,go_sem];refine(nl Y)<|(nl i)<|vb _ X (by(grind [ae.dl,aa.dl])) λaQ aM I=>?_;obtain⟨a7,rfl,ay⟩:=xD I;simp only[oP,mc]at ay;obtain⟨an,aD,aq,u,_,_,rfl,rfl,ao,aF,ar,w,_,_,rfl,rfl,rfl,rfl⟩:=ay;refine(ZN)<|Q' [.ag [.sl 2<|ae.ab a,.sl 12<|aa.ab b]] _ f C (by(grind [List.zip_cons_cons,List.zip_nil_right,List.mem_singleton,Fb.two,Fb.sc])) λaQ aM I=>?_;obtain⟨aN,a2,aO,g,y,al,z,e,rfl,rfl⟩:=aem I;refine(ZN)<|u_ l (Fb.sc g Zs) (.fz<|.cl _ F) C<|(ZN)<|u_ p (Fb.one<|Fb.sc e Zs) (.fz<|.cl _ G) C<|(fQ Z)<|Yj [.ag [.sl 2<|ae.ab a,.sl 12<|aa.ab b],.ag [.sl 2<|ae.ab a,.sl 12<|aa.ab b]] _ av C (by simp only[aY,de,rb,re,cF,dt,gD,ri,kg];exact⟨Fb.two (Fb.sc u Zs)<|Fb.sc w Zs,.fz<|.cl _ aP⟩) C<|(ZN)<|Jf [⟨.slice an aD aq,.sl 2<|ae.ab a,u⟩,⟨.slice ao aF ar,.sl 12<|aa.ab b,w⟩] [⟨.slice aN a2 aO,.sl 1 aL,g⟩,⟨.slice y al z,.sl 5 jQ,e⟩] _ _ _ (U an aD aq u ao aF ar w) Zs (Hc _) (Hc _) ?_;simp only[i7,a0,bg,aY,go_sem];refine u_ l (Fb.sc g Zs) (.fz<|.cl _ F) C ?_;simp only[go_sem];refine u_ p (Fb.one<|Fb.sc e Zs) (.fz<|.cl _ G) C ?_;simp only[Z,go_sem];refine nk (T1:=[_,_]) (jQ:=[]) C (q _ g) ?_;simp only[bg,aY,go_sem];refine Jf [⟨.slice y al z,.sl 5 jQ,e⟩] [_,_,_] [_,_,_,_] _ _ (S y al z e) Zs (@wu _ _ [_,_,_] []) (@wu _ _ [_,_,_] []) ?_;simp only[go_sem];refine u_ M (Fb.sc g Zs) (.fz<|.cl _<|bc _) C ?_;simp only[aA,go_sem];refine u_ P (Fb.one<|Fb.sc e Zs) (.fz<|.cl _<|bc _) C ?_;simp only[aB,aC,go_sem];refine(nl Y)<|mB f.sp ?_;have aZ:cO (D.sl 5 jQ)=W:=C;simp only[aZ,go_sem];exact bR _ l cq<|(ZN)<|bR _ p cq<|(ad Z)<|u_ M (Fb.sc g Zs) (.fz<|.cl _<|bc _) C<|(ad aA)<|u_ P (Fb.one<|Fb.sc e Zs) (.fz<|.cl _<|bc _) C<|(ad<|JJ aB aC)<|Fz.aK C
end
end Go.Fw
namespace Go.Proofs.YtblbcplhbjkkjaaGreat.fnExactCompileMain
noncomputable section
section
open Go.ChangeShapes Go.WideShapes Go.ChangeAt Go.RowKit Go.Fw
theorem own:ownKnob aB.godebug=Q:=by kernel_rfl
set_option maxRecDepth 100000 in
theorem lifted(o:Os)(F:o.Started)(q:Type)(enc:a6×aN->q):
 ReturnsInHanded {} Tryz.checked o 3 .any (Rows.fnExactCompileMainSpec.pre6 enc aB f3 Rows.fnExactCompileMainRow.domain af) (Rows.fnExactCompileMainSpec.post enc aB f3 af W af af):=by
 refine returnsInHanded_of_change (C:=Tryz.checked) own F (by kernel_rfl) func3
  (ChangeSpec.witness6 (enc:=enc) (C:=Tryz.checked) af ⟨#[],#[.agg #[.slice Q 0 0,.slice Q 0 0]],[]⟩ 8 (by kernel_rfl) (by kernel_rfl) (by kernel_rfl) (by kernel_rfl)) ?_
 intro a s args t L I k i O _;have j:∀(l:Nat)p v,f3.params[l]?=E p->args[l]?=E v->Value.okWide aB a .any s p v:=k;have x:=i;obtain⟨B,U,h,w,rfl,P,R⟩:=i;have g:DataW.TrodAll enc aB a 0 (λ_=>W) W f3.params.toList args.toList t B:=h;rw[params3]at g j;obtain⟨d,X,d0,J,S,V,M,rfl,rfl,f,D⟩:=trodAll_cons g;obtain⟨rfl,rfl,rfl⟩:=trodAll_nil D;obtain rfl:args=#[d]:=by cases args;simp_all
 obtain⟨rfl,rfl⟩:=trodVars_none w;have m:=f;obtain⟨r,A,u⟩:=XB underlying25 bH.dec (j 0 25 d C C) f;clear h k;refine((adb r A).run a (λ_=>False) [d] (λ_ b=>b.elim) C (ae5 (by simp only[rb,re,bM];exact⟨u,by simp⟩))).mono λK G⟨v,y,e,z⟩=>?_;obtain rfl:=ae4 z;subst y;exact⟨_,C,_,_,_,[],_,[],x,trodAll_mk1 (shut_bool underlying4 _),(trodAll_cons_mk (Below.trod j1 (by kernel_rfl) (Hr (by kernel_rfl)) m e.toBelow (ahf m)) trodAll_mk0),C,e.frame _,λb=>by cases b⟩
theorem over:Rows.fnExactCompileMainRow.holds Tryz.pinned (OpenSpec.ofChange Rows.fnExactCompileMainSpec):=
 OpenClaim.holds_of_wide 3 f3 C C C C C C C ⟨C,C,C,C,C⟩ C C C C C adY func3 acf abN aiw
  λb d a enc _=>lifted b d a enc
theorem proved:Rows.FnExactCompileMainSaid:=over
end
end
end Go.Proofs.YtblbcplhbjkkjaaGreat.fnExactCompileMain
