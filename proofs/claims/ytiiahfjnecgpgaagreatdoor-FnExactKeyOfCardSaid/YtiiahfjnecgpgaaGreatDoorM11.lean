/- A part of the proof about KeyOf. No condition. -/
import Derived.Test.YtiiahfjnecgpgaaGreatDoorM01
import Derived.Test.YtiiahfjnecgpgaaGreatDoorM04
import Derived.Test.YtiiahfjnecgpgaaGreatDoorM09
import Derived.Test.YtiiahfjnecgpgaaGreatDoorM10
set_option maxRecDepth 100000
set_option maxHeartbeats 8000000
set_option linter.unusedSimpArgs false
set_option linter.unusedVariables false
set_option linter.defProp false
open Go.Proofs.Tryz
open Nat renaming reduceEqDiff->aP
open Go.IntWalk renaming i64_in->cW
open Option renaming some->E,none->aa
open Bool renaming true->ad,false->al
open Go.Proofs.Tryz renaming prog->aB
open Go renaming maxLen->ao
namespace Go.Fw
noncomputable section
attribute [local irreducible] St.put
section
open Classical
def VQ{ab:aw}{ds:aF}(a6:fR ab ds){v:Int}{n:BA}{t:O}{ns:aK}{f g:Y}{e:Env}{l:Int}(D:RC ab ds (.mk 7 v n t ns [f,g]) e l)(ar:T7 70 ab ds f e l)(M:T7 70 ab ds g (b8 ab ds 7 n t ns [f,g] e l 1) l):T7 70 ab ds (.mk 7 v n t ns [f,g]) e l:=by
 intro aG m bd cG ch cb bJ aJ ck U;obtain⟨ak,an,am⟩:=t;have bk:Y.num (.mk 7 v n (.mk ak an am) ns [f,g])=f.num+g.num+1:=by rw[Y.num,Y.aR,Y.aR,Y.aR];omega
 have cm:Y.aZ (.mk 7 v n (.mk ak an am) ns [f,g])=Y.aZ f+Y.aZ g:=by rw[Y.l_];simp[gu,e8]
 obtain rfl:v=0:=ER D Zo Zo;have bW:=Wv (ab:=ab) (ds:=ds) (v:=0) (n:=n) (t:=.mk ak an am) (ns:=ns) (a:=f) (b:=g) (e:=e) (l:=l) (m:=m);have U:=T7.fin U;rw[bW]at U;have bZ:=Y.cl f;have b0:=Y.cl g;have co:=D.el;have cr:=D.l1;have cq:=D.l0;have ct:0<f.num:=by obtain⟨a,b,K,ce,e,ci⟩:=f;rw[Y.num];omega
 have bl:=D.cM a6 0 Zs;have bT:bL 7 l=l:=by simp[bL]
 have bR:b8 ab ds 7 n (.mk ak an am) ns [f,g] e l 0=e:=by simp[b8,cV]
 have bj:(cw ab ds f e l m).2.length=Y.aZ f:=ya f e l m (D.sh.cM f Zs);simp only[bT,bR,fO]at bl;obtain⟨aQ,bg,bK,a_⟩:=bl.tp a6 (λb3=>by have:=(D.tc.case 0 Zs).1 b3;omega);have a4:=zX aQ (rn bK);have ba:=D.ty;rw[oh,bg,jS]at ba;cases B:gT aQ with
 |none=>rw[B]at ba;cases ba
 |some C=>
  have bS:b8 ab ds 7 n (.mk ak an am) ns [f,g] e l 1=e++[⟨n,C.1,l+C.2⟩]:=by simp[b8,cV,er,bg,B]
  rw[B]at a4;rw[bS]at M U;have V:=mq e n C.1 (l+C.2) Zo;have bN:=fo (e++[⟨n,C.1,l+C.2⟩]);obtain⟨b',b_,ca,bP⟩:∃a b K,cc (e++[⟨n,C.1,l+C.2⟩])=[a,b,K]:=⟨_,_,_,A⟩;obtain⟨aD,cd,bD⟩:=aQ;have aL:C.2=if aD=4 then 1 else 0:=by
   simp only[gT]at B;split at B
   .rename_i K;rw[aM K];cases bD<;>simp at B;rw[<-B]
   .rename_i K;rw[av K];split at B<;>simp at B;rw[<-B]
  unfold T7 at ar M;rw[bP]at V M bN;obtain⟨aS,cj,bQ,a'⟩:=D.tp a6 (by simp[Y.kd]);have a3:dp aS:=mf bQ;have aH:dp (cf aS):=ig _ a3;have a0:=bJ.off;have bM:=fo e;obtain⟨b6,b7,b9,bh⟩:∃a b K,cc e=[a,b,K]:=⟨_,_,_,A⟩;have cn:Cl (.cp [.sl 2 (ai.ae ab),.sl 12 (ah.ae ds)]):=Cl.eX cu;have bU:=Y.cl (.mk 7 0 n (.mk ak an am) ns [f,g]);obtain⟨W,Z,X⟩:=aS;rw[bh]at bM a'⊢;simp only[Y.ds,O.ds,strs,bf,a8,ai.sl,ah.sl]at a' bU;obtain⟨cg,cN,b5,cO,cH,aY,-⟩:=a0.ob;simp only[ai.sl,ah.sl]at aY;rw[bh]at V ar a_;obtain⟨⟨cK,b5,cL⟩,bx⟩:=C;obtain⟨bm,bv,bo,⟨br,bt,bs⟩,bq,bn⟩:=f;obtain⟨cv,cE,cy,⟨cA,cD,cC⟩,cz,cx⟩:=g;simp only[ey,kM,lY,Y.ds,O.ds,strs,bf,a8,ai.sl,ah.sl]at V ar M bZ b0 a_ a4;have bw:Int.toNat 1=1:=A;have be:((0:Int)<=1)=True:=Zs;have bY:IntKind.i64.wrap (l+1)=l+1:=cW _ Zo;refine call7 U [] [.cell 8 148] func70 A Zk ntmps70 A Zs ?_;simp only[Y.ae,go_sem];refine cX [12] [50] ?_;simp only[aY,go_sem];refine jx a' ?_;refine cX [12] [118] ?_;simp only[aY,go_sem];refine jx a_ ?_;refine bO a4 ?_;by_cases aE:aD=4
  .have f4:(aD==4)=ad:=by simp[aE]
   obtain rfl:bx=1:=by rw[aM aE]at aL;exact aL
   simp only[f4,bY,go_sem];refine me (.bE [0,1,2,3,4,5,6,7] 8 (.fin [9,10]) 9 (.fin [8,10])) [] [] ?_;simp only[go_sem];refine⟨?_,?_⟩
   all_goals
    refine .inr (.inr (ar aG m bd _ _ _ (a0.congr λt d=>by simp[aj,bX d (u:=8) A,bX d (u:=9) A,bX d (u:=11) A,bX d (u:=13) A,bX d (u:=16) A]) aJ Zo ?_));intro bz b1 bc a7 a1 z;have ax:=z 8 dI;have J:=z 9 dI;have bb:=z 11 dI;have G:=z 13 dI;have au:=z 16 dI;simp only[bV,bH,dP,aP,dz]at ax J bb G au;obtain⟨⟨i,p,h,j⟩,o⟩:=bc;simp only[aW,au,go_sem];refine mc [0,1,2,3,4,5,6,7,8,9,10,11,12,13,14,16,15,17,18,19,20] [9,13,16] [] ?_;simp only[J,G,bw,be,go_sem];refine bO V ?_;refine .inr (.inr (M aG _ _ _ _ _ (a1.congr λt d=>by simp[aj,bX d (u:=16) A]) (show _=ds.length+(m+Y.aZ (.mk bm bv bo (.mk br bt bs) bq bn))by rw[bF,aJ,bj];omega) Zo ?_));intro bB b2 aC a9 a2 F;have aB:=F 8 dI;have S:=F 9 dI;have ay:=F 13 dI;have az:=F 16 dI;simp only[bV,bH,dP,aP,dz,ax,J,G]at aB S ay az;obtain⟨aT,aU,ap,bC⟩:=a7;obtain⟨aV,aX,aq,bI⟩:=a9;have P:=pT 7 0 (.mk W Z X) [⟨.mk i p h j,o⟩,aC] a3 (by simp;exact⟨aU,aX⟩) Zs (by simp[W7]at ap aq⊢;omega);generalize a5:cf (.mk W Z X)=L at P aH;obtain⟨⟨r,y,q,s⟩,w⟩:=aC;have Q:=dF ⟨.mk i p h j,o⟩;have R:=dF ⟨.mk r y q s,w⟩;simp only[aW,O.ds,Core.ds,bf,a8,bp,cB,dN,fX,c_]at P Q R⊢;simp only[J,G,S,ay,az,go_sem];refine fm [159] P (.c (.cl _ (aO _)) (.c (.cl _ (aO _)) (.c (.cl _ (Cl.bu (O.cl (.mk W Z X)))) (.c (Fz.rows (ob:=⟨_,148,5,[I i,I p,ints h,.sl 4 (Core.ae j),.sl 3 (O.ae o),I r,I y,ints q,.sl 4 (Core.ae s),.sl 3 (O.ae w)],aa⟩) (by simp only[bi,bG,aI,bH];rfl) A A Zd A Zs A (by simp only[cJ,cS,iz,wi,dT]at Q R⊢;exact⟨Q,R⟩)) .n)))) (Cl.bu (dF ⟨.mk 7 0 [] [.mk i p h j,.mk r y q s],L::(o++w)⟩)) ?_;simp only[aN,aB,S,go_sem];refine⟨Cl.bu (dF ⟨.mk 7 0 [] [.mk i p h j,.mk r y q s],L::(o++w)⟩),_,⟨⟨.mk 7 0 [] [.mk i p h j,.mk r y q s],L::(o++w)⟩,A,⟨by(try simp only[]);rw[<-aT,<-aV],Zs,?_,by simpa[a5]using aH⟩,(by(try simp only[su]);exact dM ..)⟩,a2.congr λt d=>by simp[aj,aN,bX d (u:=8) A,bX d (u:=159) A]⟩;simp only[W7,bk,di,bF]at ap aq⊢;omega
  .have f4:(aD==4)=al:=by simp[aE]
   obtain rfl:bx=0:=by rw[av aE]at aL;exact aL
   simp only[su]at V M U;simp only[f4,go_sem];refine me (.bE [0,1,2,3,4,5,6,7] 8 (.fin [9,10]) 9 (.fin [8,10])) [] [] ?_;simp only[go_sem];refine⟨?_,?_⟩
   all_goals
    refine .inr (.inr (ar aG m bd _ _ _ (a0.congr λt d=>by simp[aj,bX d (u:=8) A,bX d (u:=9) A,bX d (u:=11) A,bX d (u:=13) A,bX d (u:=16) A]) aJ Zo ?_));intro bz b1 bc a7 a1 z;have ax:=z 8 dI;have J:=z 9 dI;have bb:=z 11 dI;have G:=z 13 dI;have au:=z 16 dI;simp only[bV,bH,dP,aP,dz]at ax J bb G au;obtain⟨⟨i,p,h,j⟩,o⟩:=bc;simp only[aW,au,go_sem];refine mc [0,1,2,3,4,5,6,7,8,9,10,11,12,13,14,16,15,17,18,19,20] [9,13,16] [] ?_;simp only[J,G,bw,be,go_sem];refine bO V ?_;refine .inr (.inr (M aG _ _ _ _ _ (a1.congr λt d=>by simp[aj,bX d (u:=16) A]) (show _=ds.length+(m+Y.aZ (.mk bm bv bo (.mk br bt bs) bq bn))by rw[bF,aJ,bj];omega) Zo ?_));intro bB b2 aC a9 a2 F;have aB:=F 8 dI;have S:=F 9 dI;have ay:=F 13 dI;have az:=F 16 dI;simp only[bV,bH,dP,aP,dz,ax,J,G]at aB S ay az;obtain⟨aT,aU,ap,bC⟩:=a7;obtain⟨aV,aX,aq,bI⟩:=a9;have P:=pT 7 0 (.mk W Z X) [⟨.mk i p h j,o⟩,aC] a3 (by simp;exact⟨aU,aX⟩) Zs (by simp[W7]at ap aq⊢;omega);generalize a5:cf (.mk W Z X)=L at P aH;obtain⟨⟨r,y,q,s⟩,w⟩:=aC;have Q:=dF ⟨.mk i p h j,o⟩;have R:=dF ⟨.mk r y q s,w⟩;simp only[aW,O.ds,Core.ds,bf,a8,bp,cB,dN,fX,c_]at P Q R⊢;simp only[J,G,S,ay,az,go_sem];refine fm [159] P (.c (.cl _ (aO _)) (.c (.cl _ (aO _)) (.c (.cl _ (Cl.bu (O.cl (.mk W Z X)))) (.c (Fz.rows (ob:=⟨_,148,5,[I i,I p,ints h,.sl 4 (Core.ae j),.sl 3 (O.ae o),I r,I y,ints q,.sl 4 (Core.ae s),.sl 3 (O.ae w)],aa⟩) (by simp only[bi,bG,aI,bH];rfl) A A Zd A Zs A (by simp only[cJ,cS,iz,wi,dT]at Q R⊢;exact⟨Q,R⟩)) .n)))) (Cl.bu (dF ⟨.mk 7 0 [] [.mk i p h j,.mk r y q s],L::(o++w)⟩)) ?_;simp only[aN,aB,S,go_sem];refine⟨Cl.bu (dF ⟨.mk 7 0 [] [.mk i p h j,.mk r y q s],L::(o++w)⟩),_,⟨⟨.mk 7 0 [] [.mk i p h j,.mk r y q s],L::(o++w)⟩,A,⟨by(try simp only[su]);rw[<-aT,<-aV],Zs,?_,by simpa[a5]using aH⟩,(by(try simp only[su]);exact dM ..)⟩,a2.congr λt d=>by simp[aj,aN,bX d (u:=8) A,bX d (u:=159) A]⟩;simp only[W7,bk,di,bF]at ap aq⊢;omega
def DC:∀a:a_,a.length<=Y.aR a
 |[]=>by simp
 |c::b=>by
  have:=DC b;have:0<c.num:=by obtain⟨d,e,c,f,g,h⟩:=c;rw[Y.num];omega
  simp only[di,Y.aR];omega
def VB{b:List bQ}{ks:a_}(g:b.length=ks.length)(d:∀(a:Nat)(e:a<b.length)(f:a<ks.length),b[a].ty.length<=W7 ks[a]):(b.map λj=>j.ty.length).sum<=10000000*Y.aR ks:=by
 induction b generalizing ks with
 |nil=>simp
 |cons k b i=>
  cases ks with
  |nil=>simp at g
  |cons l ks=>
   have h:=d 0 Zs Zs;have:=i (ks:=ks) (by simpa using g) λa e f=>d (a+1) (by simpa using e) (by simpa using f);simp only[fO,W7]at h;simp only[bp,ia,Y.aR];omega
def VT{ab:aw}{ds:aF}(a9:fR ab ds){k v:Int}(Z:k=3\/k=5\/k=8){n:BA}{t:O}{ns:aK}{ks:a_}{e:Env}{l:Int}(r:RC ab ds (.mk k v n t ns ks) e l)(a3:∀c∈ks,T7 70 ab ds c e l):T7 70 ab ds (.mk k v n t ns ks) e l:=by
 intro W m U G cE cA bZ ce cQ aq;obtain⟨w,z,y⟩:=t;have cg:Y.num (.mk k v n (.mk w z y) ns ks)=Y.aR ks+1:=by rw[Y.num];omega
 obtain⟨o,a1⟩:∃o:Nat->Core×bM,o=λi=>jf ab ds k n (.mk w z y) ns ks (ks.map Y.aZ) (ks.map (cw ab ds)) e l m i:=⟨_,A⟩;obtain⟨j,ap⟩:∃j:Nat->Nat,j=λi=>cj k (ks.map Y.aZ) m i:=⟨_,A⟩;have cm:=A1 (ab:=ab) (ds:=ds) (v:=v) (n:=n) (t:=.mk w z y) (ns:=ns) (ks:=ks) (e:=e) (l:=l) (m:=m) (show k≠10 by omega) Zo Zo;have bl:∀(i:Nat)(p:i<ks.length),o i=cw ab ds ks[i] e l (j i):=λi p=>by
  simp only[a1,ap];have:=x_ (ab:=ab) (ds:=ds) (n:=n) (t:=.mk w z y) (ns:=ns) (e:=e) (l:=l) (m:=m) p (k:=k) (λf=>by have:=f.1;omega);rw[this];rcases Z with rfl|rfl|rfl<;>simp[b8,cV,bL]
 have b0:j 0=m:=by rw[ap];simp[cj]
 have bk:∀(i:Nat)(p:i<ks.length),j (i+1)=j i+Y.aZ ks[i]:=λi p=>by
  simp only[ap];have:=Il (k:=k) (l:=ks.map Y.aZ) (m:=m) (i:=i) (by simpa using p);simp only[eI]at this;rw[this,show e8 k i=0 by rcases Z with rfl|rfl|rfl<;>simp[e8]];omega
 have cO:j ks.length=m+Y.aZ (.mk k v n (.mk w z y) ns ks):=by
  simp only[ap,cj];rw[Y.l_];rw[cU (by simp[gu])]
 have b1:∀C,C<=ks.length->j C<=j ks.length:=λC cY=>by
  obtain⟨d,ca⟩:∃d,ks.length=C+d:=⟨ks.length-C,Zo⟩;have cr:∀d,C+d<=ks.length->j C<=j (C+d):=λd=>by
   induction d with
   |zero=>intro _;exact b_ _
   |succ d cq=>intro f;have:=cq Zo;have:=bk (C+d) Zo;rw[<-re];omega
  rw[ca];exact cr d Zo
 have b2:∀(i:Nat)(p:i<ks.length),(o i).2.length=Y.aZ ks[i]:=λi p=>by rw[bl i p];exact ya _ _ _ _ (r.sh.cM _ (ax p))
 have aq:=T7.fin aq;rw[cm]at aq;have cW:=r.el;have c2:=r.l1;have c1:=r.l0;have c0:=rM r.tc.gd;have cZ:ks.length<=1000:=by have:=DC ks;omega
 have c5:k≠2:=Zo;have f4:(k==1)=al/\(k==2)=al/\(k==4)=al/\(k==6)=al/\(k==7)=al/\(k==9)=al/\(k==11)=al:=by rcases Z with rfl|rfl|rfl<;>decide
 obtain⟨f1,f2,f4,f6,f7,f9,f11⟩:=f4;have bY:cy aB 205=E (148,5,88):=Zk;unfold T7 at a3;obtain⟨aJ,cP,b9,a'⟩:=r.tp a9 (by simp[Y.kd];omega);have bn:dp aJ:=mf b9;have br:dp (cf aJ):=ig _ bn;have be:=bZ.off;have b3:=fo e;obtain⟨bJ,bK,bN,b5⟩:∃a b c,cc e=[a,b,c]:=⟨_,_,_,A⟩;have cT:Cl (.cp [.sl 2 (ai.ae ab),.sl 12 (ah.ae ds)]):=Cl.eX cu;have ci:=Y.cl (.mk k v n (.mk w z y) ns ks);obtain⟨P,R,Q⟩:=aJ;rw[b5]at b3 a' a3⊢;simp only[Y.ds,O.ds,strs,bf,a8,ai.sl,ah.sl]at a' ci;obtain⟨ak,aD,aC,aE,az,bd,-⟩:=be.ob;simp only[ai.sl,ah.sl]at bd;refine call7 aq [] [.cell 8 148] func70 A Zk ntmps70 A Zs ?_;simp only[f1,f9,f11,go_sem];refine cX [12] [50] ?_;simp only[bd,go_sem];refine uL a' ?_;simp only[f2,f4,f6,f7,go_sem];refine bq 18 ks.length (λf=>Fw.cK 221 [(0,.rf 12 W 0),(1,.cp [I k,I v,S n,I w,S z,.sl 3 (O.ae y),.sl 1 (ns.map λG=>[S G]),.sl 8 (Y.ae ks)]),(3,I l),(6,.cp [bJ,bK,bN]),(8,.rf 8 (G.n 8) 0),(9,.rf 9 (G.n 9) 0)] λam q ct bb=>bb=G.T/\(∃c8,q 8=E ⟨G.n 8,148,5,c8,aa⟩/\c8.length=5)/\q 9=E ⟨G.n 9,87,3,[I P,S R,.sl 3 (O.ae Q)],aa⟩/\
  ∃h:List bQ,h.length=f/\(∀(i:Nat)(J:i<ks.length)(K:i<h.length),fl (o i).1 (W7 ks[i]) h[i])/\L7 ab ds q W (U++((List.range f).map λi=>(o i).2).flatten)/\(U++((List.range f).map λi=>(o i).2).flatten).length=ds.length+j f/\aH [161,183] q 148 5 (h.map aW) (am 17)) A
  ⟨A,by simp[af,ba],A,⟨_,by simp[aj];rfl,A⟩,by simp[aj],[],A,Zs,?_,by simp[ce,b0],.inr ⟨161,_,Zs,by simp[af];rfl,by simp[aj]⟩⟩ ?_
 .simp only[List.range_zero,cB,fX,c_];exact be.congr λt g=>by simp[aj,bX g (u:=8) A,bX g (u:=9) A,bX g (u:=161) A]
 rintro f am q ct bb cC c3⟨ar,⟨c8,an,u4⟩,X,h,M,av,a0,bs,ay⟩;obtain⟨dl,dm,dn,dq,dr,rfl⟩:∃a b c d e,c8=[a,b,c,d,e]:=by
  exact Bz
 simp only[go_sem];refine aT (λr=>?_) λr=>?_
 .have L:=bh r;have aX:=Y.bo ks f L;have a4:=a3 _ (ax L);have bm:=bl f L;have bw:=Y.cl ks[f];have bp:=bk f L;have cR:=b1 (f+1) Zo;obtain⟨bR,a5⟩:=Zx (ks[f]);rw[a5]at aX a4 bm bw bp;obtain⟨c9,df,da,⟨dc,de,dd⟩,db,c'⟩:=bR;simp only[Y.ds,O.ds,strs,bf,a8]at aX a4 bw;obtain⟨bI,D⟩:=Zx (am 17);rw[D]at ay;simp only[go_sem];refine cX [] [] ?_;simp only[D,aX,ic,go_sem];refine .inr (.inr (a4 W (j f) _ _ _ _ a0 bs Zo ?_));intro bO c6 cz bt bj au;have cv:=(au 8 dI).trans an;have cx:=(au 9 dI).trans X;have bB:=au 161 dI;have bD:=au 183 dI;simp only at bB bD;rw[<-bm]at bt bj;obtain⟨⟨aM,aU,aL,aQ⟩,aS⟩:=cz;have cd:=vM ⟨.mk aM aU aL aQ,aS⟩;simp only[aW,go_sem]at cd⊢;refine iO (S:=[161,183]) (rows:=h.map aW) (bx:=[[I aM,I aU,.sl 1 (aL.map λn=>[I n]),.sl 4 (Core.ae aQ),.sl 3 (O.ae aS)]]) Zs bY (by simp only[af,aI,aV,aP,bT,bU,reduceCtorEq];exact ay.congr (by simp[aj,bB,bD])) (nf _) ga Zs A (by rw[bW,M];show(f+1)*88<=_;omega) (by rw[bW,M];show f+1<=ao;unfold ao;omega) (by show 183<221;decide) ?_;intro bP c7 dg co a2;have bG:=a2 8 Zd Zd;have bH:=a2 9 Zd Zd;simp only[bV,dP,aP,dz,cv,cx]at bG bH;simp only[go_sem];have bv:((List.range (f+1)).map λi=>(o i).2).flatten=((List.range f).map λi=>(o i).2).flatten++(o f).2:=by rw[wc,bC,fN];simp
  refine bg L ⟨A,by simp[af],ar,⟨_,bG,A⟩,bH,h++[⟨.mk aM aU aL aQ,aS⟩],by simp[M],λi J K=>?_,?_,?_,?_⟩
  .by_cases c:i<h.length
   .rw[yh c];exact av i J c
   .obtain rfl:i=f:=by simp at K;omega
    rw[List.getElem_append_right Zo];simp only[M,uj,fO,a5];exact bt
  .rw[bv,<-dM];refine bj.congr λt g=>?_;show bP t=bO t;rw[a2 t (bX g A) (by simp only[cJ,cS,iz,jT];exact⟨bX g A,bX g A⟩)];simp[aj,bX g (u:=182) A]
  .rw[bv,<-dM,bF,bs,b2 f L,a5,bp];omega
  .rw[bC];simp only[af,aI,aV,aP,bT,bU,reduceCtorEq];exact co.sub Zs
 .have ch:=bS r;subst ch;have c4:=VB M λi J K=>(av i K J).len;have s:=pT k (if k=3 then v else if k=5 then 0 else je (-1) ab n) (.mk P R Q) h bn (λt g=>by obtain⟨i,p,rfl⟩:=dG g;exact(av i Zo p).ne) Zo Zo;have cn:(if k=3 then v else if k=5 then 0 else je (-1) ab n)=k5 ab k v n:=by
   rcases Z with rfl|rfl|rfl
   .simp[k5]
   .simp[k5,ER ‹RC ab ds _ e l› Zd Zd]
   .simp only[k5,Int.reduceEq,aV,aI];obtain⟨i,p,t,g,cG,cH,cL,cN,bc⟩:=oN (show 0<=fD ab n by have:=(iQ (RC.tc ‹RC ab ds _ e l›).fit).1;simp[dR]at this;omega);rw[bc,bc]
  generalize cb:cf (.mk P R Q)=V at s br;have ck:h.map bQ.c=(List.range ks.length).map λi=>(o i).1:=by
   refine p7 (by simp[M]) λi J K=>?_;simp only[eI,List.getElem_range];exact(av i (by simpa using K) (by simpa using J)).c
  obtain⟨bI,D⟩:=Zx (am 17);rw[D]at ay;have a7:Fz (bi [161,183] q) bI (.sl 5 (h.map aW)):=aH.fz (ay.congr (by simp[bi])) Zd (nf _) (nc _);have aY:∃ak aD aC aE az,q 12=E ⟨W,75,6,[.cp [.sl 2 (ai.ae ab),.sl 12 (ah.ae ds)],I ak,aD,aC,aE,az],aa⟩:=by
   obtain⟨ak,aD,aC,aE,az,f,-⟩:=a0.ob;exact⟨ak,aD,aC,aE,az,f⟩
  obtain⟨cD,dj,di,dk,dh,aY⟩:=aY;have bz:aN [161,183] q 8=q 8:=by simp[aN]
  have B:=dF ⟨.mk k (if k=3 then v else if k=5 then 0 else je (-1) ab n) [] (h.map bQ.c),V::(h.map bQ.ty).flatten⟩;have F:fl (.mk k (k5 ab k v n) [] ((List.range ks.length).map λi=>(o i).1)) (W7 (.mk k v n (.mk w z y) ns ks)) ⟨.mk k (if k=3 then v else if k=5 then 0 else je (-1) ab n) [] (h.map bQ.c),V::(h.map bQ.ty).flatten⟩:=by
   rw[cn];exact fl.kids ck (by simp only[W7,cg];omega) (cb▸br)
  simp only[a1]at F;have b':U++((List.range ks.length).map λi=>(o i).2).flatten=U++((List.range ks.length).map λi=>(jf ab ds k n (.mk w z y) ns ks (ks.map Y.aZ) (ks.map (cw ab ds)) e l m i).2).flatten:=by rw[a1]
  have a6:∀aG,(∀t,t≠8->aG t=aN [161,183] q t)->L7 ab ds aG W (U++((List.range ks.length).map λi=>(jf ab ds k n (.mk w z y) ns ks (ks.map Y.aZ) (ks.map (cw ab ds)) e l m i).2).flatten):=λaG b6=>by
   rw[<-b'];refine a0.congr λt g=>?_;rw[b6 t (bX g A)];simp[aN,bX g (u:=161) A,bX g (u:=183) A]
  rcases Z with rfl|rfl|rfl
  .simp only[aI]at s B F;simp only[aW,O.ds,Core.ds,bf,a8]at s;simp only[go_sem];refine cX [9] [] ?_;simp only[D,X,go_sem];refine fm [161,183] s (.c (.cl _ (aO _)) (.c (.cl _ (aO _)) (.c (.cl _ (Cl.bu (O.cl (.mk P R Q)))) (.c a7 .n)))) (Cl.bu B) ?_;simp only[an,X,aN,go_sem];exact⟨Cl.bu B,ar,_,⟨⟨.mk 3 v [] (h.map bQ.c),V::(h.map bQ.ty).flatten⟩,A,F,A⟩,a6 _ λt g=>by simp[aj,g]⟩
  .simp only[Int.reduceEq,aV,aI]at s B F;simp only[aW,O.ds,Core.ds,bf,a8]at s;simp only[D,X,go_sem];refine fm [161,183] s (.c (.cl _ (aO _)) (.c (.cl _ (aO _)) (.c (.cl _ (Cl.bu (O.cl (.mk P R Q)))) (.c a7 .n)))) (Cl.bu B) ?_;simp only[an,bz,go_sem];exact⟨Cl.bu B,ar,_,⟨⟨.mk 5 0 [] (h.map bQ.c),V::(h.map bQ.ty).flatten⟩,A,F,A⟩,a6 _ λt g=>by simp[aj,g]⟩
  .simp only[Int.reduceEq,aV]at s B F;simp only[aW,O.ds,Core.ds,bf,a8]at s;simp only[aY,go_sem];refine b7 ?_;refine d' (rX ab n a9.ll.len a9.ll.cs) ?_;simp only[D,X,go_sem];refine fm [161,183] s (.c (.cl _ (aO _)) (.c (.cl _ (aO _)) (.c (.cl _ (Cl.bu (O.cl (.mk P R Q)))) (.c a7 .n)))) (Cl.bu B) ?_;simp only[an,bz,go_sem];exact⟨Cl.bu B,ar,_,⟨⟨.mk 8 (je (-1) ab n) [] (h.map bQ.c),V::(h.map bQ.ty).flatten⟩,A,F,A⟩,a6 _ λt g=>by simp[aj,g]⟩
variable {g6:Env}{dg:BA}
def rQ{b:BA}(f:b≠nE):hV g6 dg=b↔dg=b/\b∉g6.map Ev.n:=by
 unfold hV;split
 .rename_i d;exact⟨λa=>absurd a.symm f,λ⟨a,e⟩=>absurd (a▸d) e⟩
 .rename_i d;exact⟨λa=>⟨a,a▸d⟩,λa=>a.1⟩
def gL(F vs:Env)(l:Int):Env:=vs.map λv:Ev=>if v.l=l+1 then(⟨nE,kG v.t,0⟩:Ev)else⟨hV F v.n,v.t,0⟩
def gz(F vs:Env)(l:Int):Env:=(vs.filter λv=>decide (v.l=l+1)).map λv=>⟨hV F v.n,v.t,1⟩
def nX(a vs:Env)(b:Int):hW a vs b=a++(gL a vs b++gz a vs b):=rfl
variable {a0:Int}
def Ah{vs:Env}{d:BA}(f:d≠nE){g:Ev}(i:g∈gL g6 vs a0)(b:g.n=d):∃a∈vs,a.n=d/\a.l≠a0+1/\g.t=a.t/\d∉g6.map Ev.n:=by
 obtain⟨a,h,rfl⟩:=aG.1 i;by_cases e:a.l=a0+1
 .simp only[aM e]at b;exact absurd b.symm f
 .simp only[av e]at b⊢;exact⟨a,h,((rQ f).1 b).1,e,A,((rQ f).1 b).2⟩
def xC{vs:Env}{b:BA}(g:b≠nE){e:Ev}(i:e∈gz g6 vs a0)(f:e.n=b):∃a∈vs,a.n=b/\a.l=a0+1/\e.t=a.t/\b∉g6.map Ev.n:=by
 obtain⟨a,d,rfl⟩:=aG.1 i;obtain⟨d,h⟩:=ko.1 d;exact⟨a,d,((rQ g).1 f).1,by simpa using h,A,((rQ g).1 f).2⟩
def xz{e:Env}(b:∀a∈e,a.n≠dg):look e dg=aa:=mw λd=>by
 obtain⟨a,f,e⟩:=aG.1 d;exact b a f e
def Rw(h vs:Env)(p:Int){g:BA}(i:g≠nE)(K:∀B∈vs,∀C∈vs,B.n=C.n->B=C):eT (hW h vs p) g=if g∈h.map Ev.n then eT h g else eT vs g:=by
 rw[nX];simp only[eT,mV];by_cases k:g∈h.map Ev.n
 .rw[aM k,xz λm d f=>(Ah i d f).elim λa b=>b.2.2.2.2 k,xz λm d f=>(xC i d f).elim λa b=>b.2.2.2.2 k];rfl
 .rw[av k,mw k];by_cases u:g∈vs.map Ev.n
  .obtain⟨j,G⟩:=pU u;obtain⟨y,z⟩:=jN G;have r:∀a∈vs,a.n=g->a=j:=λa b f=>K a b j y (f.trans z.symm);rw[G];by_cases q:j.l=p+1
   .have J:g∈(gz h vs p).map Ev.n:=aG.2 ⟨⟨hV h j.n,j.t,1⟩,aG.2 ⟨j,ko.2 ⟨y,by simpa using q⟩,A⟩,(rQ i).2 ⟨z,k⟩⟩;obtain⟨m,d⟩:=pU J;obtain⟨w,x⟩:=jN d;obtain⟨a,b,o,-,s,-⟩:=xC i w x;rw[d];simp[s,r a b o]
   .rw[xz (e:=gz h vs p) λm d f=>by
     obtain⟨a,b,o,D,-,-⟩:=xC i d f;rw[r a b o]at D;exact q D]
    have I:g∈(gL h vs p).map Ev.n:=aG.2 ⟨⟨hV h j.n,j.t,0⟩,aG.2 ⟨j,y,by rw[av q]⟩,(rQ i).2 ⟨z,k⟩⟩;obtain⟨m,d⟩:=pU I;obtain⟨w,x⟩:=jN d;obtain⟨a,b,o,-,s,-⟩:=Ah i w x;rw[d];simp[s,r a b o]
  .have F:∀a∈vs,a.n≠g:=λa b f=>u (aG.2 ⟨a,b,f⟩);rw[xz λm d f=>(Ah i d f).elim λa b=>F a b.1 b.2.1,xz λm d f=>(xC i d f).elim λa b=>F a b.1 b.2.1,mw u];rfl
def Ru(b vs:Env)(r:Int){d:BA}(f:d≠nE):d∈(hW b vs r).map Ev.n↔d∈b.map Ev.n\/d∈vs.map Ev.n:=by
 constructor
 .intro h;rw[nX,bC,bC,cg,cg]at h;rcases h with h|h|h
  .exact .inl h
  .obtain⟨s,k,g⟩:=aG.1 h;obtain⟨m,i,j,-⟩:=Ah f k g;exact .inr (aG.2 ⟨m,i,j⟩)
  .obtain⟨s,k,g⟩:=aG.1 h;obtain⟨m,i,j,-⟩:=xC f k g;exact .inr (aG.2 ⟨m,i,j⟩)
 .intro h;rw[nX,bC,bC,cg,cg];by_cases e:d∈b.map Ev.n
  .exact .inl e
  .obtain⟨a,p,q⟩:=aG.1 (h.resolve_left e);by_cases o:a.l=r+1
   .exact .inr (.inr (aG.2 ⟨⟨hV b a.n,a.t,1⟩,aG.2 ⟨a,ko.2 ⟨p,by simpa using o⟩,A⟩,(rQ f).2 ⟨q,e⟩⟩))
   .exact .inr (.inl (aG.2 ⟨⟨hV b a.n,a.t,0⟩,aG.2 ⟨a,p,by rw[av o]⟩,(rQ f).2 ⟨q,e⟩⟩))
def vb(a vs:Env)(b:Int):(hW a vs b).length<=a.length+2*vs.length:=by
 rw[nX,bF,bF,gL,gz,bW,bW];have:=nl (λv:Ev=>decide (v.l=b+1)) vs;omega
def Jp(g:Nat):∀(e:List Bool)(f:Bool)(b d:Nat),gr g (e++[f]) b d=gr g e b d++if f then[((g:Int)+((d+e.count ad:Nat):Int)-1-((b+e.length:Nat):Int))]else[]
 |[],f,b,d=>by cases f<;>simp[gr]
 |a::e,f,b,d=>by
  have h:=Jp g e f;cases a
  .simp only[bf,gr,uf,aV];rw[h (b+1) d];simp[rh,Nat.add_left_comm]
  .simp only[bf,gr,aI];rw[h (b+1) (d+1)];simp[rh,Nat.add_left_comm]
def Rs(b vs:Env)(a:Int)(v:Ev):gz b (vs++[v]) a=gz b vs a++if v.l=a+1 then[⟨hV b v.n,v.t,1⟩]else[]:=by
 unfold gz;by_cases d:v.l=a+1<;>simp[d]
def J0(b vs:Env)(a:Int):(gz b vs a).length=(vs.map λv=>decide (v.l=a+1)).count ad:=by
 induction vs with
 |nil=>rfl
 |cons v vs e=>
  have:gz b (v::vs) a=(if v.l=a+1 then[⟨hV b v.n,v.t,1⟩]else[])++gz b vs a:=by
   unfold gz;by_cases d:v.l=a+1<;>simp[d]
  rw[this,bF,e];by_cases d:v.l=a+1<;>simp[d,rh]
abbrev fM(ks:a_)(e:Env):Env:=(bz ks e).filterMap (look e)
variable {hw:a_}
def vU{a:Ev}(d:a∈fM hw g6):a.n∈bz hw g6/\look g6 a.n=E a:=by
 obtain⟨f,e,b⟩:=List.mem_filterMap.1 d;have:=(jN b).2;rw[this];exact⟨e,b⟩
def Ns:∀a∈fM hw g6,∀b∈fM hw g6,a.n=b.n->a=b:=λa f b g e=>by
 have d:=(vU f).2;rw[e,(vU g).2]at d;cases d;rfl
def XG{b:Env}{a:BA}(e:a∈bz hw b):a∈(fM hw b).map Ev.n/\eT (fM hw b) a=eT b a:=by
 have h:=(my.1 e).1;cases d:look b a with
 |none=>rw[d]at h;cases h
 |some k=>
  have i:=List.mem_filterMap.2 ⟨a,e,d⟩;have g:=(jN d).2;have f:=aG.2 ⟨k,i,g⟩;refine⟨f,?_⟩;obtain⟨o,j⟩:=pU f;obtain⟨l,m⟩:=jN j;have:=Ns o l k i (m.trans g.symm);simp only[eT,j,d,this]
variable {a4:aw}{a5:aF}
def RC.root{f:a_}{b e j:Env}{h:Int}{i:Y}(g:RC a4 a5 i (b++j) h)(y:e.map Ev.n=j.map Ev.n)(K:∀a,eT e a=eT j a)(G:∀a∈b,O.w a.t)(L:∀a∈e,O.w a.t)
 (I:∀a,fv i [] a->a∉e.map Ev.n->(look b a).isSome=ad->a∈bz f b) (Q:e.length+2*Y.aR f+3*i.num<=1000000):RC a4 a5 i (hW e (fM f b) h) 0:=by
 have C:∀a,fv i [] a->(a∈(b++j).map Ev.n↔a∈(hW e (fM f b) h).map Ev.n)/\eT (hW e (fM f b) h) a=eT (b++j) a:=λa d=>by
  have r:=zt i g.sh d;rw[Ru e _ h r,Rw e _ h r Ns,bC,cg,<-y];simp only[eT,mV];by_cases o:a∈e.map Ev.n
  .obtain⟨u,m⟩:=pU (y▸o);have:=K a;simp only[eT,m]at this;simp[o,m,this]
  .rw[av o];simp only[o,mw (by rw[<-y];exact o),iz,false_or,lZ];cases p:look b a with
   |none=>
    have r:a∉b.map Ev.n:=λx=>by obtain⟨u,m⟩:=pU x;rw[p]at m;cases m
    have F:a∉(fM f b).map Ev.n:=λx=>by
     obtain⟨u,m,M⟩:=aG.1 x;have:=(vU m).2;rw[M,p]at this;cases this
    exact⟨⟨λk=>absurd k r,λk=>absurd k F⟩,by rw[mw F]⟩
   |some u=>
    obtain⟨B,q⟩:=XG (I a d o (by rw[p];rfl));refine⟨⟨λ_=>B,λ_=>aG.2 ⟨u,(jN p).1,(jN p).2⟩⟩,?_⟩;have q:(look (fM f b) a).map Ev.t=(look b a).map Ev.t:=q;rw[q,p]
 refine⟨⟨g.tc.gd,g.tc.fit,g.tc.cA,λa d=>?_,g.tc.ok⟩,g.sh,λa d=>?_,oq _,by have:=g.l1;have:=g.l0;omega,?_,?_⟩
 .have D:=CU d;have A:fv i [] a:=by
   have:=(s5 i [] ((hW e (fM f b) h).map Ev.n) a D).1;rw[c_]at this;exact this d
  refine g.tc.free a ?_;have J:a∉(b++j).map Ev.n:=λk=>D ((C a A).1.1 k);have:=(s5 i [] ((b++j).map Ev.n) a J).2 A;rwa[c_]at this
 .rw[nX,cg,cg]at d;rcases d with d|d|d
  .exact L a d
  .obtain⟨s,z,rfl⟩:=aG.1 d;have:=G s (jN (vU z).2).1;by_cases k:s.l=h+1
   .simp only[aM k];exact Nu this
   .simp only[av k];exact this
  .obtain⟨s,z,rfl⟩:=aG.1 d;exact G s (jN (vU (ko.1 z).1).2).1
 .have B:=vb e (fM f b) h;have q:(fM f b).length<=(bz f b).length:=List.length_filterMap_le _ _;have P:=Cd f b;omega
 .rw[AX i (hW e (fM f b) h) (b++j) 0 h g.sh λa d=>(C a d).2];exact g.ty
variable {gc:aU}
def GK.fc{b:St}(h:aD)(f j:Nat){a:Ob}{d e:D}(r:b.H f=E a)(s:f∉h)(o:a.cells[j]?=E d)(q:Fz (bi h b.H) d e)(p:Cl e)
 (m:∀i,i f=E {a with cells:=a.cells.set j e}->(∀g,g≠f->g∉h->i g=b.H g)->GK gc {b with H:=i}):GK gc b:=
 GK.join (GK.qx h f j a d e r s o q p (m _ bJ λg k l=>by simp[aj,k,aN,l]))
def GK.fe{a:St}(e:aD)(f:Nat)(b:D)(k:Fz (bi e a.H) (a.env f) b)(j:Cl b)(i:∀g,(∀d,d∉e->g d=a.H d)->GK gc {a with env:=af a.env f b,H:=g}):GK gc a:=
 GK.join (GK.ln e f b k j (i _ λd h=>by simp[aN,h]))
variable {h V:Nat}
def AD(a Z b:DL)(e:a.length=h)(d:Z.length=V):List.take h (a++Z)++b++List.drop (h+V) (a++Z)=a++b:=by subst e;subst d;simp
def vE(a Z:DL)(d:Nat)(b:D)(e:a.length=h):(a++Z).set (h+d) b=a++Z.set d b:=by subst e;rw[List.set_append_right _ _ Zo];simp
def uY(a Z:DL)(b:Nat)(d:a.length=h):(a++Z)[h+b]?=Z[b]?:=by subst d;rw[jv Zo];simp
def uN(a:Nat):Cl (.sl a []):=cI.2 Zs
variable {a2 a9 eq gt:Nat}
def L7.of{g:bt}{t u w:Nat}{f:bM}{NN:List (cz)}{TT:cz}{BB:ct}(q:g 12=E ⟨h,75,6,[.cp [ai.sl a4,ah.sl a5],I a0,.ms 185 V gt,.ms 195 a2 t,.ms 218 a9 u,.ms 205 eq w],aa⟩)
 (l:g 185=E ⟨V,81,4,(Core.ae f).flatten,aa⟩) (y:gt=(Core.ae f).length) (m:g 195=E ⟨a2,72,1,(fW NN).flatten,aa⟩) (z:t=(fW NN).length) (D:NN.length=f.length)
 (o:g 218=E ⟨a9,87,3,(O.ae TT).flatten,aa⟩) (A:u=(O.ae TT).length) (F:TT.length=f.length) (p:g 205=E ⟨eq,285,4,BB.flatten,aa⟩) (B:w=BB.length) (C:BB.length<=f.length) (r:∀d∈BB,d.length=4/\∀e∈d,Cl e):L7 a4 a5 g h f:=by
 refine⟨⟨a0,_,_,_,_,q,.inr ⟨185,V,Zs,by rw[y],l⟩,⟨NN,D,.inr ⟨195,a2,Zs,by rw[z],m⟩⟩,⟨TT,F,.inr ⟨218,a9,Zs,by rw[A],o⟩⟩,BB,C,r,.inr ⟨205,eq,Zs,by rw[B],p⟩⟩,λL s K b e a=>?_⟩;simp only[dY,cJ,cS,iz]at s;have j:∀(k:ct),(∀d∈k,∀e∈d,Cl e)->e∈k.flatten->In dY e:=λk G a=>by obtain⟨d,i,a⟩:=ft.1 a;exact(G d i e a).cD
 rcases s with rfl|rfl|rfl|rfl|rfl
 .rw[q]at b;cases b;simp only[cJ,cS,iz]at a;rcases a with rfl|rfl|rfl|rfl|rfl|rfl
  .exact(Cl.eX cu).cD
  .exact .sc _
  all_goals exact .ms _ _ dI
 .rw[l]at b;cases b;exact j _ (Core.bA f) a
 .rw[m]at b;cases b;exact j _ (λd i e a=>by obtain⟨J,-,rfl⟩:=aG.1 i;simp at a;subst a;exact cI.2 (O.bA J)) a
 .rw[p]at b;cases b;exact j _ (λd i=>(r d i).2) a
 .rw[o]at b;cases b;exact j _ (O.bA TT) a
def L7.set{i:bt}{a:bM}(L:L7 a4 a5 i h a)(B:a≠[]):∃o f g s r l,i 12=E ⟨h,75,6,[.cp [ai.sl a4,ah.sl a5],I o,.ms 185 f a.length,.ms 195 g a.length,s,r],aa⟩/\i 185=E ⟨f,81,4,(Core.ae a).flatten,aa⟩/\l.length=a.length/\i 195=E ⟨g,72,1,(fW l).flatten,aa⟩/\
 ∀j k m,k.length=a.length->m.length=a.length->j 185=E ⟨f,81,4,(Core.ae k).flatten,aa⟩->j 195=E ⟨g,72,1,(fW m).flatten,aa⟩->(∀b∈dY,b≠185->b≠195->j b=i b)->L7 a4 a5 j h k:=by
 obtain⟨⟨o,am,ak,s,r,t,e,⟨l,u,U⟩,⟨K,W,V⟩,J,S,R,Q⟩,X⟩:=L;have ab:0<a.length:=q0.2 B;obtain⟨f,rfl,M⟩:=fG e (by rw[Core.bZ];simpa using B);obtain⟨g,rfl,P⟩:=fG U (by simp only[fW,aq,dP,List.map_eq_nil_iff];rintro rfl;simp at u;omega);rw[Core.bb,dC,u]at t;refine⟨o,f,g,s,r,l,t,M,u,P,λj k m p A D F q=>⟨⟨o,_,_,s,r,(q 12 dI Zd Zd).trans t,.inr ⟨185,f,Zs,by rw[Core.bb,p],D⟩,⟨m,by rw[A,p],.inr ⟨195,g,Zs,by rw[dC,A],F⟩⟩,⟨K,by rw[W,p],V.congr (by simp only[bG,dT];exact q _ dI Zd Zd)⟩,J,by rw[p];exact S,R,Q.congr (by simp only[bG,dT];exact q _ dI Zd Zd)⟩,λb C Y e z d=>?_⟩⟩;by_cases x:b=185
 .subst x;rw[D]at e;cases e;obtain⟨G,w,d⟩:=ft.1 d;exact(Core.bA k G w z d).cD
 by_cases y:b=195
 .subst y;rw[F]at e;cases e;obtain⟨G,w,d⟩:=ft.1 d;obtain⟨Z,-,rfl⟩:=aG.1 w;simp at d;subst d;exact(cI.2 (O.bA Z)).cD
 exact X b C Y ((q b C x y).symm.trans e) z d
def CS(f:Nat):∀(a:List Bool)(d e:Nat),(gr f a d e).length=a.count ad
 |[],_,_=>rfl
 |b::a,d,e=>by cases b<;>simp[gr,CS f a]
def AE(a B Z b:DL)(e:a.length=h)(d:Z.length=V):List.take h (a++(Z++B))++b++List.drop (h+V) (a++(Z++B))=a++(b++B):=by subst e;subst d;simp[<-List.drop_drop]
def B7(ab:aw)(ds:aF)(c:Y)(F:Env)(en:aK)(e:Env)(l:Int)(d:O)(w:Core->Core)(b:Env):Prop:=∀(g m:Nat)(a:bM)(s:St)(dst:ON)(K:aU),L7 ab ds s.H g a->a.length=ds.length+m->m+1+Y.aZ c<=1000000->
 (∀H n,L7 ab ds H g (a++(w (cw ab ds c b 0 (m+1)).1::(cw ab ds c b 0 (m+1)).2))->(∀t,t∉dY->H t=s.H t)->K ({s with H:=H,n:=n}.put dst (I (ds.length+m:Nat))))->
 gx aB s 175 [.rf 12 g 0,.cp c.ds,.sl 1 (R (F.map Ev.n)),.sl 3 (O.ae (F.map Ev.t)),.sl 1 (R en),.ag (cc e),I l,.ag d.ds] dst K
variable {go:O}
def OC{bc:aw}{aX:aF}(io:fR bc aX)(jj:0<aX.length){o:a_}{c:Y}{b e:Env}{l:Int}(dR:dp go)(ja:b.length<=3)(hK:∀v∈b,v.l=0)(jl:e.length<=1000000)(hl:0<=l/\l<=1000)(jh:(bz o e).length<=1000)(ci:RC bc aX c (hW b (fM o e) l) 0)(dl:T7 70 bc aX c (hW b (fM o e) l) 0):
 B7 bc aX c b (bz o e) e l go (λx=>lO (b.length+(fM o e).length) (mU (gr (fM o e).length ((fM o e).map λv=>decide (v.l=l+1)) 0 0) x)) (hW b (fM o e) l):=by
 intro aJ dx g j ho hd hE e5 jf hQ;have hP:∀H n d cn,(d=I (aX.length+dx:Nat)/\cn=g++(lO (b.length+(fM o e).length) (mU (gr (fM o e).length ((fM o e).map λv=>decide (v.l=l+1)) 0 0) (cw bc aX c (hW b (fM o e) l) 0 (dx+1)).1)::(cw bc aX c (hW b (fM o e) l) 0 (dx+1)).2))->L7 bc aX H aJ cn->(∀f,f∉dY->H f=j.H f)->hd ({j with H:=H,n:=n}.put ho d):=by
  rintro H n d cn⟨rfl,rfl⟩c6 dj;exact hQ H n c6 dj
 have hF:=hE.off;have fD:=fo e;obtain⟨b8,cZ,c0,fJ⟩:∃a a9 c,cc e=[a,a9,c]:=⟨_,_,_,A⟩;have jr:=Y.cl c;obtain⟨b0,jE,ej,b3,iZ,eL,il,⟨NN,dU,hR⟩,⟨TT,eW,hZ⟩,BB,i',fB,eQ⟩:=hF.ob;have hU:Core.ae g≠[]:=by rw[Core.bZ];cases g<;>simp at e5⊢;omega
 obtain⟨hA,rfl,im⟩:=fG il hU;have c7:(Core.ae g).length=g.length:=Core.bb g;obtain⟨W,Z,X⟩:=go;obtain⟨bt,bN,bB,⟨bK,bM,bL⟩,bI,bv⟩:=c;have dV:(R (b.map Ev.n)).length=b.length:=by simp[R]
 have dW:(R (bz o e)).length=(bz o e).length:=by simp[R]
 have hY:∀l,(R l).flatten.all b4=ad:=λl=>by rw[b6];intro d a5;obtain⟨p,ci,a5⟩:=ft.1 a5;obtain⟨x,-,rfl⟩:=aG.1 ci;simp at a5;subst a5;rfl
 have jd:∀l,(R l).flatten.length=l.length:=λl=>by rw[jM (qc l)];simp[R]
 rw[fJ]at fD⊢;refine call7 hP [1000093,1000102,1000156,1000164,1000195,1000225] [.tmp 16] func175 A Zk ntmps175 A Zs ?_;simp only[eL,go_sem];obtain⟨i5,ji⟩:=Zx (D.cp [ai.sl bc,ah.sl aX]);refine uR (λck=>Fw.cK 278 [(0,.rf 12 aJ 0),(1,.cp [I bt,I bN,S bB,I bK,S bM,.sl 3 (O.ae bL),.sl 1 (bI.map λj=>[S j]),.sl 8 (Y.ae bv)]),(2,.sl 1 (R (b.map Ev.n))),(3,.sl 3 (O.ae (b.map Ev.t))),(4,.sl 1 (R (bz o e))),(13,.cp [b8,cZ,c0]),(6,I l),(15,.cp [I W,S Z,.sl 3 (O.ae X)]),(17,I g.length),(18,.rf 18 (j.n 18) 0)] (λs H n K=>K=j.T/\(∃F G,H 18=E ⟨j.n 18,285,4,[I b0,F,G,a'],aa⟩/\aH [41,43] H 9 1 (R (b.map Ev.n)) F/\aH [44,46] H 9 1 (R (bz o e)) G)/\∀f,f∉[18,41,43,44,46]->H f=bi dY j.H f) ck)
  (.sZ [0,1,2,3,5,8] 4 (.sZ [] 6 (.bE [] 7 (.bE [] 9 (.fin [10,11,12]) 11 (.fin [9,10,12])) 11 (.fin [7,9,10,12])) 7 (.bE [] 6 (.bE [] 9 (.fin [10,11,12]) 11 (.fin [9,10,12])) 11 (.fin [6,9,10,12])) 11 (.bE [] 6 (.fin [7,9,10,12]) 7 (.fin [6,9,10,12]))) 7 (.bE [] 4 (.bE [] 6 (.bE [] 9 (.fin [10,11,12]) 11 (.fin [9,10,12])) 11 (.fin [6,9,10,12])) 11 (.fin [4,6,9,10,12])) 11 (.bE [] 4 (.bE [] 6 (.fin [7,9,10,12]) 7 (.fin [6,9,10,12])) 7 (.fin [4,6,9,10,12]))) [12] [] mixed Zk ?_ ?_
 .skip
  simp(maxSteps:=5000000) only[eL,dV,dW,hY,cJ,cS,iz,dT,go_sem];have gP:b.length*16<=140737488355328:=Zo;have q2:b.length<=ao:=by unfold ao;omega
  have jx:(bz o e).length*16<=140737488355328:=Zo;have jy:(bz o e).length<=ao:=by unfold ao;omega
  repeat' (with_reducible refine And.intro ?_ ?_)
  all_goals first
   |assumption
   |exact⟨A,by simp[af,ba],A,⟨_,_,by simp only[bH];rfl,.inr ⟨43,j.n 43,Zs,by rw[dV],by simp[aj]⟩,.inr ⟨46,j.n 46,Zs,by rw[dW],by simp[aj]⟩⟩,λf i=>by simp only[jT]at i;simp[aj,i]⟩
 rintro⟨s,H,a1,ec,K,cm⟩⟨rfl,a6,aK,⟨F,G,Q,aL,aQ⟩,r⟩;simp only[a7]at a6 aK Q aL aQ r;obtain⟨P,cu,hp,fA,hq,eu,hr,aE,aY,dJ,-⟩:=a6;simp only[fA,go_sem];have fZ:(O.ae (b.map Ev.t)).length=b.length:=by rw[O.bb,bW]
 refine⟨⟨O.Ly _,Zo,by unfold ao;omega⟩,?_⟩;refine bq 21 b.length (λq=>Fw.cK 278 [(0,.rf 12 aJ 0),(1,.cp [I bt,I bN,S bB,I bK,S bM,.sl 3 (O.ae bL),.sl 1 (bI.map λj=>[S j]),.sl 8 (Y.ae bv)]),(2,.sl 1 (R (b.map Ev.n))),(3,.sl 3 (O.ae (b.map Ev.t))),(4,.sl 1 (R (bz o e))),(13,.cp [b8,cZ,c0]),(6,I l),(15,.cp [I W,S Z,.sl 3 (O.ae X)]),(17,I g.length),(18,.rf 18 (j.n 18) 0),(19,.rf 19 (a1 19) 0),(20,.ms 51 (a1 51) b.length)] λs H n K=>K=j.T/\(∃F G,H 18=E ⟨j.n 18,285,4,[I b0,F,G,a'],aa⟩/\aH [41,43] H 9 1 (R (b.map Ev.n)) F/\aH [44,46] H 9 1 (R (bz o e)) G)/\H 51=E ⟨a1 51,87,3,(O.ae (b.map Ev.t)).flatten,aa⟩/\(∃ap,H 19=E ⟨a1 19,152,3,ap,aa⟩/\pn (b.take q) ap)/\∀f∈dY,H f=bi dY j.H f) A
  ⟨A,by simp[af,P,cu,hp,fA,hq,eu,hr,aE,aY,dJ,fZ],aK,⟨F,G,by simp[aj,Q],aL.congr bJ,aQ.congr bJ⟩,by simp[aj],⟨[a',a',a'],by simp[aj],.inl ⟨A,A⟩⟩,λf i=>by
   rw[<-r f (by simp only[cJ,cS,iz,jT];exact⟨bX i A,bX i A,bX i A,bX i A,bX i A⟩)];simp[aj,bX i (u:=19) A,bX i (u:=49) A,bX i (u:=51) A]⟩ ?_
 clear aL aQ Q r aK;rintro q s H jv K cm az⟨aK,⟨F,G,Q,aL,aQ⟩,eM,⟨ap,aZ,U⟩,r⟩;simp only[dV,go_sem];refine aT (λh=>?_) λh=>?_
 .have ay:=bh h;have b':(R (b.map Ev.n))[q]?=E [S b[q].n]:=by simp[R,ay]
  have M:=O.bo (b.map Ev.t) q (by simpa using ay);rw[eI]at M;have J:=mq (b.take q) b[q].n b[q].t 0 (by rw[fP];omega);have iu:b.take q++[⟨b[q].n,b[q].t,0⟩]=b.take (q+1):=by
   rw[ch ay];congr 2;have:=hK _ (ax ay);rw[<-this]
  rw[iu]at J;have cD:=fo (b.take (q+1));obtain⟨ab,am,ak,cj⟩:=O.ex b[q].t;rw[cj]at J M;simp only[O.ds]at M;have J:au 118 [.ag (cc (b.take q)),S b[q].n,.ag [I ab,S am,.sl 3 (O.ae ak)],I 0] (.ag [.sl 1 (((b.take (q+1)).map Ev.n).map λj=>[S j]),.sl 3 (O.ae ((b.take (q+1)).map Ev.t)),.sl 1 (((b.take (q+1)).map Ev.l).map λn=>[I n])]):=J;obtain⟨d1,d2,d3,rfl,gD,gE,gG⟩:=U.three;simp only[go_sem];refine cX [19] [] ?_;simp only[b',M,aZ,go_sem];refine fm [] J (.c U.fz (.c (.cl _ (aO _)) (.c (.cl _ (Cl.bu (O.cl (.mk ab am ak)))) (.c (.cl _ (aO _)) .n)))) (Cl.bu cD) ?_;simp only[aZ,ly,go_sem];exact bg ay ⟨A,by simp[af],aK,⟨F,G,by simp[aj,Q],aL.congr bJ,aQ.congr bJ⟩,by simp[aj,eM],⟨cc (b.take (q+1)),by simp[aj,cc,strs,ints],.inr A⟩,λf i=>by simp[aj,bX i (u:=19) A,r f i]⟩
 have dr:=bS h;subst dr;rw[b9]at U;obtain⟨vs,th⟩:=Zx (fM o e);have eS:vs=(bz o e).map λx=>(look e x).getD ⟨nE,js,0⟩:=by
  exact Hp
 have d_:vs.length=(bz o e).length:=by rw[eS];simp
 have dL:=fJ;rw[cc]at dL;have fE:b8=strs (e.map Ev.n):=by cases dL;rfl
 have fF:cZ=.sl 3 (O.ae (e.map Ev.t)):=by cases dL;rfl
 have fI:c0=ints (e.map Ev.l):=by cases dL;rfl
 have i_:=fD b8 Zs;have ez:cy aB 279=E (4,1,1):=Zk;have eA:cy aB 72=E (87,3,48):=Zk;have ix:IntKind.i64.wrap (l+1)=l+1:=cW _ Zo;have jq:(O.ae (e.map Ev.t)).length=e.length:=by rw[O.bb,bW]
 have jn:((e.map Ev.l).map λn=>[I n]).length=e.length:=Zs;simp only[h,go_sem];clear h;refine bq 22 (bz o e).length (λq=>Fw.cK 278 [(0,.rf 12 aJ 0),(1,.cp [I bt,I bN,S bB,I bK,S bM,.sl 3 (O.ae bL),.sl 1 (bI.map λj=>[S j]),.sl 8 (Y.ae bv)]),(2,.sl 1 (R (b.map Ev.n))),(4,.sl 1 (R (bz o e))),(13,.cp [b8,cZ,c0]),(6,I l),(15,.cp [I W,S Z,.sl 3 (O.ae X)]),(17,I g.length),(18,.rf 18 (j.n 18) 0),(19,.rf 19 (a1 19) 0)] λs H n K=>K=j.T/\(∃F G cq,H 18=E ⟨j.n 18,285,4,[I b0,F,G,cq],aa⟩/\aH [41,43] H 9 1 (R (b.map Ev.n)) F/\aH [44,46] H 9 1 (R (bz o e)) G/\aH [93] H 4 1 ((vs.take q).map λv=>[B (decide (v.l=l+1))]) cq)/\aH [51,102] H 87 3 (O.ae (b.map Ev.t++(vs.take q).map Ev.t)) (s 20)/\(∃ap,H 19=E ⟨a1 19,152,3,ap,aa⟩/\pn (b++gL b (vs.take q) l) ap)/\∀f∈dY,H f=bi dY j.H f) A
  ⟨A,by simp[af],aK,⟨F,G,.sc (.slice aa 0 0),Q,aL,aQ,.inl ⟨A,A⟩⟩,.inr ⟨51,a1 51,Zs,by simp[af,fZ],by simp[eM]⟩,⟨ap,aZ,by simpa[gL]using U⟩,r⟩ ?_
 clear aL aQ Q r aK eM aZ U;rintro q s H gC K cm az⟨aK,⟨F,G,cq,Q,aL,aQ,br⟩,bn,⟨ap,aZ,U⟩,r⟩;simp only[dW,go_sem];refine aT (λh=>?_) λh=>?_
 .have ay:q<(bz o e).length:=by simpa using h
  obtain⟨x,cU⟩:=Zx ((bz o e)[q]);have b':(R (bz o e))[q]?=E [S x]:=by simp[R,ay,cU]
  have cM:q<vs.length:=Zo;rcases o7 x e with⟨ce,-⟩|⟨V,dZ,ce,e7⟩
  .have:=(my.1 (cU▸ax ay)).1;rw[ce]at this;cases this
  have cO:vs[q]=e[V]:=by simp[eS,cU,ce]
  have dk:=nZ (e.map Ev.n) x kO;rw[e7,<-fE]at dk;have M:=O.bo (e.map Ev.t) V (by simpa using dZ);rw[eI]at M;have hz:((e.map Ev.l).map λn=>[I n])[V]?=E [I e[V].l]:=by simp[dZ]
  obtain⟨ab,am,ak,cj⟩:=O.ex e[V].t;rw[cj]at M;simp only[O.ds]at M;have cz:gL b (vs.take (q+1)) l=gL b (vs.take q) l++[if e[V].l=l+1 then(⟨nE,kG (.mk ab am ak),0⟩:Ev)else⟨hV b x,.mk ab am ak,0⟩]:=by
   rw[gL,ch cM,bC,<-gL,cO];simp only[bp,cB,cj,(jN ce).2]
  have eQ:(vs.take (q+1)).map (λv=>[B (decide (v.l=l+1))])=(vs.take q).map (λv=>[B (decide (v.l=l+1))])++[[B (decide (e[V].l=l+1))]]:=by
   rw[ch cM,bC,cO];rfl
  have h0:O.ae (b.map Ev.t++(vs.take (q+1)).map Ev.t)=O.ae (b.map Ev.t++(vs.take q).map Ev.t)++[(O.mk ab am ak).ds]:=by
   rw[ch cM,bC,cO,<-dM,O.bZ,bC,<-O.bZ];simp[cj]
  have cG:(List.map (λv:Ev=>[B (decide (v.l=l+1))]) (vs.take q)).length=q:=by simp;omega
  have gf:(O.ae (b.map Ev.t++(vs.take q).map Ev.t)).length=b.length+q:=by rw[O.bb];simp;omega
  obtain⟨y,L⟩:=Zx (s 20);rw[L]at bn;obtain⟨d1,d2,d3,rfl,gD,gE,gG⟩:=U.three;have ge:(b++gL b (vs.take q) l).length<=4000000:=by rw[bF,gL,bW,fP];omega
  subst fF;simp only[ints]at fI;subst fI;have c9:(e[V].l==l+1)=decide (e[V].l=l+1):=iG ..;simp only[go_sem];refine b7 ?_;simp only[b',go_sem];refine d' dk ?_;simp only[Q,hz,ix,c9,go_sem];refine GK.intro (dS.eF (S:=[93]) (rows:=(vs.take q).map λv=>[B (decide (v.l=l+1))]) (bx:=[[B (decide (e[V].l=l+1))]]) ez (by simp only[af,aI,aV,aP,bT,bU,reduceCtorEq];exact br.congr bJ) (by intro p ci;obtain⟨fi,-,rfl⟩:=aG.1 ci;rfl) ga Zs A (by rw[cG];show(q+1)*1<=_;omega) (by rw[cG];show q+1<=ao;unfold ao;omega) λen iP jC gj hL=>?_);obtain⟨i8,rfl,-⟩:=fG gj Zs;have p:∀f,f≠93->f≠92->en f=H f:=λf a a9=>by rw[hL f a (by simpa using a)];simp[aj,a9]
  have iR:=(p 18 Zd Zd).trans Q;simp only[L,iR,M,go_sem];refine GK.intro (dS.eF (S:=[51,102]) (rows:=O.ae (b.map Ev.t++(vs.take q).map Ev.t)) (bx:=[(O.mk ab am ak).ds]) eA (by simp only[af,aI,aV,aP,bT,bU,reduceCtorEq];exact bn.congr (by simp[aj,p 51 Zd Zd,p 102 Zd Zd])) (O.ea _) (by simp[af,cF,aj,O.ds]) Zs A (by rw[gf];show(b.length+q+1)*48<=_;omega) (by rw[gf];show b.length+q+1<=ao;unfold ao;omega) λdE cY iW iB eT=>?_);have be:∀f,f≠102->f≠51->f≠101->f≠18->f≠93->f≠92->dE f=H f:=λf a a9 c d e eC=>by
   rw[eT f a (by simp only[cJ,cS,iz,jT];exact⟨a9,a⟩)];simp[aj,c,d,p f e eC]
  have gI:=eT 18 Zd Zd;have gO:=eT 93 Zd Zd;have vx:=(be 19 Zd Zd Zd Zd Zd Zd).trans aZ;simp only[bV,bH,dP,aP,dz]at gI gO;have fin:∀(c3:lf)(gx:b5)(cn:DL),(c3 22=I ((q+1:Nat):Int)/\∀fi∈[(0,.rf 12 aJ 0),(1,.cp [I bt,I bN,S bB,I bK,S bM,.sl 3 (O.ae bL),.sl 1 (bI.map λj=>[S j]),.sl 8 (Y.ae bv)]),(2,.sl 1 (R (b.map Ev.n))),(4,.sl 1 (R (bz o e))),(13,.cp [b8,.sl 3 (O.ae (e.map Ev.t)),.sl 1 ((e.map Ev.l).map λn=>[I n])]),(6,I l),(15,.cp [I W,S Z,.sl 3 (O.ae X)]),(17,I g.length),(18,.rf 18 (j.n 18) 0),(19,.rf 19 (a1 19) 0)],c3 fi.1=fi.2)->c3 20=iW->pn (b++gL b (vs.take (q+1)) l) cn->
   vq 22 q (bz o e).length (λq=>Fw.cK 278 [(0,.rf 12 aJ 0),(1,.cp [I bt,I bN,S bB,I bK,S bM,.sl 3 (O.ae bL),.sl 1 (bI.map λj=>[S j]),.sl 8 (Y.ae bv)]),(2,.sl 1 (R (b.map Ev.n))),(4,.sl 1 (R (bz o e))),(13,.cp [b8,.sl 3 (O.ae (e.map Ev.t)),.sl 1 ((e.map Ev.l).map λn=>[I n])]),(6,I l),(15,.cp [I W,S Z,.sl 3 (O.ae X)]),(17,I g.length),(18,.rf 18 (j.n 18) 0),(19,.rf 19 (a1 19) 0)] λs H n K=>K=j.T/\(∃F G cq,H 18=E ⟨j.n 18,285,4,[I b0,F,G,cq],aa⟩/\aH [41,43] H 9 1 (R (b.map Ev.n)) F/\aH [44,46] H 9 1 (R (bz o e)) G/\aH [93] H 4 1 ((vs.take q).map λv=>[B (decide (v.l=l+1))]) cq)/\aH [51,102] H 87 3 (O.ae (b.map Ev.t++(vs.take q).map Ev.t)) (s 20)/\(∃ap,H 19=E ⟨a1 19,152,3,ap,aa⟩/\pn (b++gL b (vs.take q) l) ap)/\∀f∈dY,H f=bi dY j.H f) ⟨c3,aj dE 19 (E ⟨a1 19,152,3,cn,aa⟩),gx,278,K,cm⟩:=λc3 gx cn c6 dj hC=>
   qH c6.1 ay ⟨A,c6.2,aK,⟨F,G,_,by simp only[aj,aP,aV];exact gI,aL.congr (by simp[aj,be]),aQ.congr (by simp[aj,be]),by rw[eQ];exact gj.congr (by simp[aj,gO])⟩,by show aH _ _ _ _ _ (c3 20);rw[dj,h0];exact(iB.congr bJ).sub Zs,⟨cn,by simp[aj],hC⟩,λf i=>by
    show aj dE 19 _ f=_;simp only[aj,bX i (u:=19) A,aV];rw[be f (bX i A) (bX i A) (bX i A) (bX i A) (bX i A) (bX i A)];exact r f i⟩
  have cD:=fo (b++gL b (vs.take (q+1)) l);by_cases bl:e[V].l=l+1
  .rw[aM bl]at cz;have J:=mq (b++gL b (vs.take q) l) nE (kG (.mk ab am ak)) 0 ge;rw[dM,<-cz]at J;have f':=Kn (.mk ab am ak);generalize b++gL b (vs.take (q+1)) l=OO at J cD fin;have J:au 118 [.ag (cc (b++gL b (vs.take q) l)),S nE,.ag (kG (.mk ab am ak)).ds,I 0] (.ag [.sl 1 ((OO.map Ev.n).map λj=>[S j]),.sl 3 (O.ae (OO.map Ev.t)),.sl 1 ((OO.map Ev.l).map λn=>[I n])]):=J;simp only[O.ds]at f' J;simp only[bD bl,go_sem];refine cX [19] [] ?_;simp only[vx,M,go_sem];refine bO f' ?_;refine fm [] J (.c U.fz (.c (.cl _ (aO _)) (.c (.cl _ (Cl.bu (O.cl (kG (.mk ab am ak))))) (.c (.cl _ (aO _)) .n)))) (Cl.bu cD) ?_;exact E_
  .rw[av bl]at cz;have J:=mq (b++gL b (vs.take q) l) (hV b x) (.mk ab am ak) 0 ge;rw[dM,<-cz]at J;have dq:=KE (b.map Ev.n) x kO;have h_:(if x∈b.map Ev.n then nE else x)=hV b x:=A;rw[h_]at dq;generalize b++gL b (vs.take (q+1)) l=OO at J cD fin;have J:au 118 [.ag (cc (b++gL b (vs.take q) l)),S (hV b x),.ag [I ab,S am,.sl 3 (O.ae ak)],I 0] (.ag [.sl 1 ((OO.map Ev.n).map λj=>[S j]),.sl 3 (O.ae (OO.map Ev.t)),.sl 1 ((OO.map Ev.l).map λn=>[I n])]):=J;simp only[bj bl,go_sem];refine mc [0,1,2,3,4,5,7,8,9,10,11,6,12,13] [19] [] ?_;simp only[vx,b',M,go_sem];refine bO dq ?_;refine fm [] J (.c U.fz (.c (.cl _ (aO _)) (.c (.cl _ (Cl.bu (O.cl (.mk ab am ak)))) (.c (.cl _ (aO _)) .n)))) (Cl.bu cD) ?_;exact E_
 have dr:q=(bz o e).length:=by simp at h;omega
 subst dr;have gh:vs.take (bz o e).length=vs:=by rw[<-d_];exact b9
 rw[gh]at br bn U;obtain⟨y,L⟩:=Zx (s 20);rw[L]at bn;obtain⟨bs,c8⟩:∃bs:List Bool,bs=vs.map λv=>decide (v.l=l+1):=⟨_,A⟩;simp only[h,go_sem];clear h;refine bq 27 (bz o e).length (λq=>Fw.cK 278 [(0,.rf 12 aJ 0),(1,.cp [I bt,I bN,S bB,I bK,S bM,.sl 3 (O.ae bL),.sl 1 (bI.map λj=>[S j]),.sl 8 (Y.ae bv)]),(2,.sl 1 (R (b.map Ev.n))),(4,.sl 1 (R (bz o e))),(13,.cp [b8,cZ,c0]),(15,.cp [I W,S Z,.sl 3 (O.ae X)]),(17,I g.length),(18,.rf 18 (j.n 18) 0),(19,.rf 19 (a1 19) 0),(20,y)] λs H n K=>K=j.T/\(∃F G,H 18=E ⟨j.n 18,285,4,[I b0,F,G,cq],aa⟩/\aH [41,43] H 9 1 (R (b.map Ev.n)) F/\aH [44,46] H 9 1 (R (bz o e)) G)/\aH [93] H 4 1 (vs.map λv=>[B (decide (v.l=l+1))]) cq/\aH [51,102] H 87 3 (O.ae (b.map Ev.t++vs.map Ev.t)) y/\
  aH [125,156] H 2 1 (aq I (gr vs.length (bs.take q) 0 0)) (s 25)/\aH [126,164] H 87 3 (O.ae ((gz b (vs.take q) l).map Ev.t)) (s 26)/\(∃ap,H 19=E ⟨a1 19,152,3,ap,aa⟩/\pn (b++(gL b vs l++gz b (vs.take q) l)) ap)/\∀f∈dY,H f=bi dY j.H f) A
  ⟨A,by simp[af,L],aK,⟨F,G,by simp[aj,Q],aL.congr bJ,aQ.congr bJ⟩,br.congr bJ,bn.congr bJ,.inr ⟨125,gC 125,Zs,by simp[af,gr,aq],by simp[aj,gr,aq]⟩,.inr ⟨126,gC 126,Zs,by simp[af,gz,O.ae],by simp[aj,gz,O.ae]⟩,⟨ap,by simp[aj,aZ],by simpa[gz]using U⟩,λf i=>by simp[aj,bX i (u:=125) A,bX i (u:=126) A,r f i]⟩ ?_
 clear aL aQ Q r aK aZ U L br bn;rintro q s H iP K cm az⟨aK,⟨F,G,Q,aL,aQ⟩,br,bn,cQ,cR,⟨ap,aZ,U⟩,r⟩;simp only[dW,go_sem];refine aT (λh=>?_) λh=>?_
 .have ay:q<(bz o e).length:=by simpa using h
  obtain⟨x,cU⟩:=Zx ((bz o e)[q]);have b':(R (bz o e))[q]?=E [S x]:=by simp[R,ay,cU]
  have cM:q<vs.length:=Zo;rcases o7 x e with⟨ce,-⟩|⟨V,dZ,ce,e7⟩
  .have:=(my.1 (cU▸ax ay)).1;rw[ce]at this;cases this
  have cO:vs[q]=e[V]:=by simp[eS,cU,ce]
  have dk:=nZ (e.map Ev.n) x kO;rw[e7,<-fE]at dk;have M:=O.bo (e.map Ev.t) V (by simpa using dZ);rw[eI]at M;obtain⟨ab,am,ak,cj⟩:=O.ex e[V].t;rw[cj]at M;simp only[O.ds]at M;have h5:q<bs.length:=by rw[c8];simpa using cM
  have h6:bs[q]=decide (e[V].l=l+1):=by simp[c8,cO]
  have dm:=Jp vs.length (bs.take q) bs[q] 0 0;rw[<-ch h5,h6]at dm;have cL:=Rs b (vs.take q) l vs[q];rw[<-ch cM,cO]at cL;have eY:bs.take q=(vs.take q).map λv=>decide (v.l=l+1):=by rw[c8,kK]
  have e3:=J0 b (vs.take q) l;rw[<-eY]at e3;have h2:(gL b vs l).length=vs.length:=by simp[gL]
  have ir:(gz b (vs.take q) l).length<=q:=by rw[e3];have:=List.count_le_length (a:=ad) (l:=bs.take q);rw[fP]at this;omega
  obtain⟨i7,rfl,hH⟩:=fG br (by intro q;rw[List.map_eq_nil_iff]at q;rw[q]at d_;simp at d_;omega);have cG:(vs.map λv:Ev=>[B (decide (v.l=l+1))]).length=vs.length:=Zs;have h4:(vs.map λv:Ev=>[B (decide (v.l=l+1))]).flatten[q]?=E (B (decide (e[V].l=l+1))):=by
   rw[show(vs.map λv:Ev=>[B (decide (v.l=l+1))])=aq (λv:Ev=>B (decide (v.l=l+1))) vs from A,iq,gF,bR cM,cO];rfl
  have h3:(List.drop (q*1) (vs.map λv:Ev=>[B (decide (v.l=l+1))]).flatten).head?=E (B (decide (e[V].l=l+1))):=by rw[lc,List.head?_drop,h4]
  have ip:((q:Int)<(vs.length:Int))=True:=bP Zo;subst fF;simp only[Q,hH,cG,h3,ip,go_sem];rw[cG]at Q br;by_cases bl:e[V].l=l+1
  case neg=>
   rw[bj bl,av Zs,c_]at dm;rw[av bl,c_]at cL;simp only[bj bl,go_sem];exact bg ay ⟨A,by simp[af],aK,⟨F,G,Q,aL,aQ⟩,br,bn,by rw[dm];simpa[af]using cQ,by rw[cL];simpa[af]using cR,⟨ap,aZ,by rw[cL];exact U⟩,r⟩
  rw[bD bl,aM A]at dm;rw[aM bl]at cL;obtain⟨bQ,eU⟩:=Zx (b++(gL b vs l++gz b (vs.take q) l));have eV:bQ.length=b.length+vs.length+(bs.take q).count ad:=by rw[<-eU,bF,bF,h2,e3];omega
  rw[eU]at U;obtain rfl:ap=cc bQ:=by
   rcases U with⟨eK,-⟩|eK
   .rw[eK]at eV;simp at eV;omega
   .exact eK
  simp only[cc,strs,ints]at aZ;have hN:((bQ.map Ev.n).map λj=>[S j]).length=bQ.length:=Zs;have ht:cy aB 79=E (2,1,8):=Zk;obtain⟨g8,ar⟩:=Zx (s 25);obtain⟨g9,aC⟩:=Zx (s 26);rw[ar]at cQ;rw[aC]at cR;simp only[bD bl,go_sem];refine b7 ?_;simp only[b',go_sem];refine d' dk ?_;have dB:IntKind.i64.wrap ((bQ.length:Int)-1)=(bQ.length:Int)-1:=cW _ Zo;have fh:IntKind.i64.wrap ((b.length:Int)+(q:Int))=(b.length:Int)+q:=cW _ Zo;have jg:(bs.take q).count ad<=q:=by have:=List.count_le_length (a:=ad) (l:=bs.take q);rw[fP]at this;omega
  have iV:IntKind.i64.wrap ((bQ.length:Int)-1-((b.length:Int)+q))=(vs.length:Int)+((0+(bs.take q).count ad:Nat):Int)-1-((0+(bs.take q).length:Nat):Int):=by
   rw[cW _ Zo,fP,eV];push_cast;omega
  simp only[ar,aZ,dV,hN,dB,fh,iV,go_sem];have c9:(aq I (gr vs.length (bs.take q) 0 0)).length<=q:=by rw[dC];exact fY (zr _ _ _ _) (by rw[fP];omega)
  refine GK.intro (dS.eF (S:=[125,156]) (rows:=aq I (gr vs.length (bs.take q) 0 0)) (bx:=aq I [(vs.length:Int)+((0+(bs.take q).count ad:Nat):Int)-1-((0+(bs.take q).length:Nat):Int)]) ht (by simp only[af,aI,aV,aP,bT,bU,reduceCtorEq];exact cQ.congr bJ) (e_ _) (by simp[af,cF,aj,aq]) (by simp[aq]) (by simp[aq];rfl) (by simp only[dC,kJ]at c9⊢;omega) (by simp only[dC,kJ]at c9⊢;unfold ao;omega) λeo cY iY e9 dQ=>?_);have p:∀f,f≠156->f≠125->f≠155->eo f=H f:=λf a a9 c=>by
   rw[dQ f a (by simp only[cJ,cS,iz,jT];exact⟨a9,a⟩)];simp[aj,c]
  have i9:(O.ae ((gz b (vs.take q) l).map Ev.t)).length<=q:=by rw[O.bb,bW];exact ir
  simp only[aC,M,go_sem];refine GK.intro (dS.eF (S:=[126,164]) (rows:=O.ae ((gz b (vs.take q) l).map Ev.t)) (bx:=[(O.mk ab am ak).ds]) eA (by simp only[af,aI,aV,aP,bT,bU,reduceCtorEq];exact cR.congr (by simp[aj,p 126 Zd Zd Zd,p 164 Zd Zd Zd])) (O.ea _) (by simp[af,cF,aj,O.ds]) Zs A (by simp only[kJ];omega) (by simp only[kJ];unfold ao;omega) λep jw jD iC fL=>?_);have be:∀f,f≠164->f≠126->f≠163->f≠156->f≠125->f≠155->ep f=H f:=λf a a9 c d e eC=>by
   rw[fL f a (by simp only[cJ,cS,iz,jT];exact⟨a9,a⟩)];simp[aj,c,p f d e eC]
  have vx:=(be 19 Zd Zd Zd Zd Zd Zd).trans aZ;have gH:=fL 156 Zd Zd;simp only[bV,dP,aP,dz]at gH;have J:=mq bQ (hV b x) (.mk ab am ak) 1 Zo;have hT:bQ++[⟨hV b x,.mk ab am ak,1⟩]=b++(gL b vs l++gz b (vs.take (q+1)) l):=by rw[cL,(jN ce).2,cj,<-eU,dM,dM]
  rw[hT]at J;have cD:=fo (b++(gL b vs l++gz b (vs.take (q+1)) l));have dq:=KE (b.map Ev.n) x kO;rw[show(if x∈b.map Ev.n then nE else x)=hV b x from A]at dq;have hM:=fo bQ;simp only[O.ds,cc,strs,ints]at J hM;simp only[go_sem];refine mc [0,1,2,3,4,5,7,8,9,10,11,6,12,13] [19] [] ?_;simp only[vx,b',M,go_sem];refine bO dq ?_;refine bw J ?_;simp only[vx,go_sem];have b1:O.ae ((gz b (vs.take (q+1)) l).map Ev.t)=O.ae ((gz b (vs.take q) l).map Ev.t)++[(O.mk ab am ak).ds]:=by
   rw[cL,bC,O.bZ,bC,<-O.bZ];simp[cj]
  have hX:aq I (gr vs.length (bs.take (q+1)) 0 0)=aq I (gr vs.length (bs.take q) 0 0)++aq I [(vs.length:Int)+((0+(bs.take q).count ad:Nat):Int)-1-((0+(bs.take q).length:Nat):Int)]:=by rw[dm];simp[aq]
  refine bg ay ⟨A,by simp[af],aK,⟨F,G,by simp[aj,be,Q],aL.congr (by simp[aj,be]),aQ.congr (by simp[aj,be])⟩,br.congr (by simp[aj,be]),bn.congr (by simp[aj,be]),?_,?_,⟨cc (b++(gL b vs l++gz b (vs.take (q+1)) l)),by simp[aj,cc,strs,ints],.inr A⟩,λf i=>?_⟩
  .rw[hX];simp only[af,aI,aV,aP,bT,bU,reduceCtorEq];exact(e9.congr (by simp[aj,gH])).sub Zs
  .rw[b1];simp only[af,aI,aV,aP,bT,bU,reduceCtorEq];exact(iC.congr bJ).sub Zs
  .simp only[aj,bX i (u:=19) A,aV];rw[be f (bX i A) (bX i A) (bX i A) (bX i A) (bX i A) (bX i A)];exact r f i
 have dr:q=(bz o e).length:=by simp at h;omega
 subst dr;have cG:bs.length=(bz o e).length:=by rw[c8,bW,d_]
 have eY:bs.take (bz o e).length=bs:=by rw[<-cG];exact b9
 rw[eY]at cQ;rw[gh]at cR U;have gQ:=(r 12 dI).trans eL;have iQ:=(r 185 dI).trans im;have ef:∀u∈dY,∀{dA sz:Nat}{rows:ct}{x:D},aH [u] (bi dY j.H) dA sz rows x->aH [u] H dA sz rows x:=λu iw _ _ _ _ h=>h.congr (by simp only[bG,dT];exact r u iw);have gJ:=ef 195 dI hR;have gN:=ef 218 dI hZ;have gM:=ef 205 dI eQ;clear r ef;have hs:cy aB 38=E (81,4,64):=Zk;obtain⟨g8,ar⟩:=Zx (s 25);obtain⟨g9,aC⟩:=Zx (s 26);rw[ar]at cQ;rw[aC]at cR;have jk:=io.len;have g':((g.length:Int)<((g.length+1:Nat):Int))=True:=bP Zo;have i0:(g.length+1)*64<=140737488355328:=Zo;have fj:g.length+1<=ao:=by unfold ao;omega
 simp only[h,go_sem];clear h;refine uR (λck=>Fw.cK 278 [(0,.rf 12 aJ 0),(1,.cp [I bt,I bN,S bB,I bK,S bM,.sl 3 (O.ae bL),.sl 1 (bI.map λj=>[S j]),.sl 8 (Y.ae bv)]),(13,.cp [b8,cZ,c0]),(15,.cp [I W,S Z,.sl 3 (O.ae X)]),(17,I g.length),(18,.rf 18 (j.n 18) 0),(19,.rf 19 (a1 19) 0),(20,y),(25,g8),(26,g9)] (λs a2 iF T1=>T1=K/\(∃cx,a2 12=E ⟨aJ,75,6,[.cp [ai.sl bc,ah.sl aX],I b0,.ms 185 cx (g.length+1),ej,b3,iZ],aa⟩/\a2 185=E ⟨cx,81,4,(Core.ae g).flatten++[I 0,I 0,a',a'],aa⟩)/\∀f,f∉[12,184,185]->a2 f=H f) ck)
  (.bE [0,1,2,3,4,5,6,7,8,10,11] 9 (.fin [12]) 12 (.fin [9])) [12] [] mixed Zk ?_ ?_
 .simp only[gQ,ic,go_sem];refine iO (S:=[185]) (rows:=Core.ae g) (bx:=[[I 0,I 0,a',a']]) Zs hs (by simp only[af,aI,aV,aP,bT,bU,reduceCtorEq];exact .inr ⟨185,hA,Zs,by rw[c7],by simp[aj,iQ]⟩) (Core.ea _) ga Zs A (by rw[c7];exact i0) (by rw[c7];exact fj) (by show 185<278;decide) ?_;intro eo cY iY e9 dQ;obtain⟨cx,rfl,hD⟩:=fG e9 Zs;have ij:(Core.ae g++[[I 0,I 0,a',a']]).length=g.length+1:=by rw[bF,c7];rfl
  have dy:=dQ 12 Zd Zd;simp only[bV,dP,aP,dz,gQ]at dy;have cb:(Core.ae g).flatten.length=g.length*4:=by rw[jM (Core.ea g),c7]
  have i1:=AD (Core.ae g).flatten [I 0,I 0,a',a'] [I 0,I 0,a',a'] cb A;simp only[dy,hD,ij,g',fN,v7,go_sem];have g_:g.length*4+4<=((Core.ae g).flatten++[I 0,I 0,a',a']).length:=by rw[bF,cb];simp
  refine⟨⟨g_,?_⟩,⟨g_,?_⟩⟩
  all_goals
   exact⟨A,by simp[af,ar,aC],A,⟨cx,by simp[aj],by simp only[aj,aI,aV,aP];exact dO (λc=>E (Ob.mk cx 81 4 c aa)) i1⟩,λf i=>by
    simp only[jT]at i;simp only[aj,i.1,i.2.2,aV];rw[dQ f i.2.2 (by simpa using i.2.2)];simp[aj,i.2.1]⟩
 rintro⟨s,a2,cY,ec,T1,cm⟩⟨rfl,a6,rfl,⟨cx,ee,fd⟩,ca⟩;simp only[a7]at a6 ee fd ca;clear ar aC;obtain⟨P,cu,eu,aE,aY,dJ,df,L,ar,aC,-⟩:=a6;simp only[P,ee,go_sem];have cb:(Core.ae g).flatten.length=g.length*4:=by rw[jM (Core.ea g),c7]
 have dh:∀f,f≠194->aj (aj a2 194 aa) 194 (E {gen:=cY 194,elem:=72,sz:=1,cells:=[a']}) f=a2 f:=λf i=>by simp[aj,i]
 have eJ:aj (aj a2 194 aa) 194 (E {gen:=cY 194,elem:=72,sz:=1,cells:=[a']}) 194=E {gen:=cY 194,elem:=72,sz:=1,cells:=[a']}:=by simp[aj]
 generalize aj (aj a2 194 aa) 194 (E {gen:=cY 194,elem:=72,sz:=1,cells:=[a']})=dD at dh eJ;have gW:=(dh 12 Zd).trans ee;have gY:=(dh 185 Zd).trans fd;have ei:∀f,f≠12->f≠184->f≠185->f≠194->dD f=H f:=λf a a9 c d=>(dh f d).trans (ca f (by simp[a,a9,c]));clear ee fd ca dh;have gX:=(ei 18 Zd Zd Zd Zd).trans Q;have b2:∀{S:aD}{dA sz:Nat}{rows:ct}{x:D},(∀f∈S,f≠12/\f≠184/\f≠185/\f≠194)->aH S H dA sz rows x->aH S dD dA sz rows x:=λdX h=>h.congr λf i=>ei f (dX f i).1 (dX f i).2.1 (dX f i).2.2.1 (dX f i).2.2.2;have g0:=b2 Zd aL;have g1:=b2 Zd aQ;have g5:=b2 Zd br;have g2:=b2 Zd bn;have g3:=b2 Zd cQ;have g4:=b2 Zd cR;have gZ:=(ei 19 Zd Zd Zd Zd).trans aZ;have eh:=b2 Zd gJ;have gR:=b2 Zd gM;have gS:=b2 Zd gN;clear ei b2 aL aQ br bn cQ cR Q aZ gJ gM gN;simp only at aK;refine GK.fc [] 185 (g.length*4+2) (d:=a') (e:=.sl 1 []) gY Zs (uY _ _ 2 cb) (.nil 1) (uN 1) λel er a3=>?_;rw[vE _ _ 2 _ cb]at er;refine GK.fc [] 185 (g.length*4+3) (d:=a') (e:=.sl 4 []) er Zs (uY _ _ 3 cb) (.nil 4) (uN 4) λen dG bY=>?_;rw[vE _ _ 3 _ cb]at dG;simp only[cS,dz,ul,List.set]at a3 bY dG;have fx:=(bY 18 Zd).trans ((a3 18 Zd).trans gX);have fU:∀l,∀p∈R l,p.length=1:=λl p h=>by obtain⟨x,-,rfl⟩:=aG.1 h;rfl
 have fT:∀l,∀p∈R l,∀d∈p,Cl d:=uy;refine GK.fc [41,43] 18 1 (e:=.sl 1 (R (b.map Ev.n))) fx Zs A (aH.fz (g0.congr (by simp[bi,a3,bY])) Zd (fU _) (fT _)) (oL _) λdE fs co=>?_;refine GK.fc [44,46] 18 2 (e:=.sl 1 (R (bz o e))) fs Zs A (aH.fz (g1.congr (by simp[bi,a3,bY,co])) Zd (fU _) (fT _)) (oL _) λeo fv cr=>?_;have hJ:∀p∈vs.map λv:Ev=>[B (decide (v.l=l+1))],p.length=1:=λp h=>by obtain⟨x,-,rfl⟩:=aG.1 h;rfl
 have eR:∀p∈vs.map λv:Ev=>[B (decide (v.l=l+1))],∀d∈p,Cl d:=λp h d a5=>by obtain⟨x,-,rfl⟩:=aG.1 h;simp at a5;subst a5;exact aO _
 refine GK.fc [93] 18 3 (e:=.sl 1 (vs.map λv:Ev=>[B (decide (v.l=l+1))])) fv Zs A (aH.fz (g5.congr (by simp[bi,a3,bY,co,cr])) Zd hJ eR) (cI.2 eR) λep es c2=>?_;simp only[List.set]at es;refine GK.fe [51,102] 20 (.sl 3 (O.ae (b.map Ev.t++vs.map Ev.t))) (by simp only[af,aV,aP,L,bT,bU,aI,reduceCtorEq];exact aH.fz (g2.congr (by simp[bi,a3,bY,co,cr,c2])) Zd (O.ea _) (O.bA _)) (cI.2 (O.bA _)) λi3 dc=>?_;refine GK.fe [125,156] 25 (.sl 1 (aq I (gr vs.length bs 0 0))) (by simp only[af,aV,aP,ar,bT,bU,aI,reduceCtorEq];exact aH.fz (g3.congr (by simp[bi,a3,bY,co,cr,c2,dc])) Zd (e_ _) (λp h d a5=>by obtain⟨x,-,rfl⟩:=aG.1 h;simp at a5;subst a5;exact aO _)) (ed λy _=>aO _) λi4 dH=>?_;refine GK.fe [126,164] 26 (.sl 3 (O.ae ((gz b vs l).map Ev.t))) (by simp only[af,aV,aP,aC,bT,bU,aI,reduceCtorEq];exact aH.fz (g4.congr (by simp[bi,a3,bY,co,cr,c2,dc,dH])) Zd (O.ea _) (O.bA _)) (cI.2 (O.bA _)) λc1 et=>?_;have fg:∀u,u∉[51,102,125,156,126,164]->c1 u=ep u:=λu h=>by
  simp only[cJ,cS,iz,jT]at h dc dH et;rw[et u Zo,dH u Zo,dc u Zo]
 have ff:∀u,u∉[18,41,43,44,46,93,51,102,125,156,126,164]->c1 u=en u:=λu h=>by
  simp only[cJ,cS,iz,jT]at h co cr c2;rw[fg u de,c2 u Zo Zo,cr u Zo Zo,co u Zo Zo]
 have p:∀u,u∉[185,18,41,43,44,46,93,51,102,125,156,126,164]->c1 u=dD u:=λu h=>by
  simp only[cJ,cS,iz,jT]at h;rw[ff u de,bY u Zo,a3 u Zo]
 have db:=(p 12 Zd).trans gW;have du:=(ff 185 Zd).trans dG;have gk:=(fg 18 Zd).trans es;have gl:=(p 19 Zd).trans gZ;have gm:=(p 194 Zd).trans eJ;have dv:=eh.congr (H':=c1) (by simp[p]);have gn:=gR.congr (H':=c1) (by simp[p]);have gp:=gS.congr (H':=c1) (by simp[p]);clear p ff fg;clear er dG fs fv es a3 bY co cr c2 dc dH et gW gX gY gZ g0 g1 g5 g2 g3 g4 eh gR gS eJ fx L ar aC;have hu:cy aB 71=E (72,1,24):=Zk;refine GK.intro (dS.eF (S:=[195]) (rows:=fW NN) (bx:=[[a']]) hu (by simp only[af,aI,aV,aP,bT,bU,reduceCtorEq];exact dv) (e_ _) (by simp[af,cF,gm]) Zs A (by rw[dC,dU];simp only[kJ];omega) (by rw[dC,dU];exact fj) λfk jt jz gi cA=>?_);have gq:=(cA 12 Zd Zd).trans db;have fa:=(cA 18 Zd Zd).trans gk;have gt:=(cA 19 Zd Zd).trans gl;have gs:=(cA 185 Zd Zd).trans du;have gv:=gn.congr (H':=fk) (by simp[cA]);have gw:=gp.congr (H':=fk) (by simp[cA]);clear db gk gl du gn gp gm dv cA;obtain⟨hv,rfl,gu⟩:=fG gi Zs;simp only[gq,go_sem];have ez:cy aB 73=E (285,4,80):=Zk;refine cX [12,18] [] ?_;simp only[P,dJ,fa,ic,go_sem];refine iO (S:=[205]) (rows:=BB) (bx:=[[I b0,.sl 1 (R (b.map Ev.n)),.sl 1 (R (bz o e)),.sl 1 (vs.map λv:Ev=>[B (decide (v.l=l+1))])]]) Zs ez (by simp only[af,aI,aV,aP,bT,bU,reduceCtorEq];exact gv.congr bJ) (λp h=>(fB p h).1) ga Zs A (by simp only[kJ];omega) (by simp only[kJ];unfold ao;omega) (by show 205<278;decide) ?_;intro fp ju jA iy cC;obtain⟨hw,rfl,iK⟩:=fG iy Zs;have fb:=cC 12 Zd Zd;have iJ:=(cC 18 Zd Zd).trans fa;have gA:=(cC 19 Zd Zd).trans gt;have gy:=(cC 185 Zd Zd).trans gs;have gB:=(cC 195 Zd Zd).trans gu;have iL:=gw.congr (H':=fp) (by simp[cC,aj]);simp only[bV,bH,dP,aP,dz]at fb iJ gA gy gB;clear gq fa gt gs gu gv gw cC gi;simp only[fb,go_sem];have e2:∀x∈b.map Ev.t++vs.map Ev.t,dp x:=λx hx=>by
  have cP:=ci.w;rw[th]at cP;rcases cg.1 hx with h|h
  .obtain⟨y,da,rfl⟩:=aG.1 h;exact mf (cP y (eE _ da))
  .obtain⟨y,da,rfl⟩:=aG.1 h;by_cases c:y.l=l+1
   .exact mf (cP ⟨hV b y.n,y.t,1⟩ (eN _ (eN _ (aG.2 ⟨y,ko.2 ⟨da,by simpa using c⟩,A⟩))))
   .exact mf (cP ⟨hV b y.n,y.t,0⟩ (eN _ (eE _ (aG.2 ⟨y,da,by rw[av c]⟩))))
 have h8:=sY e2 dR;have cH:=z8 (b.map Ev.t++vs.map Ev.t) (.mk W Z X) (by rw[bF,bW,bW];omega);obtain⟨eD,eH,eG,gb⟩:=O.ex (gK (b.map Ev.t++vs.map Ev.t) (.mk W Z X));have e1:=zV (.mk eD eH eG) (gb▸h8);rw[gb]at cH;have f_:=O.cl (cf (.mk eD eH eG));obtain⟨ew,eB,ey,e0⟩:=O.ex (cf (.mk eD eH eG));rw[e0]at e1 f_;simp only[O.ds]at cH e1 f_;have cd:(O.ae TT).length=g.length:=by rw[O.bb,eW]
 have fV:(O.ae TT).flatten.length=g.length*3:=by rw[jM (O.ea TT),cd]
 obtain⟨hy,rfl,iM⟩:=fG iL (by intro q;rw[q]at cd;simp at cd;omega);rw[cd]at fb;obtain⟨he,fQ⟩:=Zx ((fW NN++[[a']]).length);obtain⟨hc,fC⟩:∃a,(BB++[[I b0,D.sl 1 (R (List.map Ev.n b)),D.sl 1 (R (bz o e)),D.sl 1 (List.map (λv=>[B (decide (v.l=l+1))]) vs)]]).length=a:=⟨_,A⟩;simp only[fQ,fC,cd];refine uR (λck=>Fw.cK 278 [(0,.rf 12 aJ 0),(1,.cp [I bt,I bN,S bB,I bK,S bM,.sl 3 (O.ae bL),.sl 1 (bI.map λj=>[S j]),.sl 8 (Y.ae bv)]),(15,.cp [I W,S Z,.sl 3 (O.ae X)]),(17,I g.length),(19,.rf 19 (a1 19) 0),(20,.sl 3 (O.ae (b.map Ev.t++vs.map Ev.t))),(25,.sl 1 (aq I (gr vs.length bs 0 0))),(26,.sl 3 (O.ae ((gz b vs l).map Ev.t)))] (λs a2 iF hf=>hf=T1/\(∃c4,a2 12=E ⟨aJ,75,6,[.cp [ai.sl bc,ah.sl aX],I b0,.ms 185 cx (g.length+1),.ms 195 hv he,.ms 218 c4 (g.length+1),.ms 205 hw hc],aa⟩/\a2 218=E ⟨c4,87,3,(O.ae TT).flatten++[I ew,S eB,.sl 3 (O.ae ey)],aa⟩)/\∀f,f∉[12,217,218]->a2 f=fp f) ck)
  (.bE [0,1,2,3,4,5,8] 6 (.bE [] 7 (.bE [9,10,11,13,14] 12 (.fin [15]) 15 (.fin [12])) 9 (.bE [7,10,11,13,14] 12 (.fin [15]) 15 (.fin [12]))) 9 (.bE [6,7,10,11,13,14] 12 (.fin [15]) 15 (.fin [12]))) [12] [] mixed Zk ?_ ?_
 .simp only[P,aE,ic,go_sem];refine⟨?_,?_⟩
  all_goals
   refine bO cH ?_
   try refine⟨?_,?_⟩
  all_goals
   refine bO e1 ?_;refine iO (S:=[218]) (rows:=O.ae TT) (bx:=[[I 0,.sc (.string {data:=#[]}),a']]) Zs eA (by simp only[af,aI,aV,aP,bT,bU,reduceCtorEq];exact .inr ⟨218,hy,Zs,by rw[cd],by simp only[aj,aV,aP];exact iM⟩) (O.ea _) ga Zs A (by rw[cd];simp only[kJ];omega) (by rw[cd];exact fj) (by show 218<278;decide) ?_;intro i2 iH jB iA fK;obtain⟨c4,rfl,hB⟩:=fG iA Zs;have ii:(O.ae TT++[[I 0,.sc (.string {data:=#[]}),a']]).length=g.length+1:=by rw[bF,cd];rfl
   have dy:=fK 12 Zd Zd;simp only[bV,bH,dP,aP,dz]at dy;have ha:g.length*3+3<=((O.ae TT).flatten++[I 0,D.sc (.string {data:=#[]}),a']).length:=by rw[bF,fV];simp
   simp only[dy,hB,ii,g',fN,v7,go_sem];refine⟨⟨ha,?_⟩,⟨ha,?_⟩⟩
   all_goals
    exact⟨A,by simp[af,P,cu,aE,aY,df],A,⟨c4,by simp[aj],by simp only[aj,aI,aV,aP];exact dO (λc=>E (Ob.mk c4 87 3 c aa)) (AD (O.ae TT).flatten [I 0,D.sc (.string {data:=#[]}),a'] [I ew,S eB,D.sl 3 (O.ae ey)] fV A)⟩,λf i=>by
     simp only[jT]at i;simp only[aj,i.1,i.2.2,aV];rw[fK f i.2.2 (by simpa using i.2.2)];simp[aj,i.1,i.2.1]⟩
 rintro⟨s,a2,iH,ec,T1,cm⟩⟨rfl,a6,rfl,⟨c4,gT,gV⟩,ca⟩;simp only[a7]at a6 gT gV ca;clear P cu eu aE aY dJ df;obtain⟨P,cu,aE,aY,df,L,ar,aC,-⟩:=a6;obtain⟨d1,d2,d3,rfl,gD,gE,gG⟩:=U.three;simp only[P,cu,df,(ca 19 Zd).trans gA,go_sem];have gU:=(ca 195 Zd).trans gB;have fS:(fW NN).flatten.length=g.length:=by rw[jM (e_ _),dC,dU];omega
 rw[fN,v7]at gU;refine GK.fc [] 195 (g.length+0) (d:=a') (e:=.sl 3 []) gU Zs (uY _ _ 0 fS) (.nil 3) (uN 3) λdD fr fw=>?_;rw[vE _ _ 0 _ fS]at fr;refine GK.fe [] 224 (.ag (cc (b++(gL b vs l++gz b vs l)))) (by simp only[af,aI,bT,bU,aV,reduceCtorEq,aP];exact U.fz) (Cl.bu (fo _)) λel a3=>?_;simp only[cS,dz,ul]at fw a3;have eg:∀u,u≠195->el u=a2 u:=λu h=>(a3 u).trans (fw u h);have hG:L7 bc aX el aJ (g++[.mk 0 0 [] []]):=by
  refine L7.of (NN:=NN++[[]]) (TT:=TT++[.mk ew eB ey]) (BB:=BB++[[I b0,D.sl 1 (R (List.map Ev.n b)),D.sl 1 (R (bz o e)),D.sl 1 (List.map (λv=>[B (decide (v.l=l+1))]) vs)]]) ((eg 12 Zd).trans gT) ((eg 185 Zd).trans (((ca 185 Zd).trans gy).trans ?_)) ?_ ((a3 195).trans (fr.trans ?_)) ?_ ?_ ((eg 218 Zd).trans (gV.trans ?_)) ?_ ?_ ((eg 205 Zd).trans ((ca 205 Zd).trans iK)) fC.symm ?_ ?_
  .simp[Core.bZ,Core.ds,ints]
  .simp[Core.bb]
  .simp[aq,O.sl,O.ae]
  .rw[<-fQ];simp[aq]
  .simp[dU]
  .simp[O.bZ,O.ds]
  .simp[O.bb,eW]
  .simp[eW]
  .simp;omega
  .intro p ci;rcases cg.1 ci with h|h
   .exact fB p h
   .simp only[bG]at h;subst h;refine⟨A,?_⟩;simp only[a7];exact⟨aO _,oL _,oL _,cI.2 eR,Zs⟩
 refine GK.intro ?_;rw[th,nX]at dl;unfold T7 at dl;simp only[Y.ds,O.ds,strs,bf,a8]at dl;simp only[th,nX,go_sem];obtain⟨dd,OO,eZ⟩:∃a a9,cw bc aX (Y.mk bt bN bB (O.mk bK bM bL) bI bv) (b++(gL b vs l++gz b vs l)) 0 (dx+1)=(a,a9):=⟨_,_,A⟩;simp only[eZ]at dl⊢;refine .inr (.inr (dl aJ (dx+1) (g++[.mk 0 0 [] []]) _ _ _ hG (by simp[e5];omega) Zo ?_));intro ek eb bk dt eP h9;have dt:fl dd (W7 (Y.mk bt bN bB (O.mk bK bM bL) bI bv)) bk:=by have:=dt;rw[eZ]at this;exact this
 have eP:L7 bc aX ek aJ (g++[.mk 0 0 [] []]++OO):=by have:=eP;rw[eZ]at this;exact this
 generalize h1:W7 (Y.mk bt bN bB (O.mk bK bM bL) bI bv)=eq at dt;have hO:dp (cf (.mk W Z X)):=ig _ dR;have je:eq<=10000000000:=by have:=ci.l1;rw[<-h1];unfold W7;omega
 obtain⟨⟨hj,hn,hi,hk⟩,hm⟩:=bk;simp only[ar,aW,go_sem];obtain⟨z,dn⟩:=Zx (gr vs.length bs 0 0);have c9:z.length=(gz b vs l).length:=by rw[<-dn,CS,J0,c8]
 have jm:z.length<=1000:=by rw[<-dn,CS];have:=List.count_le_length (a:=ad) (l:=bs);omega
 have iU:IntKind.i64.wrap ((z.length:Int)-1)=(z.length:Int)-1:=cW _ Zo;obtain⟨cV,e4⟩:=Zx ((gz b vs l).map Ev.t);have ih:cV.length=z.length:=by rw[c9,<-e4,bW]
 have ie:∀x∈cV,dp x:=λx hx=>by
  have cP:=ci.w;rw[th]at cP;rw[<-e4]at hx;obtain⟨y,da,rfl⟩:=aG.1 hx;exact mf (cP y (eN _ (eN _ da)))
 simp only[dn,dC,iU];rw[dn]at ar;rw[e4]at aC;refine mW (λck=>∃m:Nat,m<=z.length/\Fw.cK 278 [(0,.rf 12 aJ 0),(15,.cp [I W,S Z,.sl 3 (O.ae X)]),(17,I g.length),(20,.sl 3 (O.ae (b.map Ev.t++vs.map Ev.t))),(25,.sl 1 (aq I z)),(26,.sl 3 (O.ae cV)),(29,.rf 29 (eb 29) 0),(30,I ((m:Int)-1))] (λs H n K=>K=j.T/\(∃bk,H 29=E ⟨eb 29,148,5,aW bk,aa⟩/\fl (mU (z.drop m) dd) (eq+2*(z.length-m)) bk)/\∀f∈dY,H f=ek f) ck) (λj=>match j.env 30 with|.sc (.int _ n)=>(n+1).toNat|_=>0)
  ⟨z.length,b_ _,A,by simp[af,P,aE,aY,L,ar,aC],aK,⟨⟨.mk hj hn hi hk,hm⟩,by simp[aj,aW,Core.ds,ints],by simpa[mU]using dt⟩,λf i=>by simp[aj,bX i (u:=29) A]⟩ ?_
 clear P cu aE aY df L ar aC dt h9;rintro⟨s,H,iI,ec,K,cm⟩⟨m,ia,rfl,a6,b1,⟨bk,a0,az⟩,r⟩;simp only[a7]at a6 a0 b1 r;obtain⟨P,aE,aY,L,ar,aC,bm,dg,-⟩:=a6;obtain⟨⟨aR,aU,bd,aS⟩,a4⟩:=bk;have cE:=dF ⟨.mk aR aU bd aS,a4⟩;simp only[aW,Core.ds,bf,a8]at a0 cE;rcases m with _|m
 rotate_left
 .have ay:m<z.length:=Zo;have e:((m+1:Nat):Int)-1=(m:Int):=Zo;have h':decide ((m:Int)>=0)=ad:=Zs;have b':(aq I z)[m]?=E [I z[m]]:=by simp[aq,ay]
  have M:=O.bo cV m Zo;have jo:(aq I z).length=z.length:=dC _ _;have jp:(O.ae cV).length=z.length:=by rw[O.bb,ih]
  have cT:=ie _ (ax (show m<cV.length by omega));have c':=ig _ cT;generalize cV[m]=b3 at M cT c';have e6:=z' 1 z[m] b3 cT;have cN:=pT 7 0 (.mk W Z X) [⟨dw z[m],[cf b3]⟩,⟨.mk aR aU bd aS,a4⟩] dR (by simp;exact az.ne) Zs (by have:=az.len;simp at this⊢;omega);have a5:mU (z.drop m) dd=.mk 7 0 [] [dw z[m],mU (z.drop (m+1)) dd]:=by rw[ph ay];rfl
  generalize e0:cf b3=cv at e6 cN c';obtain⟨g6,ej,g7⟩:=b3;simp only[aW,O.ds,Core.ds,dw,bf,a8,bp,cB,dN,fX,c_]at M e6 cN;have dB:IntKind.i64.wrap ((m:Int)-1)=(m:Int)-1:=cW _ Zo;simp only[e,dg,go_sem];refine mc [0,1,2,3,4,5,6,7,8,10,9,11,12,13] [29] [] ?_;simp only[e,aE,ar,aC,bm,dg,a0,b',M,go_sem];refine bw e6 ?_;simp only[a0,go_sem];have e8:=dF ⟨.mk 7 0 [] [dw z[m],.mk aR aU bd aS],cf (.mk W Z X)::cv::a4⟩;refine fm [244] cN (.c (.cl _ (aO _)) (.c (.cl _ (aO _)) (.c (.cl _ (Cl.bu (O.cl (.mk W Z X)))) (.c (Fz.rows (ob:=⟨_,148,5,[I 1,I z[m],ints [],.sl 4 (Core.ae []),.sl 3 (O.ae [cv]),I aR,I aU,ints bd,.sl 4 (Core.ae aS),.sl 3 (O.ae a4)],aa⟩) (by simp only[bi,bG,aI,bH];rfl) A A Zd A Zs A (by
   have gg:=dF ⟨dw z[m],[cv]⟩;simp only[aW,dw,Core.ds,bf,a8,cJ,cS,iz,wi,dT]at cE gg⊢;exact⟨gg,cE⟩)) .n)))) (Cl.bu e8) ?_
  simp only[aN,bm,dg,a0,dB,e,go_sem];exact⟨⟨m,Zo,A,by simp[af,P,aE,aY,L,ar,aC,bm],b1,⟨⟨.mk 7 0 [] [dw z[m],.mk aR aU bd aS],cf (.mk W Z X)::cv::a4⟩,by simp[aj,aW,Core.ds,dw,ints],⟨by rw[a5,<-az.c],Zs,by have:=az.len;simp only[di]at this⊢;omega,by simpa using hO⟩⟩,λf i=>by simp[aj,aN,bX i (u:=29) A,bX i (u:=244) A,r f i]⟩,by simp[af]⟩
 have gc:decide (((0:Nat):Int)-1>=0)=al:=Zs;obtain⟨C,cz⟩:=Zx (b.map Ev.t++vs.map Ev.t);have hI:C.length=b.length+vs.length:=by rw[<-cz,bF,bW,bW]
 rw[cz]at e2 L;have ik:(O.ae C).length=C.length:=O.bb C;have fh:IntKind.i64.wrap ((C.length:Int)-1)=(C.length:Int)-1:=cW _ Zo;simp only[dg,gc,L,fh,go_sem];rw[List.drop_zero]at az;obtain⟨e',gd⟩:=Zx (mU z dd);rw[gd]at az;refine mW (λck=>∃m:Nat,m<=C.length/\Fw.cK 278 [(0,.rf 12 aJ 0),(15,.cp [I W,S Z,.sl 3 (O.ae X)]),(17,I g.length),(20,.sl 3 (O.ae C)),(29,.rf 29 (eb 29) 0),(31,I ((m:Int)-1))] (λs H n K=>K=j.T/\(∃bk,H 29=E ⟨eb 29,148,5,aW bk,aa⟩/\fl (lO (C.length-m) e') (eq+2000+(C.length-m)) bk)/\∀f∈dY,H f=ek f) ck) (λj=>match j.env 31 with|.sc (.int _ n)=>(n+1).toNat|_=>0)
  ⟨C.length,b_ _,A,by simp[af,P,aE,aY,L,bm],b1,⟨⟨.mk aR aU bd aS,a4⟩,by simp[aW,Core.ds,a0],by rw[uj];exact az.Ab Zo⟩,r⟩ ?_
 clear P aE aY L ar aC bm dg a0 az r cE b1;rintro⟨s,H,iI,ec,K,cm⟩⟨m,ia,rfl,a6,b1,⟨bk,a0,az⟩,r⟩;simp only[a7]at a6 a0 b1 r;obtain⟨P,aE,aY,L,bm,dK,-⟩:=a6;obtain⟨⟨aR,aU,bd,aS⟩,a4⟩:=bk;have cE:=dF ⟨.mk aR aU bd aS,a4⟩;simp only[aW,Core.ds,bf,a8]at a0 cE;rcases m with _|m
 rotate_left
 .have ay:m<C.length:=Zo;have e:((m+1:Nat):Int)-1=(m:Int):=Zo;have h':decide ((m:Int)>=0)=ad:=Zs;have cT:=sY (l:=C.drop m) (λx hx=>e2 x (ra hx)) dR;have c':=ig _ cT;have cH:=z8 (C.drop m) (.mk W Z X) (by rw[List.length_drop];omega);generalize gK (C.drop m) (.mk W Z X)=b3 at cH cT c';have cN:=pT 4 0 b3 [⟨.mk aR aU bd aS,a4⟩] cT (by simp;exact az.ne) Zs (by have:=az.len;simp at this⊢;omega);have a5:lO (C.length-m) e'=.mk 4 0 [] [lO (C.length-(m+1)) e']:=by rw[show C.length-m=C.length-(m+1)+1 by omega];rfl
  generalize e0:cf b3=cv at cN c';obtain⟨g6,ej,g7⟩:=b3;have h7:(O.ae C).drop m=O.ae (C.drop m):=by rw[O.bZ,O.bZ,List.map_drop]
  have iv:(O.ae C).take C.length=O.ae C:=by rw[<-ik];exact b9
  have ib:((m:Int)<=(C.length:Int))=True:=bP Zo;simp only[aW,O.ds,Core.ds,bf,a8,bp,cB,dN,fX,c_]at cH cN;have dB:IntKind.i64.wrap ((m:Int)-1)=(m:Int)-1:=cW _ Zo;simp only[e,dK,go_sem];refine me (.bE [0,1,2,3,5] 4 (.fin [6,7,8]) 6 (.fin [4,7,8])) [29] [] ?_;simp only[e,aE,L,bm,dK,a0,h7,iv,ib,go_sem];have e8:=dF ⟨.mk 4 0 [] [.mk aR aU bd aS],cv::a4⟩;refine⟨?_,?_⟩
  all_goals
   refine bw cH ?_;simp only[a0,go_sem];refine fm [259] cN (.c (.cl _ (aO _)) (.c (.cl _ (aO _)) (.c (.cl _ (Cl.bu (O.cl (.mk g6 ej g7)))) (.c (Fz.rows (ob:=⟨_,148,5,[I aR,I aU,ints bd,.sl 4 (Core.ae aS),.sl 3 (O.ae a4)],aa⟩) (by simp only[bi,bG,aI,bH];rfl) A A Zd A Zs A (by simp only[bG,dT];exact cE)) .n)))) (Cl.bu e8) ?_;simp only[aN,e,bm,dK,a0,dB,go_sem];exact⟨⟨m,Zo,A,by simp[af,P,aE,aY,L,bm],b1,⟨⟨.mk 4 0 [] [.mk aR aU bd aS],cv::a4⟩,by simp[aj,aW,Core.ds,ints],⟨by rw[a5,<-az.c],Zs,by have:=az.len;simp only[di]at this⊢;omega,by simpa using c'⟩⟩,λf i=>by simp[aj,aN,bX i (u:=29) A,bX i (u:=259) A,r f i]⟩,by simp[af]⟩
 rw[Nat.sub_zero,hI,<-gd,<-dn]at az;obtain⟨i6,gP,q2,jG,jF,an,iS,iT,jc,eh,it⟩:=eP.set Zs;have db:=(r 12 dI).trans iS;have du:=(r 185 dI).trans iT;have dv:=(r 195 dI).trans eh;obtain⟨fq,fO⟩:=Zx ((g++[Core.mk 0 0 [] []]++OO).length);have jb:fq=g.length+1+OO.length:=by rw[<-fO];simp;omega
 have hb:((g.length:Int)<(fq:Int))=True:=bP Zo;have hg:(Core.ae (g++[.mk 0 0 [] []]++OO)).flatten=(Core.ae g).flatten++([I 0,I 0,.sl 1 [],.sl 4 []]++(Core.ae OO).flatten):=by simp[Core.bZ,Core.ds,ints]
 have hS:g.length<an.length:=Zo;have hh:(fW an).flatten=(fW (an.take g.length)).flatten++([O.sl an[g.length]]++(fW (an.drop (g.length+1))).flatten):=by
  have:an=an.take g.length++an[g.length]::an.drop (g.length+1):=by rw[<-ph hS,lb]
  exact Fl
 have fy:(fW (an.take g.length)).flatten.length=g.length:=by rw[jM (e_ _),dC,fP];omega
 rw[fO]at db;rw[hg]at du;rw[hh]at dv;have c5:=AE (fW (an.take g.length)).flatten (fW (an.drop (g.length+1))).flatten [O.sl an[g.length]] [.sl 3 (O.ae a4)] fy A;have iD:g.length*4+4<=((Core.ae g).flatten++([I 0,I 0,.sl 1 [],.sl 4 []]++(Core.ae OO).flatten)).length:=by rw[bF,cb,bF];simp
 have iE:g.length+1<=((fW (an.take g.length)).flatten++([O.sl an[g.length]]++(fW (an.drop (g.length+1))).flatten)).length:=by rw[bF,fy,bF];simp
 simp only[dK,gc,go_sem];refine cX [12,29] [] ?_;simp only[P,aY,bm,db,du,a0,hb,go_sem];refine⟨iD,?_⟩;refine cX [12,29] [] ?_;simp only[P,aY,bm,db,dv,a0,hb,go_sem];refine⟨by rw[lc];exact iE,?_⟩;refine⟨aO _,b1,_,⟨by rw[e5],A⟩,?_⟩;rw[<-c8,<-az.c,show g++Core.mk aR aU bd aS::OO=g++[Core.mk aR aU bd aS]++OO by simp];refine it _ _ (an.take g.length++[a4]++an.drop (g.length+1)) Zs de ?_ ?_ λf i c6 dj=>?_
 .simp only[aj,aI,aV,aP];refine dO (λc=>E (Ob.mk gP 81 4 c aa)) ((AE (Core.ae g).flatten (Core.ae OO).flatten [I 0,I 0,.sl 1 [],.sl 4 []] [I aR,I aU,.sl 1 (bd.map λn=>[I n]),.sl 4 (Core.ae aS)] cb A).trans ?_);simp[Core.bZ,Core.ds,ints]
 .simp only[aj,aI,lc];exact GW
 .simp only[aj,c6,dj,aV];exact r f i
end
section
open Classical
section
variable{ab:aw}{ds:aF}{k v:Int}{n:BA}{t:O}{ns:aK}{ks:a_}{e:Env}{l:Int}{m:Nat}
def pD(ab:aw)(ds:aF)(k:Int)(n:BA)(t:O)(ns:aK)(ks:a_)(e:Env)(l:Int)(m i:Nat):Core×bM:=jf ab ds k n t ns ks (ks.map Y.aZ) (ks.map (cw ab ds)) e l m i
def gZ(k:Int)(ks:a_)(m i:Nat):Nat:=cj k (ks.map Y.aZ) m i
def nI(ab:aw)(ds:aF)(k:Int)(n:BA)(t:O)(ns:aK)(ks:a_)(e:Env)(l:Int)(m i:Nat):bM:=(if gg k i then[p4 ab ks e l i (pD ab ds k n t ns ks e l m i).1]else[])++(pD ab ds k n t ns ks e l m i).2
def Wu(a:k=9\/k=11):cw ab ds (.mk k v n t ns ks) e l m=(lj (Core.mk (if k=9 then 9 else 10) 0 ((List.range' 1 (ks.length-1)).map λb=>((ds.length+gZ k ks m b:Nat):Int)) [(pD ab ds k n t ns ks e l m 0).1]) ((bz ks e).map (lJ ds e l)),
 ((List.range ks.length).map (nI ab ds k n t ns ks e l m)).flatten):=by
 rw[EC,qQ,av Zo,av Zo,aM a,bW];rfl
def kS:Y->Y
 |.mk k v n t ns ks=>if k=10 then ks.headD (.mk k v n t ns ks)else .mk k v n t ns ks
def O0(d:k=9\/k=11)(b:0<ks.length):pD ab ds k n t ns ks e l m 0=cw ab ds ks[0] e l m:=by
 have:=x_ (ab:=ab) (ds:=ds) (k:=k) (n:=n) (t:=t) (ns:=ns) (e:=e) (l:=l) (m:=m) b (λf=>by have:=f.2;omega);rw[pD,this];have a:cj k (ks.map Y.aZ) m 0=m:=by simp[cj]
 rw[a];rcases d with rfl|rfl<;>simp[b8,cV,bL]
def O4(f:k=9\/k=11){a:Nat}(d:0<a)(b:a<ks.length):pD ab ds k n t ns ks e l m a=cw ab ds ks[a] (hW (gy ab ks[a]) (fM ks e) l) 0 (gZ k ks m a+1):=by
 rw[pD,jf,aM ⟨f,d⟩,getD_map b];simp only[bR b,ey,kM];rfl
def Ot{a:Y}(g:Sh ab a)(b:Env)(d:Int)(m:Nat):cw ab ds a b d m=cw ab ds (kS a) b d m/\Y.aZ a=Y.aZ (kS a)/\(kS a).num<=a.num:=by
 obtain⟨k,v,n,t,ns,ks⟩:=a;by_cases f:k=10
 .subst f;obtain⟨h,rfl⟩:=g.one Zs;refine⟨EB,?_,?_⟩
  .rw[Y.l_];simp[kS,gu,e8]
  .simp only[kS,aI,qZ];rw[Y.num,Y.aR];omega
 .simp[kS,f]
def Cf:gZ k ks m 0=m:=by simp[gZ,cj]
def wR{i:Nat}(a:i<ks.length):gZ k ks m (i+1)=gZ k ks m i+(e8 k i+Y.aZ ks[i]):=by
 have:=Il (k:=k) (l:=ks.map Y.aZ) (m:=m) (i:=i) (by simpa using a);simpa[gZ]using this
def Iz:gZ k ks m ks.length=m+Y.aZ (.mk k v n t ns ks):=by
 rw[gZ,cj,Y.l_,cU (by simp[gu])]
def IA{i b:Nat}(d:i<=b)(g:b<=ks.length):gZ k ks m i<=gZ k ks m b:=by
 obtain⟨a,rfl⟩:∃a,b=i+a:=⟨b-i,Zo⟩;clear d
 induction a with
 |zero=>exact b_ _
 |succ a f=>have:=f Zo;have:=wR (k:=k) (ks:=ks) (m:=m) (i:=i+a) Zo;rw[<-re];omega
def O6(b:Sh ab (.mk k v n t ns ks))(f:k=9\/k=11){i:Nat}(a:i<ks.length):(nI ab ds k n t ns ks e l m i).length=e8 k i+Y.aZ ks[i]:=by
 have d:(pD ab ds k n t ns ks e l m i).2.length=Y.aZ ks[i]:=by
  rw[pD,jf];split<;>rw[getD_map a,ya _ _ _ _ (b.cM _ (ax a))]
 rw[nI,bF,d,od];split<;>simp
def kt(ds:aF)(k:Int)(ks:a_)(m i:Nat):IL:=(List.range' 1 (i-1)).map λj=>((ds.length+gZ k ks m j:Nat):Int)
def O5{a:Nat}(d:1<=a):kt ds k ks m (a+1)=kt ds k ks m a++[((ds.length+gZ k ks m a:Nat):Int)]:=by
 obtain⟨b,rfl⟩:∃b,a=b+1:=⟨a-1,Zo⟩;simp[kt,List.range'_concat,rh]
def yW{a:Nat}:(kt ds k ks m a).length=a-1:=by simp[kt]
def IB(a:Sh ab (.mk k v n t ns ks))(b:k=9\/k=11):∀i,i<=ks.length->m+((List.range i).map (nI ab ds k n t ns ks e l m)).flatten.length=gZ k ks m i
 |0,_=>by simp[Cf]
 |i+1,f=>by
  have:=IB a b i Zo;have d:=O6 (ds:=ds) (e:=e) (l:=l) (m:=m) a b (i:=i) Zo;rw[wc,bC,fN,bF,wR Zo];simp only[bp,cB,dN,fX,c_];omega
def Me(a:Nat->bM)(b:Nat):((List.range (b+1)).map a).flatten=((List.range b).map a).flatten++a b:=by
 rw[wc,bC,fN];simp
end
def O'{ab:aw}{ds:aF}(b6:fR ab ds){k v:Int}(b3:k=9\/k=11){n:BA}{t:O}{ns:aK}{ks:a_}{e:Env}{l:Int}(aQ:RC ab ds (.mk k v n t ns ks) e l)(gu:∀aC∈ks,aC.sz<=1048576)(b5:0<ks.length)(ct:T7 70 ab ds ks[0] e l)
 (fW:∀bI,dp bI->a6 ab ds (.mk k v n t ns ks) e l=E bI->∀(a:Nat)(eP:a<ks.length),0<a->B7 ab ds (kS ks[a]) (gy ab ks[a]) (bz ks e) e l bI (p4 ab ks e l a) (hW (gy ab ks[a]) (fM ks e) l)):T7 115 ab ds (.mk k v n t ns ks) e l:=by
 intro aL m bK h gT K fL gi gW bY;obtain⟨B,F,C⟩:=t;have bY:=T7.fin bY;rw[Wu b3]at bY;have gl:Y.num (.mk k v n (.mk B F C) ns ks)=Y.aR ks+1:=by rw[Y.num];omega
 have g1:=aQ.el;have g4:=aQ.l1;have g3:=aQ.l0;have g2:ks.length<=1000:=by have:=DC ks;omega
 have dx:=SO k v n B F C ns ks e (s6 aQ.tc.gd).2 gu Zo Zo Zo Zo;have b0:(bz ks e).length<=1000:=by
  have i:Y.aR (ks.drop 1)<=Y.aR ks:=by cases ks<;>simp[Y.aR]
  unfold bz;refine fY (nl _ _) (fY (Jj _ _) ?_);rw[gG];omega
 obtain⟨bI,fS,fT,dL⟩:=aQ.tp b6 (by simp[Y.kd];omega);have du:=mf fT;have dm:=fW bI du fS;have er:=fL.off;have fO:=fo e;obtain⟨a',fy,fA,cn⟩:∃G J aC,cc e=[G,J,aC]:=⟨_,_,_,A⟩;have g0:Cl (.cp [.sl 2 (ai.ae ab),.sl 12 (ah.ae ds)]):=Cl.eX cu;have gp:=Y.cl (.mk k v n (.mk B F C) ns ks);obtain⟨aS,aX,aU⟩:=bI;have cY:=cn;rw[cc]at cY;have dq:a'=strs (e.map Ev.n):=by cases cY;rfl
 have fP:fy=.sl 3 (O.ae (e.map Ev.t)):=by cases cY;rfl
 have eu:fA=ints (e.map Ev.l):=by cases cY;rfl
 have gU:Cl a':=by rw[dq];exact jW _
 subst fP;simp only[ints]at eu;subst eu;rw[cn]at fO dL dx⊢;unfold T7 at ct;unfold B7 at dm;rw[cn]at ct;simp only[cn]at dm;simp only[Y.ds,O.ds,strs,bf,a8,ai.sl,ah.sl]at dL gp dx;obtain⟨gR,hh,a9,fv,hg,eq,-⟩:=er.ob;simp only[ai.sl,ah.sl]at eq;obtain⟨vs,th⟩:=Zx (fM ks e);have dr:vs=(bz ks e).map λx=>(look e x).getD ⟨nE,js,0⟩:=by
  exact Hp
 have e8:vs.length=(bz ks e).length:=by rw[dr];simp
 have ez:(R (bz ks e)).length=(bz ks e).length:=by simp[R]
 have g7:(O.ae (e.map Ev.t)).length=e.length:=by rw[O.bb,bW]
 have g5:((e.map Ev.l).map λn=>[I n]).length=e.length:=Zs;have fD:cy aB 72=E (87,3,48):=Zk;have eR:(k==9)=decide (k=9):=iG ..;have dn:=O0 (ab:=ab) (ds:=ds) (n:=n) (t:=.mk B F C) (ns:=ns) (e:=e) (l:=l) (m:=m) b3 b5;have e2:=wR (k:=k) (ks:=ks) (m:=m) b5;have gn:=Iz (k:=k) (v:=v) (n:=n) (t:=.mk B F C) (ns:=ns) (ks:=ks) (m:=m);have go:=IA (k:=k) (ks:=ks) (m:=m) (show 1<=ks.length by omega) (b_ _);rw[Cf,ek]at e2;have cV:=Y.bo ks 0 b5;have e9:=Y.cl ks[0];have az:=Y.gV (ax b5);have gj:ks[0].num<=1000:=by have:=Y.gV (ax b5);omega
 obtain⟨a0,eS⟩:∃a0:Int,(if k=9 then 9 else 10)=a0:=⟨_,A⟩;have dO:∀x∈vs.map Ev.t,dp x:=λx hx=>by
  obtain⟨y,gt,rfl⟩:=aG.1 hx;exact mf (aQ.w y (jN (vU (th▸gt)).2).1)
 have dA:=sY dO du;have dz:=ig _ dA;have dB:=z8 (vs.map Ev.t) (.mk aS aX aU) (by rw[bW];omega);generalize gK (vs.map Ev.t) (.mk aS aX aU)=dh at dB dA dz;have dE:=λ(aE:bQ)(g:aE.ty≠[])(i:aE.ty.length<=2000000000000)=>KD a0 0 dh [aE] dA (by simpa using g) Zs (by simpa using i);generalize cf dh=cT at dz dE;obtain⟨fF,fJ,fI⟩:=dh;generalize gX:ks[0]=fC at cV e9 gj az dn e2 ct;obtain⟨fd,fr,fh,⟨fk,fq,fp⟩,fi,fg⟩:=fC;simp only[Y.ds,O.ds,strs,tA,aW,bf,a8,bp,cB,dN,fX,c_]at cV e9 ct dB dE;generalize fN:pD ab ds k n (.mk B F C) ns ks e l m 0=bB at dn bY;rw[eS]at bY;refine call7 bY [1000021,1000155] [.cell 8 148] func115 A Zk ntmps115 A Zs ?_;simp only[go_sem];by_cases dd:k=9
 all_goals
  first|simp only[eR,bD (show k=9 from dd),go_sem]|simp only[eR,bj dd,go_sem]
  refine bO dx ?_;refine bq 12 (bz ks e).length (λd=>Fw.cK 203 [(0,.rf 12 aL 0),(1,.cp [I k,I v,S n,I B,S F,.sl 3 (O.ae C),.sl 1 (ns.map λh=>[S h]),.sl 8 (Y.ae ks)]),(3,I l),(6,.cp [a',.sl 3 (O.ae (e.map Ev.t)),.sl 1 ((e.map Ev.l).map λn=>[I n])]),(8,.rf 8 (h.n 8) 0),(9,I a0),(10,.sl 1 (R (bz ks e)))] λam f n bL=>bL=h.T/\(∃aJ,f 8=E ⟨h.n 8,148,5,aJ,aa⟩/\aJ.length=5)/\aH [31,51] f 87 3 (O.ae ((vs.take d).map Ev.t)) (am 11)/\∀t∈dY,f t=bi dY h.H t) A
   ⟨A,by simp[af,ba,<-eS,dd],A,⟨_,by simp[aj];rfl,A⟩,.inr ⟨31,h.n 31,Zs,by simp[af,O.ae],by simp[aj,O.ae]⟩,λt b=>by simp[aj,bX b (u:=8) A,bX b (u:=31) A]⟩ ?_
  rintro d am f cb bL c9 bl⟨eA,⟨aJ,dl,eC⟩,hx,cZ⟩;obtain⟨y,cR⟩:=Zx (am 11);rw[cR]at hx;simp only[ez,go_sem];refine aT (λL=>?_) λL=>?_
  .skip
   have U:d<(bz ks e).length:=by simpa using L
   obtain⟨x,a5⟩:=Zx ((bz ks e)[d]);have dV:x∈bz ks e:=a5▸ax U;have a1:(R (bz ks e))[d]?=E [S x]:=by simp[R,U,a5]
   have c2:d<vs.length:=Zo;rcases o7 x e with⟨az,-⟩|⟨a,b2,az,dG⟩
   .have:=(my.1 dV).1;rw[az]at this;cases this
   have c4:vs[d]=e[a]:=by simp[dr,a5,az]
   have gk:e[a].n=x:=(jN az).2;have cq:=nZ (e.map Ev.n) x kO;rw[dG,<-dq]at cq;have a2:=O.bo (e.map Ev.t) a (by simpa using b2);rw[eI]at a2;obtain⟨au,ay,av,ca⟩:=O.ex e[a].t;rw[ca]at a2;simp only[O.ds]at a2;have M:O.ae ((vs.take (d+1)).map Ev.t)=O.ae ((vs.take d).map Ev.t)++[(O.mk au ay av).ds]:=by
    rw[ch c2,bC,O.bZ,bC,<-O.bZ,c4];simp[ca]
   have e7:(O.ae ((vs.take d).map Ev.t)).length=d:=by rw[O.bb];simp;omega
   simp only[go_sem];refine cX [] [] ?_;simp only[cR,a1,go_sem];refine bw cq ?_;simp only[a2,ic,go_sem];refine iO (S:=[31,51]) (rows:=O.ae ((vs.take d).map Ev.t)) (bx:=[(O.mk au ay av).ds]) Zs fD (by simp only[af,aI,aV,aP,bT,bU,reduceCtorEq];exact hx.congr bJ) (O.ea _) (by simp[af,cF,aj,O.ds]) Zs A (by rw[e7];show(d+1)*48<=_;omega) (by rw[e7];show d+1<=ao;unfold ao;omega) (by show 51<203;decide) ?_;intro cN gx hf gs fQ;have fa:∀t,t≠51->t≠31->t≠50->cN t=f t:=λt G J aC=>by
    rw[fQ t G (by simp only[cJ,cS,iz,jT];exact⟨J,G⟩)];simp[aj,aC]
   simp only[go_sem];exact bg U ⟨A,by simp[af],eA,⟨aJ,(fa 8 Zd Zd Zd).trans dl,eC⟩,by rw[M];simp only[af,aI,aV,aP,bT,bU,reduceCtorEq];exact gs.sub Zs,λt b=>(fa t (bX b A) (bX b A) (bX b A)).trans (cZ t b)⟩
  have dJ:d=(bz ks e).length:=by simp at L;omega
  subst dJ;rw[show vs.take (bz ks e).length=vs by rw[<-e8];exact b9]at hx;have eb:=(cZ 12 dI).trans eq;simp only[L,go_sem];clear L;refine cX [12] [60] ?_;simp only[eb,go_sem];refine jx dL ?_;refine I0 mixed (GK.fe [31,51] 11 (.sl 3 (O.ae (vs.map Ev.t))) (by simp only[af,aV,aP,cR,bT,bU,aI,reduceCtorEq];exact aH.fz (hx.congr (by simp[bi,aj])) Zd (O.ea _) (O.bA _)) (cI.2 (O.bA _)) λbc db=>?_);have c6:∀t,t≠13->t∉[31,51]->bc t=f t:=λt G J=>(db t J).trans (by simp[aj,G]);have cG:=db 13 Zd;simp only[bH]at cG;have cE:=(c6 12 Zd Zd).trans eb;have gC:=(c6 8 Zd Zd).trans dl;have gD:∀t∈dY,bc t=bi dY h.H t:=λt b=>(c6 t (bX b A) (by simp only[cJ,cS,iz,jT];exact⟨bX b A,bX b A⟩)).trans (cZ t b);clear db c6 eb dl cZ hx cR;refine GK.intro (Cy (K:=λcC=>Fw.cK 203 [(0,.rf 12 aL 0),(1,.cp [I k,I v,S n,I B,S F,.sl 3 (O.ae C),.sl 1 (ns.map λh=>[S h]),.sl 8 (Y.ae ks)]),(3,I l),(6,.cp [a',.sl 3 (O.ae (e.map Ev.t)),.sl 1 ((e.map Ev.l).map λn=>[I n])]),(8,.rf 8 (h.n 8) 0),(10,.sl 1 (R (bz ks e))),(11,.sl 3 (O.ae (vs.map Ev.t))),(13,.rf 13 (cb 13) 0)] (λam f dX bd=>bd=bL/\f 8=E ⟨h.n 8,148,5,aJ,aa⟩/\f 13=E ⟨cb 13,87,3,[I aS,S aX,.sl 3 (O.ae aU)],aa⟩/\(∃a3 cD,am 15=.rf 15 a3 0/\f 15=E ⟨a3,148,5,tA a0 0 [bB.1] (cT::cD),aa⟩/\cD.length<=W7 (Y.mk fd fr fh (O.mk fk fq fp) fi fg))/\L7 ab ds f aL (bK++bB.2)) cC) ?_ (oP (mu:=[1000021,1000155]) (.bE [0,1,2,4,5,6,7,8,9,10,11] 3 (.bE [] 12 (.bE [] 13 (.bE [] 14 (.fin [15,16]) 15 (.fin [14,16])) 15 (.fin [13,14,16])) 15 (.fin [12,13,14,16])) 15 (.fin [3,12,13,14,16])) [13] [] mixed Zk ?_))
  rotate_left
  .skip
   have he:(aj (aj f 13 aa) 13 (E {gen:=cb 13,elem:=87,sz:=3,cells:=[I aS,S aX,D.sl 3 (O.ae aU)]})) 13=E {gen:=cb 13,elem:=87,sz:=3,cells:=[I aS,S aX,D.sl 3 (O.ae aU)]}:=by simp[aj]
   simp only[cG,cV,go_sem]
   repeat' (with_reducible refine And.intro ?_ ?_)
   all_goals
    refine bw dB ?_;simp only[cG,go_sem]
    repeat' (with_reducible refine And.intro ?_ ?_)
    all_goals
     refine .inr (.inr (ct aL m bK _ _ _ (er.congr λt b=>by simp[aj,bX b (u:=15) A,gD t b]) gi Zo ?_));intro cN gx aE bl es an;rw[<-dn]at bl es;have j:cN 13=E ⟨cb 13,87,3,[I aS,S aX,.sl 3 (O.ae aU)],aa⟩:=(an 13 Zd).trans (by simp[aj,cG]);have V:cN 8=E ⟨h.n 8,148,5,aJ,aa⟩:=(an 8 Zd).trans (by simp[aj,gC]);have z:=an 15 Zd;simp only[aj,aI]at z;obtain⟨⟨X,ak,W,Z⟩,Q⟩:=aE;have co:=dF ⟨.mk X ak W Z,Q⟩;have eV:=dE ⟨.mk X ak W Z,Q⟩ bl.ne (fY bl.len (by unfold W7;omega));simp only[aW,Core.ds,bf,a8]at co eV⊢;have b':=dF ⟨.mk a0 0 [] [.mk X ak W Z],cT::Q⟩;simp only[j,cG,go_sem]
     repeat' (with_reducible refine And.intro ?_ ?_)
     all_goals
      refine fm [76] eV (.c (.cl _ (aO _)) (.c (.cl _ (aO _)) (.c (.cl _ (Cl.bu (O.cl (.mk fF fJ fI)))) (.c (Fz.rows (ob:=⟨_,148,5,[I X,I ak,ints W,.sl 4 (Core.ae Z),.sl 3 (O.ae Q)],aa⟩) (by simp only[bi,bG,aI,bH];rfl) A A Zd A Zs A (by simp only[bG,dT];exact co)) .n)))) ?_ ?_
      .refine Cl.bu ?_;simp only[aW,Core.ds,bf,a8,ints,cJ,cS,iz,wi,dT]at b'⊢;exact⟨aO _,aO _,aO _,b'.2.2.2⟩
      simp only[aN,j,z,go_sem];exact⟨A,by simp[af],A,by simp[aj,aN,V],by simp[aj,aN,j],⟨_,Q,by simp only[af,aI,bT,bU,aV,reduceCtorEq,aP];rfl,by simp only[bH,tA,<-bl.c],bl.len⟩,es.congr λt b=>by simp[aj,aN,bX b (u:=15) A,bX b (u:=76) A]⟩
  rintro⟨am,gJ,g9,e',gM,gL⟩⟨rfl,a4,M,V,j,⟨a3,cD,dg,z,g8⟩,P⟩;simp only[a7]at a4 M V j dg z P;obtain⟨f0,f1,f3,f6,f8,f10,f11,f13,-⟩:=a4;simp only[go_sem];have eK:=λ(a:Nat)(eP:a<=ks.length)=>IB (ab:=ab) (ds:=ds) (v:=v) (n:=n) (t:=.mk B F C) (ns:=ns) (e:=e) (l:=l) (m:=m) aQ.sh b3 a eP;have ep:cy aB 79=E (2,1,8):=Zk;obtain⟨ci,gc⟩:=Zx (cb 13);rw[gc]at f13 j;refine mW (λcC=>∃a:Nat,1<=a/\a<=ks.length/\Fw.cK 203 [(0,.rf 12 aL 0),(1,.cp [I k,I v,S n,I B,S F,.sl 3 (O.ae C),.sl 1 (ns.map λh=>[S h]),.sl 8 (Y.ae ks)]),(3,I l),(6,.cp [a',.sl 3 (O.ae (e.map Ev.t)),.sl 1 ((e.map Ev.l).map λn=>[I n])]),(8,.rf 8 (h.n 8) 0),(10,.sl 1 (R (bz ks e))),(11,.sl 3 (O.ae (vs.map Ev.t))),(13,.rf 13 ci 0),(15,.rf 15 a3 0),(16,I a)] (λam f dX bd=>bd=h.T/\f 8=E ⟨h.n 8,148,5,aJ,aa⟩/\f 13=E ⟨ci,87,3,[I aS,S aX,.sl 3 (O.ae aU)],aa⟩/\(∃eg,f 15=E ⟨a3,148,5,[I a0,I 0,eg,.sl 4 (Core.ae [bB.1]),.sl 3 (O.ae (cT::cD))],aa⟩/\aH [155] f 2 1 (aq I (kt ds k ks m a)) eg)/\L7 ab ds f aL (bK++((List.range a).map (nI ab ds k n (.mk B F C) ns ks e l m)).flatten)) cC) (λh=>match h.env 16 with|.sc (.int _ n)=>((ks.length:Int)-n).toNat|_=>0)
   ⟨1,b_ _,b5,A,by simp[af,f0,f1,f3,f6,f8,f10,f11,f13,dg],M.trans eA,V,j,⟨_,z,.inl ⟨by simp[kt,aq],A⟩⟩,by
    have:((List.range 1).map (nI ab ds k n (.mk B F C) ns ks e l m)).flatten=bB.2:=by
     rw[show(1:Nat)=0+1 from A,Me];simp[nI,gg,fN]
    rw[this];exact P⟩ ?_
  clear f0 f1 f3 f6 f8 f10 f11 f13 dg V j z P M;rintro⟨am,f,gz,e',bL,c9⟩⟨a,ge,gf,rfl,a4,M,V,j,⟨eg,z,cz⟩,P⟩;simp only[a7]at a4 M V j z cz P;obtain⟨f0,f1,f3,f6,f8,f10,f11,f13,f15,f16,-⟩:=a4;simp only[f1,f16,go_sem];refine aT (λL=>?_) λL=>?_
  .skip
   have U:=bh L;have eW:=ax U;have ck:=Y.bo ks a U;have dW:=Y.cl ks[a];have et:=dm a U Zo;have c3:=aQ.sh.cM _ eW;have f':=O4 (ab:=ab) (ds:=ds) (n:=n) (t:=.mk B F C) (ns:=ns) (e:=e) (l:=l) (m:=m) b3 (show 0<a by omega) U;have dw:=Ot (ds:=ds) c3 (hW (gy ab ks[a]) (fM ks e) l) 0 (gZ k ks m a+1);have eD:nI ab ds k n (.mk B F C) ns ks e l m a=p4 ab ks e l a (cw ab ds (kS ks[a]) (hW (gy ab ks[a]) (fM ks e) l) 0 (gZ k ks m a+1)).1::(cw ab ds (kS ks[a]) (hW (gy ab ks[a]) (fM ks e) l) 0 (gZ k ks m a+1)).2:=by
    rw[nI,aM (show gg k a from⟨b3,Zo⟩),f',dw.1];rfl
   have e3:=eK a gf;have eJ:=wR (k:=k) (ks:=ks) (m:=m) U;rw[od,aM (show gg k a from⟨b3,Zo⟩),dw.2.1]at eJ;have gY:=IA (k:=k) (ks:=ks) (m:=m) (show a+1<=ks.length by omega) (b_ _);have bn:=Me (nI ab ds k n (.mk B F C) ns ks e l m) a;have e0:=O5 (ds:=ds) (k:=k) (ks:=ks) (m:=m) ge;rw[eD]at bn;obtain⟨OL,fV⟩:∃OL,((List.range a).map (nI ab ds k n (.mk B F C) ns ks e l m)).flatten=OL:=⟨_,A⟩;rw[fV]at e3 P bn;have bk:=et aL (gZ k ks m a) (bK++OL);have eT:(bK++OL).length=ds.length+gZ k ks m a:=by rw[bF];omega
   have cr:gZ k ks m a+1+Y.aZ (kS ks[a])<=1000000:=Zo;clear et dw eD eJ e3;have eG:=(iQ aQ.tc.fit).2 _ eW;obtain⟨aC,fZ⟩:=Zx (ks[a]);rw[fZ]at ck dW c3 bk cr bn eG;obtain⟨ff,hd,ec,⟨gO,gQ,gP⟩,fB,gN⟩:=aC;by_cases dc:ff=10
   .subst dc;obtain⟨J,rfl⟩:=c3.one Zs;have eZ:=c3.vr A;obtain⟨df,eM,de,eH,fw,gF,fx,gH,gI⟩:=oN (by have:=(iQ eG).1;simp[dR]at this;omega);have dy:=rX ab ec b6.ll.len b6.ll.cs;rw[fw,gI]at dy;have a1:=ai.bo ab df eM;have g6:=b6.ll.cs _ (ax eM);obtain⟨eo,bM,b1⟩:∃eo bM,ab[df]=.mk eo bM:=by cases ab[df];exact⟨_,_,A⟩
    have gh:de<bM.length:=by rw[b1]at eH;exact eH
    obtain⟨en,cU,eE⟩:∃en cU,bM[de]=.mk en cU:=aA.ex _;have eN:jd ab ec=cU:=by rw[fx];simp only[b1,ai.cs,eE,aA.fs]
    have cj:=aA.bo bM de gh;rw[b1]at a1;rw[eE]at cj;have gb:(cL ab ec fB 0).map Ev.t=cU:=by
     rw[cL,dZ,eN];rw[eN]at eZ;exact List.map_snd_zip Zo
    simp only[ai.ds,aA.ds,aA.sl]at a1 cj;simp only[gy,aI,CM (l:=0) eZ,gb,kS,qZ]at bk bn cr;have gw:=Y.cl J;obtain⟨o,q,g',⟨ha,hc,hb⟩,g_,p⟩:=J;simp only[Y.ds,Y.ae,O.ds,strs,bf,a8]at ck dW bk gw;obtain⟨gS,hm,hk,hn,hj,cE,-⟩:=P.ob;simp only[ai.sl,ah.sl]at cE dy;simp only[f0,f1,f16,ck,go_sem];refine b7 ?_;simp only[cE,go_sem];refine d' dy ?_;simp only[f0,cE,go_sem];refine Cv [13] [126] mixed Zk ?_;simp only[f0,f3,f6,f10,f13,a1,cj,ai.bb ab,aA.bb bM,cE,j,go_sem];refine .inr (.inr (bk _ _ _ (P.congr λt b=>by simp) eT cr ?_));intro cd d_ cm an;have aD:=(an 13 Zd).trans j;have ap:=(an 15 Zd).trans z;have ee:=cz.congr (H':=cd) (by simp only[bG,dT];exact an 155 Zd);rw[dM,<-bn]at cm;simp only[f15,aD,j,ap,go_sem];refine GK.intro (dS.eF (S:=[155]) (rows:=aq I (kt ds k ks m a)) (bx:=[[I ((ds.length+gZ k ks m a:Nat):Int)]]) ep (by simp only[af,aI,aV,aP,bT,bU,reduceCtorEq];exact ee.congr bJ) (e_ _) ga Zs A (by rw[dC,yW];show(a-1+1)*8<=_;omega) (by rw[dC,yW];show a-1+1<=ao;unfold ao;omega) λc8 gA gE br dt=>?_);have ar:∀t,t≠155->t≠154->c8 t=cd t:=λt G J=>by rw[dt t G (by simpa using G)];simp[aj,J]
    obtain⟨fK,rfl,-⟩:=fG br Zs;have dK:aq I (kt ds k ks m a)++[[I ((ds.length+gZ k ks m a:Nat):Int)]]=aq I (kt ds k ks m (a+1)):=by rw[e0];simp[aq]
    obtain⟨cH,cA⟩:∃cH,(aq I (kt ds k ks m a)++[[I ((ds.length+gZ k ks m a:Nat):Int)]]).length=cH:=⟨_,A⟩;rw[cA,dK]at br;simp only[f15,f16,(ar 15 Zd Zd).trans ap,iX a Zo,cA,go_sem];exact⟨⟨a+1,Zo,Zo,A,by simp[af,f0,f1,f3,f6,f8,f10,f11,f13,f15],M,by simp[aj,ar,(an 8 Zd).trans V],by simp[aj,ar,aD],⟨_,by simp only[bH],br.congr bJ⟩,cm.congr λt b=>by simp[aj,bX b (u:=15) A,ar t (bX b A) (bX b A)]⟩,by simp[af];omega⟩
   .have fE:(ff==10)=al:=by simp[dc]
    simp only[gy,dc,aV,cB,kS]at bk bn cr;simp only[Y.ds,O.ds,strs,bf,a8]at ck dW bk;simp only[f0,f1,f3,f6,f10,f13,f16,ck,fE,j,go_sem];refine .inr (.inr (Cc (bk _ _ _ (P.congr λt b=>by simp) eT cr ?_) A λa be e g i=>?_))
    rotate_left
    .match a,g,i with
     |0,g,i=>cases g;cases i;exact fj.rfl
     |1,g,i=>cases g;cases i;exact fj.rfl
     |2,g,i=>cases g;cases i;exact fj.nil
     |3,g,i=>cases g;cases i;exact fj.nil
     |4,g,i=>cases g;cases i;exact fj.rfl
     |5,g,i=>cases g;cases i;exact fj.rfl
     |6,g,i=>cases g;cases i;exact fj.rfl
     |7,g,i=>cases g;cases i;exact fj.rfl
    intro cd d_ cm an;have aD:=(an 13 Zd).trans j;have ap:=(an 15 Zd).trans z;have c5:=(an 8 Zd).trans V;have ee:=cz.congr (H':=cd) (by simp only[bG,dT];exact an 155 Zd);rw[dM,<-bn]at cm;simp only[f15,ap,go_sem];refine GK.intro (dS.eF (S:=[155]) (rows:=aq I (kt ds k ks m a)) (bx:=[[I ((ds.length+gZ k ks m a:Nat):Int)]]) ep (by simp only[af,aI,aV,aP,bT,bU,reduceCtorEq];exact ee.congr bJ) (e_ _) ga Zs A (by rw[dC,yW];show(a-1+1)*8<=_;omega) (by rw[dC,yW];show a-1+1<=ao;unfold ao;omega) λc8 gA gE br dt=>?_);have ar:∀t,t≠155->t≠154->c8 t=cd t:=λt G J=>by rw[dt t G (by simpa using G)];simp[aj,J]
    obtain⟨fK,rfl,-⟩:=fG br Zs;have dK:aq I (kt ds k ks m a)++[[I ((ds.length+gZ k ks m a:Nat):Int)]]=aq I (kt ds k ks m (a+1)):=by rw[e0];simp[aq]
    obtain⟨cH,cA⟩:∃cH,(aq I (kt ds k ks m a)++[[I ((ds.length+gZ k ks m a:Nat):Int)]]).length=cH:=⟨_,A⟩;rw[cA,dK]at br;have gB:IntKind.i64.wrap ((a:Int)+1)=((a+1:Nat):Int):=iX a Zo;simp only[f15,f16,(ar 15 Zd Zd).trans ap,gB,cA,go_sem];exact⟨⟨a+1,Zo,Zo,A,by simp[af,f0,f1,f3,f6,f8,f10,f11,f13,f15],M,by simp[aj,ar,c5],by simp[aj,ar,aD],⟨_,by simp only[bH],br.congr bJ⟩,cm.congr λt b=>by simp[aj,bX b (u:=15) A,ar t (bX b A) (bX b A)]⟩,by simp[af];omega⟩
  have b2:=bS L;subst b2;simp only[L,go_sem];have dH:∀ar∈aq I (kt ds k ks m ks.length),∀be∈ar,Cl be:=λar gm be eL=>by
   obtain⟨x,-,rfl⟩:=aG.1 gm;simp only[bG]at eL;subst eL;exact aO _
  refine GK.fc [155] 15 2 (e:=.sl 1 (aq I (kt ds k ks m ks.length))) z Zd A (aH.fz (cz.congr (by simp[bi])) Zd (e_ _) dH) (cI.2 dH) λeh c' cP=>?_;simp only[List.set_cons_succ,List.set_cons_zero]at c';have ej:=(cP 8 Zd Zd).trans V;have ei:=(cP 13 Zd Zd).trans j;have da:=P.congr (H':=eh) λt b=>cP t (bX b A) (by simp only[bG];exact bX b A);obtain⟨ce,ew⟩:=Zx (Core.mk a0 0 (kt ds k ks m ks.length) [bB.1]);obtain⟨cO,ey⟩:∃cO,bK++((List.range ks.length).map (nI ab ds k n (.mk B F C) ns ks e l m)).flatten=cO:=⟨_,A⟩;have fU:(Core.mk a0 0 ((List.range' 1 (ks.length-1)).map λa=>((ds.length+gZ k ks m a:Nat):Int)) [bB.1])=ce:=ew;rw[ey]at da;simp only[fU,ey];clear eK dH cP P V j z cz L cV go gn;refine GK.intro ?_;simp only[go_sem];refine bq 21 (bz ks e).length (λd=>Fw.cK 203 [(0,.rf 12 aL 0),(3,I l),(6,.cp [a',.sl 3 (O.ae (e.map Ev.t)),.sl 1 ((e.map Ev.l).map λn=>[I n])]),(8,.rf 8 (h.n 8) 0),(10,.sl 1 (R (bz ks e))),(11,.sl 3 (O.ae (vs.map Ev.t))),(13,.rf 13 ci 0),(15,.rf 15 a3 0)] λam f dX bd=>bd=h.T/\f 8=E ⟨h.n 8,148,5,aJ,aa⟩/\f 13=E ⟨ci,87,3,[I aS,S aX,.sl 3 (O.ae aU)],aa⟩/\(∃aE,f 15=E ⟨a3,148,5,aW aE,aa⟩/\fl (lj ce (((bz ks e).take d).map (lJ ds e l))) (1+W7 (Y.mk fd fr fh (O.mk fk fq fp) fi fg)+3*d) aE)/\L7 ab ds f aL cO) A
   ⟨A,by simp[af,f0,f3,f6,f8,f10,f11,f13,f15],M,ej,ei,⟨⟨ce,cT::cD⟩,by show eh 15=_;rw[c',<-ew];simp[aW,Core.ds,ints,aq],⟨A,Zs,by simp only[di];omega,by simpa using dz⟩⟩,da⟩ ?_
  clear f0 f1 f3 f6 f8 f10 f11 f13 f15 ej ei c' da M;rintro d am f gz bL c9 bl⟨M,V,j,⟨aE,z,b8⟩,P⟩;simp only[ez,go_sem];refine aT (λL=>?_) λL=>?_
  .have U:d<(bz ks e).length:=by simpa using L
   obtain⟨x,a5⟩:=Zx ((bz ks e)[d]);have dV:x∈bz ks e:=a5▸ax U;have a1:(R (bz ks e))[d]?=E [S x]:=by simp[R,U,a5]
   have c2:d<vs.length:=Zo;rcases o7 x e with⟨az,-⟩|⟨a,b2,az,dG⟩
   .have:=(my.1 dV).1;rw[az]at this;cases this
   have c4:vs[d]=e[a]:=by simp[dr,a5,az]
   have gk:e[a].n=x:=(jN az).2;have cq:=nZ (e.map Ev.n) x kO;rw[dG,<-dq]at cq;have a2:=O.bo (e.map Ev.t) a (by simpa using b2);rw[eI]at a2;obtain⟨au,ay,av,ca⟩:=O.ex e[a].t;rw[ca]at a2;simp only[O.ds]at a2;have c1:look e x=E e[a]:=az;have eY:=Lb P (by have:=b6.len;omega) x e Zo aQ.w b6.wV (λd=>by rw[d]at c1;cases c1);rw[cn]at eY;simp only[go_sem];refine uR (λcC=>Fw.cK 203 [(3,I l),(6,.cp [a',.sl 3 (O.ae (e.map Ev.t)),.sl 1 ((e.map Ev.l).map λn=>[I n])]),(0,.rf 12 aL 0),(8,.rf 8 (h.n 8) 0),(10,.sl 1 (R (bz ks e))),(11,.sl 3 (O.ae (vs.map Ev.t))),(13,.rf 13 ci 0),(15,.rf 15 a3 0),(21,I d)] (λam bc dX bd=>bd=bL/\(∀t,t≠22->bc t=f t)/\∃dj ft,am 22=.rf 22 dj 0/\bc 22=E ⟨dj,148,5,aW ft,aa⟩/\fl (lx ds e x) 1 ft) cC) (.bE [0,1,2,3,4,5] 6 (.fin [7,8]) 7 (.fin [6,8])) [] [] mixed Zk ?_ ?_
   .simp only[a1,go_sem];refine⟨?_,?_⟩
    all_goals
     refine .inr (.inr (eY _ _ _ (λt b=>by simp[aj,bX b (u:=22) A]) ?_));rintro d_ ar⟨⟨⟨o,q,r,p⟩,s⟩,rfl,bm⟩b0;have e4:aW ⟨.mk o q r p,s⟩=[I o,I q,ints r,.sl 4 (Core.ae p),.sl 3 (O.ae s)]:=by simp[aW,Core.ds]
     simp only[e4,go_sem];exact⟨A,by simp[af],A,λt b=>by simp[aj,b],_,⟨.mk o q r p,s⟩,by simp only[af,aI,aV,aP,bT,bU,reduceCtorEq];rfl,by simp[aj,e4,ints],bm⟩
   rintro⟨am,bc,d_,e',T7,c9⟩⟨rfl,a4,rfl,bV,dj,⟨⟨o,q,r,p⟩,s⟩,cg,bR,bm⟩;simp only[a7]at a4 M bV cg bR;obtain⟨f3,f6,f0,f8,f10,f11,f13,f15,bN,-⟩:=a4;have c5:=(bV 8 Zd).trans V;have aD:=(bV 13 Zd).trans j;have ap:=(bV 15 Zd).trans z;have fb:=P.congr (H':=bc) λt b=>bV t (bX b A);clear V j z P bV;obtain⟨⟨X,ak,W,Z⟩,Q⟩:=aE;have cv:=dF ⟨.mk X ak W Z,Q⟩;have e1:=dF ⟨.mk o q r p,s⟩;have cj:((e.map Ev.l).map λn=>[I n])[a]?=E [I e[a].l]:=by simp[b2]
   have gr:IntKind.i64.wrap (l+1)=l+1:=cW _ Zo;have f_:(e[a].l==l+1)=decide (e[a].l=l+1):=iG ..;have dk:=O.bo (vs.map Ev.t) d (by simpa using c2);rw[eI,c4,ca]at dk;have dP:(O.ae (vs.map Ev.t)).length=(bz ks e).length:=by rw[O.bb,bW,e8]
   have e5:dp (.mk au ay av):=by rw[<-ca,<-c4];exact dO _ (aG.2 ⟨_,ax c2,A⟩)
   have gq:=ig _ e5;have eU:=pT 6 0 (.mk au ay av) [⟨.mk o q r p,s⟩] e5 (by simp;exact bm.ne) Zs (by have:=bm.len;simp at this⊢;omega);have dQ:=sY (l:=(vs.map Ev.t).drop (d+1)) (λx hx=>dO x (ra hx)) du;have dU:=ig _ dQ;have c0:=z8 ((vs.map Ev.t).drop (d+1)) (.mk aS aX aU) (by rw[List.length_drop,bW];omega);generalize gK ((vs.map Ev.t).drop (d+1)) (.mk aS aX aU)=fv at c0 dQ dU;obtain⟨bt,a9,bv⟩:=fv;have b1:(O.ae (vs.map Ev.t)).drop (d+1)=O.ae ((vs.map Ev.t).drop (d+1)):=by rw[O.bZ,O.bZ,List.map_drop]
   have e6:(O.ae (vs.map Ev.t)).take (bz ks e).length=O.ae (vs.map Ev.t):=by rw[<-dP];exact b9
   have eQ:(((d+1:Nat):Int)<=((bz ks e).length:Int))=True:=bP Zo;have c7:IntKind.i64.wrap ((d:Int)+1)=((d+1:Nat):Int):=iX d Zo;have eB:lj ce (((bz ks e).take (d+1)).map (lJ ds e l))=.mk 5 0 [] [lj ce (((bz ks e).take d).map (lJ ds e l)),lJ ds e l x]:=by
    rw[ch U,bC,lj,kn,a5];rfl
   have b0:=b8.len;have dD:=λ(ef:bQ)(g:ef.ty≠[])(i:ef.ty.length<=2)=>pT 5 0 (.mk bt a9 bv) [⟨.mk X ak W Z,Q⟩,ef] dQ (by simp;exact⟨b8.ne,g⟩) Zs (by simp only[bp,cB,ia,List.sum_nil];unfold W7 at b0;dsimp only at b0;omega);simp only[aW,O.ds,Core.ds,bf,a8,bp,cB,dN,fX,c_]at dk eU c0 dD ap bR cv e1;simp only[bN,f6,f10,go_sem];refine b7 ?_;simp only[a1,go_sem];refine d' cq ?_;simp only[f3,cj,gr,f_,go_sem];by_cases cQ:e[a].l=l+1
   .have dv:lJ ds e l x=.mk 6 0 [] [lx ds e x]:=by simp[lJ,c1,cQ]
    have gv:=dF ⟨.mk 6 0 [] [.mk o q r p],cf (.mk au ay av)::s⟩;simp only[bD cQ,go_sem];refine cX [22] [] ?_;simp only[bN,f11,cg,bR,dk,go_sem];refine fm [190] eU (.c (.cl _ (aO _)) (.c (.cl _ (aO _)) (.c (.cl _ (Cl.bu (O.cl (.mk au ay av)))) (.c (Fz.rows (ob:=⟨_,148,5,[I o,I q,ints r,.sl 4 (Core.ae p),.sl 3 (O.ae s)],aa⟩) (by simp only[bi,bG,aI,bH];rfl) A A Zd A Zs A (by simp only[bG,dT];exact e1)) .n)))) (Cl.bu gv) ?_;simp only[aN,cg,bR,go_sem];have aY:fl (lJ ds e l x) 2 ⟨.mk 6 0 [] [.mk o q r p],cf (.mk au ay av)::s⟩:=⟨by rw[dv,<-bm.c],Zs,by have:=bm.len;simp only[di]at this⊢;omega,by simpa using gq⟩;have cx:=dD ⟨.mk 6 0 [] [.mk o q r p],cf (.mk au ay av)::s⟩ aY.ne aY.len;have bs:=dF ⟨.mk 6 0 [] [.mk o q r p],cf (.mk au ay av)::s⟩;have b':=dF ⟨.mk 5 0 [] [.mk X ak W Z,.mk 6 0 [] [.mk o q r p]],cf (.mk bt a9 bv)::(Q++(cf (.mk au ay av)::s))⟩;simp only[aW,Core.ds,ints,cB,bf,a8]at cx bs;refine me (.bE [0,1,2,3,4,6,7] 5 (.fin [8,9,10]) 8 (.fin [5,9,10])) [13,15,22] [] ?_;simp only[f11,bN,c7,f13,f15,cg,aD,ap,b1,e6,eQ,dP,aN,go_sem];refine⟨?_,?_⟩
    all_goals
     refine bw c0 ?_;simp only[aD,ap,aN,go_sem];refine fm [200] cx (.c (.cl _ (aO _)) (.c (.cl _ (aO _)) (.c (.cl _ (Cl.bu (O.cl (.mk bt a9 bv)))) (.c (Fz.rows (by simp only[bi,bG,aI,bH];rfl) A A Zd A Zs Zs (by
      simp only[a7]at cv bs⊢;exact⟨cv,bs,Zs⟩)) .n)))) (Cl.bu b') ?_
     simp only[aN,bN,c7,f15,ap,go_sem];refine GK.intro ?_;simp only[go_sem];exact qH iN U ⟨A,by simp[af,f0,f3,f6,f8,f10,f11,f13,f15],M,by simp[aj,aN,c5],by simp[aj,aN,aD],⟨⟨.mk 5 0 [] [.mk X ak W Z,.mk 6 0 [] [.mk o q r p]],cf (.mk bt a9 bv)::(Q++(cf (.mk au ay av)::s))⟩,by simp[aj,aW,Core.ds,ints],⟨by rw[eB,<-b8.c,<-aY.c],Zs,by have g:=aY.len;simp only[di,bF]at g b0⊢;omega,by simpa using dU⟩⟩,fb.congr λt b=>by simp[aj,aN,bX b (u:=22) A,bX b (u:=15) A,bX b (u:=190) A,bX b (u:=200) A]⟩
   .have dv:lJ ds e l x=lx ds e x:=by simp[lJ,c1,cQ]
    simp only[bj cQ,go_sem];have aY:fl (lJ ds e l x) 2 ⟨.mk o q r p,s⟩:=by rw[dv];exact bm.Ab Zo
    have cx:=dD ⟨.mk o q r p,s⟩ aY.ne aY.len;have bs:=dF ⟨.mk o q r p,s⟩;have b':=dF ⟨.mk 5 0 [] [.mk X ak W Z,.mk o q r p],cf (.mk bt a9 bv)::(Q++(s))⟩;simp only[aW,Core.ds,ints,cB,bf,a8]at cx bs;refine me (.bE [0,1,2,3,4,6,7] 5 (.fin [8,9,10]) 8 (.fin [5,9,10])) [13,15,22] [] ?_;simp only[f11,bN,c7,f13,f15,cg,aD,ap,bR,b1,e6,eQ,dP,go_sem];refine⟨?_,?_⟩
    all_goals
     refine bw c0 ?_;simp only[aD,ap,bR,go_sem];refine fm [200] cx (.c (.cl _ (aO _)) (.c (.cl _ (aO _)) (.c (.cl _ (Cl.bu (O.cl (.mk bt a9 bv)))) (.c (Fz.rows (by simp only[bi,bG,aI,bH];rfl) A A Zd A Zs Zs (by
      simp only[a7]at cv bs⊢;exact⟨cv,bs,Zs⟩)) .n)))) (Cl.bu b') ?_
     simp only[aN,bN,c7,f15,ap,go_sem];refine GK.intro ?_;simp only[go_sem];exact qH iN U ⟨A,by simp[af,f0,f3,f6,f8,f10,f11,f13,f15],M,by simp[aj,aN,c5],by simp[aj,aN,aD],⟨⟨.mk 5 0 [] [.mk X ak W Z,.mk o q r p],cf (.mk bt a9 bv)::(Q++(s))⟩,by simp[aj,aW,Core.ds,ints],⟨by rw[eB,<-b8.c,<-aY.c],Zs,by have g:=aY.len;simp only[di,bF]at g b0⊢;omega,by simpa using dU⟩⟩,fb.congr λt b=>by simp[aj,aN,bX b (u:=15) A,bX b (u:=200) A]⟩
  have dJ:d=(bz ks e).length:=by simp at L;omega
  subst dJ;rw[b9]at b8;obtain⟨⟨X,ak,W,Z⟩,Q⟩:=aE;have co:=dF ⟨.mk X ak W Z,Q⟩;simp only[aW,Core.ds,bf,a8]at z co;obtain⟨hi,fw,gF,fx,gH,rfl⟩:∃G J aC be e,aJ=[G,J,aC,be,e]:=by
   match aJ,eC with
   |[G,J,aC,be,e],_=>exact⟨G,J,aC,be,e,A⟩
  simp only[L,V,z,go_sem];exact⟨Cl.bu co,M,cO,⟨⟨.mk X ak W Z,Q⟩,by simp[aW,Core.ds,ints],b8.Ab (by simp only[W7,gl];omega),A⟩,P.congr λt b=>by simp[aj,bX b (u:=8) A]⟩
end
section
open Classical
variable {a4:aw}{a5:aF}{dg:BA}{he:aK}{hw:a_}{g6:Env}
def VP{a v:Int}(I:a=9\/a=11){d:O}{p:Int}(e:T7 115 a4 a5 (.mk a v dg d he hw) g6 p):T7 70 a4 a5 (.mk a v dg d he hw) g6 p:=by
 intro w L q X V U y J F D;obtain⟨Z,ae,ab⟩:=d;have B:=fo g6;obtain⟨P,Q,R,C⟩:∃r s t,cc g6=[r,s,t]:=⟨_,_,_,A⟩;unfold T7 at e;rw[C]at B e⊢;simp only[Y.ds,O.ds,strs,bf,a8]at e;refine call7 (T7.fin D) [] [.cell 8 148] func70 A Zk ntmps70 A Zs ?_;simp only[go_sem];have l:(a==1)=al:=by simp;omega
 have b:(a==9)=ad\/(a==9)=al/\(a==11)=ad:=by rcases I with rfl|rfl<;>simp
 rcases b with b|⟨b,x⟩
 all_goals
  first|simp only[l,b,x,go_sem]|simp only[l,b,go_sem]
  refine .inr (.inr (e w L q _ _ _ (y.off.congr λd f=>by simp[aj,bX f (u:=8) A]) J F ?_));intro S W M K z G;have o:=G 8 Zd;simp only[aj,aI]at o;obtain⟨⟨h,k,g,i⟩,j⟩:=M;have m:=dF ⟨.mk h k g i,j⟩;simp only[aW,Core.ds,bf,a8]at m⊢;simp only[o,go_sem];exact⟨Cl.bu m,_,⟨⟨.mk h k g i,j⟩,by simp[Core.ds,ints],K,A⟩,z.congr λd f=>by simp[aj,bX f (u:=8) A]⟩
variable {h:Nat}{go:O}
def Ie{e:aw}{g:aF}(G:fR e g)(A:0<g.length){a:a_}(k:h<a.length)(o:0<h){d:Env}{f:Int}(x:dp go)(P:d.length+3*Y.aR a<=1000000)(C:0<=f)(Q:f+Y.aR a<=1000)(K:∀b∈d,O.w b.t){c:Y}{F F':Env}(y:kS a[h]=c)(j:gy e a[h]=F)(D:F.map Ev.n=F'.map Ev.n)(J:∀b,eT F b=eT F' b)(L:∀b∈F,O.w b.t)(u:F.length<=3)(s:∀v∈F,v.l=0)
 (I:RC e g c (d++F') f) (B:∀b,fv c [] b->b∉F.map Ev.n->fv a[h] [] b) (z:∀i,RC e g c i 0->T7 70 e g c i 0) (R:c.num<=Y.aR a):B7 e g (kS a[h]) (gy e a[h]) (bz a d) d f go (p4 e a d f h) (hW (gy e a[h]) (fM a d) f):=by
 have m:=RC.root I D J K L (λb p q r=>my.2 ⟨r,h,k,o,B b p q⟩) Zo;have:=OC G A x u s Zo ⟨C,Zo⟩ (by have:=Cd a d;omega) m (z _ m);rw[y,j];have M:p4 e a d f h=λb=>lO (F.length+(fM a d).length) (mU (gr (fM a d).length ((fM a d).map λv=>decide (v.l=f+1)) 0 0) b):=by
  funext b;rw[p4,bR k];simp only[ey,kM,j]
 rw[M];exact this
def Ez{g:aw}{m:aF}(p:fR g m)(M:0<m.length):∀(q:Y)(a:Env)(l:Int),q.sz<=1048576->RC g m q a l->Y.kd q≠10->T7 70 g m q a l
 |.mk i v D q G e,a,l,aL,j,ab=>by
  have U:∀c∈e,c.sz<=1048576:=λc h=>by have:=Y.gj h;rw[Y.sz]at aL;omega
  have C:∀c∈e,∀a l,RC g m c a l->Y.kd c≠10->T7 70 g m c a l:=λc h a l k b=>Ez p M c a l (U c h) k b;have aM:∀(c:Y),c∈e->∀au ap ar aq f,c=.mk 10 au ap ar aq [f]->∀a l,RC g m f a l->Y.kd f≠10->T7 70 g m f a l:=λc h au ap ar aq f L a l k b=>Ez p M f a l (by have:=U c h;rw[L,Y.sz]at this;have:=Y.gj (l:=[f]) (x:=f) Zs;omega) k b;have am:=j.sh.case;have V:=j.sh.len;have B:=j.cM p;simp only[Y.kd]at ab;have K:∀(d:Nat)(o:d<e.length),i≠9->Y.kd e[d]≠10:=λd o aN=>by rw[Ne,am d o];exact λay=>aN ay.1
  have S:i=3\/i=5\/i=8->T7 70 g m (.mk i v D q G e) a l:=λb=>VT p b j λc h=>by
   obtain⟨d,o,rfl⟩:=dG h;have k:=B d o;have R:cV i d=al:=by simp[cV];omega
   have z:bL i l=l:=by rw[bL,av Zo]
   rw[b8,R,z]at k;exact C _ h _ _ k (K d o Zo)
  have ak:i=4\/i=6->T7 70 g m (.mk i v D q G e) a l:=λb=>by
   obtain⟨c,rfl⟩:=j.sh.one Zo;exact VS p b j (C c Zs _ _ (B 0 Zs) (K 0 Zs Zo))
  have ah:i=9\/i=11->T7 70 g m (.mk i v D q G e) a l:=λb=>by
   have O:0<e.length:=by rcases b with rfl|rfl<;>simp[a1,cN]at V<;>omega
   have s:∀d,b8 g m i D q G e a l d=a:=λd=>by
    have R:cV i d=al:=by simp[cV];omega
    rw[b8,R];rfl
   have z:bL i l=l:=by rw[bL,av Zo]
   have aV:Y.num (.mk i v D q G e)=Y.aR e+1:=by rw[Y.num];omega
   have aS:=j.el;have aT:=j.l1;refine VP b (O' p b j U O ?_ ?_)
   .have k:=B 0 O;rw[s,z]at k;exact C _ (ax O) _ _ k (by rw[Ne,am 0 O];omega)
   .intro aO ai aQ d o u;have k:=B d o;rw[s,z]at k;have P:=j.sh.cM _ (ax o);have W:=Y.gV (ax o);obtain⟨az,aA,t,Z,r,aP,h⟩:∃I f c aB a aC,e[d]=.mk I f c aB a aC:=by cases e[d];exact⟨_,_,_,_,_,_,A⟩
    by_cases J:az=10
    .subst J;rw[h]at P k W;obtain⟨f,rfl⟩:=P.one Zs;have aK:=P.vr A;have X:=k.cM p 0 Zs;have aD:b8 g m 10 t Z r [f] a l 0=a++cL g t r l:=by simp[b8,cV,er]
     have aH:bL 10 l=l:=by simp[bL]
     rw[aD,aH]at X;simp only[fO]at X;have L:Y.kd f≠10:=by have:=P.case 0 Zs;simp only[fO]at this;rw[Ne,this];simp
     have aU:r.length<=3:=by have:=k.tc.form.2.2.2.1;simp[im]at this;omega
     rw[Y.num,Y.aR,Y.aR]at W;refine Ie p M o u (c:=f) (F:=cL g t r 0) (F':=cL g t r l) ai Zo j.l0 Zo j.w (by rw[h];simp[kS]) (by rw[h];simp[gy]) (wZ g t r 0 l nE).1 (λx=>(wZ g t r 0 l x).2) (vV p) (by simp[cL];omega) (λv an=>?_) X (λx y ae=>?_) (λQ s=>aM _ (ax o) aA t Z r f h Q 0 s L) Zo
     .simp only[cL,aG]at an;obtain⟨ay,-,rfl⟩:=an;rfl
     .rw[CM aK]at ae;rw[h,fv,oT];refine .inr ⟨0,Zs,?_⟩;simp only[bN,a8,fO];have:=(s5 f [] r x ae).2 y;simpa using this
    .have aJ:Y.kd e[d]≠10:=by rw[h];exact J
     have aE:gy g e[d]=[]:=by rw[h];simp[gy,J]
     have aI:kS e[d]=e[d]:=by rw[h];simp[kS,J]
     exact Ie p M o u (c:=e[d]) (F:=[]) (F':=[]) ai Zo j.l0 Zo j.w aI aE A (λx=>A) Zs Zs Zs (by rw[c_];exact k) (λx y _=>y) (λQ s=>C _ (ax o) Q 0 s aJ) W
  rcases mT i with rfl|rfl|b|b|b|b|b|b|b|b|b|b
  .exact VO p j
  .exact VR p j
  .exact S Zo
  .exact ak Zo
  .exact S Zo
  .exact ak Zo
  .subst b;obtain⟨I,f,rfl⟩:=sj (show e.length=2 by simp[a1,cN]at V;omega);have u:=B 0 Zs;have y:=B 1 Zs;have z:bL 7 l=l:=by simp[bL]
   have s:b8 g m 7 D q G [I,f] a l 0=a:=by simp[b8,cV]
   rw[z]at u y;rw[s]at u;exact VQ p j (C I Zs _ _ u (K 0 Zs Zo)) (C f Zs _ _ y (K 1 Zs Zo))
  .exact S Zo
  .exact ah Zo
  .exact absurd b ab
  .exact ah Zo
  .exfalso;simp[a1,cN,b]at V;omega
termination_by q=>SizeOf.sizeOf q
decreasing_by
 .have:=cH h;simp;omega
 .have:=cH h;subst L;simp at this⊢;omega
end
section
open Classical
def Lp:∀b a:a_,Y.aR (b++a)=Y.aR b+Y.aR a
 |[],a=>by simp[Y.aR]
 |c::b,a=>by rw[bf,Y.aR,Y.aR,Lp b a];omega
def B9(t:Y):Y.aZ t+1<=t.num:=by
 obtain⟨e,v,n,j,ns,b⟩:=t;have h:∀d∈b,Y.aZ d+1<=d.num:=λd g=>B9 d;have i:∀a,a<=b.length->gZ e b 0 a<=Y.aR (b.take a):=λa=>by
  induction a with
  |zero=>intro _;simp[Cf]
  |succ a k=>
   intro o;have l:=h _ (ax (show a<b.length by omega));have m:e8 e a<=1:=by rw[od];split<;>omega
   rw[wR Zo,ch Zo,Lp,Y.aR,Y.aR];omega
 have f:=i b.length (b_ _);rw[Iz (v:=v) (n:=n) (t:=j) (ns:=ns),b9]at f;rw[Y.num];omega
termination_by SizeOf.sizeOf t
decreasing_by have:=cH g;simp;omega
section
variable{ab:aw}{ds:aF}
def yJ:∀(a:a_)(b:Nat),(gS ab ds a b).length=a.length
 |[],_=>rfl
 |t::a,b=>by rw[gS,di,yJ a,di]
def jK(ts:a_)(j:Nat):Nat:=((ts.take j).map Y.aZ).sum
def B3:∀(a:a_)(d b:Nat)(e:b<a.length),(gS ab ds a d)[b]?=E (cw ab ds a[b] [] 0 (d+jK a b))
 |t::a,d,0,_=>by simp[gS,jK]
 |t::a,d,b+1,e=>by
  have:=B3 a (d+Y.aZ t) b (by simpa using e);have f:d+Y.aZ t+jK a b=d+jK (t::a) (b+1):=by simp only[jK,ix,bp,ia];omega
  rw[gS,v8,this,f];rfl
def Ib{b:a_}{a:Nat}(d:a<b.length):jK b (a+1)=jK b a+Y.aZ b[a]:=by
 rw[jK,jK,ch d,bC,sB];rfl
def nF(ab:aw)(ds:aF)(j:Nat):bM:=((gS ab ds (ds.map ah.bd) 0).take j).map Prod.fst++List.replicate (ds.length-j) (.mk 0 0 [] [])++(((gS ab ds (ds.map ah.bd) 0).take j).map Prod.snd).flatten
def Oi:nF ab ds 0=List.replicate ds.length (.mk 0 0 [] []):=by simp[nF]
def Oj:nF ab ds ds.length=dA ab ds:=by
 have:(gS ab ds (ds.map ah.bd) 0).length=ds.length:=by rw[yJ];simp
 rw[nF,cU Zo,uj];simp[dA]
def Ol(g:∀f∈ds,Sh ab (ah.bd f)){a:Nat}(e:a<=ds.length):(nF ab ds a).length=ds.length+jK (ds.map ah.bd) a:=by
 have j:(gS ab ds (ds.map ah.bd) 0).length=ds.length:=by rw[yJ];simp
 have i:∀a,a<=ds.length->((((gS ab ds (ds.map ah.bd) 0).take a).map Prod.snd).flatten).length=jK (ds.map ah.bd) a:=λa=>by
  induction a with
  |zero=>intro _;simp[jK]
  |succ a h=>
   intro e;have b:=B3 (ab:=ab) (ds:=ds) (ds.map ah.bd) 0 a (by rw[bW];omega);have d:a<(gS ab ds (ds.map ah.bd) 0).length:=Zo;rw[bR d,dy]at b;rw[ch d,bC,fN,bF,h Zo,Ib (by rw[bW];omega),b];simp only[bp,cB,dN,fX,c_];rw[ya];rw[eI];exact g _ (ax _)
 rw[nF,bF,bF,i a e,bW,fP,q'];omega
def Om{a:Nat}(f:a<ds.length):∃b R,b.length=a/\nF ab ds a++(cw ab ds (ah.bd ds[a]) [] 0 (jK (ds.map ah.bd) a)).2=b++[.mk 0 0 [] []]++R/\nF ab ds (a+1)=b++[(cw ab ds (ah.bd ds[a]) [] 0 (jK (ds.map ah.bd) a)).1]++R:=by
 have g:(gS ab ds (ds.map ah.bd) 0).length=ds.length:=by rw[yJ];simp
 have d:=B3 (ab:=ab) (ds:=ds) (ds.map ah.bd) 0 a (by simpa using f);have e:a<(gS ab ds (ds.map ah.bd) 0).length:=Zo;rw[bR e,dy,eI,ek]at d;refine⟨((gS ab ds (ds.map ah.bd) 0).take a).map Prod.fst,List.replicate (ds.length-(a+1)) (.mk 0 0 [] [])++((((gS ab ds (ds.map ah.bd) 0).take a).map Prod.snd).flatten++(cw ab ds (ah.bd ds[a]) [] 0 (jK (ds.map ah.bd) a)).2),by simp;omega,?_,?_⟩
 .rw[nF,show ds.length-a=(ds.length-(a+1))+1 by omega,List.replicate_succ];simp
 .rw[nF,ch e,d];simp
end
def L7.df{ab:aw}{ds:aF}{g H':bt}{f:Nat}{j:bM}(L:L7 ab ds g f j)(u:Int)(M:∀q k m p e,g 12=E ⟨f,75,6,[.cp [ai.sl ab,ah.sl ds],I q,k,m,p,e],aa⟩->H' 12=E ⟨f,75,6,[.cp [ai.sl ab,ah.sl ds],I u,k,m,p,e],aa⟩)(d:∀a∈dY,a≠12->H' a=g a):L7 ab ds H' f j:=by
 obtain⟨⟨q,R,Q,S,P,l,z,⟨x,B,C⟩,⟨y,D,F⟩,w,G,J,K⟩,s⟩:=L;have o:=M _ _ _ _ _ l;refine⟨⟨u,R,Q,S,P,o,z.congr (by simp only[bG,dT];exact d _ dI Zd),⟨x,B,C.congr (by simp only[bG,dT];exact d _ dI Zd)⟩,⟨y,D,F.congr (by simp only[bG,dT];exact d _ dI Zd)⟩,w,G,J,K.congr (by simp only[bG,dT];exact d _ dI Zd)⟩,λa t O h e b=>?_⟩;by_cases r:a=12
 .subst r;rw[o]at h;cases h;have i:=s 12 dI _ l;simp only[cJ,cS,iz]at b i;rcases b with rfl|rfl|b
  .exact i _ (.inl A)
  .exact .sc _
  .exact i _ (.inr (.inr b))
 .exact s a t O ((d a t r).symm.trans h) e b
def L7.init{ab:aw}{ds:aF}{r:aU}{a:St}{s j g n:Nat}{i:bM}{h:List (cz)}{f:cz}(y:a.H 12=E ⟨0,75,6,[.cp [ai.sl ab,ah.sl ds],I 0,.ms 36 s n,.ms 46 j n,.ms 64 g n,a'],aa⟩)
 (B:a.H 36=E ⟨s,81,4,(Core.ae i).flatten,aa⟩) (l:i.length=n) (C:a.H 46=E ⟨j,72,1,(fW h).flatten,aa⟩) (t:h.length=n) (D:a.H 64=E ⟨g,87,3,(O.ae f).flatten,aa⟩) (u:f.length=n) (z:a.H 205=aa)
 (F:∀q J,L7 ab ds q 0 i->GK r {a with H:=q,n:=J}):GK r a:=by
 refine GK.join (GK.Aj 36 185 12 2 n _ _ B A y Zd Zd A ?_);refine GK.join (GK.Aj 46 195 12 3 n ⟨j,72,1,(fW h).flatten,aa⟩ ⟨0,75,6,[.cp [ai.sl ab,ah.sl ds],I 0,.ms 185 (a.n 185) n,.ms 46 j n,.ms 64 g n,a'],aa⟩ ?_ A ?_ Zd Zd A ?_)
 .simp[aj,C]
 .simp[aj]
 refine GK.join (GK.Aj 64 218 12 4 n ⟨g,87,3,(O.ae f).flatten,aa⟩ ⟨0,75,6,[.cp [ai.sl ab,ah.sl ds],I 0,.ms 185 (a.n 185) n,.ms 195 (bump a.n 185 195) n,.ms 64 g n,a'],aa⟩ ?_ A ?_ Zd Zd A ?_)
 .simp[aj,D]
 .simp[aj]
 refine F _ _ ⟨⟨0,.ms 185 (a.n 185) n,.ms 195 (bump a.n 185 195) n,.ms 218 (bump (bump a.n 185) 195 218) n,.sc (.slice aa 0 0),by simp[aj],.inr ⟨185,a.n 185,Zs,by rw[Core.bb,l],by simp[aj]⟩,⟨h,by rw[t,l],.inr ⟨195,_,Zs,by rw[dC,t],by simp[aj]⟩⟩,⟨f,by rw[u,l],.inr ⟨218,_,Zs,by rw[O.bb,u],by simp[aj]⟩⟩,[],Zs,Zs,.inl ⟨A,A⟩⟩,λM w L d e b=>?_⟩;simp only[dY,cJ,cS,iz]at w;have o:∀(p:ct),(∀k∈p,∀e∈k,Cl e)->e∈p.flatten->In dY e:=λp G b=>by obtain⟨k,m,b⟩:=ft.1 b;exact(G k m e b).cD
 rcases w with rfl|rfl|rfl|rfl|rfl
 .simp[aj]at d;subst d;simp only[cJ,cS,iz]at b;rcases b with rfl|rfl|rfl|rfl|rfl|rfl
  .exact(Cl.eX cu).cD
  .exact .sc _
  .exact .ms _ _ dI
  .exact .ms _ _ dI
  .exact .ms _ _ dI
  .exact .sc _
 .simp[aj]at d;subst d;exact o _ (Core.bA i) b
 .simp[aj]at d;subst d;exact o _ (λk m e b=>by obtain⟨K,-,rfl⟩:=aG.1 m;simp at b;subst b;exact cI.2 (O.bA K)) b
 .simp[aj,z]at d
 .simp[aj]at d;subst d;exact o _ (O.bA f) b
def NI(ab:aw)(ds:aF)(r:D):Prop:=∃x,r=.tp [x,I (fS ab ds)]/\(fS ab ds=0->∃a,x=.cp [.cp [ai.sl ab,ah.sl ds],I a,.sl 4 (Core.ae (dA ab ds))])
def Pl{ab:aw}{ds:aF}(a:gU (.mk ab ds)=0):1<=ds.length:=by
 rw[gU]at a;split at a
 .rename_i b;exact b.2.1
 .cases a
def ni(ds:aF)(i:Nat):cz:=(ds.take i).map λd=>cf (ah.ty d)
def SQ{ab:aw}{ds:aF}(cM:(bm.mk ab ds).sz<=1048576)(cG:(bm.mk ab ds).ok):jj aB 40 [.cp [ai.sl ab,ah.sl ds]] λ_=>NI ab ds:=by
 have a4:=SA ab ds cM cG;have cD:Cl (.cp [.sl 2 (ai.ae ab),.sl 12 (ah.ae ds)]):=Cl.eX cu;have dw:ai.sl ab=.sl 2 (ai.ae ab):=A;have dx:ah.sl ds=.sl 12 (ah.ae ds):=A;rw[dw,dx]at a4⊢;by_cases ar:fS ab ds=0
 case neg=>
  have f0:(fS ab ds==0)=al:=by simp[ar]
  refine jj.eo [12] [.tmp 2,.tmp 3] func40 A Zk ntmps40 A Zs λan=>?_;simp only[oe,go_sem];refine bw a4 ?_;simp only[bne,f0,go_sem];exact⟨_,Fz.k3 (Fz.rf (s:=12) (ob:=⟨0,75,6,_,aa⟩) (off:=0) [.cp [.sl 2 (ai.ae ab),.sl 12 (ah.ae ds)]] (λ_=>.cp [.sl 2 (ai.ae ab),.sl 12 (ah.ae ds)]) (by simp[aj];rfl) A (λb e f=>by
   match b,f with
   |0,f=>cases f;rfl) (λb e f=>by
   match b,f with
   |0,f=>cases f;exact .cl _ cD)) (.cl _ (aO _)),Cl.ir cu,_,A,λG=>absurd G ar⟩
 have cE:=qm (sQ ar);have cC:=oM cE;have C:=n9 cC cG;have dB:=Pl cC;have eN:=C.pg.len;have cL:=λ(d:ah)(a5:d∈ds)=>C.rc a5 (l7.tp cE d a5);rw[ar]at a4;have dq:cy aB 38=E (81,4,64):=Zk;have dr:cy aB 71=E (72,1,24):=Zk;have dt:cy aB 72=E (87,3,48):=Zk;refine jj.eo [12,1000027,1000008,1000046] [.tmp 2,.tmp 3] func40 A Zk ntmps40 A Zs λan=>?_;simp only[oe,go_sem];refine bw a4 ?_;simp only[bne,go_sem];obtain⟨eC,eM⟩:=Zx (D.cp [.sl 2 (ai.ae ab),.sl 12 (ah.ae ds)]);refine bq 7 ds.length (λa=>Fw.cK 104 [(0,.cp [.sl 2 (ai.ae ab),.sl 12 (ah.ae ds)]),(4,.rf 12 0 0),(6,I ds.length)] λy k b0 ap=>ap=[]/\k 205=aa/\∃b7 bi bj,k 12=E ⟨0,75,6,[.cp [.sl 2 (ai.ae ab),.sl 12 (ah.ae ds)],I 0,b7,bi,bj,a'],aa⟩/\aH [36] k 81 4 (Core.ae (List.replicate a (.mk 0 0 [] []))) b7/\aH [46] k 72 1 (fW (List.replicate a [])) bi/\aH [64] k 87 3 (O.ae (ni ds a)) bj) A
  ⟨A,by simp[af,ba],A,by simp[aj,pW],_,_,_,by simp only[bH],.inl ⟨A,A⟩,.inl ⟨A,A⟩,.inl ⟨A,A⟩⟩ ?_
 rintro a y k bc ap an dE⟨aJ,a1,b7,bi,bj,W,Z,a9,aM⟩;simp only[go_sem];refine aT (λf=>?_) λf=>?_
 .have m:=bh f;have bN:=aH.len Z (P:=aB) (t:=38) Zk;have bO:=aH.len aM (P:=aB) (t:=72) Zk;have J:(Core.ae (List.replicate a (.mk 0 0 [] []))).length=a:=by rw[Core.bb];simp
  have K:(O.ae (ni ds a)).length=a:=by rw[O.bb];simp[ni];omega
  rw[J]at bN;rw[K]at bO;simp only[go_sem]at bN bO;have di:((a:Int)<((a+1:Nat):Int))=True:=bP Zo;have eu:(a+1)*64<=140737488355328:=Zo;have b9:a+1<=ao:=by unfold ao;omega
  obtain⟨o,bI⟩:=Zx (Core.ae (List.replicate a (.mk 0 0 [] [])));have cz:∀b5∈o,b5.length=4:=bI▸Core.ea _;rw[bI]at Z J;have X:o.flatten.length=a*4:=by rw[jM cz,J]
  simp only[go_sem];refine uR (λb6=>Fw.cK 104 [(0,.cp [.sl 2 (ai.ae ab),.sl 12 (ah.ae ds)]),(4,.rf 12 0 0),(6,I ds.length),(7,I a)] (λy l bc T1=>T1=[]/\(∃p,l 12=E ⟨0,75,6,[.cp [.sl 2 (ai.ae ab),.sl 12 (ah.ae ds)],I 0,.ms 36 p (a+1),bi,bj,a'],aa⟩/\l 36=E ⟨p,81,4,o.flatten++[I 0,I 0,a',a'],aa⟩)/\∀t,t∉[12,35,36]->l t=k t) b6)
   (.bE [0,1,2,3,4,5,6,7,8,10,11] 9 (.fin [12]) 12 (.fin [9])) [12] [] mixed Zk ?_ ?_
  .simp only[W,bN,ic,go_sem];refine iO (S:=[36]) (rows:=o) (bx:=[[I 0,I 0,a',a']]) Zs dq (by simp only[af,aI,aV,aP,bT,bU,reduceCtorEq];exact Z.congr bJ) cz ga Zs A (by rw[J];exact eu) (by rw[J];exact b9) (by show 36<104;decide) ?_;intro am aN es bR aE;obtain⟨p,rfl,bv⟩:=fG bR Zs;have bQ:(o++[[I 0,I 0,a',a']]).length=a+1:=by rw[bF,J];rfl
   have aQ:=aE 12 Zd Zd;simp only[bV,dP,aP,dz,W]at aQ;have b':=AD o.flatten [I 0,I 0,a',a'] [I 0,I 0,a',a'] X A;simp only[aQ,bv,bQ,di,fN,v7,go_sem];have aU:a*4+4<=(o.flatten++[I 0,I 0,a',a']).length:=by rw[bF,X];simp
   refine⟨⟨aU,?_⟩,⟨aU,?_⟩⟩
   all_goals
    exact⟨A,by simp[af],aJ,⟨p,by simp[aj],by simp only[aj,aI,aV,aP];exact dO (λc=>E (Ob.mk p 81 4 c aa)) b'⟩,λt g=>by
     simp only[jT]at g;simp only[aj,g.1,g.2.2,aV];rw[aE t g.2.2 (by simpa using g.2.2)];simp[aj,g.2.1]⟩
  clear W Z;rintro⟨y,l,aN,d_,T1,an⟩⟨rfl,aL,rfl,⟨p,q,b2⟩,az⟩;simp only[a7]at aL q b2 az;obtain⟨av,V,aY,ay,-⟩:=aL;have aR:=(az 205 Zd).trans a1;have c2:=a9.congr (H':=l) (by simp only[bG,dT];exact az 46 Zd);have c3:=aM.congr (H':=l) (by simp only[bG,dT];exact az 64 Zd);clear az a1 a9 aM;have aS:(fW (List.replicate a [])).length=a:=by rw[dC];simp
  simp only[V,q,go_sem];have B:∀t,t≠45->aj (aj l 45 aa) 45 (E {gen:=aN 45,elem:=72,sz:=1,cells:=[a']}) t=l t:=λt g=>by simp[aj,g]
  have bt:aj (aj l 45 aa) 45 (E {gen:=aN 45,elem:=72,sz:=1,cells:=[a']}) 45=E {gen:=aN 45,elem:=72,sz:=1,cells:=[a']}:=by simp[aj]
  generalize aj (aj l 45 aa) 45 (E {gen:=aN 45,elem:=72,sz:=1,cells:=[a']})=L at B bt;have c7:=(B 12 Zd).trans q;have c9:=(B 36 Zd).trans b2;have c8:=(B 205 Zd).trans aR;have c':=c2.congr (H':=L) (by simp only[bG,dT];exact B 46 Zd);have da:=c3.congr (H':=L) (by simp only[bG,dT];exact B 64 Zd);clear B q b2 aR c2 c3;refine GK.intro (dS.eF (S:=[46]) (rows:=fW (List.replicate a [])) (bx:=[[a']]) dr (by simp only[af,bT,bU,aI,aV,aP,reduceCtorEq];exact c') (e_ _) (by simp[af,cF,bt]) Zs A (by rw[aS];simp only[kJ];omega) (by rw[aS];exact b9) λb_ eS eV cP aC=>?_);obtain⟨cm,rfl,cY⟩:=fG cP Zs;have cU:=(aC 12 Zd Zd).trans c7;have cW:=(aC 36 Zd Zd).trans c9;have cV:=(aC 205 Zd Zd).trans c8;have bY:=da.congr (H':=b_) (by simp only[bG,dT];exact aC 64 Zd Zd);clear c7 c9 c8 c' da cP aC bt;have dJ:(fW (List.replicate a [])++[[a']]).length=a+1:=by rw[bF,aS];rfl
  rw[dJ];have z:=ah.bo ds a m;have cN:=mf (C.pg.wV _ (ax m));have aK:=zV (ah.ty ds[a]) cN;have bM:=ig _ cN;have F:O.ae (ni ds (a+1))=O.ae (ni ds a)++[(cf (ah.ty ds[a])).ds]:=by
   rw[ni,ch m,bC,<-ni,O.bZ,O.bZ,bC];rfl
  generalize ds[a]=d at z aK bM F;obtain⟨dp,⟨bn,bs,br⟩,eD⟩:=d;simp only[ah.ty]at aK bM F;have dD:=O.cl (.mk bn bs br);obtain⟨de,dh,dg,dR⟩:=O.ex (cf (.mk bn bs br));rw[dR]at aK bM F;simp only[ah.ds,O.ds,bf,a8]at z aK F dD;obtain⟨w,cv⟩:=Zx (O.ae (ni ds a));have ct:∀b5∈w,b5.length=3:=cv▸O.ea _;rw[cv]at bY K F;have cx:w.flatten.length=a*3:=by rw[jM ct,K]
  have et:(a+1)*48<=140737488355328:=Zo;simp only[cU,go_sem];refine uR (λb6=>Fw.cK 104 [(0,.cp [.sl 2 (ai.ae ab),.sl 12 (ah.ae ds)]),(4,.rf 12 0 0),(6,I ds.length),(7,I a)] (λy L bc T1=>T1=[]/\(∃cn,L 12=E ⟨0,75,6,[.cp [.sl 2 (ai.ae ab),.sl 12 (ah.ae ds)],I 0,.ms 36 p (a+1),.ms 46 cm (a+1),.ms 64 cn (a+1),a'],aa⟩/\L 64=E ⟨cn,87,3,(w++[[I de,S dh,.sl 3 (O.ae dg)]]).flatten,aa⟩)/\∀t,t∉[12,63,64]->L t=b_ t) b6)
   (.bE [0,1,2,3,4,5,6,7,8,9,10,11,13] 12 (.bE [14,15,16,18,19] 17 (.fin [20]) 20 (.fin [17])) 14 (.bE [12,15,16,18,19] 17 (.fin [20]) 20 (.fin [17]))) [12] [] mixed Zk ?_ ?_
  .simp only[av,V,ay,bO,z,ic,go_sem];refine⟨?_,?_⟩
   all_goals
    refine bw aK ?_;simp only[ic,go_sem];refine iO (S:=[64]) (rows:=w) (bx:=[[.sc (.int .i64 0),.sc (.string {data:=#[]}),a']]) Zs dt (by simp only[af,bT,bU,aI,aV,aP,reduceCtorEq];exact bY.congr bJ) ct ga Zs A (by rw[K];exact et) (by rw[K];exact b9) (by show 64<104;decide) ?_;intro am cZ es bR aE;obtain⟨a0,rfl,bv⟩:=fG bR Zs;have bQ:(w++[[D.sc (.int .i64 0),.sc (.string {data:=#[]}),a']]).length=a+1:=by rw[bF,K];rfl
    have aQ:=aE 12 Zd Zd;simp only[bV,bH,dP,aP,dz]at aQ;have b':=AD w.flatten [D.sc (.int .i64 0),.sc (.string {data:=#[]}),a'] [I de,S dh,.sl 3 (O.ae dg)] cx A;simp only[aQ,bv,bQ,di,fN,v7,go_sem];have aU:a*3+3<=(w.flatten++[D.sc (.int .i64 0),.sc (.string {data:=#[]}),a']).length:=by rw[bF,cx];simp
    refine⟨⟨aU,?_⟩,⟨aU,?_⟩⟩
    all_goals
     exact⟨A,by simp[af,av,V,aY,ay],A,⟨a0,by simp[aj],by simp only[aj,aI,aV,aP];exact dO (λc=>E (Ob.mk a0 87 3 c aa)) b'⟩,λt g=>by
      simp only[jT]at g;simp only[aj,g.1,g.2.2,aV];rw[aE t g.2.2 (by simpa using g.2.2)];simp[aj,g.1,g.2.1]⟩
  clear av V aY ay cU bY;rintro⟨y,ew,cZ,d_,T3,an⟩⟨rfl,aL,rfl,⟨a0,q,b3⟩,aD⟩;simp only[a7]at aL q b3 aD;obtain⟨av,V,aY,ay,-⟩:=aL;have aR:=(aD 205 Zd).trans cV;have c0:=(aD 36 Zd).trans cW;have b1:=(aD 46 Zd).trans cY;clear aD cV cW cY;simp only[go_sem];have cq:(fW (List.replicate a [])).flatten.length=a:=by rw[jM (e_ _),aS];omega
  rw[fN,v7]at b1;refine GK.fc [] 36 (a*4+2) (d:=a') (e:=.sl 1 []) c0 Zs (uY _ _ 2 X) (.nil 1) (uN 1) λey bk M=>?_;rw[vE _ _ 2 _ X]at bk;refine GK.fc [] 36 (a*4+3) (d:=a') (e:=.sl 4 []) bk Zs (uY _ _ 3 X) (.nil 4) (uN 4) λez aX Q=>?_;rw[vE _ _ 3 _ X]at aX;simp only[cS,dz,ul,List.set]at M Q aX;have c1:=(Q 46 Zd).trans ((M 46 Zd).trans b1);refine GK.fc [] 46 (a+0) (d:=a') (e:=.sl 3 []) c1 Zs (uY _ _ 0 cq) (.nil 3) (uN 3) λam bl U=>?_;rw[vE _ _ 0 _ cq]at bl;simp only[cS,dz,ul,List.set]at U bl;have en:=(U 12 Zd).trans ((Q 12 Zd).trans ((M 12 Zd).trans q));have eq:=(U 36 Zd).trans aX;have er:=(U 64 Zd).trans ((Q 64 Zd).trans ((M 64 Zd).trans b3));have ep:=(U 205 Zd).trans ((Q 205 Zd).trans ((M 205 Zd).trans aR));clear M Q U bk aX c0 b1 c1 aR q b3;refine GK.intro ?_;simp only[ay,go_sem];have f1:Core.ae (List.replicate (a+1) (.mk 0 0 [] []))=o++[[I 0,I 0,.sl 1 [],.sl 4 []]]:=by
   rw[List.replicate_succ',Core.bZ,bC,<-Core.bZ,bI];simp[Core.ds,ints,Core.bZ]
  have f2:fW (List.replicate (a+1) [])=fW (List.replicate a [])++[[.sl 3 []]]:=by
   rw[List.replicate_succ'];simp[aq,O.sl,O.ae]
  exact bg m ⟨A,by simp[af,av,V,aY],A,ep,_,_,_,en,.inr ⟨36,p,Zs,by rw[f1,bF,J];rfl,by show am 36=_;rw[eq,f1,fN];rfl⟩,.inr ⟨46,cm,Zs,by rw[f2,bF,aS];rfl,by show am 46=_;rw[bl,f2,fN];rfl⟩,.inr ⟨64,a0,Zs,by rw[F,bF,K];rfl,by show am 64=_;rw[er,F]⟩⟩
 have dF:=bS f;subst dF;simp only[f,go_sem];have bc:Core.ae (List.replicate ds.length (.mk 0 0 [] []))≠[]:=by intro G;have:=dO List.length G;rw[Core.bb,q',gG]at this;omega
 have dZ:fW (List.replicate ds.length [])≠[]:=by intro G;have:=dO List.length G;rw[dC,q',gG]at this;omega
 have d':O.ae (ni ds ds.length)≠[]:=by intro G;have:=dO List.length G;rw[O.bb,ni,bW,fP,gG]at this;omega
 obtain⟨eG,rfl,cQ⟩:=fG Z bc;obtain⟨eH,rfl,cR⟩:=fG a9 dZ;obtain⟨eJ,rfl,cT⟩:=fG aM d';rw[Core.bb,q',dC,q',O.bb,show(ni ds ds.length).length=ds.length by simp[ni]]at W;refine L7.init (ab:=ab) (ds:=ds) W cQ Zs cR Zs cT (by simp[ni]) a1 λH' eR bD=>?_;refine GK.intro ?_;simp only[go_sem];clear Z a9 aM cQ cR cT W a1 f;rw[<-Oi (ab:=ab) (ds:=ds)]at bD;refine bq 8 ds.length (λb=>Fw.cK 104 [(0,.cp [.sl 2 (ai.ae ab),.sl 12 (ah.ae ds)]),(4,.rf 12 0 0),(6,I ds.length)] λy k b0 ap=>ap=[]/\L7 ab ds k 0 (nF ab ds b)) A ⟨A,by simp[af],aJ,bD⟩ ?_;clear bD aJ;rintro b y k eT ap an eQ⟨aJ,a_⟩;simp only[go_sem];refine aT (λf=>?_) λf=>?_
 .have m:=bh f;have a6:=ax m;have z:=ah.bo ds b m;have dK:=cL _ a6;have dQ:(ah.bd ds[b]).sz<=1048576:=by
   simp only[bm.sz]at cM;have i:=ah.gj a6;have j:=Ey ds[b];omega
  have aG:=Ez C.pg dB (ah.bd ds[b]) [] 0 dQ dK (C.bd _ a6).2.1;have bK:=Y.cl (ah.bd ds[b]);have bL:jK (ds.map ah.bd) b+Y.aZ (ah.bd ds[b])<=1000000:=by
   have i:∀a,a<=ds.length->jK (ds.map ah.bd) a<=160*a:=λa=>by
    induction a with
    |zero=>intro _;simp[jK]
    |succ a dU=>
     intro dE;have j:=dU Zo;have du:=B9 (ah.bd (ds[a]'Zo));have dv:=(C.bd _ (ax (show a<ds.length by omega))).2.2;rw[Ib (by rw[bW];omega),eI];omega
   have j:=i b Zo;have du:=B9 (ah.bd ds[b]);have dv:=(C.bd _ a6).2.2;omega
  obtain⟨r,R,bB,a3,a2⟩:=Om (ab:=ab) m;have dH:=Ol (ab:=ab) (ds:=ds) (λd a5=>(cL d a5).sh) (show b<=ds.length by omega);generalize ds[b]=d at z aG bK a3 a2 bL;obtain⟨dp,⟨bn,bs,br⟩,⟨ec,ek,ef,⟨eh,ej,ei⟩,eg,ee⟩⟩:=d;simp only[ah.bd]at aG bK a3 a2 bL;obtain⟨dn,eB,cA⟩:∃cb cd,cw ab ds (Y.mk ec ek ef (O.mk eh ej ei) eg ee) [] 0 (jK (ds.map ah.bd) b)=(cb,cd):=⟨_,_,A⟩;simp only[cA]at a3 a2;unfold T7 at aG;simp only[ah.ds,Y.ds,O.ds,strs,bf,a8]at z aG bK;obtain⟨au,b8,dc,dd,db,ak,-⟩:=a_.ob;have dV:=a_.df (H':=aj k 12 (E ⟨0,75,6,[.cp [ai.sl ab,ah.sl ds],I b,b8,dc,dd,db],aa⟩)) (b:Int) (λau cb cd c d e=>by rw[ak]at e;cases e;simp[aj]) (λt g f=>by simp[aj,f]);simp only[ai.sl,ah.sl]at ak;simp only[ak,z,go_sem];refine .inr (.inr (Cc (aG 0 (jK (ds.map ah.bd) b) (nF ab ds b) _ _ _ (dV.congr λt g=>by simp[ai.sl,ah.sl]) dH bL ?_) A λa d e i j=>?_))
  rotate_left
  .match a,i,j with
   |0,i,j=>cases i;cases j;exact fj.rfl
   |1,i,j=>cases i;cases j;exact fj.rfl
   |2,i,j=>
    cases i;cases j;exact fj.ag A λeU cO=>by
     simp only[cc,strs,ints,cB,ot,ou,cJ,cS,iz]at cO;rcases cO with rfl|rfl|rfl<;>exact fj.nil
   |3,i,j=>cases i;cases j;exact fj.rfl
  intro eA cZ el cH bz eP;rw[cA]at cH bz;rw[a3]at bz;obtain⟨⟨ce,cj,bd,cg⟩,ci⟩:=el;simp only[aW,Core.ds,bf,a8];have dI:Core.mk ce cj bd cg=dn:=cH.c;obtain⟨eE,eb,q2,eY,eW,h,be,c4,eL,c6,dL⟩:=bz.set Zs;obtain⟨ca,co⟩:=Zx ((r++[Core.mk 0 0 [] []]++R).length);have eK:ca=b+1+R.length:=by rw[<-co];simp[bB];omega
  have dj:((b:Int)<(ca:Int))=True:=bP Zo;have cr:(Core.ae r).flatten.length=b*4:=by rw[jM (Core.ea r),Core.bb,bB]
  have dk:(Core.ae (r++[.mk 0 0 [] []]++R)).flatten=(Core.ae r).flatten++([I 0,I 0,.sl 1 [],.sl 4 []]++(Core.ae R).flatten):=by simp[Core.bZ,Core.ds,ints]
  have dy:b<h.length:=Zo;have dl:(fW h).flatten=(fW (h.take b)).flatten++([O.sl h[b]]++(fW (h.drop (b+1))).flatten):=by
   have:h=h.take b++h[b]::h.drop (b+1):=by rw[<-ph dy,lb]
   exact Fl
  have ck:(fW (h.take b)).flatten.length=b:=by rw[jM (e_ _),dC,fP];omega
  rw[co]at be;rw[dk]at c4;rw[dl]at c6;have dm:=AE (Core.ae r).flatten (Core.ae R).flatten [I 0,I 0,.sl 1 [],.sl 4 []] [I ce,I cj,.sl 1 (bd.map λb0=>[I b0]),.sl 4 (Core.ae cg)] cr A;have c5:=AE (fW (h.take b)).flatten (fW (h.drop (b+1))).flatten [O.sl h[b]] [.sl 3 (O.ae ci)] ck A;have dX:b*4+4<=((Core.ae r).flatten++([I 0,I 0,.sl 1 [],.sl 4 []]++(Core.ae R).flatten)).length:=by rw[bF,cr,bF];simp
  have dY:b+1<=((fW (h.take b)).flatten++([O.sl h[b]]++(fW (h.drop (b+1))).flatten)).length:=by rw[bF,ck,bF];simp
  simp only[ai.sl,ah.sl]at be;simp only[go_sem];refine cX [9,12] [] ?_;simp only[be,c4,dj,go_sem];refine⟨dX,?_⟩;refine cX [9,12] [] ?_;simp only[be,c6,dj,go_sem];refine⟨by rw[lc];exact dY,?_⟩;refine GK.intro ?_;simp only[go_sem];refine bg m ⟨A,by simp[af],aJ,?_⟩;rw[a2,<-dI];refine dL _ _ (h.take b++[ci]++h.drop (b+1)) Zs (by simp[bB];omega) ?_ ?_ λt g i j=>?_
  .simp only[aj,aI,aV,aP];refine dO (λc=>E (Ob.mk eb 81 4 c aa)) (dm.trans ?_);simp[Core.bZ,Core.ds,ints]
  .simp only[aj,aI,aV,aP,lc];exact GW
  .simp only[aj,i,j,bX g (u:=9) A,aV]
 have dG:=bS f;subst dG;rw[Oj]at a_;obtain⟨au,b8,dc,dd,db,ak,dW,-⟩:=a_.ob;simp only[ai.sl,ah.sl]at ak;simp only[f,go_sem];refine⟨_,Fz.k3 (Fz.rf (s:=12) (ob:=⟨0,75,6,_,aa⟩) (off:=0) [.cp [.sl 2 (ai.ae ab),.sl 12 (ah.ae ds)],I au,.sl 4 (Core.ae (dA ab ds))] (λb=>[.cp [.sl 2 (ai.ae ab),.sl 12 (ah.ae ds)],I au,b8].getD b .any) ak A (λb e f=>by
  match b,f with
  |0,f=>cases f;rfl
  |1,f=>cases f;rfl
  |2,f=>cases f;rfl) (λb e f=>by
  match b,f with
  |0,f=>cases f;exact .cl _ cD
  |1,f=>cases f;exact .cl _ (aO _)
  |2,f=>cases f;exact aH.fz dW Zd (Core.ea _) (Core.bA _))) (.cl _ (aO _)),Cl.ir ?_,_,by rw[ar];rfl,λ_=>⟨au,A⟩⟩
 simp only[a7];exact⟨Cl.eX cu,aO _,Zs⟩
end
section
open Classical
def EY(ab:aw)(ds:aF)(r:D):Prop:=∃x,r=.tp [x,I (fF ab ds)]/\(fF ab ds=0->∃a,x=.cp [.cp [ai.sl ab,ah.sl ds],I a,.sl 4 (Core.ae (dA ab ds))])
def SN{ab:aw}{ds:aF}(F:(bm.mk ab ds).sz<=1048576)(B:(bm.mk ab ds).ok):jj aB 21 [.cp [ai.sl ab,ah.sl ds]] λ_=>EY ab ds:=by
 have C:=SQ F B;have R:Cl (.cp [.sl 2 (ai.ae ab),.sl 12 (ah.ae ds)]):=Cl.eX cu;have s:ai.sl ab=.sl 2 (ai.ae ab):=A;have t:ah.sl ds=.sl 12 (ah.ae ds):=A;rw[s,t]at C⊢;have j:∀(d:D)(f:Int),Cl d->f=fF ab ds->(fF ab ds=0->∃i,d=.cp [.cp [ai.sl ab,ah.sl ds],I i,.sl 4 (Core.ae (dA ab ds))])->∀m:Nat->ux,∃l,Fz m (.tp [d,I f]) l/\Cl l/\EY ab ds l:=λd f G Q h m=>by
  subst Q;have w:Cl (.tp [d,I (fF ab ds)]):=Cl.ir cu;exact⟨_,.cl _ w,w,d,A,h⟩
 refine jj.eo [] [.tmp 2,.tmp 3] func21 A Zk ntmps21 A Zs λK=>?_;simp only[oe,go_sem];refine qi [] C (.c (.cl _ R) .n) ?_;rintro Z l⟨d,rfl,G⟩X-;have g:Cl d:=by cases X with|tp _ h=>exact h 0 d A
 simp only[ly,go_sem];by_cases e:fS ab ds=0
 case neg=>
  have f0:(fS ab ds==0)=al:=by simp[e]
  have b:fS ab ds=fF ab ds:=by rw[fF,aM e]
  simp only[bne,f0,go_sem];exact j d _ g b (λa=>absurd (b.trans a) e) _
 obtain⟨i,rfl⟩:=G e;have V:=n9 (oM (qm (sQ e))) B;have U:=B4 (ab:=ab) (ds:=ds) (λM S=>(V.bd M S).2.2) F;have u:(Core.ae (dA ab ds)).length=(dA ab ds).length:=Core.bb _;rw[s,t]at g;simp only[e,bne,u,go_sem];by_cases r:24<(dA ab ds).length
 .have f24:decide (((dA ab ds).length:Int)>24)=ad:=by simp;omega
  have b:(4:Int)=fF ab ds:=by rw[fF,av (by simp[e]),aM r]
  simp only[f24,go_sem];exact j _ _ g b (λa=>by rw[a]at b;exact absurd b Zd) _
 have f24:decide (((dA ab ds).length:Int)>24)=al:=by simp;omega
 have y:fF ab ds=if(dA ab ds).all Core.valid then 0 else 4:=by rw[fF,av (by simp[e]),av r]
 simp only[f24,go_sem];refine bq 6 (dA ab ds).length (λa=>Fw.Inv 42 [(4,.cp [.cp [.sl 2 (ai.ae ab),.sl 12 (ah.ae ds)],I i,.sl 4 (Core.ae (dA ab ds))])] (∀f∈(dA ab ds).take a,f.valid=ad)) A ⟨A,by simp[af],Zs⟩ ?_;rintro a am m ap ak K an p;simp only[u,go_sem];refine aT (λh=>?_) λh=>?_
 .have k:a<(dA ab ds).length:=by simpa using h
  have z:=ax k;simp only[Core.bo (dA ab ds) a k,go_sem];refine bw (DB (dA ab ds)[a] (U _ z).o) ?_;cases q:((dA ab ds)[a]).valid
  .have b:(4:Int)=fF ab ds:=by
    rw[y,av];intro J;rw[b6]at J;rw[J _ z]at q;cases q
   simp only[go_sem];exact j _ _ g b (λa=>by rw[a]at b;exact absurd b Zd) _
  .simp only[go_sem];refine bg k ⟨A,by simp[af],?_⟩;rw[ch k];intro L P;rcases cg.1 P with h|h
   .exact p L h
   .simp only[bG]at h;subst h;exact q
 have W:a=(dA ab ds).length:=by simp at h;omega
 subst W;rw[b9]at p;simp only[h,go_sem];exact j _ _ g (by rw[y,aM (b6.2 p)]) (λ_=>⟨i,A⟩) _
end
end
end Go.Fw
