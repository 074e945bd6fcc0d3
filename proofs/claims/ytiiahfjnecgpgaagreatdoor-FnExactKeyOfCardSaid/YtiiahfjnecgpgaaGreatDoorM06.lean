/- A part of the proof about KeyOf. No condition. -/
import Derived.Test.YtiiahfjnecgpgaaGreatDoorM01
import Derived.Test.YtiiahfjnecgpgaaGreatDoorM03
import Derived.Test.YtiiahfjnecgpgaaGreatDoorM04
import Derived.Test.YtiiahfjnecgpgaaGreatDoorM05
set_option maxRecDepth 100000
set_option maxHeartbeats 8000000
set_option linter.unusedSimpArgs false
set_option linter.unusedVariables false
set_option linter.defProp false
open Go.Proofs.Tryz
open Nat renaming reduceEqDiff->aP
open Go renaming maxLen->ao,FuncId->bK,Value->aE,TypeId->aQ,Program->ay
open Go.IntWalk renaming i64_in->cW
open Option renaming some->E,none->aa
open Bool renaming true->ad,false->al
open Go.Proofs.Tryz renaming prog->aB
namespace Go.Fw
noncomputable section
attribute [local irreducible] St.put
section
open Classical
def Y.kd:Y->Int
 |.mk k _ _ _ _ _=>k
def Y.head(a:Y):a.ds.head?=E (I (Y.kd a)):=by cases a;rfl
def kV(k:Int)(ks:a_):Bool:=decide (∀(i:Nat)(h:i<ks.length),decide (Y.kd ks[i]=10)=(decide (k=9)&&decide (0<i)))
def nh:Y->Bool
 |.mk k v n ty ns ks=>fJ (.mk k v n ty ns ks)&&kV k ks
abbrev dE:Y->Bool:=Y.aY nh
def jE(t:Y):Bool:=dE t&&decide (Y.kd t≠10)&&decide (t.cm<=24/\t.num<=160)
def VU(a v:Int)(g:BA)(d:Int)(f:BA)(e:cz)(b:aK)(ks:a_)(C:g.size<=ao)(L:(O.mk d f e).sz<=1048576)(K:(O.mk d f e).ok)(F:b.length<=ao)(G:∀j∈b,ByteArray.size j<=ao)
 (W:Y.aR ks<9000000000000000000) (z:ks.length<=ao)
 (fU:∀l∈ks,au 148 [.ag l.ds] (.tp [I (if dE l then l.cm else 0),I (if dE l then l.num else 0),B (dE l)])):
 au 148 [.ag (Y.ds (.mk a v g (.mk d f e) b ks))] (.tp [I (if dE (.mk a v g (.mk d f e) b ks)then(Y.mk a v g (.mk d f e) b ks).cm else 0),I (if dE (.mk a v g (.mk d f e) b ks)then(Y.mk a v g (.mk d f e) b ks).num else 0),B (dE (.mk a v g (.mk d f e) b ks))]):=by
 unfold ao at z;have w:=Y.bb ks;have o:Y.ds (.mk a v g (.mk d f e) b ks)=[I a,I v,S g,I d,S f,.sl 3 (O.ae e),.sl 1 (b.map λj=>[S j]),.sl 8 (Y.ae ks)]:=by simp[Y.ds,O.ds,strs]
 have ai:dE (.mk a v g (.mk d f e) b ks)=(fJ (.mk a v g (.mk d f e) b ks)&&kV a ks&&ks.all dE):=by rw[dE,Y.aY,Y.gB];rfl
 have ah:(Y.mk a v g (.mk d f e) b ks).cm=1+Y.co ks:=by rw[Y.cm]
 have ab:(Y.mk a v g (.mk d f e) b ks).num=1+Y.aR ks:=by rw[Y.num]
 have ap:∀r∈([I a,I v,S g,I d,S f,.sl 3 (O.ae e),.sl 1 (b.map λj=>[S j]),.sl 8 (Y.ae ks)]:DL),Cl r:=by rw[<-o];exact Y.cl _
 have q:=Xa a v g d f e b ks C L K F G;rw[o]at q;have bad:fJ (.mk a v g (.mk d f e) b ks)=al\/kV a ks=al\/ks.all dE=al->dE (.mk a v g (.mk d f e) b ks)=al:=λh=>by exact Zg<;>simp[h]
 rw[o];refine Sp.s [] [.tmp 2,.tmp 3,.tmp 4] func148 ntmps148 ?_;refine bw q ?_;cases D:fJ (.mk a v g (.mk d f e) b ks)
 .simp only[go_sem];refine Fz.same ?_ Zs;simp[bad (.inl D)]
 simp only[w,go_sem];refine hC 16 ks.length (λk=>Fw.Inv 50 [(1,.cp [I a,I v,S g,I d,S f,.sl 3 (O.ae e),.sl 1 (b.map λj=>[S j]),.sl 8 (Y.ae ks)]),(14,Y.sl ks),(15,I ks.length),(2,I ((1+Y.co (ks.take k):Nat):Int)),(3,I ((1+Y.aR (ks.take k):Nat):Int))] ((ks.take k).all dE=ad/\∀(i:Nat)(h:i<ks.length),i<k->decide (Y.kd ks[i]=10)=(decide (a=9)&&decide (0<i)))) A ⟨A,by simp[Y.sl,ba,af,Y.co,Y.aR],Zs,Zs⟩ ?_;rintro k⟨V,M,am,an,P⟩ak h5⟨rfl,p,hp,xl⟩;simp only[a7,Y.sl]at h5 p;obtain⟨eb,e0,e1,e2,e3,-⟩:=p;simp only[h5,e1,go_sem];refine aT (λh=>?_) λh=>?_
 .have aC:=bh h;have hx:=ax aC;have u:=Y.bo ks k aC;have mQ:=Y.b1 ks[k];have nU:List.take 8 ks[k].ds=ks[k].ds:=cU Zo;have J:(ks[k].ds).all b4=ad:=by rw[b6];exact Y.one ks[k]
  have x:=Y.head ks[k];simp only[h,h5,eb,e0,u,mQ,nU,J,x,go_sem];have X:∀U:Bool,(decide (Y.kd ks[k]=10)=(decide (a=9)&&decide (0<k)))=True\/(decide (Y.kd ks[k]=10)=(decide (a=9)&&decide (0<k)))=False:=λ_=>by by_cases hh:decide (Y.kd ks[k]=10)=(decide (a=9)&&decide (0<k))<;>simp[hh]
  have step:∀Q R:Bool,True:=λ_ _=>trivial;by_cases m:a=9
  .have f9:(a==9)=ad:=by simp[m]
   simp only[f9,go_sem];have t:decide ((k:Int)>0)=decide (0<k):=by rw[jh];omega
   by_cases hq:decide (Y.kd ks[k]=10)=(decide (a=9)&&decide (0<k))
   case neg=>
    have fq:((Y.kd ks[k]==10) !=decide ((k:Int)>0))=ad:=by exact Zg<;>cases decide (0<k)<;>simp
    exact Hs
   have fq:((Y.kd ks[k]==10) !=decide ((k:Int)>0))=al:=by
    rw[t,iG];simp only[m,ox,hN]at hq;rw[hq];simp
   exact FY
  .have f9:(a==9)=al:=by simp[m]
   simp only[f9,go_sem];by_cases hq:decide (Y.kd ks[k]=10)=(decide (a=9)&&decide (0<k))
   case neg=>
    have fq:((Y.kd ks[k]==10) !=al)=ad:=by exact Zg<;>simp
    exact Hs
   have fq:((Y.kd ks[k]==10) !=al)=al:=by
    rw[iG];simp only[m,ri,mF]at hq;rw[hq];simp
   exact FY
 .have y:=bS h;subst y;rw[b9]at hp e2 e3;simp only[h,e2,e3,go_sem];refine Fz.same ?_ Zs;have Z:kV a ks=ad:=by rw[kV,cO];exact λi hi=>xl i hi hi
  exact Zg
def MH(a:Y)(d:a.sz<=1048576)(b:a.ok):au 148 [.ag a.ds] (.tp [I (if dE a then a.cm else 0),I (if dE a then a.num else 0),B (dE a)]):=by
 match a,d,b with
 |.mk h v i ⟨r,t,s⟩ j f,d,b=>
 simp only[Y.ok]at b;obtain⟨k,l,m,o,p,q⟩:=b;simp only[Y.sz]at d;have u:=Y.r8 f;exact VU h v i r t s j f k Zo l m o Zo p λg e=>MH g (by have:=Y.gj e;omega) (Y.dW q g e)
termination_by a
decreasing_by all_goals(have:=cH e;simp;omega)
def Xb(a:Y)(j:a.sz<=1048576)(i:a.ok):au 92 [.ag a.ds] (B (jE a)):=by
 have g:=Y.b1 a;have k:List.take 8 a.ds=a.ds:=cU Zo;have l:(a.ds).all b4=ad:=by rw[b6];exact Y.one a
 have h:=Y.head a;refine Sp.e [] [.tmp 2] func92 ntmps92 ?_;simp only[g,k,go_sem];refine bB _ (MH a j i) (by simp;exact Y.cl _) ?_;cases d:dE a
 .simp only[go_sem];exact Fz.bool (by simp only[jE,d,mF])
 simp only[h,go_sem];by_cases b:Y.kd a=10
 .simp only[kR b,go_sem];exact Fz.bool (by simp[jE,b])
 simp only[rv b,go_sem];by_cases f:a.cm<=24
 .have f1:decide ((a.cm:Int)<=24)=ad:=by simp;omega
  simp only[f1,go_sem];refine Fz.bool ?_;rw[jE,d,hN,bD b,hN,jh];omega
 .have f1:decide ((a.cm:Int)<=24)=al:=by simp;omega
  simp only[f1,go_sem];exact Fz.bool (by simp[jE,f])
def jF(t:Y)(d:Int)(a:Bool)(l:Int):Int:=if dE t=ad/\decide (Y.kd t=10)=a/\(t.cm:Int)<=d/\(t.num:Int)<=l then t.num else-1
def Sx(d v:Int)(k:BA)(h:Int)(j:BA)(i:cz)(g:aK)(a:a_)(e:Int)(q:Bool)(f:Int)(aZ:0<=e)(aX:e<=24)(a4:0<=f)(a5:f<=160)(aG:k.size<=ao)(aN:(O.mk h j i).sz<=1048576)(aL:(O.mk h j i).ok)(aI:g.length<=ao)(aJ:∀u∈g,ByteArray.size u<=ao)
 (aF:a.length<=ao)
 (Z:∀ar∈a,∀(e:Int)(q:Bool)(f:Int),0<=e->e<=24->0<=f->f<=160->au 314 [.cp ar.ds,I e,B q,I f] (I (jF ar e q f))):
 au 314 [.cp (Y.ds (.mk d v k (.mk h j i) g a)),I e,B q,I f] (I (jF (.mk d v k (.mk h j i) g a) e q f)):=by
 unfold ao at aF;have X:=Y.bb a;have D:Y.ds (.mk d v k (.mk h j i) g a)=[I d,I v,S k,I h,S j,.sl 3 (O.ae i),.sl 1 (g.map λu=>[S u]),.sl 8 (Y.ae a)]:=by simp[Y.ds,O.ds,strs]
 have ah:dE (.mk d v k (.mk h j i) g a)=(fJ (.mk d v k (.mk h j i) g a)&&kV d a&&a.all dE):=by rw[dE,Y.aY,Y.gB];rfl
 have aC:(Y.mk d v k (.mk h j i) g a).cm=1+Y.co a:=by rw[Y.cm]
 have W:(Y.mk d v k (.mk h j i) g a).num=1+Y.aR a:=by rw[Y.num]
 have bc:∀ay∈([I d,I v,S k,I h,S j,.sl 3 (O.ae i),.sl 1 (g.map λu=>[S u]),.sl 8 (Y.ae a)]:DL),Cl ay:=by rw[<-D];exact Y.cl _
 have ap:=Sn d v k h j i g a aG aN aL aI aJ;rw[D]at ap;have ai:fJ (.mk d v k (.mk h j i) g a)=(a1 a.length (cN d).1 (cN d).2&&fp (.mk d v k (.mk h j i) g a)):=A;have L:fJ (.mk d v k (.mk h j i) g a)=al->-1=jF (.mk d v k (.mk h j i) g a) e q f:=λo=>by
  unfold jF;rw[av];rintro⟨V,_⟩;rw[ah,o]at V;cases V
 rw[D];refine Sp.s [] [.tmp 8] func314 ntmps314 ?_;refine bB _ (Ss d) Zs ?_;simp only[go_sem];by_cases M:e<1
 .simp only[bD M,go_sem];refine Fz.int ?_;unfold jF;rw[av];rintro⟨_,_,o,_⟩;omega
 simp only[bj M,go_sem];by_cases P:f<1
 .simp only[bD P,go_sem];refine Fz.int ?_;unfold jF;rw[av];rintro⟨_,_,_,o⟩;omega
 simp only[bj P,go_sem];by_cases Q:decide (d=10)=q
 case neg=>
  have f3:((d==10) !=q)=ad:=by exact Zg
  simp only[f3,go_sem];refine Fz.int ?_;unfold jF;rw[av];rintro⟨_,o,_⟩;exact Q o
 have f3:((d==10) !=q)=al:=by exact Zg
 simp only[f3,X,go_sem];refine bB _ (o5 _ _ _) Zs ?_;cases R:a1 a.length (cN d).1 (cN d).2
 .simp only[go_sem];exact Fz.int (L (by rw[ai,R];rfl))
 simp only[go_sem];refine bw ap ?_;cases aw:fp (.mk d v k (.mk h j i) g a)
 .simp only[go_sem];exact Fz.int (L Zg)
 have aH:fJ (.mk d v k (.mk h j i) g a)=ad:=by rw[ai,R,aw];rfl
 simp only[go_sem];refine hC 12 a.length (λb=>Fw.Inv 89 [(0,.cp [I d,I v,S k,I h,S j,.sl 3 (O.ae i),.sl 1 (g.map λu=>[S u]),.sl 8 (Y.ae a)]),(1,I e),(3,I f),(11,I ((1+Y.aR (a.take b):Nat):Int))] ((a.take b).all dE=ad/\(∀(m:Nat)(o:m<a.length),m<b->decide (Y.kd a[m]=10)=(decide (d=9)&&decide (0<m)))/\((1+Y.co (a.take b):Nat):Int)<=e/\((1+Y.aR (a.take b):Nat):Int)<=f)) A ⟨A,?_,Zs,Zs,?_,?_⟩ ?_
 .simp[ba,af,Y.aR]
 .simp[Y.co];omega
 .simp[Y.aR];omega
 rintro b⟨aW,aU,a6,a8,aV⟩a3 x⟨rfl,ab,G,J,ak,am⟩;simp only[a7]at x ab;obtain⟨e0,e1,e2,w,-⟩:=ab;simp only[x,e0,X,go_sem];refine aT (λo=>?_) λo=>?_
 .have l:=bh o;have an:=ax l;have az:=Y.bo a b l;have aQ:IntKind.i64.wrap (e-1)=e-1:=cW _ Zo;have aq:IntKind.i64.wrap (f-((1+Y.aR (a.take b):Nat):Int))=f-((1+Y.aR (a.take b):Nat):Int):=cW _ Zo;have aB:=Y.qp a (b+1);have aA:=Y.mY a (b+1);rw[Y.ku a b l]at aB;rw[Y.iU a b l]at aA;simp only[o,x,e0,e1,az,aQ,go_sem];refine b7 ?_;have U:∀K:Bool,K=(decide (d=9)&&decide (0<b))->¬(dE a[b]=ad/\decide (Y.kd a[b]=10)=K/\(a[b].cm:Int)<=e-1/\(a[b].num:Int)<=f-((1+Y.aR (a.take b):Nat):Int))->-1=jF (.mk d v k (.mk h j i) g a) e q f:=λK a2 p=>by
   unfold jF;rw[av];rintro⟨aO,_,a9,a'⟩;rw[ah,aH,hN,b3,b6,kV,cO]at aO;exact Zg
  by_cases z:d=9
  .have f9:(d==9)=ad:=by simp[z]
   have C:decide ((b:Int)>0)=(decide (d=9)&&decide (0<b)):=by rw[z];simp
   simp only[f9,C,x,e2,w,aq,go_sem];refine d' (Z a[b] an (e-1) (decide (d=9)&&decide (0<b)) (f-((1+Y.aR (a.take b):Nat):Int)) Zo Zo Zo Zo) ?_;by_cases p:dE a[b]=ad/\decide (Y.kd a[b]=10)=(decide (d=9)&&decide (0<b))/\(a[b].cm:Int)<=e-1/\(a[b].num:Int)<=f-((1+Y.aR (a.take b):Nat):Int)
   .have r:jF a[b] (e-1) (decide (d=9)&&decide (0<b)) (f-((1+Y.aR (a.take b):Nat):Int))=a[b].num:=by unfold jF;rw[aM p]
    have t:decide ((a[b].num:Int)<0)=al:=Zs;have m2:1+Y.aR (a.take b)+a[b].num=1+Y.aR (a.take (b+1)):=by rw[Y.iU a b l];omega
    simp only[r,t,x,w,wrap_add (1+Y.aR (a.take b)) a[b].num Zo,go_sem];refine bg l ⟨A,?_,by rw[kQ l,G,p.1];rfl,λm y aD=>?_,?_,?_⟩
    .exact Hc
    .by_cases F:m<b
     .exact J m y F
     .exact Zg
    .rw[Y.ku a b l];omega
    .rw[Y.iU a b l];omega
   .have r:jF a[b] (e-1) (decide (d=9)&&decide (0<b)) (f-((1+Y.aR (a.take b):Nat):Int))=-1:=by unfold jF;rw[av p]
    have t:decide ((-1:Int)<0)=ad:=A;simp only[r,t,go_sem];exact Fz.int (U _ A p)
  .have f9:(d==9)=al:=by simp[z]
   have C:(decide (d=9)&&decide (0<b))=al:=by simp[z]
   simp only[f9,e2,w,aq,go_sem];refine d' (Z a[b] an (e-1) al (f-((1+Y.aR (a.take b):Nat):Int)) Zo Zo Zo Zo) ?_;by_cases p:dE a[b]=ad/\decide (Y.kd a[b]=10)=al/\(a[b].cm:Int)<=e-1/\(a[b].num:Int)<=f-((1+Y.aR (a.take b):Nat):Int)
   .have r:jF a[b] (e-1) al (f-((1+Y.aR (a.take b):Nat):Int))=a[b].num:=by unfold jF;rw[aM p]
    have t:decide ((a[b].num:Int)<0)=al:=Zs;have aS:=wrap_add (1+Y.aR (a.take b)) a[b].num Zo;have m2:1+Y.aR (a.take b)+a[b].num=1+Y.aR (a.take (b+1)):=by rw[Y.iU a b l];omega
    simp only[r,t,x,w,aS,go_sem];refine bg l ⟨A,?_,by rw[kQ l,G,p.1];rfl,λm y aD=>?_,?_,?_⟩
    .exact Hc
    .by_cases F:m<b
     .exact J m y F
     .have:m=b:=Zo;subst this;exact p.2.1.trans C.symm
    .rw[Y.ku a b l];omega
    .rw[Y.iU a b l];omega
   .have r:jF a[b] (e-1) al (f-((1+Y.aR (a.take b):Nat):Int))=-1:=by unfold jF;rw[av p]
    have t:decide ((-1:Int)<0)=ad:=A;simp only[r,t,go_sem];exact Fz.int (U _ C.symm p)
 .have aE:=bS o;subst aE;rw[b9]at G ak am w;simp only[o,w,go_sem];refine Fz.int ?_;have a0:kV d a=ad:=by rw[kV,cO];exact λm y=>J m y y
  unfold jF;rw[aM ⟨by exact Zg,Q,by rw[aC];exact ak,by rw[W];exact am⟩,W]
def Ku(d:Y)(a:Int)(e:Bool)(b:Int)(p:0<=a)(o:a<=24)(q:0<=b)(r:b<=160)(g:d.sz<=1048576)(f:d.ok):au 314 [.cp d.ds,I a,B e,I b] (I (jF d a e b)):=by
 match d,g,f with
 |.mk s v u ⟨F,J,G⟩ w t,g,f=>
 simp only[Y.ok]at f;obtain⟨x,y,z,A,C,D⟩:=f;simp only[Y.sz]at g;exact Sx s v u F J G w t a e b p o q r x Zo y z A C λi h a e b j k l m=>Ku i a e b j k l m (by have:=Y.gj h;omega) (Y.dW D i h)
termination_by d
decreasing_by all_goals(have:=cH h;simp;omega)
def We(a:Y):decide (jF a 24 al 160>0)=jE a:=by
 have:=Y.xI a;unfold jF jE;exact Zg
def Sy(a:Y)(d:a.sz<=1048576)(b:a.ok):au 293 [.cp a.ds] (B (jE a)):=by
 refine Sp.s [] [.tmp 2] func293 ntmps293 ?_;refine bO (Ku a 24 al 160 Zo Zo Zo Zo d b) ?_;exact Fz.bool (We a)
end
def Ro(l:cz)(p:O->Bool)(d:bK)(first a:DL)(o:l.length<=ao)(m:∀b∈first,Cl b)(hc:∀b∈a,Cl b)
 (j:∀f∈l,au d (first++[.ag f.ds]++a) (B (p f))):au 257 [O.sl l,.fn d first a] (I (et p l)):=by
 unfold ao at o;have i:=O.bb l;refine Sp.e [] [.tmp 4] func257 ntmps257 ?_;simp only[go_sem,i];refine bq 8 l.length (λk=>Fw.Inv 19 [(0,O.sl l),(1,.fn d first a),(7,I l.length)] ((l.take k).any p=al)) A ⟨A,by simp[O.sl,ba,af],Zs⟩ ?_;rintro k t r x s _ u hp;simp only[go_sem];refine aT (λh=>?_) λh=>?_
 .have aC:=bh h;have g:=O.b1 l[k];have q:List.take 3 l[k].ds=l[k].ds:=cU Zo;have w:(l[k].ds).all b4=ad:=by rw[b6];exact O.one l[k]
  simp only[h,O.bo l k aC,g,q,go_sem];refine bB _ (j l[k] (ax aC)) (by simp only[lX,a7];exact⟨⟨m,Cl.bu (O.cl _),Zs⟩,hc⟩) ?_;exact sF
 .exact lH
def Cn(a:cz)(f:O->Bool)(e:bK)(first b:DL)(k:a.length<=ao)(j:∀d∈first,Cl d)(h:∀d∈b,Cl d)
 (i:∀g∈a,au e (first++[.ag g.ds]++b) (B (f g))):au 203 [O.sl a,.fn e first b] (B (a.any f)):=by
 refine Sp.s [] [.tmp 4] func203 ntmps203 ?_;refine bO (Ro a f e first b k j h i) ?_;exact Fz.bool (mS a)
def Ri(l:aw)(p:ai->Bool)(d:bK)(first a:DL)(m:l.length<=ao)(j:∀b∈first,Cl b)(hc:∀b∈a,Cl b)
 (i:∀f∈l,au d (first++[.ag f.ds]++a) (B (p f))):au 201 [ai.sl l,.fn d first a] (I (et p l)):=by
 unfold ao at m;have g:=ai.bb l;refine Sp.e [] [.tmp 4] func201 ntmps201 ?_;simp only[go_sem,g];refine bq 8 l.length (λk=>Fw.Inv 19 [(0,ai.sl l),(1,.fn d first a),(7,I l.length)] ((l.take k).any p=al)) A ⟨A,by simp[ai.sl,ba,af],Zs⟩ ?_;rintro k r o u q _ s hp;simp only[go_sem];refine aT (λh=>?_) λh=>?_
 .have aC:=bh h;have t:(l[k].ds).all b4=ad:=by rw[b6];exact ai.one l[k]
  simp only[h,ai.bo l k aC,ai.b1 l[k],cU Zo,go_sem];refine bB _ (i l[k] (ax aC)) (by simp only[lX,a7];exact⟨⟨j,Cl.bu (ai.cl _),Zs⟩,hc⟩) ?_;exact sF
 .exact lH
def ai.nm:ai->ByteArray
 |.mk n _=>n
def ai.cs:ai->List aA
 |.mk _ c=>c
def aA.nm:aA->ByteArray
 |.mk n _=>n
def aA.fs:aA->List O
 |.mk _ f=>f
def vo(ds:aw)(n:BA):Int:=et (λd=>decide (ai.nm d=n)) ds
def fT(ds:List ai):O->Bool
 |.mk k n _=>!(decide (k=2)&&decide (vo ds n<0))
def nL(ds:aw)(c:aA):Bool:=ju (aA.nm c)&&decide ((aA.fs c).length<=3)&&(aA.fs c).all λt=>fK t&&O.aY (fT ds) t
def P9(a:ai)(b:BA):au 202 [.ag a.ds,.cp [S b]] (B (decide (ai.nm a=b))):=by
 obtain⟨f,d⟩:=a;refine Sp.e [] [.tmp 3] func202 ntmps202 ?_;simp only[ai.ds,go_sem];exact Fz.bool (by rw[du];rfl)
def I_(b:aw)(a:BA)(e:b.length<=ao):au 143 [ai.sl b,S a] (I (vo b a)):=by
 refine Sp.s [] [.tmp 4] func143 ntmps143 ?_;refine bB _ (Ri b (λd=>decide (ai.nm d=a)) _ [] [.cp [S a]] e Zs Zs (λd _=>by simpa using P9 d a)) (by simp;exact ai.bA _) ?_;exact wD
def Kq(a:aw)(v:BA)(o:a.length<=ao):au 294 [ai.sl a,S v] (I (vo a v)):=by
 unfold ao at o;have m:=ai.bb a;refine Sp.s [] [.tmp 4] func294 ntmps294 ?_;refine bq 5 a.length (λd=>Fw.Inv 20 [(0,ai.sl a),(1,S v)] ((a.take d).any (λb=>decide (ai.nm b=v))=al)) A ⟨A,by simp[ai.sl,ba,af],Zs⟩ ?_;rintro d u q x r _ w hp;simp only[m,go_sem];refine aT (λh=>?_) λh=>?_
 .have f:=bh h;have i:=ai.bo a d f;obtain⟨b,l⟩:∃b,b=a[d]:=⟨_,A⟩;have k:=any_take_succ (p:=λb=>decide (ai.nm b=v)) f;have j:=@kW ai (λb=>decide (ai.nm b=v)) a d f hp;rw[<-l]at i k j;obtain⟨g,t⟩:=b;simp only[ai.ds]at i;simp only[h,i,go_sem];by_cases e:g=v
  .have f1:(g.toList==v.toList)=ad:=by rw[du];exact bD e
   simp only[f1,go_sem];exact Fz.int (j (by simp[ai.nm,e])).symm
  .have f1:(g.toList==v.toList)=al:=by rw[du];exact bj e
   simp only[f1,go_sem];refine bg f ⟨A,by simp[af],?_⟩;rw[k,hp];simp[ai.nm,e]
 .exact lH
def PI(a:aw)(o:a.length<=ao)(f:Int)(g:BA)(d:cz)(l:d.length<=ao)(p:∀b∈d,au 205 [ai.sl a,.ag b.ds] (B (O.aY (fT a) b))):
 au 205 [ai.sl a,.ag (O.ds (.mk f g d))] (B (O.aY (fT a) (.mk f g d))):=by
 have j:O.aY (fT a) (.mk f g d)=(fT a (.mk f g d)&&d.all (O.aY (fT a))):=by rw[O.aY,O.gB]
 have k:∀b∈d,au 258 ([]++[.ag b.ds]++[.cp [ai.sl a]]) (B (!O.aY (fT a) b)):=λb r=>by
  have m:=O.b1 b;have q:List.take 3 b.ds=b.ds:=cU Zo;have t:(b.ds).all b4=ad:=by rw[b6];exact O.one b
  simp only[a8,bf];refine Sp.e [] [.tmp 3] func258 ntmps258 ?_;simp only[m,q,go_sem];refine bO (p b r) ?_;exact Fz.bool A
 refine Sp.s [] [.tmp 4] func205 ntmps205 ?_;by_cases h:f=2
 .have f1:(f==2)=ad:=by simp[h]
  simp only[f1,go_sem];refine bw (I_ a g o) ?_;cases i:decide (vo a g<0)
  case true=>
   simp only[i,go_sem];exact Fz.bool (by rw[j];simp only[fT,h,i,ox,ue,Bool.not_true,mF])
  simp only[i,go_sem];refine bO (Cn d (λb=>!O.aY (fT a) b) _ [] [.cp [ai.sl a]] l Zs Zs k) ?_;exact Fz.bool (by rw[j,xH];simp only[fT,h,i,Bool.and_false,Bool.not_false,hN])
 .have f1:(f==2)=al:=by simp[h]
  simp only[f1,go_sem];refine bO (Cn d (λb=>!O.aY (fT a) b) _ [] [.cp [ai.sl a]] l Zs Zs k) ?_;exact Fz.bool (by rw[j,xH];simp[fT,h])
def declared(a:aw)(e:a.length<=ao)(d:O)(b:d.ok):au 205 [ai.sl a,.ag d.ds] (B (O.aY (fT a) d)):=by
 match d,b with
 |.mk h j i,b=>
 simp only[O.ok]at b;exact PI a e h j i b.2.1 λg f=>declared a e g (O.dW b.2.2 g f)
termination_by d
decreasing_by all_goals(have:=cH f;simp;omega)
def Sg(b:aw)(l:b.length<=ao)(d:Int)(f:BA)(a:cz)(r:a.length<=ao)(q:d=2->a=[])(m:∀i∈a,au 274 [ai.sl b,.ag i.ds] (B (O.aY (fT b) i))):
 au 274 [ai.sl b,.ag (O.ds (.mk d f a))] (B (O.aY (fT b) (.mk d f a))):=by
 unfold ao at r;have k:=O.bb a;have o:O.aY (fT b) (.mk d f a)=(fT b (.mk d f a)&&a.all (O.aY (fT b))):=by rw[O.aY,O.gB]
 refine Sp.s [] [.tmp 4] func274 ntmps274 ?_;by_cases g:d=2
 .have f1:(d==2)=ad:=by simp[g]
  simp only[f1,go_sem];refine bO (Kq b f l) ?_;refine Fz.bool ?_;rw[o,q g];simp only[fT,g,ox,hN,List.all_nil,ue];exact Zg
 have f1:(d==2)=al:=by simp[g]
 have z:fT b (.mk d f a)=ad:=by simp[fT,g]
 simp only[f1,go_sem];refine bq 5 a.length (λe=>Fw.Inv 29 [(0,ai.sl b),(3,.cp [I d,S f,.sl 3 (O.ae a)])] ((a.take e).all (O.aY (fT b))=ad)) A ⟨A,by simp[ai.sl,ba,af],Zs⟩ ?_;rintro e y w D x _ C hp;simp only[k,go_sem];refine aT (λh=>?_) λh=>?_
 .have aC:=bh h;have u:=ax aC;have j:=O.b1 a[e];have t:List.take 3 a[e].ds=a[e].ds:=cU Zo;simp only[h,O.bo a e aC,j,t,go_sem];refine bw (m a[e] u) ?_;cases hq:O.aY (fT b) a[e]
  .exact wE
  .exact Gr
 .have p:=bS h;subst p;rw[b9]at hp;simp only[h,go_sem];exact Fz.bool Zg
def zW(b:aw)(h:b.length<=ao)(a:O)(e:a.ok)(d:eL a=ad):au 274 [ai.sl b,.ag a.ds] (B (O.aY (fT b) a)):=by
 match a,e,d with
 |.mk j l k,e,d=>
 simp only[O.ok]at e;rw[eL,O.aY,O.gB,b3,b6]at d;refine Sg b h j l k e.2.1 (λi=>?_) λg f=>zW b h g (O.dW e.2.2 g f) (d.2 g f);have:=d.1;simp only[fL,i]at this;simp at this;exact this.2
termination_by a
decreasing_by all_goals(have:=cH f;simp;omega)
def W8(b:aw)(o:b.length<=ao)(d:aA)(p:d.sz<=1048576)(h:d.ok):au 144 [ai.sl b,.ag d.ds] (B (nL b d)):=by
 obtain⟨l,fs⟩:=d;simp only[aA.ok]at h;simp only[aA.sz]at p;obtain⟨q,r,s⟩:=h;have m:∀a∈fs,au 204 ([]++[.ag a.ds]++[.cp [ai.sl b]]) (B (!(fK a&&O.aY (fT b) a))):=λa j=>by
  have g:=O.b1 a;have i:List.take 3 a.ds=a.ds:=cU Zo;have t:(a.ds).all b4=ad:=by rw[b6];exact O.one a
  have u:=O.gj j;have k:=O.dW s a j;simp only[a8,bf];refine Sp.e [] [.tmp 3] func204 ntmps204 ?_;simp only[g,i,go_sem];refine bB _ (EN a Zo k) (by simp;exact O.cl _) ?_;cases f:fK a
  .exact qf
  simp only[g,i,go_sem];refine bO (declared b o a k) ?_;exact Fz.bool Zs
 refine Sp.e [] [.tmp 4] func144 ntmps144 ?_;simp only[aA.ds,go_sem];refine bB _ (isUpper l q) Zs ?_;cases f:ju l
 .simp only[go_sem];exact Fz.bool (by simp[nL,aA.nm,f])
 simp only[go_sem];by_cases c2:(fs.length:Int)>3
 .exact E8
 simp only[bj c2,go_sem];refine bO (Cn fs (λa=>!(fK a&&O.aY (fT b) a)) _ [] [.cp [ai.sl b]] r Zs Zs m) ?_;refine Fz.bool ?_;rw[xH];have:fs.length<=3:=Zo;simp[nL,aA.nm,aA.fs,f,this]
def Se(b:aw)(u:b.length<=ao)(d:aA)(z:d.sz<=1048576)(p:d.ok):au 311 [ai.sl b,.ag d.ds] (B (nL b d)):=by
 obtain⟨i,fs⟩:=d;simp only[aA.ok]at p;simp only[aA.sz]at z;obtain⟨C,D,G⟩:=p;have F:=D;unfold ao at F;refine Sp.e [] [.tmp 4] func311 ntmps311 ?_;simp only[aA.ds,go_sem];refine bB _ (x1 i C) Zs ?_;cases l:ju i
 .simp only[go_sem];exact Fz.bool (by simp[nL,aA.nm,l])
 simp only[go_sem];by_cases c2:(fs.length:Int)>3
 .exact E8
 simp only[bj c2,go_sem];have t:nL b (.mk i fs)=fs.all λg=>fK g&&O.aY (fT b) g:=by
  have:fs.length<=3:=Zo;simp[nL,aA.nm,aA.fs,l,this]
 refine bq 5 fs.length (λa=>Fw.Inv 40 [(0,ai.sl b),(3,.cp [S i,.sl 3 (O.ae fs)])] ((fs.take a).all (λg=>fK g&&O.aY (fT b) g)=ad)) A ⟨A,by simp[ai.sl,ba,af],Zs⟩ ?_;rintro a K I P J _ L j;simp only[go_sem];refine aT (λf=>?_) λf=>?_
 .have h:=bh f;have r:=ax h;have m:=O.bo fs a h;have o:=O.b1 fs[a];have q:List.take 3 fs[a].ds=fs[a].ds:=cU Zo;have M:=O.gj r;have s:=O.dW G _ r;simp only[f,m,o,q,go_sem];refine bB _ (En fs[a] Zo s) (by simp;exact O.cl _) ?_;cases k:fK fs[a]
  .exact wE
  have w:eL fs[a]=ad:=by simp only[fK,b3]at k;exact k.1
  simp only[m,o,q,go_sem];refine bw (zW b u fs[a] s w) ?_;cases y:O.aY (fT b) fs[a]
  .exact wE
  .simp only[go_sem];refine bg h ⟨A,by simp[af],by rw[kQ h,j,k,y];rfl⟩
 .have x:=bS f;subst x;rw[b9]at j;simp only[f,go_sem];exact Fz.bool (by rw[t,j])
section
open Classical
def Jb(a:BA):∀b:aK,(a∈b/\∃f,f<b.length/\mO .string (.string a) (b.map Value.string)=E (E f))\/(a∉b/\mO .string (.string a) (b.map Value.string)=E aa)
 |[]=>.inr ⟨Zs,A⟩
 |x::b=>by
  by_cases d:a=x
  .refine .inl ⟨by simp[d],0,Zs,?_⟩;have:=(MapKept.bytes_beq a x).2 d;simp[mO,Instr.sameNow,this]
  .have e:(a==x)=al:=by
    cases e:a==x with
    |false=>rfl
    |true=>exact absurd ((MapKept.bytes_beq a x).1 e) d
   rcases Jb a b with⟨g,f,i,h⟩|⟨g,h⟩
   .exact .inl ⟨by simp[g],f+1,by simp;omega,by simp[mO,Instr.sameNow,e,h]⟩
   .exact .inr ⟨by simp[d,g],by simp[mO,Instr.sameNow,e,h]⟩
def mb(d:ai):aK:=(ai.cs d).map aA.nm
def iC(ds:aw)(i k:Nat):aK:=((ds.take i).map mb).flatten++((ds.drop i).head?.map λd=>(mb d).take k).getD []
def sR(ds:aw)(i:Nat)(d:ai):Bool:=ju (ai.nm d)&&!decide (ai.nm d=qG)&&!((ds.take i).any λe=>decide (ai.nm e=ai.nm d))&&decide (1<=(ai.cs d).length)&&decide ((ai.cs d).length<=4)
def rE(d:aw)(e:Nat)(a:BA)(b:iB):sR d e (.mk a b)=(ju a&&!decide (a=qG)&&!((d.take e).any λf=>decide (ai.nm f=a))&&decide (1<=b.length)&&decide (b.length<=4)):=rfl
def qh(ds:aw)(i k:Nat)(c:aA):Prop:=nL ds c=ad/\aA.nm c∉iC ds i k
def qo(ds:aw)(i:Nat)(d:ai):Prop:=sR ds i d=ad/\∀(k:Nat)(h:k<(ai.cs d).length),qh ds i k (ai.cs d)[k]
def om(ds:aw):Prop:=ds.length<=4/\∀(i:Nat)(h:i<ds.length),qo ds i ds[i]
def BV(a:aw):iC a 0 0=[]:=by
 simp only[iC,List.take_zero,cB,fX,a8,List.drop_zero];cases a<;>simp
def y'(a:aw)(b:Nat)(d:b<a.length):(a.drop b).head?=E a[b]:=by rw[ph d];rfl
def HI(a:aw)(b d:Nat)(e:b<a.length)(f:d<(ai.cs a[b]).length):iC a b (d+1)=iC a b d++[aA.nm (ai.cs a[b])[d]]:=by
 simp only[iC,y' a b e,ey,kM];rw[ch (by simp[mb];exact f),dM];simp[mb]
def HH(a:aw)(b:Nat)(d:b<a.length):iC a b (ai.cs a[b]).length=iC a (b+1) 0:=by
 simp only[iC,y' a b d,ey,kM];have e:((a.take (b+1)).map mb).flatten=((a.take b).map mb).flatten++mb a[b]:=by
  rw[ch d];simp only[bC,bp,cB,fN,dN,fX,c_]
 have:(mb a[b]).length=(ai.cs a[b]).length:=by simp[mb]
 rw[<-this,b9,e];cases f:(a.drop (b+1)).head?<;>simp only[Option.map_none,ey,Option.getD_none,kM,List.take_zero,c_]
def NK(a:aw)(b:Nat):iC a b 0=((a.take b).map mb).flatten:=by
 simp only[iC];cases d:(a.drop b).head?<;>simp
def PG(b:aw)(a:Nat):(ai.ae b).take a=ai.ae (b.take a):=by simp[ai.bZ]
def Rb(e:ai->Bool)(a:aw)(h:Nat)(o:h<a.length)(j:e a[h]=ad):(et e a=(h:Int))↔(a.take h).any e=al:=by
 constructor
 .intro w;cases f:(a.take h).any e with
  |false=>rfl
  |true=>
   rw[k9]at f;obtain⟨t,l,m⟩:=f;obtain⟨b,i,rfl⟩:=List.mem_take_iff_getElem.1 l;have g:∃d,∃g:d<a.length,d<=b/\e a[d]=ad/\(a.take d).any e=al:=by
    have s:∀k,∀b(i:b<a.length),b<=k->e a[b]=ad->∃d,∃g:d<a.length,d<=b/\e a[d]=ad/\(a.take d).any e=al:=by
     intro k
     induction k with
     |zero=>
      intro b i r j;exact Zg
     |succ k y=>
      intro b i r j;cases f:(a.take b).any e with
      |false=>exact⟨b,i,b_ _,j,f⟩
      |true=>
       rw[k9]at f;obtain⟨t,l,m⟩:=f;obtain⟨z,x,rfl⟩:=List.mem_take_iff_getElem.1 l;exact Zg
    exact s b b Zo (b_ _) m
   obtain⟨d,g,u,p,q⟩:=g;have:=kW g q p;omega
 .intro f;exact kW o f j
def W'(a:aw)(U:a.length<=ao)(aD:ai.cG a<=1048576)(am:ai.eZ a):au 89 [ai.sl a] (B (decide (om a))):=by
 unfold ao at U;refine Sp.s [] [.tmp 2] func89 ntmps89 ?_;by_cases c0:(a.length:Int)>4
 .exact Ff
 simp only[bj c0,go_sem];refine bq 14 a.length (λi=>Fw.qa 71 [(0,ai.sl a),(12,ai.sl a),(13,I a.length),(3,.mp 11 0)] λg K o=>g 11=E ⟨0,0,1,List.replicate (iC a i 0).length (B ad),E ((iC a i 0).map Value.string)⟩/\∀(j:Nat)(h:j<a.length),j<i->qo a j a[j]) A ⟨A,by simp[ai.sl,ba,af],by simp[aj,BV],Zs⟩ ?_;rintro i X g K o _ aB⟨f,hp⟩;simp only[go_sem];refine aT (λh=>?_) λh=>?_
 .have e:=bh h;have D:=ax e;have u:=ai.bo a i e;have Y:=y' a i e;have V:=ai.gj D;have C:=ai.dW am _ D;have d:=HI a i;have x:=HH a i e;have bad:¬qo a i a[i]->al=decide (om a):=λy=>by
   symm;rw[fZ];rintro⟨_,z⟩;exact y (z i e)
  have next:qo a i a[i]->∀(j:Nat)(h:j<a.length),j<i+1->qo a j a[j]:=λhd j hj ab=>by
   exact FM
  obtain⟨r,hd⟩:∃r,r=a[i]:=⟨_,A⟩;have d:=λb=>d b e;rw[<-hd]at u V C bad next x d
  clear Y D hd;obtain⟨dn,dc⟩:=r;simp only[ai.ok]at C;simp only[ai.sz]at V;obtain⟨ar,aE,av⟩:=C;simp only[ai.cs]at x d;have ak:((i:Int)<=(a.length:Int))=True:=bP Zo;simp only[ai.ds,bf,a8,aA.sl]at u;simp only[h,u,go_sem];refine b7 ?_;refine eK _ (isUpper dn ar) Zs A ?_;cases c1:ju dn
  .exact FD
  simp only[go_sem];by_cases c2:dn=qG
  .exact GZ
  have f2:(dn.toList==(⟨#[73,110,116]⟩:BA).toList)=al:=by rw[du];exact bj c2
  simp only[f2,ak,PG,nz,go_sem];refine eK _ (I_ (a.take i) dn kO) cu A ?_;have f3:decide (vo (a.take i) dn>=0)=((a.take i).any λt=>decide (ai.nm t=dn)):=mS _;simp only[f3,go_sem];cases L:(a.take i).any λt=>decide (ai.nm t=dn)
  case true=>
   simp only[go_sem];exact Fz.bool (bad (by rintro⟨h,_⟩;rw[rE,L]at h;simp at h))
  simp only[go_sem];by_cases c4:(dc.length:Int)<1
  .exact Hg
  simp only[bj c4,go_sem];by_cases c5:(dc.length:Int)>4
  .exact Hh
  have Z:sR a i (.mk dn dc)=ad:=by
   have ay:1<=dc.length:=Zo;have az:dc.length<=4:=Zo;rw[rE,c1,L,bj c2,bD ay,bD az];rfl
  simp only[bj c5,go_sem];refine bq 52 dc.length (λb=>Fw.qa 71 [(0,ai.sl a),(12,ai.sl a),(13,I a.length),(14,I i),(3,.mp 11 0),(50,aA.sl dc),(51,I dc.length)] λg K o=>g 11=E ⟨0,0,1,List.replicate (iC a i b).length (B ad),E ((iC a i b).map Value.string)⟩/\∀(j:Nat)(h:j<dc.length),j<b->qh a i j dc[j]) A ⟨A,?_,?_,Zs⟩ ?_
  .exact GY
  .simp[aj,f]
  clear f h;rintro b X g K o _ aC⟨f,an⟩;simp only[go_sem];refine aT (λh=>?_) λh=>?_
  .have l:=bh h;have F:=ax l;have w:=aA.bo dc b l;have R:=aA.gj F;have Q:=aA.dW av _ F;have d:=d b l;have p:¬qh a i b dc[b]->al=decide (om a):=λy=>bad (by rintro⟨_,z⟩;exact y (z b l));have W:qh a i b dc[b]->∀(j:Nat)(h:j<dc.length),j<b+1->qh a i j dc[j]:=λhd j hj ab=>by
    exact Zg
   obtain⟨q,M⟩:∃q,q=dc[b]:=⟨_,A⟩;rw[<-M]at w R Q p W d;clear F M;obtain⟨k,m⟩:=q;have P:aA.ds (.mk k m)=[S k,.sl 3 (O.ae m)]:=by simp[aA.ds,O.sl]
   have vc:=W8 a U (.mk k m) (by simp only[aA.sz]at R⊢;omega) Q;rw[P]at w vc;simp only[aA.nm]at d;simp only[h,w,go_sem];refine bB _ vc (by rw[<-P];simp only[a8,c_,a7];exact⟨ai.cI _,Cl.bu (aA.cl _),Zs⟩) ?_;cases d1:nL a (.mk k m)
   .simp only[go_sem];exact Fz.bool (p (by rintro⟨h,_⟩;rw[d1]at h;cases h))
   rcases Jb k (iC a i b)with⟨G,j,aq,J⟩|⟨G,J⟩
   .have ap:(List.replicate (iC a i b).length (B ad))[j]?=E (B ad):=by rw[List.getElem?_replicate,aM aq]
    simp only[f,J,ap,go_sem];exact Fz.bool (p (by rintro⟨_,h⟩;exact h G))
   .simp only[f,J,q',go_sem];refine bg l ⟨A,?_,?_,W ⟨d1,G⟩⟩
    .exact GY
    .simp only[aj,↓reduceIte,d,bF,bC,bp,cB,di,gG,ek,List.replicate_succ']
  .have ah:=bS h;subst ah;simp only[h,go_sem];refine bg e ⟨A,?_,by rw[<-x];exact f,next ⟨Z,λj hj=>an j hj hj⟩⟩;simp only[ai.sl,a7,cS,ez,eJ,af,↓reduceIte,aP,reduceCtorEq,fa,nr,iK,ji,bT,bU,aI,aV]
 .exact E'
def uw(H:bt)(x:D)(l:aK):Prop:=∃a gn,(a=11\/a=91)/\x=.ms a gn l.length/\H a=E ⟨gn,9,1,l.map λs=>S s,aa⟩
variable {fd:bt}{am:D}{he:aK}
def uw.congr{H':bt}(d:uw fd am he)(h:∀a,(a=11\/a=91)->H' a=fd a):uw H' am he:=by
 obtain⟨a,b,e,f,g⟩:=d;exact⟨a,b,e,f,by exact Zg⟩
def Sj(a:aw)(ab:a.length<=ao)(aS:ai.cG a<=1048576)(aC:ai.eZ a):au 290 [ai.sl a] (B (decide (om a))):=by
 have ah:=ab;unfold ao at ab;have X:=ai.bb a;refine Sp.e [] [.tmp 2] func290 ntmps290 ?_;simp only[X,go_sem];by_cases c0:(a.length:Int)>4
 .exact Ff
 simp only[bj c0,go_sem];refine bq 4 a.length (λi=>Fw.uq 92 [(0,ai.sl a)] λd g q=>uw d (g 3) (iC a i 0)/\∀(j:Nat)(h:j<a.length),j<i->qo a j a[j]) A ⟨A,by simp[ai.sl,ba,af],⟨11,0,.inl A,by simp[af,BV],by simp[aj,BV]⟩,Zs⟩ ?_;rintro i g d q Q _ aQ⟨f,hp⟩;simp only[X,go_sem];refine aT (λh=>?_) λh=>?_
 .have l:=bh h;have J:=ax l;have y:=ai.bo a i l;have am:=ai.gj J;have F:=ai.dW aC _ J;have nQ:=HI a i;have t:=HH a i l;have bad:¬qo a i a[i]->al=decide (om a):=λo=>by
   symm;rw[fZ];rintro⟨_,hh⟩;exact o (hh i l)
  have next:qo a i a[i]->∀(j:Nat)(h:j<a.length),j<i+1->qo a j a[j]:=λhd j hj ar=>by
   exact FM
  have Y:=λaH hp=>Rb aH a i l hp;obtain⟨x,hd⟩:∃x,x=a[i]:=⟨_,A⟩;have nQ:=λb=>nQ b l;rw[<-hd]at y am F bad next t nQ Y
  clear J hd;obtain⟨dn,dc⟩:=x;simp only[ai.ok]at F;simp only[ai.sz]at am;obtain⟨aD,aE,aG⟩:=F;simp only[ai.cs]at t nQ;have aF:=aE;unfold ao at aF;have z:=aA.bb dc;simp only[ai.ds,aA.sl]at y;simp only[h,y,go_sem];refine bB _ (x1 dn aD) Zs ?_;cases c1:ju dn
  .exact FD
  simp only[go_sem];by_cases c2:dn=qG
  .exact GZ
  have f2:(dn.toList==(⟨#[73,110,116]⟩:BA).toList)=al:=by rw[du];exact bj c2
  simp only[f2,go_sem];refine bw (Kq a dn ah) ?_;have Z:=Y (λk=>decide (ai.nm k=dn)) (by simp[ai.nm]);by_cases r:vo a dn=(i:Int)
  case neg=>
   have w:((a.take i).any λk=>decide (ai.nm k=dn))=ad:=by
    cases o:(a.take i).any λk=>decide (ai.nm k=dn)
    .exact absurd (Z.2 o) r
    .rfl
   simp only[rv r,go_sem];exact Fz.bool (bad (by rintro⟨h,_⟩;rw[rE,w]at h;simp at h))
  have w:((a.take i).any λk=>decide (ai.nm k=dn))=al:=Z.1 r;simp only[kR r,z,go_sem];by_cases c4:(dc.length:Int)<1
  .exact Hg
  simp only[bj c4,z,go_sem];by_cases c5:(dc.length:Int)>4
  .exact Hh
  have aq:sR a i (.mk dn dc)=ad:=by
   have aK:1<=dc.length:=Zo;have aL:dc.length<=4:=Zo;rw[rE,c1,w,bj c2,bD aK,bD aL];rfl
  simp only[bj c5,go_sem];refine bq 6 dc.length (λb=>Fw.uq 92 [(0,ai.sl a),(4,I i),(5,.rf 5 (q 5) 0)] λd g _=>d 5=E ⟨q 5,84,2,[S dn,.sl 2 (aA.ae dc)],aa⟩/\uw d (g 3) (iC a i b)/\∀(j:Nat)(h:j<dc.length),j<b->qh a i j dc[j]) A ⟨A,?_,by simp[aj],?_,Zs⟩ ?_
  .exact G7
  .exact f.congr λaM G=>by rcases G with rfl|rfl<;>simp[aj]
  clear f h;rintro b g d aU Q _ aR⟨oV,f,ak⟩;simp only[oV,z,go_sem];refine aT (λh=>?_) λh=>?_
  .have xj:=bh h;have K:=ax xj;have g1:=aA.bo dc b xj;have W:=aA.gj K;have V:=aA.dW aG _ K;have ap:=nQ;have nQ:=nQ b xj;have B2:¬qh a i b dc[b]->al=decide (om a):=λo=>bad (by rintro⟨_,hh⟩;exact o (hh b xj));have Lm:qh a i b dc[b]->∀(j:Nat)(h:j<dc.length),j<b+1->qh a i j dc[j]:=λhd j hj ar=>by
    by_cases C_:j<b
    .exact ak j hj C_
    .have:j=b:=Zo;subst this;exact hd
   obtain⟨u,hc⟩:∃u,u=dc[b]:=⟨_,A⟩;rw[<-hc]at g1 W V B2 Lm nQ;clear K hc;obtain⟨cn,s⟩:=u;have U:aA.ds (.mk cn s)=[S cn,.sl 3 (O.ae s)]:=by simp[aA.ds,O.sl]
   have vc:=Se a ah (.mk cn s) (by simp only[aA.sz]at W⊢;omega) V;rw[U]at g1 vc;simp only[aA.nm]at nQ;simp only[h,oV,g1,go_sem];refine bB _ vc (by rw[<-U];simp only[a8,c_,a7];exact⟨ai.cI _,Cl.bu (aA.cl _),Zs⟩) ?_;cases d1:nL a (.mk cn s)
   .simp only[go_sem];exact Fz.bool (B2 (by rintro⟨h,_⟩;rw[d1]at h;cases h))
   simp only[go_sem];have aB:(iC a i b).length<=1048576:=by
    have aJ:∀(p:aw),((p.map mb).flatten).length<=ai.cG p:=by
     intro p
     induction p with
     |nil=>simp
     |cons P p L=>
      obtain⟨aX,aW⟩:=P;simp only[bp,dN,bF,ai.iV,ia]at L⊢;simp only[ai.sz,mb,ai.cs,bW];omega
    have aO:(iC a i dc.length).length<=ai.cG a:=by
     rw[t,NK];exact fY (aJ _) (ai.vL a (i+1))
    have az:∀m,b+m<=dc.length->(iC a i b).length<=(iC a i (b+m)).length:=by
     intro m
     induction m with
     |zero=>intro _;exact b_ _
     |succ m L=>
      intro ay;have aN:=L Zo;have an:=ap (b+m) Zo;rw[show b+(m+1)=b+m+1 by omega,an,bF];omega
    have:=az (dc.length-b) Zo;rw[show b+(dc.length-b)=dc.length by omega]at this;omega
   obtain⟨nm,Dc⟩:∃nm,nm=iC a i b:=⟨_,A⟩;rw[<-Dc]at f nQ aB;refine bq 7 nm.length (λm=>Fw.uq 92 [(0,ai.sl a),(4,I i),(5,.rf 5 (q 5) 0),(6,I b)] λd g _=>d 5=E ⟨q 5,84,2,[S dn,.sl 2 (aA.ae dc)],aa⟩/\uw d (g 3) nm/\(nm.take m).any (λP=>decide (P=cn))=al) A ⟨A,?_,oV,?_,Zs⟩ ?_
   .exact G7
   .simpa[af]using f
   clear f h oV;rintro m g d Ak Q _ ay⟨oV,f,xc⟩;obtain⟨aM,R,G,e3,xa⟩:=f;rcases G with rfl|rfl
   .simp only[e3,go_sem];refine aT (λh=>?_) λh=>?_
    .have rR:=bh h;have D:((m:Int)<(nm.length:Int))=True:=bP Zo;have C:(List.drop m (nm.map λM=>S M)).head?=E (S nm[m]):=by simp[rR]
     simp only[e3,xa,oV,g1,D,C,lc,go_sem];refine b7 ?_;by_cases hc:nm[m]=cn
     .exact GS
     .have f1:(nm[m].toList==cn.toList)=al:=by rw[du];exact bj hc
      simp only[f1,go_sem];refine bg rR ⟨A,?_,oV,⟨_,R,.inl A,by simp[af,e3],xa⟩,by rw[any_take_succ rR,xc];simp[hc]⟩;exact BR
    .exact GG
   .simp only[e3,go_sem];refine aT (λh=>?_) λh=>?_
    .have rR:=bh h;have D:((m:Int)<(nm.length:Int))=True:=bP Zo;have C:(List.drop m (nm.map λM=>S M)).head?=E (S nm[m]):=by simp[rR]
     simp only[e3,xa,oV,g1,D,C,lc,go_sem];refine b7 ?_;by_cases hc:nm[m]=cn
     .exact GS
     .have f1:(nm[m].toList==cn.toList)=al:=by rw[du];exact bj hc
      simp only[f1,go_sem];refine bg rR ⟨A,?_,oV,⟨_,R,.inr A,by simp[af,e3],xa⟩,by rw[any_take_succ rR,xc];simp[hc]⟩;exact BR
    .exact GG
  .have av:=bS h;subst av;simp only[h,go_sem];refine bg l ⟨A,?_,by rw[<-t];simpa[af]using f,next ⟨aq,λj hj=>ak j hj hj⟩⟩;exact G'
 .exact E'
def JY(l:aF)(p:ah->Bool)(d:bK)(first a:DL)(o:l.length<=ao)(m:∀b∈first,Cl b)(hc:∀b∈a,Cl b)
 (j:∀f∈l,au d (first++[.ag f.ds]++a) (B (p f))):au 93 [ah.sl l,.fn d first a] (I (et p l)):=by
 unfold ao at o;have i:=ah.bb l;refine Sp.e [] [.tmp 4] func93 ntmps93 ?_;simp only[go_sem,i];refine bq 8 l.length (λk=>Fw.Inv 19 [(0,ah.sl l),(1,.fn d first a),(7,I l.length)] ((l.take k).any p=al)) A ⟨A,by simp[ah.sl,ba,af],Zs⟩ ?_;rintro k t r x s _ u hp;simp only[go_sem];refine aT (λh=>?_) λh=>?_
 .have aC:=bh h;have g:=ah.b1 l[k];have q:List.take 12 l[k].ds=l[k].ds:=cU Zo;have w:(l[k].ds).all b4=ad:=by rw[b6];exact ah.one l[k]
  simp only[h,ah.bo l k aC,g,q,go_sem];refine bB _ (j l[k] (ax aC)) (by simp only[lX,a7];exact⟨⟨m,Cl.bu (ah.cl _),Zs⟩,hc⟩) ?_;exact sF
 .exact lH
def ah.nm:ah->ByteArray
 |.mk n _ _=>n
def ah.ty:ah->O
 |.mk _ t _=>t
def ah.bd:ah->Y
 |.mk _ _ b=>b
def dh(ds:aF)(n:BA):Int:=et (λd=>decide (ah.nm d=n)) ds
def P'(a:ah)(b:BA):au 94 [.ag a.ds,.cp [S b]] (B (decide (ah.nm a=b))):=by
 obtain⟨f,⟨j,l,k⟩,⟨g,v,d,⟨m,p,o⟩,i,h⟩⟩:=a;refine Sp.e [] [.tmp 3] func94 ntmps94 ?_;simp only[ah.ds,go_sem];exact Fz.bool (by rw[du];rfl)
def wX(e:aw)(b:aF)(a:BA)(f:b.length<=ao):au 52 [.ag [ai.sl e,ah.sl b],S a] (I (dh b a)):=by
 refine Sp.s [] [.tmp 4] func52 ntmps52 ?_;refine bB _ (JY b (λd=>decide (ah.nm d=a)) _ [] [.cp [S a]] f Zs Zs (λd _=>by simpa using P' d a)) (by simp;exact ah.bA _) ?_;exact wD
def xy(a:aF)(v:BA)(o:a.length<=ao):au 22 [ah.sl a,S v] (I (dh a v)):=by
 unfold ao at o;have m:=ah.bb a;refine Sp.s [] [.tmp 4] func22 ntmps22 ?_;refine bq 5 a.length (λd=>Fw.Inv 20 [(0,ah.sl a),(1,S v)] ((a.take d).any (λb=>decide (ah.nm b=v))=al)) A ⟨A,by simp[ah.sl,ba,af],Zs⟩ ?_;rintro d w q y r _ x hp;simp only[m,go_sem];refine aT (λh=>?_) λh=>?_
 .have f:=bh h;have i:=ah.bo a d f;obtain⟨b,l⟩:∃b,b=a[d]:=⟨_,A⟩;have k:=any_take_succ (p:=λb=>decide (ah.nm b=v)) f;have j:=@kW ah (λb=>decide (ah.nm b=v)) a d f hp;rw[<-l]at i k j;obtain⟨g,u,t⟩:=b;simp only[ah.ds,bf,a8]at i;simp only[h,i,go_sem];by_cases e:g=v
  .have f1:(g.toList==v.toList)=ad:=by rw[du];exact bD e
   simp only[f1,go_sem];exact Fz.int (j (by simp[ah.nm,e])).symm
  .have f1:(g.toList==v.toList)=al:=by rw[du];exact bj e
   simp only[f1,go_sem];refine bg f ⟨A,by simp[af],?_⟩;rw[k,hp];simp[ah.nm,e]
 .exact lH
def Di(g:ah->Bool):∀(a:aF)(b:Nat)(e:b<a.length),g a[b]=ad->0<=et g a/\et g a<=b
 |[],b,e,_=>by simp at e
 |d::a,0,_,f=>by simp at f;simp[et,f]
 |d::a,b+1,e,f=>by
  have:=Di g a b (by simpa using e) (by simpa using f);unfold et;split
  .exact⟨Zo,Zo⟩
  .split<;>omega
def n_:bm->Prop
 |.mk ab ds=>om ab/\1<=ds.length/\ds.length<=8/\∀(i:Nat)(h:i<ds.length),gN (ah.nm ds[i])=ad/\dh ds (ah.nm ds[i])=(i:Int)/\fK (ah.ty ds[i])=ad/\jE (ah.bd ds[i])=ad
def Nh(l:bm)(ae:l.sz<=1048576)(F:l.ok):au 51 [.ag l.ds] (B (decide (n_ l))):=by
 obtain⟨i,a⟩:=l;simp only[bm.ok]at F;simp only[bm.sz]at ae;obtain⟨am,an,L,aq⟩:=F;have ap:=L;unfold ao at ap;have r:=ah.bb a;refine Sp.e [] [.tmp 2] func51 ntmps51 ?_;simp only[bm.ds,go_sem];refine bB _ (W' i am Zo an) (by simp;exact ai.bA _) ?_;by_cases c0:om i
 case neg=>
  exact Fc
 simp only[bD c0,r,go_sem];by_cases x:(a.length:Int)<1
 .simp only[bD x,go_sem];refine Fz.bool ?_;symm;rw[fZ];rintro⟨_,h,_⟩;omega
 simp only[bj x,r,go_sem];by_cases y:(a.length:Int)>8
 .simp only[bD y,go_sem];refine Fz.bool ?_;symm;rw[fZ];rintro⟨_,_,h,_⟩;omega
 simp only[bj y,r,go_sem];refine bq 24 a.length (λf=>Fw.Inv 54 [(1,.cp [ai.sl i,ah.sl a]),(22,ah.sl a),(23,I a.length)] (∀(j:Nat)(h:j<a.length),j<f->gN (ah.nm a[j])=ad/\dh a (ah.nm a[j])=(j:Int)/\fK (ah.ty a[j])=ad/\jE (ah.bd a[j])=ad)) A ⟨A,by simp[ah.sl,ai.sl,ba,af],Zs⟩ ?_;rintro f aA ay aH az _ aE hp;simp only[go_sem];refine aT (λh=>?_) λh=>?_
 .have k:=bh h;have w:=ax k;have m:=ah.bo a f k;have J:=ah.gj w;have t:=ah.dW aq _ w;have s:=Di (λQ=>decide (ah.nm Q=ah.nm a[f])) a f k Zs;have bad:¬(gN (ah.nm a[f])=ad/\dh a (ah.nm a[f])=(f:Int)/\fK (ah.ty a[f])=ad/\jE (ah.bd a[f])=ad)->al=decide (n_ (.mk i a)):=λU=>by
   symm;rw[fZ];rintro⟨_,_,_,Z⟩;exact U (Z f k)
  have next:(gN (ah.nm a[f])=ad/\dh a (ah.nm a[f])=(f:Int)/\fK (ah.ty a[f])=ad/\jE (ah.bd a[f])=ad)->∀(j:Nat)(h:j<a.length),j<f+1->gN (ah.nm a[j])=ad/\dh a (ah.nm a[j])=(j:Int)/\fK (ah.ty a[j])=ad/\jE (ah.bd a[j])=ad:=λq j hj aF=>by
   exact Zg
  obtain⟨o,q⟩:∃o,o=a[f]:=⟨_,A⟩;rw[<-q]at m J t bad next s
  clear w q;obtain⟨g,d,b⟩:=o;simp only[ah.ok]at t;simp only[ah.sz]at J;obtain⟨ar,av,aw⟩:=t;simp only[ah.nm,ah.ty,ah.bd]at bad next s
  have u:=O.b1 d;have p:=Y.b1 b;have V:List.take 8 b.ds=b.ds:=cU Zo;have C:ah.ds (.mk g d b)=[S g]++(d.ds++b.ds):=by simp[ah.ds]
  have G:([S g]++(d.ds++b.ds)).all b4=ad:=by rw[<-C,b6];exact ah.one _
  rw[C]at m;have W:List.drop 1 ([S g]++(d.ds++b.ds))=d.ds++b.ds:=A;have D:([S g]++(d.ds++b.ds)).length=12:=by simp[u,p]
  have K:List.take 12 ([S g]++(d.ds++b.ds))=[S g]++(d.ds++b.ds):=cU Zo;simp only[bf,a8]at m G W D K;have aB:List.drop 1 (d.ds++b.ds)=List.drop 1 (d.ds++b.ds):=A;have X:List.drop 3 (d.ds++b.ds)=b.ds:=by exact Zg
  have ak:List.take 3 (d.ds++b.ds)=d.ds:=by exact Zg
  have ab:(3<=(d.ds++b.ds).length)=True:=bP (by simp[u]);have aG:(12<=(S g::(d.ds++b.ds)).length)=True:=bP Zg;have aC:(d.ds++b.ds).length=11:=by simp[u,p]
  have R:(d.ds++b.ds).all b4=ad:=by simpa[b4,Value.oneCell']using G
  simp only[h,m,K,D,R,go_sem];refine bB _ (isLower g ar) Zs ?_;cases M:gN g
  .exact yu
  simp only[go_sem];refine bw (wX i a g L) ?_;have aD:0<=dh a g/\dh a g<=f:=s;by_cases z:dh a g<(f:Int)
  .simp only[bD z,go_sem];exact Fz.bool (bad (by rintro⟨_,h,_⟩;omega))
  simp only[bj z,ak,ab,go_sem];refine bB _ (EN d Zo av) (by simp;exact O.cl _) ?_;cases c5:fK d
  .exact FL
  simp only[X,p,V,go_sem];refine bB _ (Xb b Zo aw) (by simp;exact Y.cl _) ?_;cases P:jE b
  .exact yu
  simp only[go_sem];refine bg k ⟨A,?_,next ⟨M,Zo,c5,P⟩⟩;simp only[a7,cS,ez,eJ,af,↓reduceIte,aP,iK,ji,bT,bU,aI,aV,reduceCtorEq]
 .exact Hz
def Sz(k:bm)(M:k.sz<=1048576)(x:k.ok):au 273 [.cp k.ds] (B (decide (n_ k))):=by
 obtain⟨m,a⟩:=k;simp only[bm.ok]at x;simp only[bm.sz]at M;obtain⟨R,U,z,W⟩:=x;have V:=z;unfold ao at V;have u:=ah.bb a;refine Sp.e [] [.tmp 2] func273 ntmps273 ?_;simp only[bm.ds,go_sem];refine bB _ (Sj m R Zo U) (by simp;exact ai.bA _) ?_;by_cases c0:om m
 case neg=>
  exact Fc
 simp only[bD c0,u,go_sem];refine bB _ (o5 _ _ _) Zs ?_;cases t:a1 a.length 1 8
 .simp only[go_sem];refine Fz.bool ?_;symm;rw[fZ];rintro⟨_,h,an,_⟩;rw[a1,fZ]at t;omega
 rw[a1,cO]at t;simp only[go_sem];refine bq 3 a.length (λb=>Fw.Inv 69 [(0,.cp [ai.sl m,ah.sl a])] (∀(j:Nat)(h:j<a.length),j<b->gN (ah.nm a[j])=ad/\dh a (ah.nm a[j])=(j:Int)/\fK (ah.ty a[j])=ad/\jE (ah.bd a[j])=ad)) A ⟨A,by simp[ah.sl,ai.sl,ba,af],Zs⟩ ?_;rintro b am ae ar ak _ ap hp;simp only[u,go_sem];refine aT (λh=>?_) λh=>?_
 .have i:=bh h;have s:=ax i;have o:=ah.bo a b i;have y:=ah.gj s;have r:=ah.dW W _ s;have w:=Di (λF=>decide (ah.nm F=ah.nm a[b])) a b i Zs;have bad:¬(gN (ah.nm a[b])=ad/\dh a (ah.nm a[b])=(b:Int)/\fK (ah.ty a[b])=ad/\jE (ah.bd a[b])=ad)->al=decide (n_ (.mk m a)):=λG=>by
   symm;rw[fZ];rintro⟨_,_,_,K⟩;exact G (K b i)
  have next:(gN (ah.nm a[b])=ad/\dh a (ah.nm a[b])=(b:Int)/\fK (ah.ty a[b])=ad/\jE (ah.bd a[b])=ad)->∀(j:Nat)(h:j<a.length),j<b+1->gN (ah.nm a[j])=ad/\dh a (ah.nm a[j])=(j:Int)/\fK (ah.ty a[j])=ad/\jE (ah.bd a[j])=ad:=λq j hj aq=>by
   exact Zg
  obtain⟨p,q⟩:∃p,p=a[b]:=⟨_,A⟩;rw[<-q]at o y r bad next w
  clear s q;obtain⟨g,f,d⟩:=p;simp only[ah.ok]at r;simp only[ah.sz]at y;obtain⟨X,Z,ab⟩:=r;simp only[ah.nm,ah.ty,ah.bd]at bad next w
  have P:=O.b1 f;have J:ah.ds (.mk g f d)=[S g]++(f.ds++d.ds):=by simp[ah.ds]
  rw[J]at o;simp only[bf,a8]at o;have I:List.drop 3 (f.ds++d.ds)=d.ds:=by exact Zg
  have Q:List.take 3 (f.ds++d.ds)=f.ds:=by exact Zg
  have L:(3<=(f.ds++d.ds).length)=True:=bP (by simp[P]);simp only[h,o,go_sem];refine b7 ?_;refine eK _ (AU g X) Zs A ?_;cases C:gN g
  .exact yu
  simp only[go_sem];refine d' (xy a g z) ?_;by_cases l:dh a g=(b:Int)
  case neg=>
   simp only[rv l,go_sem];exact Fz.bool (bad (by rintro⟨_,h,_⟩;exact l h))
  simp only[kR l,Q,L,go_sem];refine eK _ (En f Zo Z) (by simp;exact O.cl _) A ?_;cases c5:fK f
  .exact FL
  simp only[I,Y.b1 d,cU Zo,go_sem];refine eK _ (Sy d Zo ab) (by simp;exact Y.cl _) A ?_;cases D:jE d
  .exact yu
  simp only[go_sem];refine bg i ⟨A,?_,next ⟨C,l,c5,D⟩⟩;exact G'
 .exact Hz
end
def jk(l:aK)(v:BA):Bool:=l.any λx=>decide (x=v)
def bN(k:Int)(n:BA)(ns:aK)(i:Nat):aK:=if k=4\/k=7/\i=1 then[n]else if k=10 then ns else[]
mutual
def eA:Y->List ByteArray->List ByteArray->List ByteArray
 |.mk k v n ty ns ks,sc,out=>fw k n ns ks 0 sc (if decide (k=1)&&!jk sc n&&!jk out n then out++[n]else out)
def fw(k:Int)(n:ByteArray)(ns:List ByteArray):List Y->Nat->List ByteArray->List ByteArray->List ByteArray
 |[],_,_,out=>out
 |t::l,i,sc,out=>fw k n ns l (i+1) sc (eA t (sc++bN k n ns i) out)
end
def zp{k:Int}{n:BA}{ns sc:aK}:∀(d:a_)(b a:Nat)(e:aK)(f:b<d.length),fw k n ns (d.take (b+1)) a sc e=eA d[b] (sc++bN k n ns (a+b)) (fw k n ns (d.take b) a sc e)
 |t::d,0,a,e,f=>by simp[fw]
 |t::d,b+1,a,e,f=>by
  have:=zp (k:=k) (n:=n) (ns:=ns) (sc:=sc) d b (a+1) (eA t (sc++bN k n ns a) e) (by simpa using f);simp only[ix,fw,i1];rw[this,show a+1+b=a+(b+1)by omega]
mutual
def w9:∀(t:Y)(sc out:List ByteArray),(eA t sc out).length<=out.length+t.num
 |.mk k v n ty ns ks,sc,out=>by
  rw[eA,Y.num];have:=uX k n ns ks 0 sc (if decide (k=1)&&!jk sc n&&!jk out n then out++[n]else out);split at this<;>rename_i h<;>simp only[h,aI]<;>simp at this⊢<;>omega
def uX(k:Int)(n:ByteArray)(ns:List ByteArray):∀(l:List Y)(i:Nat)(sc out:List ByteArray),(fw k n ns l i sc out).length<=out.length+Y.aR l
 |[],i,sc,out=>by simp[fw,Y.aR]
 |t::l,i,sc,out=>by
  rw[fw,Y.aR];have a:=w9 t (sc++bN k n ns i) out;have b:=uX k n ns l (i+1) sc (eA t (sc++bN k n ns i) out);omega
end
def yI(d:Int)(e:BA)(a:aK)(b:Nat):(bN d e a b).length<=a.length+1:=by
 unfold bN;split
 .simp
 .split<;>simp
def vI(a:aK):∀b∈a.map (λd=>[S d]),b.length=1:=Zs
def B5(k v:Int)(n:BA)(b:Int)(e:BA)(d:cz)(ns:aK)(a:a_)(i:Nat):au 135 [.ag (Y.ds (.mk k v n (.mk b e d) ns a)),I i] (strs (bN k n ns i)):=by
 refine Sp.s [] [.tmp 4] func135 ntmps135 ?_;exact FW
def Dy(k v:Int)(n:BA)(b:Int)(e:BA)(d:cz)(ns:aK)(a:a_)(i:Nat):au 237 [.cp (Y.ds (.mk k v n (.mk b e d) ns a)),I i] (strs (bN k n ns i)):=by
 refine Sp.s [] [.tmp 4] func237 ntmps237 ?_;exact FW
def QB(m:Nat)(d:m<=1099511627776):gp aB 341 [a',I m] 9 1 []:=by
 refine gp.eo [] [.tmp 4] func341 A Zk ntmps341 A Zs ?_ ?_
 .simp
 have f0:decide ((m:Int)<0)=al:=Zs;have a:IntKind.i64.wrap ((m:Int)-0)=(m:Int):=by have:=cW ((m:Int)-0) Zo;rw[this];omega
 have b:IntKind.i64.wrap ((0:Int)-0)=0:=A;simp only[f0,a,b,go_sem];by_cases c0:m=0
 .exact Fu
 have f1:decide ((m:Int)>0)=ad:=by simp;omega
 simp only[f1,lY,go_sem];exact⟨⟨Zo,Zo,by unfold ao;omega⟩,.inr ⟨22,⟨0,9,1,(List.replicate m [S ByteArray.empty]).flatten,aa⟩,A,A,A,A,⟨_,A⟩,A⟩⟩
abbrev R(l:aK):ct:=l.map λs=>[S s]
def wo(a:aK):(R a).flatten=a.map S:=by induction a with
 |nil=>rfl
 |cons d a b=>simp only[bp,dN,bf,a8,vZ,nr];exact b
def lG(a:aK):(R a).length=a.length:=Zs
def wl(a b:aK):R (a++b)=R a++R b:=Zs
def NH(b:aK):∀d∈R b,∀a∈d,Cl a:=Zs
def oL(a:aK):Cl (.sl 1 (R a)):=jW a
def yo(b:aK):∀a∈(R b).flatten,Cl a:=by rw[wo];simp
variable {g4:aD}{fd:bt}{bv:aQ}{he:aK}{am:D}
def aH.zu(a:aH g4 fd bv 1 (R he) am):Fz fd am (.sl 1 (R he)):=a.fz Zd (vI he) Zs
def IM(ps:List (aK))(V:ps.length<=1048576)(M:ps.flatten.length<=1099511627776):au 339 [.sl 1 (ps.map λb=>[.sl 1 (R b)])] (.sl 1 (R ps.flatten)):=by
 have x:(ps.map λb=>[D.sl 1 (R b)]).length=ps.length:=Zs;have z:∀k,(ps.take k).flatten.length<=ps.flatten.length:=λk=>by
  exact Hm
 have y:∀k(a:k<ps.length),(ps.take (k+1)).flatten=(ps.take k).flatten++ps[k]:=λk a=>by
  rw[ch a,fN];simp
 refine Sp.e [1000033] [.tmp 2] func339 ntmps339 ?_;simp only[x,go_sem];refine hC 11 ps.length (λk=>Fw.Inv 36 [(0,.sl 1 (ps.map λb=>[D.sl 1 (R b)])),(9,.sl 1 (ps.map λb=>[D.sl 1 (R b)])),(10,I ps.length),(3,I ((ps.take k).flatten.length:Nat))] True) A ⟨A,by simp[ba,af],trivial⟩ ?_;rintro k⟨j,h,r,Q,s⟩L d⟨rfl,g,-⟩;simp only[a7]at d g;obtain⟨e0,e9,uS,i,-⟩:=g;simp only[d,uS,go_sem];refine aT (λa=>?_) λa=>?_
 .have aC:=bh a;have m:(ps.map λb=>[D.sl 1 (R b)])[k]?=E [D.sl 1 (R ps[k])]:=by simp[aC]
  have K:(R ps[k]).length=ps[k].length:=Zs;have o:=z (k+1);have h2:=y k aC;rw[h2,bF]at o;have S:IntKind.i64.wrap (((ps.take k).flatten.length:Nat)+(ps[k].length:Nat):Int)=(((ps.take (k+1)).flatten.length:Nat):Int):=by
   exact Hu
  have f0:decide ((((ps.take (k+1)).flatten.length:Nat):Int)<0)=al:=Zs;simp only[a,d,e9,i,m,K,S,f0,go_sem];exact G4
 .have q:=bS a;subst q;rw[b9]at i;simp only[a,i,go_sem];refine yP 9 1 [] (QB _ M) Zs ?_;intro h r X f w;simp only[e0,x,go_sem];have G:cy aB 60=E (9,1,16):=Zk;refine hC 27 ps.length (λk=>Fw.cK 36 [(25,.sl 1 (ps.map λb=>[D.sl 1 (R b)])),(26,I ps.length)] λj h r s=>aH [24,33] h 9 1 (R (ps.take k).flatten) (j 6)) A ⟨A,by simp[af],by simpa[af]using f.sub Zs⟩ ?_;clear e0 e9 uS i d f w a;rintro k⟨j,h,r,Q,s⟩L d⟨rfl,g,f⟩;simp only[a7]at d g f;obtain⟨t,u,-⟩:=g;simp only[d,u,go_sem];refine aT (λa=>?_) λa=>?_
  .have aC:=bh a;have m:(ps.map λb=>[D.sl 1 (R b)])[k]?=E [D.sl 1 (R ps[k])]:=by simp[aC]
   have o:=z (k+1);have h2:=y k aC;rw[h2,bF]at o;simp only[a,d,t,m,go_sem];refine GK.uE (rows:=R (ps.take k).flatten) (bx:=R ps[k]) Zd G (by simpa[af]using f) (vI _) (by simp[af,cF]) (by intro P;simp only[af,aI];rw[P]) (by rw[wo];simp[b4,Value.oneCell']) (by rw[lG,lG];omega) (by rw[lG,lG];unfold ao;omega) λU W Y J p O w=>?_;have F:J 27=I k:=by rw[p 27 Zd];simp[af,d]
   have B:=(p 25 Zd).trans (by simp[af];exact t);have C:=(p 26 Zd).trans (by simp[af];exact u);simp only[F,go_sem];refine bg aC ⟨A,by simp only[B,C,a7,cS,ez,eJ,af,↓reduceIte,aP,iK,ji],?_⟩;simp only[af,aI];rw[h2,wl];exact O.sub Zs
  .have q:=bS a;subst q;rw[b9]at f;simp only[a,go_sem];exact aH.zu f
def Kv(a b:aK)(h:a.length+b.length<=1099511627776):au 277 [.sl 1 (R a),.sl 1 (R b)] (.sl 1 (R (a++b))):=by
 have d:(R a).flatten.all b4=ad:=by rw[wo];simp[b4,Value.oneCell']
 have g:(R b).flatten.all b4=ad:=by rw[wo];simp[b4,Value.oneCell']
 have f:(R a).flatten.length=a.length:=by rw[wo];simp
 refine Sp.e [] [.tmp 4] func277 ntmps277 ?_;simp only[lG a,lG b,d,g,f,lc,go_sem];refine⟨⟨Zo,by unfold ao;omega⟩,⟨Zo,by unfold ao;omega⟩,?_⟩;exact Fz.rows (rows:=R (a++b)) A A A Zd Zs (vI _) Zg (NH _)
def NL(k v:Int)(n:BA)(tk:Int)(tn:BA)(az:cz)(ns:aK)(ks:a_)(q:k=1->ks=[])(u:ks.length<=1048576)(sc out:aK)
 (p:sc.length+(Y.mk k v n (.mk tk tn az) ns ks).sz+1<=1099511627776) (r:out.length+(Y.mk k v n (.mk tk tn az) ns ks).num<=1099511627776)
 (fU:∀a∈ks,∀f e:aK,f.length+a.sz+1<=1099511627776->e.length+a.num<=1099511627776->ib aB 331 [.ag a.ds,.sl 1 (R f)] [] 9 1 (R e) (R (eA a f e))):
 ib aB 331 [.ag (Y.ds (.mk k v n (.mk tk tn az) ns ks)),.sl 1 (R sc)] [] 9 1 (R out) (R (eA (.mk k v n (.mk tk tn az) ns ks) sc out)):=by
 have t:=Y.bb ks;have o:cy aB 60=E (9,1,16):=Zk;simp only[Y.sz]at p;simp only[Y.num]at r;have g:=y7 sc n iM;have i:=y7 out n iM;simp only[strs]at g i;refine ib.Av [1000030] [.tmp 6] func331 A Zk ntmps331 A Zs ?_ ?_ ?_
 .exact yo out
 .exact yo _
 intro a H w hx;have hx:=hx;have d:eA (.mk k v n (.mk tk tn az) ns ks) sc out=fw k n ns ks 0 sc (if decide (k=1)&&!jk sc n&&!jk out n then out++[n]else out):=A;simp only[go_sem];by_cases b:k=1
 .have f1:(k==1)=ad:=by simp[b]
  simp only[f1,go_sem];refine bB _ g Zs ?_;cases l:sc.any λa=>decide (a=n)
  .simp only[go_sem];refine sN [.sl 1 (R out),S n] _ i A (by simp only[a8,c_,ot,ou,a7];exact⟨aH.zu hx,.cl _ (aO _),Zs⟩) A ?_;cases m:out.any λa=>decide (a=n)
   .simp only[go_sem];have s:eA (.mk k v n (.mk tk tn az) ns ks) sc out=out++[n]:=by rw[d,q b];simp[fw,jk,l,m,b]
    refine GK.intro (dS.eF (S:=[2]) (rows:=R out) (bx:=R [n]) o (by simp only[af,aI,aV,aP];exact hx.congr bJ) (vI _) ga Zs nD (by rw[lG,lG];simp;omega) (by rw[lG,lG];simp only[di,gG];unfold ao;omega) λH' n' x' nV hH=>?_);simp only[go_sem];rw[s,wl];exact nV.close
   .simp only[go_sem];have td:eA (.mk k v n (.mk tk tn az) ns ks) sc out=fw k n ns ks 0 sc out:=by rw[d];simp[jk,m]
    exact Z5
  .simp only[go_sem];have td:eA (.mk k v n (.mk tk tn az) ns ks) sc out=fw k n ns ks 0 sc out:=by rw[d];simp[jk,l]
   exact Z5
 .have f1:(k==1)=al:=by simp[b]
  simp only[f1,go_sem];have td:eA (.mk k v n (.mk tk tn az) ns ks) sc out=fw k n ns ks 0 sc out:=by rw[d];simp[b]
  refine bq 34 ks.length (λj=>Fw.cK 50 [(1,.sl 1 (R sc)),(3,.cp [I k,I v,S n,I tk,S tn,.sl 3 (O.ae az),.sl 1 (R ns),.sl 8 (Y.ae ks)]),(32,.sl 8 (Y.ae ks)),(33,I ks.length)] λenv H n' T=>aH [2,47] H 9 1 (R (fw k n ns (ks.take j) 0 sc out)) (env 2)) A ⟨A,by simp[ba,af],by simpa[af,ba,fw]using hx.sub Zs⟩ ?_;clear hx f1;rintro j env H n' T _ hj hx;obtain⟨y,e2⟩:=Zx (env 2);rw[e2]at hx;simp only[go_sem];refine aT (λh=>?_) λh=>?_
  .have aC:=bh h;have o2:=ax aC;have g0:=Y.bo ks j aC;have mQ:=Y.b1 ks[j];have nU:List.take 8 ks[j].ds=ks[j].ds:=cU Zo;have zL:(ks[j].ds).all b4=ad:=by rw[b6];exact Y.one ks[j]
   have u_:=Y.gj o2;have s_:=yI k n ns j;have u7:=uX k n ns (ks.take j) 0 sc out;have Dd:=Y.iU ks j aC;have nT:=Y.mY ks (j+1);have ta:=B5 k v n tk tn az ns ks j;have nR:=IM [sc,bN k n ns j] Zs (by simp only[dN,fX,c_,bF];omega);have qz:=fU ks[j] o2 (sc++bN k n ns j) (fw k n ns (ks.take j) 0 sc out) (by rw[bF];omega) Zo;exact F1
  .exact Fh
variable {a0:Int}{dg:BA}{go:O}{hw:a_}
def s6{v:Int}(a:dE (.mk a0 v dg go he hw)=ad):(a0=1->hw=[])/\∀d∈hw,dE d=ad:=by
 rw[dE,Y.aY,Y.gB,b3,b6]at a;refine⟨λb=>?_,a.2⟩;have:=a.1;simp only[nh,fJ,b3,a1,cO]at this;have:=this.1.1;simp only[cN,b,true_or,aI]at this;exact List.eq_nil_of_length_eq_zero Zo
def HK(a:Y)(b:dE a=ad)(e d:aK)(f:e.length+a.sz+1<=1099511627776)(g:d.length+a.num<=1099511627776):ib aB 331 [.ag a.ds,.sl 1 (R e)] [] 9 1 (R d) (R (eA a e d)):=by
 match a,b,f,g with
 |.mk j v q (.mk u x w) r k,b,f,g=>
 obtain⟨h,m⟩:=s6 b;have p:k.length<=1048576:=by
  by_cases o:j=1
  .rw[h o];simp
  .rw[dE,Y.aY,b3]at b;have:=b.1;simp only[nh,fJ,b3,a1,cO]at this;have:=this.1.1.2;simp only[cN]at this
   repeat' split at this
   all_goals simp only at this
   all_goals omega
 exact NL j v q u x w r k h p e d f g λl i t s=>HK l (m l i) t s
termination_by a
decreasing_by all_goals(have:=cH i;simp;omega)
def Qk(a:Y)(f:dE a=ad)(m:a.sz<=1048576):au 316 [.ag a.ds] (.sl 1 (R (eA a [] []))):=by
 have d:=Y.b1 a;have g:List.take 8 a.ds=a.ds:=cU Zo;have l:(a.ds).all b4=ad:=by rw[b6];exact Y.one a
 have k:=Y.tG a;have b:=Y.cl a;refine Sp.e [] [.tmp 2] func316 ntmps316 ?_;simp only[d,g,go_sem];refine qj [] [.ag a.ds,a'] [] _ 9 1 _ _ ((HK a f [] [] de de).Ac .rfl .nil) A .nil (by simp;exact b) ?_;intro i o p h j;simp only[go_sem];exact aH.zu h
def Sr(k v:Int)(n:BA)(tk:Int)(tn:BA)(az:cz)(ns:aK)(ks:a_)(z:ks.length<=1048576)(sc out:aK)
 (w:sc.length+(Y.mk k v n (.mk tk tn az) ns ks).sz+1<=1099511627776) (x:out.length+(Y.mk k v n (.mk tk tn az) ns ks).num<=1099511627776)
 (fU:∀a∈ks,∀p l:aK,p.length+a.sz+1<=1099511627776->l.length+a.num<=1099511627776->ib aB 239 [.cp a.ds,.sl 1 (R p)] [] 9 1 (R l) (R (eA a p l))):
 ib aB 239 [.cp (Y.ds (.mk k v n (.mk tk tn az) ns ks)),.sl 1 (R sc)] [] 9 1 (R out) (R (eA (.mk k v n (.mk tk tn az) ns ks) sc out)):=by
 have iR:=Y.bb ks;have u:cy aB 60=E (9,1,16):=Zk;simp only[Y.sz]at w;simp only[Y.num]at x;obtain⟨s,q,b⟩:=Dx sc n iM;obtain⟨t,r,d⟩:=Dx out n iM;simp only[strs]at q r;refine ib.Av [1000037] [.tmp 6] func239 A Zk ntmps239 A Zs ?_ ?_ ?_
 .exact yo out
 .exact yo _
 intro a H C hx;have hx:=hx;have f:eA (.mk k v n (.mk tk tn az) ns ks) sc out=fw k n ns ks 0 sc (if decide (k=1)&&!jk sc n&&!jk out n then out++[n]else out):=A;simp only[go_sem];by_cases e:k=1
 .have f1:(k==1)=ad:=by simp[e]
  simp only[f1,go_sem];refine bB _ q Zs ?_;cases g:sc.any λa=>decide (a=n)
  .have m:decide (s<0)=ad:=by rw[g]at b;simp at b;simpa using b
   simp only[m,go_sem];refine sN [.sl 1 (R out),S n] _ r A (by simp only[a8,c_,ot,ou,a7];exact⟨aH.zu hx,.cl _ (aO _),Zs⟩) A ?_;cases i:out.any λa=>decide (a=n)
   .have o:decide (t<0)=ad:=by rw[i]at d;simp at d;simpa using d
    simp only[o,go_sem];refine GK.intro (dS.eF (S:=[2]) (rows:=R out) (bx:=R [n]) u (by simp only[af,aI,aV,aP];exact hx.congr bJ) (vI _) ga Zs nD (by rw[lG,lG];simp;omega) (by rw[lG,lG];simp only[di,gG];unfold ao;omega) λH' n' x' nV hH=>?_);have td:eA (.mk k v n (.mk tk tn az) ns ks) sc out=fw k n ns ks 0 sc (out++[n]):=by rw[f];simp[jk,g,i,e]
    rw[<-wl]at nV;have B:(out++[n]).length+Y.aR ks<=1099511627776:=by rw[bF,kJ];omega
    try simp only[go_sem]
    refine bq 7 ks.length (λj=>Fw.cK 61 [(0,.cp [I k,I v,S n,I tk,S tn,.sl 3 (O.ae az),.sl 1 (R ns),.sl 8 (Y.ae ks)]),(1,.sl 1 (R sc))] λenv H n' T=>aH [2,37,59] H 9 1 (R (fw k n ns (ks.take j) 0 sc (out++[n]))) (env 2)) A ⟨A,by simp[ba,af],by simpa[af,ba,fw]using(nV).sub (S':=[2,37,59]) Zs⟩ ?_;clear hx f1;rintro j env H n' T _ hj hx;obtain⟨y,e2⟩:=Zx (env 2);rw[e2]at hx;simp only[iR,go_sem];refine aT (λh=>?_) λh=>?_
    .have aC:=bh h;have o2:=ax aC;have g0:=Y.bo ks j aC;have u_:=Y.gj o2;have s_:=yI k n ns j;have u7:=uX k n ns (ks.take j) 0 sc (out++[n]);have Dd:=Y.iU ks j aC;have nT:=Y.mY ks (j+1);have ta:=Dy k v n tk tn az ns ks j;have nR:=Kv sc (bN k n ns j) Zo;have qz:=fU ks[j] o2 (sc++bN k n ns j) (fw k n ns (ks.take j) 0 sc (out++[n])) (by rw[bF];omega) Zo;have iS:=zp (k:=k) (n:=n) (ns:=ns) (sc:=sc) ks j 0 (out++[n]) aC;exact F5
    .exact Fh
   .have o:decide (t<0)=al:=by rw[i]at d;simp at d;simpa using d
    simp only[o,go_sem];have td:eA (.mk k v n (.mk tk tn az) ns ks) sc out=fw k n ns ks 0 sc out:=by rw[f];simp[jk,i]
    exact Bm
  .have m:decide (s<0)=al:=by rw[g]at b;simp at b;simpa using b
   simp only[m,go_sem];have td:eA (.mk k v n (.mk tk tn az) ns ks) sc out=fw k n ns ks 0 sc out:=by rw[f];simp[jk,g]
   exact Bm
 .have f1:(k==1)=al:=by simp[e]
  simp only[f1,go_sem];have td:eA (.mk k v n (.mk tk tn az) ns ks) sc out=fw k n ns ks 0 sc out:=by rw[f];simp[e]
  exact Bm
def Dz(a:Y)(b:dE a=ad)(e d:aK)(f:e.length+a.sz+1<=1099511627776)(g:d.length+a.num<=1099511627776):ib aB 239 [.cp a.ds,.sl 1 (R e)] [] 9 1 (R d) (R (eA a e d)):=by
 match a,b,f,g with
 |.mk m v o (.mk s u t) p i,b,f,g=>
 obtain⟨w,k⟩:=s6 b;have l:i.length<=1048576:=by
  rw[dE,Y.aY,b3]at b;have:=b.1;simp only[nh,fJ,b3,a1,cO]at this;have:=this.1.1.2;simp only[cN]at this
  repeat' split at this
  all_goals simp only at this
  all_goals omega
 exact Sr m v o s u t p i l e d f g λj h r q=>Dz j (k j h) r q
termination_by a
decreasing_by all_goals(have:=cH h;simp;omega)
def oW(d:ai)(n:BA):Bool:=(ai.cs d).any λc=>decide (aA.nm c=n)
def fD(ab:aw)(n:BA):Int:=et (λd=>oW d n) ab
def tW(d:ai)(n:BA):Int:=et (λc=>decide (aA.nm c=n)) (ai.cs d)
def je(a:Int)(ab:aw)(n:BA):Int:=if fD ab n<0 then a else match ab[(fD ab n).toNat]? with|some d=>tW d n|none=>a
variable {a4:aw}{h:Nat}
def Ck(a:h<a4.length)(b:fD a4 dg=(h:Int)):je a0 a4 dg=tW a4[h] dg:=by
 unfold je;rw[b,av Zo];simp[a]
def Pr(a:fD a4 dg=-1):je a0 a4 dg=a0:=by unfold je;rw[a];rfl
def uV(ab:aw)(n:BA)(x:ab.length<=1048576)(o:∀a∈ab,(ai.cs a).length<=1048576):au 134 [ai.sl ab,S n] (.tp [I (fD ab n),I (je 0 ab n)]):=by
 have s:=ai.bb ab;refine Sp.e [] [.tmp 4,.tmp 5] func134 ntmps134 ?_;simp only[go_sem,s];refine bq 12 ab.length (λi=>Fw.Inv 33 [(1,S n),(10,ai.sl ab),(11,I ab.length)] ((ab.take i).any (λa=>oW a n)=al)) A ⟨A,by simp[ai.sl,ba,af],Zs⟩ ?_;rintro i m k z l _ j hp;simp only[go_sem];refine aT (λh=>?_) λh=>?_
 .have aC:=bh h;have d:=ai.bo ab i aC;have g:=o _ (ax aC);have zG:=@kW ai (λa=>oW a n) ab i aC hp;have zN:=any_take_succ (p:=λa=>oW a n) aC;have zA (j:fD ab n=(i:Int)):=(Ck aC j:je 0 ab n=_);obtain⟨a,r⟩:∃a,a=ab[i]:=⟨_,A⟩;rw[<-r]at d g zG zN zA;obtain⟨dn,cs⟩:=a;simp only[ai.cs]at g;have u:=aA.bb cs;simp only[ai.ds,aA.sl]at d;simp only[h,d,u,go_sem];refine bq 20 cs.length (λt=>Fw.uq 33 [(1,S n),(10,ai.sl ab),(11,I ab.length),(12,I i),(6,I i),(18,.sl 2 (aA.ae cs)),(19,I cs.length)] λ_ _ _=>(cs.take t).any (λb=>decide (aA.nm b=n))=al) A ⟨A,by simp[ai.sl,af],Zs⟩ ?_;rintro t m k B l _ y hq;simp only[go_sem];refine aT (λh=>?_) λh=>?_
  .have pO:=bh h;have f:=aA.bo cs t pO;have zH:=@kW aA (λb=>decide (aA.nm b=n)) cs t pO hq;have zO:=any_take_succ (p:=λb=>decide (aA.nm b=n)) pO;have zJ:=ax pO;obtain⟨b,q⟩:∃b,b=cs[t]:=⟨_,A⟩;rw[<-q]at f zH zO zJ;obtain⟨cn,w⟩:=b;simp only[aA.ds,O.sl]at f;simp only[h,f,go_sem];exact GF
  .exact Hb
 .exact He
def rX(ab:aw)(n:BA)(x:ab.length<=1048576)(m:∀a∈ab,(ai.cs a).length<=1048576):au 120 [ai.sl ab,S n] (.tp [I (fD ab n),I (je (-1) ab n)]):=by
 have r:=ai.bb ab;refine Sp.s [] [.tmp 4,.tmp 5] func120 ntmps120 ?_;refine bq 6 ab.length (λi=>Fw.Inv 37 [(1,S n),(0,ai.sl ab)] ((ab.take i).any (λa=>oW a n)=al)) A ⟨A,by simp[ai.sl,ba,af],Zs⟩ ?_;rintro i l j z k _ g hp;simp only[r,go_sem];refine aT (λh=>?_) λh=>?_
 .have aC:=bh h;have d:=ai.bo ab i aC;have f:=m _ (ax aC);have zG:=@kW ai (λa=>oW a n) ab i aC hp;have zN:=any_take_succ (p:=λa=>oW a n) aC;have zA (g:fD ab n=(i:Int)):=(Ck aC g:je (-1) ab n=_);obtain⟨a,q⟩:∃a,a=ab[i]:=⟨_,A⟩;rw[<-q]at d f zG zN zA;obtain⟨dn,cs⟩:=a;simp only[ai.cs]at f;have u:=aA.bb cs;simp only[ai.ds,aA.sl]at d;simp only[h,go_sem];refine bq 7 cs.length (λt=>Fw.uq 37 [(1,S n),(0,ai.sl ab),(6,I i)] λ_ _ _=>(cs.take t).any (λb=>decide (aA.nm b=n))=al) A ⟨A,by simp[ai.sl,af],Zs⟩ ?_;rintro t l j B k _ y hq;simp only[d,u,go_sem];refine aT (λh=>?_) λh=>?_
  .have pO:=bh h;have e:=aA.bo cs t pO;have zH:=@kW aA (λb=>decide (aA.nm b=n)) cs t pO hq;have zO:=any_take_succ (p:=λb=>decide (aA.nm b=n)) pO;have zJ:=ax pO;obtain⟨b,o⟩:∃b,b=cs[t]:=⟨_,A⟩;rw[<-o]at e zH zO zJ;obtain⟨cn,w⟩:=b;simp only[aA.ds,O.sl]at e;simp only[h,d,e,go_sem];exact GF
  .exact Hb
 .exact He
def Rn(l:a_)(p:Y->Bool)(d:bK)(first a:DL)(o:l.length<=ao)(m:∀b∈first,Cl b)(hc:∀b∈a,Cl b)
 (j:∀f∈l,au d (first++[.ag f.ds]++a) (B (p f))):au 332 [Y.sl l,.fn d first a] (I (et p l)):=by
 unfold ao at o;have i:=Y.bb l;refine Sp.e [] [.tmp 4] func332 ntmps332 ?_;simp only[go_sem,i];refine bq 8 l.length (λk=>Fw.Inv 19 [(0,Y.sl l),(1,.fn d first a),(7,I l.length)] ((l.take k).any p=al)) A ⟨A,by simp[Y.sl,ba,af],Zs⟩ ?_;rintro k t r x s _ u hp;simp only[go_sem];refine aT (λh=>?_) λh=>?_
 .have aC:=bh h;have g:=Y.b1 l[k];have q:List.take 8 l[k].ds=l[k].ds:=cU Zo;have w:(l[k].ds).all b4=ad:=by rw[b6];exact Y.one l[k]
  simp only[h,Y.bo l k aC,g,q,go_sem];refine bB _ (j l[k] (ax aC)) (by simp only[lX,a7];exact⟨⟨m,Cl.bu (Y.cl _),Zs⟩,hc⟩) ?_;exact sF
 .exact lH
def Pw(a:a_)(f:Y->Bool)(e:bK)(first b:DL)(k:a.length<=ao)(j:∀d∈first,Cl d)(h:∀d∈b,Cl d)
 (i:∀g∈a,au e (first++[.ag g.ds]++b) (B (f g))):au 319 [Y.sl a,.fn e first b] (B (a.any f)):=by
 refine Sp.s [] [.tmp 4] func319 ntmps319 ?_;refine bO (Rn a f e first b k j h i) ?_;exact Fz.bool (mS a)
def IP(a:aF)(f:ah->Bool)(e:bK)(first b:DL)(k:a.length<=ao)(j:∀d∈first,Cl d)(h:∀d∈b,Cl d)
 (i:∀g∈a,au e (first++[.ag g.ds]++b) (B (f g))):au 296 [ah.sl a,.fn e first b] (B (a.any f)):=by
 refine Sp.s [] [.tmp 4] func296 ntmps296 ?_;refine bO (JY a f e first b k j h i) ?_;exact Fz.bool (mS a)
def Rm(l:aK)(p:ByteArray->Bool)(d:bK)(first a:DL)(i:l.length<=ao)(hf:∀b∈first,Cl b)(hc:∀b∈a,Cl b)
 (fU:∀f∈l,au d (first++[S f]++a) (B (p f))):au 330 [.sl 1 (R l),.fn d first a] (I (et p l)):=by
 unfold ao at i;have g:=lG l;refine Sp.e [] [.tmp 4] func330 ntmps330 ?_;simp only[go_sem,g];refine bq 8 l.length (λk=>Fw.Inv 19 [(0,.sl 1 (R l)),(1,.fn d first a),(7,I l.length)] ((l.take k).any p=al)) A ⟨A,by simp[ba,af],Zs⟩ ?_;rintro k o j r m _ q hp;simp only[go_sem];refine aT (λh=>?_) λh=>?_
 .have aC:=bh h;have g0:(R l)[k]?=E [S l[k]]:=by simp[aC]
  exact GJ
 .exact lH
def Pv(a:aK)(f:ByteArray->Bool)(e:bK)(first b:DL)(k:a.length<=ao)(j:∀d∈first,Cl d)(h:∀d∈b,Cl d)
 (i:∀g∈a,au e (first++[S g]++b) (B (f g))):au 315 [.sl 1 (R a),.fn e first b] (B (a.any f)):=by
 refine Sp.s [] [.tmp 4] func315 ntmps315 ?_;refine bO (Rm a f e first b k j h i) ?_;exact Fz.bool (mS a)
def BY(d:Y->Bool)(g:Y->Prop)(y:∀i v j M k b,g (.mk i v j M k b)->b.length<=ao/\∀a∈b,g a)(h:bK)(first f:DL)(q:∀o∈first,Cl o)(p:∀o∈f,Cl o)
 (w:∀a,g a->au h (first++[.ag a.ds]++f) (B (!d a))) (l:Y) (m:g l):au 299 [.ag l.ds,.fn h first f] (B (!Y.aY d l)):=by
 match l,m with
 |.mk i v j (.mk r u t) k b,m=>
 obtain⟨D,F⟩:=y _ _ _ _ _ _ m;have x:=w _ m;have J:Y.aY d (.mk i v j (.mk r u t) k b)=(d (.mk i v j (.mk r u t) k b)&&b.all (Y.aY d)):=by rw[Y.aY,Y.gB]
 have G:∀a∈b,au 320 ([]++[.ag a.ds]++[.cp [.fn h first f]]) (B (!Y.aY d a)):=λa z=>by
  have I:=Y.b1 a;have K:List.take 8 a.ds=a.ds:=cU Zo;have P:(a.ds).all b4=ad:=by rw[b6];exact Y.one a
  have L:=BY d g y h first f q p w a (F a z)
  simp only[a8,bf];refine Sp.e [] [.tmp 3] func320 ntmps320 ?_;simp only[I,K,go_sem];refine bO L ?_;exact Fz.bool A
 simp only[Y.ds,O.ds,strs,bf,a8]at x;refine Sp.s [] [.tmp 4] func299 ntmps299 ?_;refine bB _ x (by simp only[lX,a7];exact⟨⟨q,Cl.bu (by simp;exact⟨O.bA _,Y.bA _⟩),Zs⟩,p⟩) ?_;cases C:d (.mk i v j (.mk r u t) k b)
 .simp only[go_sem];exact Fz.bool (by rw[J,C];rfl)
 .simp only[go_sem];refine bB _ (Pw b (λa=>!Y.aY d a) _ [] [.cp [.fn h first f]] D Zs (by simp;exact⟨q,p⟩) G) cu ?_;simp only[go_sem];exact Fz.bool Zg
termination_by l
decreasing_by all_goals(have:=cH z;simp;omega)
variable {g1:Type}
def rV{p:g1->Bool}:∀{l:List g1},0<=et p l->∃(b:Nat)(a:b<l.length),et p l=b/\p l[b]=ad
 |[],a=>by simp[et]at a
 |x::l,a=>by
  unfold et at a⊢;by_cases d:p x=ad
  .exact⟨0,Zs,by simp[d],by simpa using d⟩
  .by_cases g:et p l<0
   .simp[d,g]at a
   .obtain⟨b,f,h,e⟩:=rV (l:=l) (p:=p) Zo;exact⟨b+1,by simpa using f,by exact Zg,by simpa using e⟩
def Lh(a:Int):decide (a<0)=!decide (a>=0):=by
 exact Zg
def JW{p:g1->Bool}{a:List g1}(b:a.any p=ad):0<=et p a:=by
 have:=mS (p:=p) a;rw[b]at this;simpa using this
def Y.jA:Y->ByteArray
 |.mk _ _ n _ _ _=>n
def Y.DR:Y->List ByteArray
 |.mk _ _ _ _ ns _=>ns
def dR(ab:List ai):Y->Bool
 |.mk k v n ty ns ks=>(if k=4 then O.aY (fT ab) ty else ad)&&(if k=8\/k=10 then decide (fD ab n>=0)else ad)
def lC(ab:aw)(ds:aF)(d:ah):Bool:=!(O.aY (fT ab) (ah.ty d))||(eA (ah.bd d) [] []).any (λn=>decide (dh ds n<0))||!Y.aY (dR ab) (ah.bd d)
def jd(ab:aw)(n:BA):cz:=match ab[(fD ab n).toNat]? with|some d=>(match(ai.cs d)[(tW d n).toNat]? with|some c=>aA.fs c|none=>[])|none=>[]
def Cj(ab:aw)(n:BA):iB:=match ab[(fD ab n).toNat]? with|some d=>ai.cs d|none=>[]
def pB(x:Y)(c:aA):Bool:=decide (Y.jA x=aA.nm c)&&decide ((Y.DR x).length=(aA.fs c).length)
def rA(l:a_)(cs:iB):Bool:=decide (l.length=cs.length)&&(l.zip cs).all λa=>pB a.1 a.2
def pC(ab:aw)(l:a_):Bool:=match l with|[]=>ad|c::l=>rA (c::l) (Cj ab (Y.jA c))
def fC(ab:List ai):Y->Bool
 |.mk k v n ty ns ks=>if k=8 then decide (ks.length=(jd ab n).length)else if k=9 then pC ab (ks.drop 1)else ad
structure mG (ab:List ai):Prop where
 len:ab.length<=1048576
 cs:∀d∈ab,(ai.cs d).length<=1048576
def oN{a:aw}{d:BA}(p:0<=fD a d):∃(b:Nat)(f:b<a.length)(e:Nat)(i:e<(ai.cs a[b]).length),fD a d=b/\tW a[b] d=e/\jd a d=aA.fs (ai.cs a[b])[e]/\Cj a d=ai.cs a[b]/\∀j,je j a d=e:=by
 obtain⟨b,f,l,m⟩:=rV p;have g:fD a d=(b:Int):=l;obtain⟨e,i,o,q⟩:=rV (JW (show(ai.cs a[b]).any (λk=>decide (aA.nm k=d))=ad from m));have h:tW a[b] d=(e:Int):=o;refine⟨b,f,e,i,g,h,?_,?_,λj=>by rw[Ck f g,h]⟩
 .unfold jd;rw[g];simp[f,h,i]
 .unfold Cj;rw[g];simp[f]
def W1(d:aw)(a:aF)(e:a.length<=ao)(b:BA):au 317 [S b,.cp [ai.sl d,ah.sl a]] (B (decide (dh a b<0))):=by
 refine Sp.s [] [.tmp 3] func317 ntmps317 ?_;refine bB _ (wX d a b e) (by simp;exact⟨ai.bA _,ah.bA _⟩) ?_;exact qf
def W2(b:aw)(q:aF)(j:mG b)(a v:Int)(k:BA)(g:Int)(i:BA)(h:cz)(p:aK)(o:a_)(r:(O.mk g i h).ok):
 au 318 [.ag (Y.ds (.mk a v k (.mk g i h) p o)),.cp [ai.sl b,ah.sl q]] (B (!dR b (.mk a v k (.mk g i h) p o))):=by
 have l:=declared b (by have:=j.len;unfold ao;omega) (.mk g i h) r;have m:=uV b k j.len j.cs;simp only[O.ds]at l;refine Sp.s [] [.tmp 3] func318 ntmps318 ?_;by_cases e:a=4
 .have f4:(a==4)=ad:=by simp[e]
  simp only[f4,go_sem];refine bB _ l (by simp;exact⟨ai.bA _,O.bA _⟩) ?_;simp only[go_sem];exact Fz.bool (by simp[dR,e])
 have f4:(a==4)=al:=by simp[e]
 simp only[f4,go_sem];by_cases f:a=8
 .have f8:(a==8)=ad:=by simp[f]
  simp only[f8,go_sem];refine bB _ m (by simp;exact ai.bA _) ?_;simp only[go_sem];exact Fz.bool (by rw[Lh];simp[dR,f])
 have f8:(a==8)=al:=by simp[f]
 simp only[f8,go_sem];by_cases d:a=10
 .have f10:(a==10)=ad:=by simp[d]
  simp only[f10,go_sem];refine bB _ m (by simp;exact ai.bA _) ?_;simp only[go_sem];exact Fz.bool (by rw[Lh];simp[dR,d])
 have f10:(a==10)=al:=by simp[d]
 simp only[f10,go_sem];exact Fz.bool (by simp[dR,e,f,d])
def W3(a:aw)(b:aF)(A:mG a)(L:b.length<=ao)(j:ah)(F:dE (ah.bd j)=ad)(G:(ah.bd j).sz<=1048576)(x:j.ok):au 297 [.ag [ai.sl a,ah.sl b],.ag j.ds] (B (lC a b j)):=by
 obtain⟨M,⟨q,s,r⟩,⟨g,i,h,⟨l,o,m⟩,f,d⟩⟩:=j;simp only[ah.bd]at F G;simp only[ah.ok]at x;have C:=declared a (by have:=A.len;unfold ao;omega) (.mk q s r) x.2.1;have D:=Qk (.mk g i h (.mk l o m) f d) F G;have K:=w9 (.mk g i h (.mk l o m) f d) [] [];have P:=Y.tG (.mk g i h (.mk l o m) f d);have z:=Pv (eA (.mk g i h (.mk l o m) f d) [] []) (λk=>decide (dh b k<0)) 317 [] [.cp [ai.sl a,ah.sl b]] (by simp at K;unfold ao;omega) Zs Zs (λp _=>by simpa using W1 a b L p);have w:=BY (dR a) (λp=>p.ok) (λJ v k Q f d u=>by simp only[Y.ok]at u;exact⟨u.2.2.2.2.1,Y.dW u.2.2.2.2.2⟩) 318 [] [.cp [ai.sl a,ah.sl b]] Zs Zs (λp I=>by
  obtain⟨J,v,k,⟨q,s,r⟩,f,d⟩:=p;simp only[Y.ok]at I;simpa using W2 a b A J v k q s r f d I.2.1) (.mk g i h (.mk l o m) f d) x.2.2
 simp only[Y.ds,O.ds,strs,bf,a8]at C D w;simp only[ai.sl,ah.sl]at z w;refine Sp.e [] [.tmp 4] func297 ntmps297 ?_;simp only[ah.ds,go_sem];refine bB _ C (by simp;exact⟨ai.bA _,O.bA _⟩) ?_;cases t:O.aY (fT a) (.mk q s r)
 .simp only[go_sem];exact Fz.bool (by simp[lC,ah.ty,t])
 simp only[go_sem];refine bB _ D (by simp;exact⟨O.bA _,Y.bA _⟩) ?_;simp only[go_sem];refine bw z ?_;cases y:(eA (.mk g i h (.mk l o m) f d) [] []).any λk=>decide (dh b k<0)
 .simp only[go_sem];refine bO w ?_;exact Fz.bool (by simp only[lC,ah.ty,ah.bd,t,y,Bool.not_true,p6])
 .simp only[go_sem];exact Fz.bool (by simp only[lC,ah.ty,ah.bd,t,y,Bool.not_true,p6,Bool.true_or])
def PW(f:Y->aA->Bool)(b:a_)(d:iB)(g:bK)(M:b.length<=1048576)(u:∀l∈b,∀m∈d,au g [.ag l.ds,.ag m.ds] (B (f l m))):
 au 333 [Y.sl b,aA.sl d,.fn g [] []] (B (decide (b.length=d.length)&&(b.zip d).all λe=>f e.1 e.2)):=by
 refine Sp.s [] [.tmp 6] func333 ntmps333 ?_;refine aT (λh=>?_) λh=>?_
 .exact wz
 .have x:b.length=d.length:=by simp at h;omega
  simp only[h,go_sem];refine bq 17 b.length (λa=>Fw.Inv 32 [(0,Y.sl b),(1,aA.sl d),(2,.fn g [] []),(15,Y.sl b),(16,I b.length)] (((b.zip d).take a).all (λe=>f e.1 e.2)=ad)) A ⟨A,by simp[Y.sl,aA.sl,ba,af],Zs⟩ ?_;rintro a L J P K _ O j;simp only[go_sem];refine aT (λh=>?_) λh=>?_
  .have i:=bh h;have k:a<d.length:=Zo;have y:a<(b.zip d).length:=by exact Zg
   have o:=Y.bo b a i;have p:=aA.bo d a k;have r:=Y.b1 b[a];have t:=aA.b1 d[a];have D:List.take 8 b[a].ds=b[a].ds:=cU Zo;have F:List.take 2 d[a].ds=d[a].ds:=cU Zo;have z:(b[a].ds).all b4=ad:=by rw[b6];exact Y.one b[a]
   have C:(d[a].ds).all b4=ad:=by rw[b6];exact aA.one d[a]
   simp only[h,o,p,r,t,D,F,z,C,go_sem];refine bB _ (u b[a] (ax i) d[a] (ax k)) (by simp;exact⟨Y.cl _,aA.cl _⟩) ?_;have G:(b.zip d)[a]=(b[a],d[a]):=List.getElem_zip;cases q:f b[a] d[a]
   .simp only[go_sem];refine Fz.bool ?_;symm;exact Zg
   .simp only[go_sem];refine bg i ⟨A,by simp[af],?_⟩;rw[kQ y,j,G,q];rfl
  .have w:=bS h;simp only[h,go_sem];refine Fz.bool ?_;rw[w,cU Zg]at j;rw[j];simp[x]
def XY(i:Y)(g:aA):au 334 [.ag i.ds,.ag g.ds] (B (pB i g)):=by
 obtain⟨k,v,f,⟨m,p,o⟩,h,l⟩:=i;obtain⟨a,b⟩:=g;have r:=O.bb b;refine Sp.e [] [.tmp 4] func334 ntmps334 ?_;simp only[aA.ds,go_sem];by_cases d:f=a
 .have f1:(f.toList==a.toList)=ad:=by rw[du];exact bD d
  simp only[f1,go_sem];refine Fz.bool ?_;have q:pB (.mk k v f (.mk m p o) h l) (.mk a b)=decide (h.length=b.length):=by by_cases j:h.length=b.length<;>simp[pB,Y.jA,Y.DR,aA.nm,aA.fs,d,j]
  exact Zg
 .have f1:(f.toList==a.toList)=al:=by rw[du];exact bj d
  simp only[f1,go_sem];exact Fz.bool (by simp[pB,Y.jA,aA.nm,d])
def XX(a:aw)(p:aF)(m:mG a)(b:Y)(d:a_)(x:(b::d).length<=1048576)(t:0<=fD a (Y.jA b)):
 au 321 [.ag [ai.sl a,ah.sl p],Y.sl (b::d)] (B (!pC a (b::d))):=by
 obtain⟨f,w,P,I,q,F,G,r,s⟩:=oN t;have l:=uV a (Y.jA b) m.len m.cs;rw[q,s]at l;have i:=ai.bo a f w;have k:pC a (b::d)=rA (b::d) (ai.cs a[f]):=by rw[pC,r]
 have g:=PW pB (b::d) (ai.cs a[f]) 334 x λy _ z _=>XY y z;have j:=aA.bA (ai.cs a[f]);have o:=Y.bA (b::d);obtain⟨h,u⟩:∃h,h=a[f]:=⟨_,A⟩;rw[<-u]at i k g j;obtain⟨D,C⟩:=h;obtain⟨J,v,L,⟨Q,S,R⟩,M,K⟩:=b;simp only[Y.jA,ai.cs]at l k g j;simp only[ai.ds,aA.sl]at i;simp only[Y.sl,aA.sl,Y.ae,Y.ds,O.ds,strs,bf,a8]at g o;refine Sp.e [] [.tmp 4] func321 ntmps321 ?_;simp only[Y.ae,go_sem];refine b7 ?_;refine eK _ l (by simp;exact ai.bA _) A ?_;simp only[i,go_sem];refine hU g (.c (Cl.fH o) (.c (Cl.fH j) (.c (Cl.qu Zs Zs) Zc))) ?_;simp only[go_sem];refine Fz.bool ?_;rw[k];rfl
def XZ(b:aw)(x:aF)(t:mG b)(e:Y)(hg:dE e=ad)(z:Y.aY (dR b) e=ad)(D:∀f v w ab F d,e=.mk f v w ab F d->d.length<=1048576):
 au 300 [.ag [ai.sl b,ah.sl x],.ag e.ds] (B (!fC b e)):=by
 obtain⟨f,v,w,⟨aE,aH,aG⟩,F,d⟩:=e;have D:=D _ _ _ _ _ _ A;rw[Y.aY,Y.gB,b3,b6]at z;obtain⟨Q,R⟩:=z;refine Sp.s [] [.tmp 4] func300 ntmps300 ?_;by_cases g:f=8
 .have f8:(f==8)=ad:=by simp[g]
  obtain⟨i,hi,e,V,G,az,y,aB,I⟩:=oN (by simp[dR,g]at Q;omega);have C:=uV b w t.len t.cs;rw[G,I]at C;have q:=ai.bo b i hi;have k:=aA.bo (ai.cs b[i]) e V;obtain⟨o,M⟩:∃o,o=(ai.cs b[i])[e]:=⟨_,A⟩;rw[<-M]at k y;obtain⟨p,P⟩:∃p,p=b[i]:=⟨_,A⟩;rw[<-P]at q k;obtain⟨ay,ax⟩:=p;obtain⟨av,aC⟩:=o;simp only[ai.ds,aA.ds,aA.sl,O.sl,ai.cs]at q k;simp only[f8,go_sem];refine bB _ C (by simp;exact ai.bA _) ?_;simp only[go_sem];refine b7 ?_;simp only[q,k,Y.bb d,go_sem];refine Fz.bool ?_;simp only[fC,g,aI];rw[y];simp only[aA.fs];exact Zg
 have f8:(f==8)=al:=by simp[g]
 simp only[f8,go_sem];by_cases c9:f=9
 .have f9:(f==9)=ad:=by simp[c9]
  obtain⟨S,U⟩:2<=d.length/\(∀(i:Nat)(h:i<d.length),0<i->Y.kd d[i]=10):=by
   exact GO
  obtain⟨aD,l,j,rfl⟩:∃a m u,d=a::m::u:=by
   match d,S with
   |a::m::u,_=>exact⟨a,m,u,A⟩
  have L:0<=fD b (Y.jA l):=by
   have h1:=R l Zs;have r:=U 1 Zs Zo;simp only[i1,fO]at r;obtain⟨ak,am,an,ap,aq,ar⟩:=l;simp only[Y.kd]at r;rw[Y.aY,b3]at h1;have:=h1.1;simp[dR,r]at this;simp only[Y.jA];omega
  have X:=XX b x t l j Zg L;have K:((1:Int)<=((j.length+1+1:Nat):Int))=True:=bP Zo;simp only[f9,Y.ae,go_sem];refine b7 ?_;have J:((0:Int)<=1)=True:=Zs;have Z:Int.toNat 1=1:=A;have W:List.take j.length (Y.ae j)=Y.ae j:=cU (by rw[Y.bb];exact b_ _);simp only[K,J,Z,W,go_sem];refine eK _ X (by simp;exact⟨⟨ai.bA _,ah.bA _⟩,Y.cl _,Y.bA _⟩) A ?_;simp only[go_sem];exact Fz.bool (by simp[fC,c9])
 have f9:(f==9)=al:=by simp[c9]
 simp only[f9,go_sem];exact Fz.bool (by simp[fC,g,c9])
def rM{v:Int}(a:dE (.mk a0 v dg go he hw)=ad):hw.length<=1048576:=by
 rw[dE,Y.aY,b3]at a;have:=a.1;simp only[nh,fJ,b3,a1,cO]at this;have:=this.1.1.2;simp only[cN]at this
 repeat' split at this
 all_goals simp only at this
 all_goals omega
def O8(a:aw)(g:aF)(o:mG a)(d:ah)(q:dE (ah.bd d)=ad)(p:Y.aY (dR a) (ah.bd d)=ad):au 298 [.ag d.ds,.cp [ai.sl a,ah.sl g]] (B (!Y.aY (fC a) (ah.bd d))):=by
 have i:=BY (fC a) (λb=>dE b=ad/\Y.aY (dR a) b=ad) (λr v s t l k h=>by
  refine⟨by have:=rM h.1;unfold ao;omega,λb f=>⟨(s6 h.1).2 b f,?_⟩⟩;have j:=h.2;rw[Y.aY,Y.gB,b3,b6]at j;exact j.2 b f) 300 [.ag [ai.sl a,ah.sl g]] [] Zs Zs (λb f=>by
  simpa using XZ a g o b f.1 f.2 (λr v s t l k m=>rM (m▸f.1))) (ah.bd d) ⟨q,p⟩
 obtain⟨y,⟨z,D,C⟩,⟨u,x,w,⟨F,I,G⟩,l,k⟩⟩:=d;simp only[ah.bd]at i;simp only[Y.ds,O.ds,strs,bf,a8,ai.sl,ah.sl]at i;refine Sp.e [] [.tmp 3] func298 ntmps298 ?_;simp only[ah.ds,go_sem];refine bO i ?_;exact Fz.bool A
open Classical in
def gU:bm->Int
 |.mk ab ds=>if n_ (.mk ab ds)then(if ds.any (lC ab ds)then 7 else if ds.any (λd=>!Y.aY (fC ab) (ah.bd d))then 2 else 0)else 1
variable {a5:aF}
def D5(b:n_ (.mk a4 a5)):mG a4:=by
 obtain⟨⟨i,d⟩,_⟩:=b;refine⟨Zo,λh e=>?_⟩;obtain⟨g,f,rfl⟩:=dG e;have a:=(d g f).1;simp only[sR,b3,cO]at a;have:=a.2;omega
def D4(f:n_ (.mk a4 a5)):∀a∈a5,dE (ah.bd a)=ad/\eL (ah.ty a)=ad:=λa h=>by
 obtain⟨_,_,_,g⟩:=f;obtain⟨j,i,rfl⟩:=dG h;have b:=g j i;have d:=b.2.2.2;have e:=b.2.2.1;simp only[jE,b3]at d;simp only[fK,b3]at e;exact⟨d.1.1,e.1⟩
def Ey(a:ah):(ah.bd a).sz<=a.sz:=by obtain⟨b,d,e⟩:=a;simp only[ah.bd,ah.sz];omega
def DU{a:ah}(b:a.ok):(ah.bd a).ok/\(ah.ty a).ok:=by obtain⟨d,e,f⟩:=a;simp only[ah.ok]at b;exact⟨b.2.2,b.2.1⟩
open Classical in
def O7(p:bm)(o:p.sz<=1048576)(j:p.ok):au 279 [.ag p.ds] (I (gU p)):=by
 have mR:=Nh p o j;obtain⟨a,ds⟩:=p;simp only[bm.ok]at j;simp only[bm.sz]at o;simp only[bm.ds]at mR;by_cases f:n_ (.mk a ds)
 case neg=>
  have h:gU (.mk a ds)=1:=by rw[gU,av f]
  rw[h];simp only[bj f]at mR;simp only[ai.sl,ah.sl]at mR;refine Sp.e [] [.tmp 2] func279 ntmps279 ?_;exact Hy
 have m:=D5 f;have k:=D4 f;have i:ds.length<=ao:=by exact Zg
 have g:=IP ds (lC a ds) 297 [.ag [ai.sl a,ah.sl ds]] [] i Zs Zs (λd b=>by
  have s:=ah.gj b;have t:=Ey d;simpa using W3 a ds m i d (k d b).1 Zo (j.2.2.2 d b))
 simp only[bD f]at mR;simp only[ai.sl,ah.sl]at mR g;cases c1:ds.any (lC a ds)
 case true=>
  have h:gU (.mk a ds)=7:=by rw[gU,aM f,c1];rfl
  rw[h];rw[c1]at g;refine Sp.e [] [.tmp 2] func279 ntmps279 ?_;simp only[bm.ds,go_sem];refine bB _ mR (by simp;exact⟨ai.bA _,ah.bA _⟩) ?_;simp only[go_sem];refine bO g ?_;exact Fz.int A
 have q:∀d∈ds,Y.aY (dR a) (ah.bd d)=ad:=λd b=>by
  have:=qY.1 c1 d b;simp only[lC,qW,jT,oo]at this;have:=this.2;simpa using this
 have l:=IP ds (λd=>!Y.aY (fC a) (ah.bd d)) 298 [] [.cp [ai.sl a,ah.sl ds]] i Zs Zs (λd b=>by
  simpa using O8 a ds m d (k d b).1 (q d b))
 simp only[ai.sl,ah.sl]at l;have h:gU (.mk a ds)=if ds.any (λd=>!Y.aY (fC a) (ah.bd d))then 2 else 0:=by rw[gU,aM f,c1];rfl
 rw[h];rw[c1]at g;refine Sp.e [] [.tmp 2] func279 ntmps279 ?_;simp only[bm.ds,go_sem];refine bB _ mR (by simp;exact⟨ai.bA _,ah.bA _⟩) ?_;simp only[go_sem];refine bO g ?_;refine bw l ?_;cases r:ds.any λd=>!Y.aY (fC a) (ah.bd d)
 .exact wD
 .exact wD
def Sv(ab:aw)(e:mG ab)(k v:Int)(n:BA)(tk:Int)(tn:BA)(az:cz)(ns:aK)(ks:a_)(p:ks.length<=1048576)
 (m:(O.mk tk tn az).ok) (o:k=4->eL (.mk tk tn az)=ad) (fU:∀i∈ks,au 275 [ai.sl ab,.cp i.ds] (B (Y.aY (dR ab) i))):
 au 275 [ai.sl ab,.cp (Y.ds (.mk k v n (.mk tk tn az) ns ks))] (B (Y.aY (dR ab) (.mk k v n (.mk tk tn az) ns ks))):=by
 have iR:=Y.bb ks;have l:Y.aY (dR ab) (.mk k v n (.mk tk tn az) ns ks)=(dR ab (.mk k v n (.mk tk tn az) ns ks)&&ks.all (Y.aY (dR ab))):=by rw[Y.aY,Y.gB]
 have g:=rX ab n e.len e.cs;rw[l];refine Sp.s [] [.tmp 4] func275 ntmps275 ?_;by_cases a:k=4
 .have f4:(k==4)=ad:=by simp[a]
  have f8:(k==8)=al:=by simp[a]
  have f10:(k==10)=al:=by simp[a]
  have f:=zW ab (by have:=e.len;unfold ao;omega) (.mk tk tn az) m (o a);simp only[O.ds]at f;simp only[f4,go_sem];refine bB _ f (by simp;exact⟨ai.bA _,O.bA _⟩) ?_;cases c1:O.aY (fT ab) (.mk tk tn az)
  .simp only[go_sem];exact Fz.bool (by simp[dR,a,c1])
  have rP:dR ab (.mk k v n (.mk tk tn az) ns ks)=ad:=by simp[dR,a,c1]
  exact Gq
 have f4:(k==4)=al:=by simp[a]
 simp only[f4,go_sem];by_cases d:k=8
 .have f8:(k==8)=ad:=by simp[d]
  simp only[f8,go_sem];refine bB _ g (by simp;exact ai.bA _) ?_;by_cases c1:fD ab n<0
  .simp only[bD c1,go_sem];exact Fz.bool (by simp[dR,d];omega)
  have rP:dR ab (.mk k v n (.mk tk tn az) ns ks)=ad:=by simp[dR,d];omega
  exact Gg
 have f8:(k==8)=al:=by simp[d]
 by_cases b:k=10
 .have f10:(k==10)=ad:=by simp[b]
  simp only[f8,f10,go_sem];refine bB _ g (by simp;exact ai.bA _) ?_;by_cases c1:fD ab n<0
  .simp only[bD c1,go_sem];exact Fz.bool (by simp[dR,b];omega)
  have rP:dR ab (.mk k v n (.mk tk tn az) ns ks)=ad:=by simp[dR,b];omega
  exact Gg
 have f10:(k==10)=al:=by simp[b]
 have rP:dR ab (.mk k v n (.mk tk tn az) ns ks)=ad:=by simp[dR,a,d,b]
 exact Gq
def Qo{v:Int}(a:dE (.mk a0 v dg go he hw)=ad):a0=4->eL go=ad:=λb=>by
 rw[dE,Y.aY,b3]at a;have:=a.1;simp only[nh,fJ,fp,b3]at this;have:=this.1.2.1.1.2;simp only[jt,b,aI,fK,b3]at this;exact this.1
def Kt(b:aw)(h:mG b)(a:Y)(d:dE a=ad)(e:a.ok):au 275 [ai.sl b,.cp a.ds] (B (Y.aY (dR b) a)):=by
 match a,d,e with
 |.mk i v k (.mk m p o) l j,d,e=>
 simp only[Y.ok]at e;exact Sv b h i v k m p o l j (rM d) e.2.1 (Qo d) λg f=>Kt b h g ((s6 d).2 g f) (Y.dW e.2.2.2.2.2 g f)
termination_by a
decreasing_by all_goals(have:=cH f;simp;omega)
def Qn{v:Int}(hg:dE (.mk a0 v dg go he hw)=ad)(c9:a0=9):2<=hw.length/\(∀(i:Nat)(h:i<hw.length),0<i->Y.kd hw[i]=10):=by
 exact GO
def P_{b:Y}(d:Y.aY (dR a4) b=ad)(a:Y.kd b=10\/Y.kd b=8):0<=fD a4 (Y.jA b):=by
 obtain⟨e,f,g,h,i,j⟩:=b;simp only[Y.kd]at a;rw[Y.aY,b3]at d;have:=d.1;rcases a with a|a<;>simp[dR,a]at this<;>simp only[Y.jA]<;>omega
def Sk(h:aw)(x:mG h)(W v:Int)(X:BA)(ab:Int)(ak:BA)(ah:cz)(Z:aK)(k f:Y)(i:a_)(bd:i.length<=1048576)(aM:0<=fD h (Y.jA f)):
 au 295 [ai.sl h,.cp (Y.ds (.mk W v X (.mk ab ak ah) Z (k::f::i)))] (B (pC h (f::i))):=by
 obtain⟨J,U,bl,be,aE,a5,a6,aF,aG⟩:=oN aM;have Q:=rX h (Y.jA f) x.len x.cs;rw[aE,aG]at Q;have w:=ai.bo h J U;have s:pC h (f::i)=rA (f::i) (ai.cs h[J]):=by rw[pC,aF]
 have P:=x.cs _ (ax U);have a9:f.ds[2]?=E (S (Y.jA f)):=by obtain⟨an,ap,aq,ar,av,ay⟩:=f;rfl
 obtain⟨a,D⟩:∃a,a=f::i:=⟨_,A⟩;have C:a.length=i.length+1:=by rw[D];rfl
 have z:Y.ae (k::f::i)=k.ds::Y.ae a:=by rw[D];rfl
 have bc:(Y.ae a).length=a.length:=Y.bb a;have p:(Y.ae (k::f::i))[1]?=E f.ds:=A;obtain⟨u,aO⟩:∃u,u=h[J]:=⟨_,A⟩;rw[<-aO]at w s P;rw[<-D]at s z p⊢;obtain⟨a4,g⟩:=u;simp only[ai.cs]at s P;simp only[ai.ds,aA.sl]at w;simp only[Y.ds,O.ds,strs,bf,a8]at p⊢;obtain⟨j,aI⟩:∃j,j=Y.ae (k::a):=⟨_,A⟩;rw[<-aI]at p z⊢;have aL:j.length=a.length+1:=by exact Zg
 have aJ:∀(d:Nat)(b:d<a.length),j[d+1]?=E (Y.ds a[d]):=λd b=>by rw[z,v8,Y.bo a d b]
 have y:∃aD,f.ds.drop 2=S (Y.jA f)::aD:=by obtain⟨an,ap,aq,ar,av,ay⟩:=f;exact⟨_,A⟩
 obtain⟨bk,y⟩:=y;rw[s];refine Sp.e [] [.tmp 4] func295 ntmps295 ?_;have aY:Int.toNat 1=1:=A;have aH:((0:Int)<=1)=True:=Zs;simp only[aY,aH,p,y,go_sem];refine bB _ Q (by simp;exact ai.bA _) ?_;simp only[w,aL,go_sem];simp only[iX g.length Zo];refine aT (λb=>?_) λb=>?_
 .simp only[b,go_sem];refine Fz.bool ?_;have:¬a.length=g.length:=by simp at b;omega
  simp[rA,this]
 have aR:a.length=g.length:=by simp at b;omega
 simp only[b,go_sem];refine bq 8 a.length (λd=>Fw.Inv 75 [(0,ai.sl h),(1,.cp [I W,I v,S X,I ab,S ak,.sl 3 (O.ae ah),.sl 1 (R Z),.sl 8 j]),(7,aA.sl g)] (((a.zip g).take d).all (λam=>pB am.1 am.2)=ad)) A ⟨A,by simp[ai.sl,aA.sl,ba,af,R],Zs⟩ ?_;rintro d a7 a2 bi a3 _ a' F;simp only[go_sem];refine aT (λb=>?_) λb=>?_
 .have aS:=bh b;have C:d<a.length:=Zo;have aU:d<(a.zip g).length:=by exact Zg
  have G:(a.zip g)[d]=(a[d],g[d]):=List.getElem_zip;have q:=aJ d C;have r:=aA.bo g d aS;obtain⟨L,aV⟩:∃L,L=a[d]:=⟨_,A⟩;obtain⟨M,aW⟩:∃M,M=g[d]:=⟨_,A⟩;rw[<-aV]at q G;rw[<-aW]at r G;obtain⟨aZ,a1,l,⟨az,aC,aB⟩,t,a0⟩:=L;obtain⟨o,m⟩:=M;have aP:=O.bb m;have aN:pB (.mk aZ a1 l (.mk az aC aB) t a0) (.mk o m)=(decide (l=o)&&decide (t.length=m.length)):=A;simp only[Y.ds,O.ds,aA.ds,O.sl,strs,bf,a8]at q r;have V:=bP Zo;simp only[b,go_sem];refine b7 ?_;simp only[q,r,iX d Zo,V,go_sem];by_cases K:l=o
  .have f1:(l.toList==o.toList)=ad:=by rw[du];exact bD K
   simp only[f1,q,r,aP,iX d Zo,V,go_sem];refine aT (λb=>?_) λb=>?_
   .simp only[b,go_sem];refine Fz.bool ?_;have:¬t.length=m.length:=by simp at b;omega
    symm;rw[rA,ud];right;exact Zg
   .have aX:t.length=m.length:=by simp at b;omega
    simp only[b,go_sem];refine bg C ⟨A,by simp[af,R],?_⟩;rw[kQ aU,F,G];show pB _ _=ad;rw[aN];simp[K,aX]
  .have f1:(l.toList==o.toList)=al:=by rw[du];exact bj K
   simp only[f1,go_sem];refine Fz.bool ?_;symm;rw[rA,ud];right;exact Zg
 .have aQ:=bS b;simp only[b,go_sem];refine Fz.bool ?_;rw[aQ,cU Zg]at F;simp[rA,F,aR]
def Sl(ab:aw)(u:mG ab)(k v:Int)(n:BA)(tk:Int)(tn:BA)(az:cz)(ns:aK)(ks:a_)(ay:ks.length<=1048576)
 (V:dE (.mk k v n (.mk tk tn az) ns ks)=ad) (z:Y.aY (dR ab) (.mk k v n (.mk tk tn az) ns ks)=ad) (fU:∀G∈ks,au 276 [ai.sl ab,.cp G.ds] (B (Y.aY (fC ab) G))):
 au 276 [ai.sl ab,.cp (Y.ds (.mk k v n (.mk tk tn az) ns ks))] (B (Y.aY (fC ab) (.mk k v n (.mk tk tn az) ns ks))):=by
 have JG:=Y.bb ks;have W:Y.aY (fC ab) (.mk k v n (.mk tk tn az) ns ks)=(fC ab (.mk k v n (.mk tk tn az) ns ks)&&ks.all (Y.aY (fC ab))):=by rw[Y.aY,Y.gB]
 rw[Y.aY,Y.gB,b3,b6]at z;obtain⟨Q,U⟩:=z;rw[W];refine Sp.s [] [.tmp 4] func276 ntmps276 ?_;by_cases b:k=8
 .have f8:(k==8)=ad:=by simp[b]
  obtain⟨g,X,F,ah,J,aq,y,ar,K⟩:=oN (by simp[dR,b]at Q;omega);have C:=rX ab n u.len u.cs;rw[J,K]at C;have q:=ai.bo ab g X;have f:=aA.bo (ai.cs ab[g]) F ah;obtain⟨m,M⟩:∃m,m=(ai.cs ab[g])[F]:=⟨_,A⟩;rw[<-M]at f y;obtain⟨o,P⟩:∃o,o=ab[g]:=⟨_,A⟩;rw[<-P]at q f;obtain⟨ap,an⟩:=o;obtain⟨am,e⟩:=m;simp only[ai.ds,aA.ds,aA.sl,O.sl,ai.cs]at q f;simp only[f8,go_sem];refine bB _ C (by simp;exact ai.bA _) ?_;simp only[go_sem];refine b7 ?_;simp only[q,f,JG,O.bb e,go_sem];have t:fC ab (.mk k v n (.mk tk tn az) ns ks)=decide (ks.length=e.length):=by
   simp only[fC,b,aI];rw[y];rfl
  by_cases hq:ks.length=e.length
  .have p:(!((e.length:Int)==(ks.length:Int)))=al:=by simp[hq]
   have rP:fC ab (.mk k v n (.mk tk tn az) ns ks)=ad:=by exact Zg
   simp only[bne,p,go_sem];exact BM
  .have p:(!((e.length:Int)==(ks.length:Int)))=ad:=by simp;omega
   simp only[bne,p,go_sem];exact Fz.bool (by rw[t];simp[hq])
 have f8:(k==8)=al:=by simp[b]
 simp only[f8,go_sem];by_cases d:k=9
 .have f9:(k==9)=ad:=by simp[d]
  obtain⟨Z,av⟩:=Qn V d;obtain⟨ak,i,D,w⟩:∃a l x,ks=a::l::x:=by
   match ks,Z with
   |a::l::x,_=>exact⟨a,l,x,A⟩
  have L:0<=fD ab (Y.jA i):=by
   subst w;refine P_ (U i Zs) (.inl ?_);exact Zg
  have r:=Sk ab u k v n tk tn az ns ak i D Zg L;have t:fC ab (.mk k v n (.mk tk tn az) ns ks)=pC ab (i::D):=by
   simp only[fC,d,aI,w];rfl
  rw[<-w,<-t]at r;simp only[Y.ds,O.ds,strs,bf,a8,ai.sl]at r;simp only[f9,go_sem];refine bB _ r (by simp;exact⟨ai.bA _,O.bA _,Y.bA _⟩) ?_;cases rP:fC ab (.mk k v n (.mk tk tn az) ns ks)
  .exact qf
  .simp only[go_sem];exact BM
 have f9:(k==9)=al:=by simp[d]
 have rP:fC ab (.mk k v n (.mk tk tn az) ns ks)=ad:=by simp[fC,b,d]
 simp only[f9,go_sem];exact BM
def Ks(a:aw)(h:mG a)(b:Y)(d:dE b=ad)(e:Y.aY (dR a) b=ad):au 276 [ai.sl a,.cp b.ds] (B (Y.aY (fC a) b)):=by
 match b,d,e with
 |.mk j v l (.mk o q p) m k,d,e=>
 have i:=e;rw[Y.aY,Y.gB,b3,b6]at i;exact Sl a h j v l o q p m k (rM d) d e λg f=>Ks a h g ((s6 d).2 g f) (i.2 g f)
termination_by b
decreasing_by all_goals(have:=cH f;simp;omega)
def Sq(a:Y)(b:dE a=ad)(e:a.sz<=1048576):au 239 [.cp a.ds,a',a'] (.sl 1 (R (eA a [] []))):=by
 have d:=Y.tG a;exact((Dz a b [] [] de de).Ac .rfl .nil).Em.sp (vI _)
def M9(b:aw)(d:aF)(a:ah):lC b d a=(((eA (ah.bd a) [] []).any (λe=>decide (dh d e<0))||!O.aY (fT b) (ah.ty a))||!Y.aY (dR b) (ah.bd a)):=by
 rw[lC,Bool.or_comm (!O.aY _ _)]
open Classical in
def Su(p:bm)(aw:p.sz<=1048576)(U:p.ok):au 235 [.cp p.ds] (I (gU p)):=by
 have mR:=Sz p aw U;obtain⟨a,ds⟩:=p;simp only[bm.ok]at U;simp only[bm.sz]at aw;simp only[bm.ds,ai.sl,ah.sl]at mR;by_cases o:n_ (.mk a ds)
 case neg=>
  have Q:gU (.mk a ds)=1:=by rw[gU,av o]
  rw[Q];simp only[bj o]at mR;refine Sp.e [] [.tmp 2] func235 ntmps235 ?_;exact Hy
 have am:=D5 o;have ak:=D4 o;have an:=ah.bb ds;have aH:ds.length<=ao:=by exact Zg
 simp only[bD o]at mR;have aE:∀d∈ds,lC a ds d=ad->gU (.mk a ds)=7:=λd P t=>by
  have:=k9.2 ⟨d,P,t⟩;rw[gU,aM o,this];rfl
 refine Sp.e [] [.tmp 2] func235 ntmps235 ?_;simp only[bm.ds,go_sem];refine bB _ mR (by simp;exact⟨ai.bA _,ah.bA _⟩) ?_;simp only[go_sem];refine bq 3 ds.length (λf=>Fw.Inv 89 [(0,.cp [.sl 2 (ai.ae a),.sl 12 (ah.ae ds)])] ((ds.take f).all (λd=>!lC a ds d)=ad)) A ⟨A,by simp[ba,af],Zs⟩ ?_;rintro f env H a3 T _ aW aQ;simp only[an,go_sem];refine aT (λb=>?_) λb=>?_
 .have D:=bh b;have q:=ah.bo ds f D;have l:=ax D;obtain⟨aq,aK⟩:=ak _ l;have a1:=ah.gj l;have a2:=Ey ds[f];obtain⟨aO,aP⟩:=DU (U.2.2.2 _ l);have s:=Sq (ah.bd ds[f]) aq Zo;have C:=zW a Zg (ah.ty ds[f]) aP aK;have F:=Kt a am (ah.bd ds[f]) aq aO;have i:=M9 a ds ds[f];have M:=aE _ l;have ap:=w9 (ah.bd ds[f]) [] [];have a0:=Y.tG (ah.bd ds[f]);obtain⟨h,aJ⟩:∃h,h=eA (ah.bd ds[f]) [] []:=⟨_,A⟩;rw[<-aJ]at s i ap;have aV:h.length<=1048576:=by simp at ap;omega
  have G:lC a ds ds[f]=al->(ds.take (f+1)).all (λd=>!lC a ds d)=ad:=λt=>by rw[kQ D,aQ,t];rfl
  obtain⟨d,r⟩:∃d,d=ds[f]:=⟨_,A⟩;rw[<-r]at q s C F i M G;obtain⟨Z,⟨tk,X,az⟩,⟨x,z,y,⟨K,un,L⟩,J,ks⟩⟩:=d;simp only[ah.bd,ah.ty]at s C F i;simp only[ah.ds,Y.ds,O.ds,strs,ai.sl,bf,a8]at q s C F;simp only[b,q,go_sem];refine bB _ s (by simp;exact⟨O.bA _,Y.bA _⟩) ?_;simp only[go_sem];refine hC 6 h.length (λg=>Fw.Inv 89 [(0,.cp [.sl 2 (ai.ae a),.sl 12 (ah.ae ds)]),(3,I f),(4,.cp ([S Z,I tk,S X,.sl 3 (O.ae az),I x,I z,S y,I K,S un,.sl 3 (O.ae L),.sl 1 (R J),.sl 8 (Y.ae ks)])),(5,.sl 1 (R h))] ((h.take g).all (λn=>!decide (dh ds n<0))=ad)) A ⟨A,by simp[af,R],Zs⟩ ?_;rintro g⟨aC,aB,n2,aU,T2⟩aL k⟨rfl,u,kp⟩;simp only[a7]at k u;obtain⟨j,ay,V,W,-⟩:=u;simp only[k,W,go_sem];refine aT (λb=>?_) λb=>?_
  .have m:=bh b;have aD:(R h)[g]?=E [S h[g]]:=by simp[R,m]
   have ar:=xy ds h[g] aH;simp only[ah.sl]at ar;simp only[b,go_sem];refine b7 ?_;simp only[k,j,W,aD,go_sem];refine eK _ ar (by simp;exact ah.bA _) A ?_;simp only[go_sem];refine aT (λb=>?_) λb=>?_
   .have aZ:dh ds h[g]<0:=by simpa using b
    simp only[b,go_sem];refine Fz.int ?_;exact Zg
   .simp only[b,k,go_sem];refine bg m ⟨A,by simp[af,j,ay,V,W],?_⟩;rw[kQ m,kp,b];rfl
  .have aN:=bS b;have aS:h.any (λn=>decide (dh ds n<0))=al:=by
    exact Zg
   rw[aS,p6]at i;simp only[b,go_sem];refine b7 ?_;simp only[j,V,go_sem];refine eK _ C (by simp;exact⟨ai.bA _,O.bA _⟩) A ?_;cases aA:O.aY (fT a) (.mk tk X az)
   .simp only[go_sem];refine Fz.int ?_;rw[M];rw[i,aA];rfl
   rw[aA]at i;simp only[j,V,go_sem];refine eK _ F (by simp;exact⟨ai.bA _,O.bA _,Y.bA _⟩) A ?_;cases w:Y.aY (dR a) (.mk x z y (.mk K un L) J ks)
   .simp only[go_sem];refine Fz.int ?_;rw[M];rw[i,w];rfl
   rw[w]at i;simp only[ay,go_sem];refine bg D ⟨A,by simp[af,j],G (by rw[i];rfl)⟩
 .have aX:=bS b;have ab:ds.any (lC a ds)=al:=by
   exact Zg
  have aI:∀d∈ds,Y.aY (dR a) (ah.bd d)=ad:=λd P=>by
   have:=qY.1 ab d P;rw[M9]at this;exact Zg
  have Q:gU (.mk a ds)=if ds.any (λd=>!Y.aY (fC a) (ah.bd d))then 2 else 0:=by rw[gU,aM o,ab];rfl
  rw[Q];simp only[b,go_sem];refine hC 7 ds.length (λg=>Fw.Inv 89 [(0,.cp [.sl 2 (ai.ae a),.sl 12 (ah.ae ds)])] ((ds.take g).all (λd=>Y.aY (fC a) (ah.bd d))=ad)) A ⟨A,by simp[af],Zs⟩ ?_;rintro g⟨aC,aB,n2,aU,T2⟩aL k⟨rfl,u,kp⟩;simp only[a7]at k u;obtain⟨j,-⟩:=u;simp only[k,j,an,go_sem];refine aT (λb=>?_) λb=>?_
  .have m:=bh b;have q:=ah.bo ds g m;have l:=ax m;have B:=Ks a am (ah.bd ds[g]) (ak _ l).1 (aI _ l);obtain⟨d,r⟩:∃d,d=ds[g]:=⟨_,A⟩;have aF:Y.aY (fC a) (ah.bd d)=al->ds.any (λd=>!Y.aY (fC a) (ah.bd d))=ad:=λaR=>k9.2 ⟨ds[g],l,by rw[<-r,aR];rfl⟩;have G:Y.aY (fC a) (ah.bd d)=ad->(ds.take (g+1)).all (λd=>Y.aY (fC a) (ah.bd d))=ad:=λt=>by rw[kQ m,kp,<-r,t];rfl
   rw[<-r]at q B;obtain⟨Z,⟨tk,X,az⟩,⟨x,z,y,⟨K,un,L⟩,J,ks⟩⟩:=d;simp only[ah.bd]at B;simp only[ah.ds,Y.ds,O.ds,strs,ai.sl,bf,a8]at q B;simp only[b,go_sem];refine b7 ?_;simp only[k,j,q,go_sem];refine eK _ B (by simp;exact⟨ai.bA _,O.bA _,Y.bA _⟩) A ?_;cases w:Y.aY (fC a) (.mk x z y (.mk K un L) J ks)
   .simp only[go_sem];refine Fz.int ?_;rw[aF w];rfl
   .simp only[k,go_sem];refine bg m ⟨A,by simp[af,j],G w⟩
  .have aN:=bS b;have aG:ds.any (λd=>!Y.aY (fC a) (ah.bd d))=al:=by
    exact Zg
   simp only[b,go_sem];exact Fz.int (by rw[aG];rfl)
structure Ev where
 n:ByteArray
 t:O
 l:Int
structure Bi where
 id:Nat
 e:Ev
abbrev aX:=List Bi
def Bi.d(b:Bi):D:=.pa b.id (S b.e.n::(b.e.t.ds++[I b.e.l]))
def bd:Option Bi->D
 |some b=>b.d
 |none=>.sc (.pointer aa)
inductive Nd where|mk (id:Nat) (t:Y) (ty:O) (l:Int) (ks:List Nd) (bs:List Bi) (b:Option Bi)
abbrev dv:=List Nd
def Nd.id:Nd->Nat|.mk i _ _ _ _ _ _=>i
def Nd.t:Nd->Y|.mk _ t _ _ _ _ _=>t
def Nd.ty:Nd->O|.mk _ _ y _ _ _ _=>y
def Nd.l:Nd->Int|.mk _ _ _ l _ _ _=>l
def Nd.ks:Nd->dv|.mk _ _ _ _ ks _ _=>ks
def Nd.bs:Nd->aX|.mk _ _ _ _ _ bs _=>bs
def Nd.b:Nd->Option Bi|.mk _ _ _ _ _ _ b=>b
def aq{X:Type}(f:X->D)(l:List X):ct:=l.map λx=>[f x]
def dC(b:g1->D)(a:List g1):(aq b a).length=a.length:=by simp[aq]
attribute [go_sem,simp] dC
def hX{f:g1->D}{a:List g1}(b:h<a.length):(aq f a)[h]?=E [f a[h]]:=by simp[aq,b]
def ed{b:g1->D}{e:List g1}(f:∀a∈e,Cl (b a)):Cl (.sl 1 (aq b e)):=by
 simp only[cI,aq,aG];rintro i⟨a,g,rfl⟩h d;simp at d;subst d;exact f a g
def o_{a:g1->D}(b d:List g1):aq a (b++d)=aq a b++aq a d:=by simp[aq]
def iq{b:g1->D}(a:List g1):(aq b a).flatten=a.map b:=by induction a with
 |nil=>rfl
 |cons e a d=>simp only[aq,bp,dN]at*;rw[d];rfl
def e_{f:g1->D}(a:List g1):∀b∈aq f a,b.length=1:=by simp[aq]
mutual
def Nd.d:Nd->D
 |.mk i t ty l ks bs b=>.pa i (t.ds++ty.ds++[I l,.sl 1 (Nd.dL ks),.sl 1 (aq Bi.d bs),bd b])
def Nd.dL:List Nd->List (List D)
 |[]=>[]
 |c::cs=>[c.d]::Nd.dL cs
end
def Nd.gJ:∀a:dv,Nd.dL a=aq Nd.d a
 |[]=>rfl
 |c::b=>by rw[Nd.dL,Nd.gJ b];rfl
def Bi.cl(b:Bi):Cl b.d:=by
 obtain⟨g,j,f,i⟩:=b;exact Cl.pa _ _ λh e a=>by
  rcases cJ.1 (eg a)with rfl|a
  .exact aO _
  .rcases cg.1 a with a|a
   .exact O.cl f e a
   .simp at a;subst a;exact aO _
def Oe(a:Option Bi):Cl (bd a):=by cases a;exact aO _;exact Bi.cl _
mutual
def Nd.cl:∀x:Nd,Cl x.d
 |.mk i t ty l ks bs b=>Cl.pa _ _ λk d a=>by
  have a:=eg a;simp only[cg,cJ,cS,iz]at a;rcases a with(a|a)|rfl|rfl|rfl|rfl
  .exact Y.cl t d a
  .exact O.cl ty d a
  .exact aO _
  .exact Nd.bA ks
  .exact ed λx _=>Bi.cl x
  .exact Oe b
def Nd.bA:∀l:List Nd,Cl (.sl 1 (Nd.dL l))
 |[]=>by simp[Nd.dL]
 |c::cs=>by
  have h:=Nd.cl c;have e:=Nd.bA cs;simp only[Nd.dL,cI,a7]at e⊢;exact⟨⟨h,Zs⟩,e⟩
end
mutual
def Nd.num:Nd->Nat
 |.mk _ _ _ _ ks bs _=>1+bs.length+Nd.aR ks
def Nd.aR:List Nd->Nat
 |[]=>0
 |c::cs=>c.num+Nd.aR cs
end
def Nd.xI(a:Nd):1<=a.num:=by cases a;rw[Nd.num];omega
def Nd.Aq:∀a:dv,a.length<=Nd.aR a
 |[]=>b_ _
 |c::b=>by have:=Nd.Aq b;have:=c.xI;rw[Nd.aR,di];omega
def Nd.gV:∀{l:dv}{a:Nd},a∈l->a.num<=Nd.aR l
 |c::b,a,h=>by
  rw[Nd.aR];rcases cJ.1 h with rfl|h
  .omega
  .have:=Nd.gV h;omega
def Nd.lS{a:Nd}:a.ks.length<=a.num/\a.bs.length<=a.num/\∀d∈a.ks,d.num<a.num:=by
 obtain⟨g,i,j,h,b,bs,f⟩:=a;have:=Nd.Aq b;refine⟨by rw[Nd.num];show b.length<=_;omega,by rw[Nd.num];show bs.length<=_;omega,λd e=>?_⟩;have:=Nd.gV (show d∈b from e);rw[Nd.num];omega
def Nd.all(p:Nd->Bool)(x:Nd):Bool:=p x&&x.ks.attach.all λy=>Nd.all p y.1
termination_by x
decreasing_by obtain⟨y,a⟩:=y;have:=cH a;cases x;simp only[Nd.ks]at*;simp;omega
def Nd.all_eq(a:Nd->Bool)(b:Nd):Nd.all a b=(a b&&b.ks.all (Nd.all a)):=by
 rw[Nd.all];congr 1;simp[List.all_eq]
variable {m7 v9:Nd}
def Nd.lt(a:v9∈m7.ks):SizeOf.sizeOf v9<SizeOf.sizeOf m7:=by
 obtain⟨e,g,h,f,b,bs,d⟩:=m7;have:=cH (show v9∈b from a);simp;omega
variable {g3:ay}{V a2 a9:Nat}{g8:aQ}{gc:aU}
def mI{b:St}{S:aD}{f:g1->D}{l:List g1}{a:g1}(m:cy g3 bv=E (g8,1,a9))(q:aH S b.H g8 1 (aq f l) (b.env V))(r:cF b g8 1 (b.env a2)=E (1,[f a]))(o:b4 (f a)=ad)
 (k:(l.length+1)*a9<=140737488355328) (p:1<=a9) (j:∀H n e,aH [h] H g8 1 (aq f (l++[a])) e->(∀d,d≠h->d∉S->H d=b.H d)->gc ({b with H:=H,n:=n}.put (E h) e)):dS g3 g4 (.call ⟨.builtin .append,#[.tmp V,.tmp a2],#[bv,bv]⟩) (E h) gc b:=
 dS.eF (bx:=aq f [a]) m q (e_ l) (by simpa[aq]using r) (by simp[aq]) (by simp[aq,o]) (by simpa[aq]using k)
  (by have:=Nat.le_mul_of_pos_right (l.length+1) p;simp[aq];unfold ao;omega) λH n e g i=>j H n e (by rw[o_];exact g) i
def kE{b:g1->D}{S:aD}{e:aQ}{a:List g1}(g:aH S fd e 1 (aq b a) am)(h:∀d∈a,Cl (b d)):Fz fd am (.sl 1 (aq b a)):=
 g.fz Zd (e_ a) (by simp only[aq,aG];rintro k⟨d,i,rfl⟩j f;simp at f;subst f;exact h d i)
def gI(k:Int):List Int->Nat->Int->Int->Int
 |[],_,s,m=>s+m
 |x::l,i,s,m=>if 0<i/\(k=9\/k=11)then gI k l (i+1) s (max m x)else gI k l (i+1) (s+x) m
def wT(f:Int):∀(d:IL)(e:Nat)(b a:Int),(∀x∈d,0<=x)->0<=a->b+a<=gI f d e b a/\gI f d e b a<=b+a+d.sum
 |[],e,b,a,_,_=>by simp[gI]
 |x::d,e,b,a,g,j=>by
  have k:=g x Zs;rw[gI,ia];split
  .have:=wT f d (e+1) b (max a x) (λi h=>g i (by simp[h])) Zo;omega
  .have:=wT f d (e+1) (b+x) a (λi h=>g i (by simp[h])) j;omega
def Rk(l:dv)(p:Nd->Bool)(f:bK)(first a:DL)(j:l.length<=ao)(i:∀b∈first,Cl b)(hc:∀b∈a,Cl b)
 (g:∀e∈l,au f (first++[Nd.d e]++a) (B (p e))):au 245 [.sl 1 (aq Nd.d l),.fn f first a] (I (et p l)):=by
 unfold ao at j;refine Sp.s [] [.tmp 4] func245 ntmps245 ?_;refine bq 8 l.length (λk=>Fw.Inv 19 [(0,.sl 1 (aq Nd.d l)),(1,.fn f first a),(7,I l.length)] ((l.take k).any p=al)) A ⟨A,by simp[ba,af],Zs⟩ ?_;rintro k r m u q o t hp;simp only[go_sem];refine aT (λh=>?_) λh=>?_
 .have aC:=bh h;simp only[h,hX (f:=Nd.d) aC,go_sem];refine bB _ (g l[k] (ax aC)) (by simp only[lX,a7];exact⟨⟨i,Nd.cl _,Zs⟩,hc⟩) ?_;exact sF
 .exact lH
def y6(a:dv)(g:Nd->Bool)(f:bK)(first b:DL)(l:a.length<=ao)(k:∀e∈first,Cl e)(i:∀e∈b,Cl e)
 (j:∀h∈a,au f (first++[Nd.d h]++b) (B (g h))):au 185 [.sl 1 (aq Nd.d a),.fn f first b] (B (a.any g)):=by
 refine Sp.s [] [.tmp 4] func185 ntmps185 ?_;refine bO (Rk a g f first b l k i j) ?_;exact Fz.bool (mS a)
def Rg(l:aX)(p:Bi->Bool)(f:bK)(first a:DL)(j:l.length<=ao)(i:∀b∈first,Cl b)(hc:∀b∈a,Cl b)
 (g:∀e∈l,au f (first++[Bi.d e]++a) (B (p e))):au 283 [.sl 1 (aq Bi.d l),.fn f first a] (I (et p l)):=by
 unfold ao at j;refine Sp.s [] [.tmp 4] func283 ntmps283 ?_;refine bq 8 l.length (λk=>Fw.Inv 19 [(0,.sl 1 (aq Bi.d l)),(1,.fn f first a),(7,I l.length)] ((l.take k).any p=al)) A ⟨A,by simp[ba,af],Zs⟩ ?_;rintro k r m u q o t hp;simp only[go_sem];refine aT (λh=>?_) λh=>?_
 .have aC:=bh h;simp only[h,hX (f:=Bi.d) aC,go_sem];refine bB _ (g l[k] (ax aC)) (by simp only[lX,a7];exact⟨⟨i,Bi.cl _,Zs⟩,hc⟩) ?_;exact sF
 .exact lH
def Pu(a:aX)(g:Bi->Bool)(f:bK)(first b:DL)(l:a.length<=ao)(k:∀e∈first,Cl e)(i:∀e∈b,Cl e)
 (j:∀h∈a,au f (first++[Bi.d h]++b) (B (g h))):au 246 [.sl 1 (aq Bi.d a),.fn f first b] (B (a.any g)):=by
 refine Sp.s [] [.tmp 4] func246 ntmps246 ?_;refine bO (Rg a g f first b l k i j) ?_;exact Fz.bool (mS a)
def HW(b:g1->Bool)(a:List g1):(a.any λd=>!b d)=!a.all b:=by induction a<;>simp_all
def lP(x:Nd):Bool:=decide (x.l<=8)&&(match x.b with|some b=>decide (b.e.l=x.l)|none=>ad)
def KO(f:Nd)(a:f.num<=1048576):au 244 [f.d] (B (Nd.all lP f)):=by
 have x:=@Nd.lS f;have o:∀g∈f.ks,au 282 ([]++[g.d]++[]) (B (!Nd.all lP g)):=λg p=>by
  have q:=KO g Zg;simp only[a8,c_];refine Sp.s [] [.tmp 2] func282 ntmps282 ?_;refine bO q ?_;exact Fz.bool A
 have k:=y6 f.ks (λg=>!Nd.all lP g) _ [] [] iM Zs Zs o;rw[HW]at k;rw[Nd.all_eq];obtain⟨y,⟨C,v,F,⟨I,K,J⟩,G,L⟩,⟨M,P,O⟩,i,D,bs,j⟩:=f;simp only[Nd.ks]at*;refine Sp.e [] [.tmp 2] func244 ntmps244 ?_;simp only[Nd.d,Nd.gJ,go_sem];refine b7 ?_;cases j with
 |none=>
  simp only[bd,go_sem];refine mg (λa=>?_) λa=>?_
  .simp only[a,go_sem];refine bO k ?_;refine Fz.bool ?_;simp at a;simp[lP,Nd.l,Nd.b,a]
  .simp only[a,go_sem];refine Fz.bool ?_;have:¬i<=8:=by simp at a;omega
   simp[lP,Nd.l,this]
 |some j=>
  obtain⟨z,w,⟨r,u,t⟩,bl⟩:=j;simp only[bd,Bi.d,go_sem];refine mg (λa=>?_) λa=>?_
  .simp only[a,go_sem];refine aT (λh=>?_) λh=>?_
   .simp only[h,go_sem];refine Fz.bool ?_;have:¬bl=i:=by simpa using h
    simp[lP,Nd.l,Nd.b,this]
   .simp only[h,go_sem];refine bO k ?_;refine Fz.bool ?_;have m:bl=i:=by simpa using h
    simp at a;simp[lP,Nd.l,Nd.b,a,m]
  .simp only[a,go_sem];refine Fz.bool ?_;have:¬i<=8:=by simp at a;omega
   simp[lP,Nd.l,this]
termination_by f
decreasing_by exact Nd.lt p
def Nd.us(x:Nd)(i:Nat):Int:=if x.b.any (λb=>decide (b.id=i))then 1 else gI (Y.kd x.t) (x.ks.attach.map λy=>Nd.us y.1 i) 0 0 0
termination_by x
decreasing_by exact Nd.lt y.2
def Nd.vQ(a:Nd)(d:Nat):a.us d=if a.b.any (λe=>decide (e.id=d))then 1 else gI (Y.kd a.t) (a.ks.map λf=>f.us d) 0 0 0:=by
 rw[Nd.us];simp
def Nd.M_(e:Nd)(b:Nat):0<=e.us b/\e.us b<=e.num:=by
 have g:∀a∈e.ks,0<=a.us b/\a.us b<=a.num:=λa f=>Nd.M_ a b;rw[Nd.vQ];obtain⟨id,m,s,d,i,bs,o⟩:=e;simp only[Nd.ks]at g;have k:∀d:dv,(∀a∈d,0<=a.us b/\a.us b<=a.num)->(d.map λa=>a.us b).sum<=Nd.aR d:=by
  intro d h
  induction d with
  |nil=>simp[Nd.aR]
  |cons j p l=>have:=h j Zs;have:=l λa f=>h a (by simp[f]);simp only[bp,ia,Nd.aR];omega
 have q:=k i g;have r:=wT (Y.kd m) (i.map λa=>a.us b) 0 0 0 Zg (oq _);rw[Nd.num];split
 .omega
 .simp only[Nd.t,Nd.ks];omega
termination_by e
decreasing_by exact Nd.lt f
def Nf(s:Nd)(j:Bi)(w:∀(o:Int)(l:IL),(∀g∈l,0<=g)->l.sum<=1048576->l.length<=1048576->au 284 [I o,.sl 1 (aq I l)] (I (gI o l 0 0 0)))(r:s.num<=1048576):au 248 [s.d,j.d] (I (s.us j.id)):=by
 have aw:=@Nd.lS s;have ay:∀g∈s.ks,au 248 [g.d,j.d] (I (g.us j.id)):=λg K=>Nf g j w (by have:=aw.2.2 g K;omega);have U:=λg=>Nd.M_ g j.id;have aK:=Bi.cl j;rw[Nd.vQ];obtain⟨W,⟨o,v,B,⟨Z,ae,ab⟩,X,ah⟩,⟨ai,am,ak⟩,l,h,bs,q⟩:=s;have aL:=Nd.Aq h;rw[Nd.num]at r;have w:=w o (h.map λg=>g.us j.id) (by simp only[aG];rintro aS⟨g,K,rfl⟩;exact(U g).1) (by
  have:∀l:dv,(l.map λg=>g.us j.id).sum<=Nd.aR l:=λl=>by
   induction l with
   |nil=>simp[Nd.aR]
   |cons ap aF aM=>have:=U ap;simp only[bp,ia,Nd.aR];omega
  have:=this h;omega) de
 obtain⟨i,R,⟨M,Q,P⟩,bl⟩:=j;simp only[Nd.ks,Nd.b,Nd.t,Y.kd]at*;have ar:cy aB 223=E (3,1,8):=Zk;refine(λaC:∀C:Int,C=(if q.any (λj=>decide (j.id=i))then 1 else gI o (h.map λg=>g.us i) 0 0 0)->au 248 [Nd.d (.mk W (.mk o v B (.mk Z ae ab) X ah) (.mk ai am ak) l h bs q),Bi.d ⟨i,R,.mk M Q P,bl⟩] (I C)=>aC _ A) ?_;intro C u;refine Sp.e [1000028] [.tmp 4] func248 ntmps248 ?_;simp only[Nd.d,Bi.d,Nd.gJ,go_sem];have m:(∃k,q=E k/\(k.id==i)=ad)\/q=aa\/∃k,q=E k/\(k.id==i)=al:=by
  cases q with
  |none=>exact .inr (.inl A)
  |some k=>cases J:k.id==i;exact .inr (.inr ⟨k,A,J⟩);exact .inl ⟨k,A,J⟩
 rcases m with⟨k,rfl,G⟩|m
 .simp only[bd,Bi.d,G,go_sem];exact Fz.int (by simp at G;simp[u,G])
 have u:C=gI o (h.map λg=>g.us i) 0 0 0:=by
  rcases m with rfl|⟨k,rfl,y⟩
  .simpa using u
  .simp at y;simpa[y]using u
 subst u;rcases m with m|⟨k,m,y⟩<;>first|simp only[m,bd,Bi.d,y,go_sem]|simp only[m,bd,go_sem]
 all_goals
  refine bq 19 h.length (λp=>Fw.cK 37 [(0,Nd.d (.mk W (.mk o v B (.mk Z ae ab) X ah) (.mk ai am ak) l h bs q)),(1,Bi.d ⟨i,R,.mk M Q P,bl⟩),(17,.sl 1 (aq Nd.d h)),(18,I h.length)] λF L B an=>aH [28] L 3 1 (aq I ((h.take p).map λg=>g.us i)) (F 5)) A ⟨A,by simp[m,ba,af,Nd.d,Bi.d,Y.ds,O.ds,Nd.gJ,bd,strs],.inl ⟨A,A⟩⟩ ?_;rintro p F L B an aE J z;obtain⟨g,D⟩:=Zx (F 5);rw[D]at z;simp only[go_sem];refine aT (λr=>?_) λr=>?_
  .have x:=bh r;have av:=hX (f:=Nd.d) x;simp only[r,D,av,go_sem];refine bO (ay h[p] (ax x)) ?_;refine GK.intro (mI (S:=[28]) (f:=I) (l:=(h.take p).map λg=>g.us i) (a:=h[p].us i) ar (by simp only[af,aI,aV,aP,bT,bU,reduceCtorEq];exact z.congr bJ) ga A de Zd ?_);intro aD aN aQ V aJ;simp only[go_sem];refine bg x ⟨A,by simp[af],?_⟩;have aA:(h.take p).map (λg=>g.us i)++[h[p].us i]=(h.take (p+1)).map λg=>g.us i:=by rw[ch x,bC];rfl
   rw[aA]at V;simpa[af]using V
  .have az:=bS r;subst az;rw[b9]at z;simp only[r,D,Nd.d,go_sem];refine wO w (.c (.cl _ (aO _)) (.c (kE z λ_ _=>aO _) .n)) A ?_;simp only[go_sem];exact Fz.int A
termination_by s
decreasing_by exact Nd.lt K
def Pm(d:Int)(a:IL)(r:∀h∈a,0<=h)(J:a.sum<=1048576)(K:a.length<=1048576):au 284 [I d,.sl 1 (aq I a)] (I (gI d a 0 0 0)):=by
 refine Sp.s [] [.tmp 4] func284 ntmps284 ?_;refine bq 11 a.length (λb=>Fw.cK 36 [(0,I d),(9,.sl 1 (aq I a)),(10,I a.length)] λl _ _ _=>∃s m:Int,l 5=I s/\l 6=I m/\0<=s/\0<=m/\s+m<=(a.take b).sum/\gI d (a.drop b) b s m=gI d a 0 0 0) A ⟨A,by simp[ba,af],0,0,by simp[af],by simp[af],Zs⟩ ?_;rintro b l C S F D P⟨s,m,i,e6,y,O,t,hc⟩;simp only[go_sem];refine aT (λg=>?_) λg=>?_
 .have aC:=bh g;have q:=hX (f:=I) aC;have R:=r _ (ax aC);have Q:(a.take (b+1)).sum=(a.take b).sum+a[b]:=by rw[ch aC,sB];simp
  have M:(a.take (b+1)).sum<=a.sum:=by
   have L:0<=(a.drop (b+1)).sum:=by
    have:∀a:IL,(∀h∈a,0<=h)->0<=a.sum:=λa p=>by
     induction a with
     |nil=>simp
     |cons e G B=>have:=p e Zs;have:=B λh z=>p h (by simp[z]);simp only[ia];omega
    exact Zg
   have:=dO List.sum (lb (b+1) a);rw[sB]at this;omega
  rw[ph aC,gI]at hc;generalize a[b]=x at*;have j:IntKind.i64.wrap (s+x)=s+x:=cW _ Zo;have u:(if m<x then x else m)=max m x:=by split<;>omega
  simp only[g,q,go_sem];by_cases e:0<b/\(d=9\/d=11)
  .rw[aM e]at hc;have f0:decide ((b:Int)>0)=ad:=by simp;omega
   rcases e.2 with rfl|rfl<;>simp only[f0,e6,u,go_sem]<;>
   exact bg aC ⟨A,by simp[af],s,max m x,by simp[af,i],by simp[af],y,Zo,Zo,hc⟩
  .rw[av e]at hc;by_cases o:0<b
   .have f0:decide ((b:Int)>0)=ad:=by simp;omega
    have f9:(d==9)=al:=by simp;exact λk=>e ⟨o,.inl k⟩
    have f11:(d==11)=al:=by simp;exact λk=>e ⟨o,.inr k⟩
    simp only[f0,f9,f11,i,j,go_sem];exact Ft
   .have f0:decide ((b:Int)>0)=al:=by simp;omega
    simp only[f0,i,j,go_sem];exact Ft
 .have w:=bS g;subst w;rw[List.drop_length,gI]at hc;rw[b9]at t;have j:IntKind.i64.wrap (s+m)=s+m:=cW _ Zo;simp only[g,i,e6,j,go_sem];exact Fz.int hc
def Nb(a:Nd)(b:Bi)(e:a.num<=1048576):au 248 [a.d,b.d] (I (a.us b.id)):=Nf a b Pm e
def Rf(a:aX)(v:Bi)(k:a.length<=ao):au 286 [.sl 1 (aq Bi.d a),v.d] (I (et (λg=>g.id==v.id) a)):=by
 unfold ao at k;refine Sp.s [] [.tmp 4] func286 ntmps286 ?_;refine bq 8 a.length (λe=>Fw.Inv 19 [(0,.sl 1 (aq Bi.d a)),(1,v.d),(7,I a.length)] ((a.take e).any (λg=>g.id==v.id)=al)) A ⟨A,by simp[ba,af],Zs⟩ ?_;rintro e p l r o m q hp;simp only[go_sem];refine aT (λh=>?_) λh=>?_
 .have b:=bh h;have i:=hX (f:=Bi.d) b;rw[Bi.d]at i;simp only[h,i,Bi.d,go_sem];cases j:v.id==a[e].id
  .simp only[go_sem];refine bg b ⟨A,by simp[af,Bi.d],?_⟩;rw[any_take_succ b,hp,p6,<-j,Bool.beq_comm]
  .simp only[go_sem];exact Fz.int (kW b hp (by rw[<-j,Bool.beq_comm])).symm
 .exact lH
def y5(l:aX)(v:Bi)(b:l.length<=ao):au 253 [.sl 1 (aq Bi.d l),v.d] (B (l.any λa=>a.id==v.id)):=by
 refine Sp.s [] [.tmp 4] func253 ntmps253 ?_;refine hU (Rf l v b) (.c (ed λa _=>Bi.cl a) (.c (Bi.cl _) .n)) ?_;exact yt
def x0{f:g1->D}(a:∀d,b4 (f d)=ad)(b:List g1):(aq f b).flatten.all b4=ad:=by rw[iq];simp[a]
def Ek{f:g1->D}(b:∀e,Cl (f e))(d:List g1):∀a∈(aq f d).flatten,Cl a:=by rw[iq];simp[b]
def Bi.one(a:Bi):b4 a.d=ad:=rfl
def Pc(a:aX)(g:a.length<=1048576):gp aB 139 [.sl 1 (aq Bi.d a)] 217 1 (aq Bi.d a):=by
 cases a with
 |nil=>
  refine gp.none ?_ λi j=>?_
  .refine gp.eo [] [.tmp 2] func139 A Zk ntmps139 A Zs ?_ ?_
   .simp[aq]
   simp only[go_sem];exact .inl ⟨A,A⟩
  .refine gp.eo [] [.tmp 2] func139 A Zk ntmps139 A Zs ?_ ?_
   .simp[aq]
   simp only[go_sem];exact⟨iy _,.inr ⟨7,⟨0,217,1,[],aa⟩,A,A,A,A,⟨[],A⟩,A⟩⟩
 |cons b a=>
  have f:=x0 Bi.one (b::a);simp only[di]at g;have h:=dC Bi.d (b::a);have e:=Ek Bi.cl (b::a);simp only[aq,bp,di]at f h e⊢;refine gp.eo [] [.tmp 2] func139 A Zk ntmps139 A Zs ?_ ?_
  .exact e
  simp only[f,go_sem];exact⟨⟨Zo,by unfold ao;omega⟩,.inr ⟨7,⟨0,217,1,_,aa⟩,Zs,A,A,A,⟨[],Zs⟩,A⟩⟩
def QA(m:Nat)(d:m<=1099511627776):gp aB 285 [a',I m] 217 1 []:=by
 refine gp.eo [] [.tmp 4] func285 A Zk ntmps285 A Zs ?_ ?_
 .simp
 have f0:decide ((m:Int)<0)=al:=Zs;have a:IntKind.i64.wrap ((m:Int)-0)=(m:Int):=by have:=cW ((m:Int)-0) Zo;rw[this];omega
 have b:IntKind.i64.wrap ((0:Int)-0)=0:=A;simp only[f0,a,b,go_sem];by_cases c0:m=0
 .exact Fu
 have f1:decide ((m:Int)>0)=ad:=by simp;omega
 simp only[f1,lY,go_sem];exact⟨⟨Zo,Zo,by unfold ao;omega⟩,.inr ⟨22,⟨0,217,1,(List.replicate m [.sc (.pointer aa)]).flatten,aa⟩,A,A,A,A,⟨_,A⟩,A⟩⟩
def H5{a:St}{S:aD}{f:g1->D}{l m:List g1}(s:V≠a2)(r:cy g3 bv=E (g8,1,a9))(w:aH S a.H g8 1 (aq f l) (a.env V))(j:a.env a2=.sl 1 (aq f m))(t:∀x,b4 (f x)=ad)
 (q:(l.length+m.length)*a9<=140737488355328) (u:1<=a9) (p:∀H n e b,(∀i,i≠a2->b i=a.env i)->aH [h] H g8 1 (aq f (l++m)) e->(∀d,d≠h->d∉S->H d=a.H d)->gc ({a with env:=b,H:=H,n:=n}.put (E h) e)):
 GK (dS g3 g4 (.call ⟨.builtin .append,#[.tmp V,.tmp a2],#[bv,bv]⟩) (E h) gc) a:=
 GK.uE (bx:=aq f m) s r w (e_ l) (by rw[j];simp[cF]) (λg=>by rw[j,g]) (x0 t m) (by simpa[dC]using q)
  (by have:=Nat.le_mul_of_pos_right (l.length+m.length) u;simp only[dC];unfold ao;omega) λH n e b o g k=>p H n e b o (by rw[o_];exact g) k
def IK(ps:List (aX))(X:ps.length<=1048576)(P:ps.flatten.length<=1099511627776):au 250 [.sl 1 (aq (λb=>.sl 1 (aq Bi.d b)) ps)] (.sl 1 (aq Bi.d ps.flatten)):=by
 have y:=dC (λb=>.sl 1 (aq Bi.d b)) ps;have B:∀k,(ps.take k).flatten.length<=ps.flatten.length:=λk=>by
  exact Hm
 have z:∀k(a:k<ps.length),(ps.take (k+1)).flatten=(ps.take k).flatten++ps[k]:=λk a=>by
  rw[ch a,fN];simp
 have K:cy aB 216=E (217,1,8):=Zk;refine Sp.e [1000033] [.tmp 2] func250 ntmps250 ?_;simp only[y,go_sem];refine hC 11 ps.length (λk=>Fw.Inv 36 [(0,.sl 1 (aq (λb=>.sl 1 (aq Bi.d b)) ps)),(9,.sl 1 (aq (λb=>.sl 1 (aq Bi.d b)) ps)),(10,I ps.length),(3,I ((ps.take k).flatten.length:Nat))] True) A ⟨A,by simp[ba,af],trivial⟩ ?_;rintro k⟨p,j,t,R,u,C⟩O g⟨rfl,i,-⟩;simp only[a7]at g i;obtain⟨e0,e9,uS,o,-⟩:=i;simp only[g,uS,go_sem];refine aT (λa=>?_) λa=>?_
 .have aC:=bh a;have q:=B (k+1);have h2:=z k aC;rw[h2,bF]at q;have S:IntKind.i64.wrap (((ps.take k).flatten.length:Nat)+(ps[k].length:Nat):Int)=(((ps.take (k+1)).flatten.length:Nat):Int):=by
   exact Hu
  have f0:decide ((((ps.take (k+1)).flatten.length:Nat):Int)<0)=al:=Zs;simp only[a,g,e9,o,hX (f:=λb=>D.sl 1 (aq Bi.d b)) aC,dC Bi.d ps[k],S,f0,go_sem];exact G4
 .have s:=bS a;subst s;rw[b9]at o;simp only[a,o,go_sem];refine yP 217 1 [] (QA _ P) Zs ?_;intro j t Z h M;simp only[e0,y,go_sem];refine hC 27 ps.length (λk=>Fw.cK 36 [(25,.sl 1 (aq (λb=>.sl 1 (aq Bi.d b)) ps)),(26,I ps.length)] λp j t u=>aH [24,33] j 217 1 (aq Bi.d (ps.take k).flatten) (p 6)) A ⟨A,by simp[af],by simpa[af,aq]using h.sub Zs⟩ ?_;clear e0 e9 uS o g h M a;rintro k⟨p,j,t,R,u,C⟩O g⟨rfl,i,h⟩;simp only[a7]at g i h;obtain⟨w,x,-⟩:=i;simp only[g,x,go_sem];refine aT (λa=>?_) λa=>?_
  .have aC:=bh a;have q:=B (k+1);have h2:=z k aC;rw[h2,bF]at q;simp only[a,g,w,hX (f:=λb=>D.sl 1 (aq Bi.d b)) aC,go_sem];refine H5 (f:=Bi.d) (l:=(ps.take k).flatten) (m:=ps[k]) Zd K (by simpa[af]using h) iN Bi.one Zo Zd ?_;intro V Y ab L r Q W;have J:L 27=I k:=by rw[r 27 Zd];simp[af,g]
   have F:=(r 25 Zd).trans (by simp[af];exact w);have G:=(r 26 Zd).trans (by simp[af];exact x);simp only[J,go_sem];refine bg aC ⟨A,by simp only[F,G,a7,cS,ez,eJ,af,↓reduceIte,aP,iK,ji],?_⟩;simp only[af,aI];rw[h2];exact Q.sub Zs
  .have s:=bS a;subst s;rw[b9]at h;simp only[a,go_sem];exact kE h λU _=>Bi.cl U
def Nd.cD(x:Nd):aX:=x.bs++(x.ks.attach.map λy=>Nd.cD y.1).flatten
termination_by x
decreasing_by exact Nd.lt y.2
def Nd.nX(a:Nd):a.cD=a.bs++(a.ks.map Nd.cD).flatten:=by rw[Nd.cD];simp
def Nd.vb(d:Nd):d.cD.length<=d.num:=by
 have k:∀a∈d.ks,a.cD.length<=a.num:=λa e=>Nd.vb a;rw[Nd.nX];obtain⟨id,o,p,b,m,bs,i⟩:=d;simp only[Nd.ks,Nd.bs,Nd.num]at*;have l:∀b:dv,(∀a∈b,a.cD.length<=a.num)->(b.map Nd.cD).flatten.length<=Nd.aR b:=by
  intro b f
  induction b with
  |nil=>simp
  |cons g j h=>have:=f g Zs;have:=h λa e=>f a (by simp[e]);simp only[bp,dN,bF,Nd.aR];omega
 exact Zg
termination_by d
decreasing_by exact Nd.lt e
def inner(g:Nd)(j:g.num<=1048576):au 251 [g.d] (.sl 1 (aq Bi.d g.cD)):=by
 have L:=@Nd.lS g;have P:∀i∈g.ks,au 251 [i.d] (.sl 1 (aq Bi.d i.cD)):=λi z=>inner i (by have:=L.2.2 i z;omega);have O:=Nd.vb g;rw[Nd.nX]at O⊢;obtain⟨Z,⟨ab,v,B,⟨am,ap,an⟩,ai,ar⟩,⟨aw,az,ay⟩,l,a,bs,W⟩:=g;simp only[Nd.ks,Nd.bs]at*;have J:cy aB 216=E (217,1,8):=Zk;refine Sp.e [1000023] [.tmp 2] func251 ntmps251 ?_;simp only[Nd.d,Nd.gJ,go_sem];refine yP 217 1 _ (Pc bs Zo) cu ?_;intro p ah g h M;simp only[go_sem];refine hC 16 a.length (λb=>Fw.cK 26 [(14,.sl 1 (aq Nd.d a)),(15,I a.length)] λr p B C=>aH [10,23] p 217 1 (aq Bi.d (bs++((a.take b).map Nd.cD).flatten)) (r 3)) A ⟨A,by simp[ba,af],by simpa[af]using h.sub Zs⟩ ?_;clear h M;rintro b⟨r,p,B,ak,C,V⟩Y k⟨rfl,x,h⟩;simp only[a7]at k x h;obtain⟨u,w,-⟩:=x;obtain⟨i,q⟩:=Zx (r 3);rw[q]at h;simp only[k,w,go_sem];refine aT (λj=>?_) λj=>?_
 .have o:=bh j;have K:=hX (f:=Nd.d) o;have y:((a.take (b+1)).map Nd.cD).flatten=((a.take b).map Nd.cD).flatten++a[b].cD:=by rw[ch o,bC,fN];simp
  have Q:(bs++((a.take (b+1)).map Nd.cD).flatten).length<=(bs++(a.map Nd.cD).flatten).length:=by
   have:=dO (λl=>(List.flatten l).length) (lb (b+1) (a.map Nd.cD));simp only[fN,bF]at this;rw[bF,bF,kK];omega
  rw[y,<-dM,bF]at Q;simp only[j,k,q,u,K,go_sem];refine bO (P a[b] (ax o)) ?_;refine H5 (f:=Bi.d) (l:=bs++((a.take b).map Nd.cD).flatten) (m:=a[b].cD) Zd J (by simpa[af]using h) iN Bi.one Zo Zd ?_;intro U ae av s t S X;have G:s 16=I b:=by rw[t 16 Zd];simp[af,k]
  have D:s 14=_:=(t 14 Zd).trans (by simp[af];exact u);have F:s 15=_:=(t 15 Zd).trans (by simp[af];exact w);simp only[G,go_sem];refine bg o ⟨A,by simp only[D,F,a7,cS,ez,eJ,af,↓reduceIte,aP,iK,ji],?_⟩;simp only[af,aI];rw[y,<-dM];exact S.sub Zs
 .have R:=bS j;subst R;rw[b9]at h;simp only[j,q,go_sem];exact kE h λi _=>Bi.cl i
termination_by g
decreasing_by exact Nd.lt z
def vC{a:g1->D}(b:List g1)(d:Nat):(aq a b).drop d=aq a (b.drop d):=by simp[aq]
def U6{a:g1->D}(e:∀b,Cl (a b))(d:List g1):Fz fd (.sl 1 (aq a d)) (.sl 1 (aq a d)):=.cl _ (ed λb _=>e b)
def qg(k:Int)(ks:dv):dv:=if k=10 then ks else if k=11 then ks.drop 1 else[]
def Nd.dB(x:Nd):dv:=qg (Y.kd x.t) x.ks
def OE(a:Nd)(o:Y.kd a.t=11->1<=a.ks.length):au 249 [a.d] (.sl 1 (aq Nd.d a.dB)):=by
 obtain⟨p,⟨b,v,r,⟨u,x,w⟩,s,y⟩,⟨z,C,B⟩,q,f,bs,m⟩:=a;simp only[Nd.dB,Nd.t,Y.kd,Nd.ks]at*;unfold qg;refine Sp.e [] [.tmp 2] func249 ntmps249 ?_;simp only[Nd.d,Nd.gJ,go_sem];by_cases g:b=10
 .subst g;simp only[go_sem];exact U6 Nd.cl _
 have f10:(b==10)=al:=by simp[g]
 by_cases h:b=11
 .subst h;have f1:((1:Int)<=(f.length:Int))=True:=bP Zo;have i:((0:Int)<=1)=True:=Zs;have k:Int.toNat 1=1:=A;have j:(aq Nd.d f).take f.length=aq Nd.d f:=cU (by rw[dC];omega);simp only[f1,i,k,j,go_sem];exact Fz.same (by rw[vC];rfl) (by rw[vC];exact ed λl _=>Nd.cl l)
 have f11:(b==11)=al:=by simp[h]
 rw[av g,av h];simp only[f10,f11,go_sem];exact .nil 1
def o9(b:Option Bi)(a:aX):aX:=match b with|some b=>if a.any (λd=>d.id==b.id)then a else a++[b]|none=>a
def Lq(a:Option Bi)(b:aX):(o9 a b).length<=b.length+1:=by
 cases a with
 |none=>simp[o9]
 |some a=>simp only[o9];split<;>simp
def Nd.eG(x:Nd)(a:aX):aX:=
 x.ks.attach.foldl (λo y=>Nd.eG y.1 o) (o9 x.b a)
termination_by x
decreasing_by exact Nd.lt y.2
def Nd.DS(a:Nd)(d:aX):a.eG d=a.ks.foldl (λe f=>f.eG e) (o9 a.b d):=by
 rw[Nd.eG];simp
def Lr(d:dv)(f:∀b∈d,∀a:aX,(Nd.eG b a).length<=a.length+b.num):∀a:aX,(d.foldl (λa b=>Nd.eG b a) a).length<=a.length+Nd.aR d:=by
 induction d with
 |nil=>simp[Nd.aR]
 |cons e i h=>intro a;have:=f e Zs a;have:=h (λb g=>f b (by simp[g])) (e.eG a);simp only[iZ,Nd.aR];omega
def Nd.xL(a:Nd)(e:aX):(a.eG e).length<=e.length+a.num:=by
 have h:∀f∈a.ks,∀d,(f.eG d).length<=d.length+f.num:=λf i d=>Nd.xL f d;rw[Nd.DS];obtain⟨id,m,o,l,j,bs,g⟩:=a;have:=Lr j h (o9 g e);have k:=Lq g e;simp only[Nd.num,Nd.ks,Nd.b];omega
termination_by a
decreasing_by exact Nd.lt i
def DT(o:Nd)(q:o.num<=1048576)(m:aX)(F:m.length+o.num<=1099511627776):ib aB 252 [o.d] [] 217 1 (aq Bi.d m) (aq Bi.d (o.eG m)):=by
 have R:=@Nd.lS o;have V:∀e∈o.ks,∀h:aX,h.length+e.num<=1099511627776->ib aB 252 [e.d] [] 217 1 (aq Bi.d h) (aq Bi.d (e.eG h)):=λe B h F=>DT e (by have:=R.2.2 e B;omega) h F;have K:=λi=>y5 m i iM;have J:∀h:aX,∀O∈(aq Bi.d h).flatten,Cl O:=Ek Bi.cl;rw[Nd.DS];obtain⟨ay,⟨az,v,L,⟨aD,aF,aE⟩,aC,aG⟩,⟨aK,aM,aL⟩,l,j,bs,t⟩:=o;have W:=λe(_:e∈j)=>Nd.xL e;simp only[Nd.ks,Nd.b]at*;have P:cy aB 216=E (217,1,8):=Zk;refine ib.Av [1000027] [.tmp 4] func252 A Zk ntmps252 A Zs ?_ ?_ ?_
 .exact J _
 .exact J _
 intro o s ae k;have k:aH [1] s 217 1 (aq Bi.d m) o:=k;simp only[Nd.d,Nd.gJ,go_sem];obtain⟨p,G⟩:∃h,h=o9 t m:=⟨_,A⟩;have aw:p.length<=m.length+1:=G▸Lq t m;rw[<-G];have au:=Nd.Aq j;rw[Nd.num]at F;have U:(t=aa/\p=m)\/(∃i,t=E i/\m.any (λy=>y.id==i.id)=ad/\p=m)\/∃i,t=E i/\m.any (λy=>y.id==i.id)=al/\p=m++[i]:=by
  rw[G];cases t with
  |none=>simp[o9]
  |some i=>
   cases r:m.any λy=>y.id==i.id
   .exact .inr (.inr ⟨i,A,r,by simp only[o9,r];rfl⟩)
   .exact .inr (.inl ⟨i,A,r,by simp only[o9,r,aI]⟩)
 rcases U with⟨w,u⟩|⟨i,w,r,u⟩|⟨i,w,r,u⟩
 simp only[w,bd,go_sem];have z:aH [1,27] s 217 1 (aq Bi.d p) o:=by rw[u];exact k.sub Zs
 rotate_left 1
 simp only[w,bd,Bi.d,go_sem];refine wO (K i) (.c (kE k λe _=>Bi.cl e) (.c (.cl _ (Bi.cl i)) .n)) A ?_;simp only[r,go_sem];have z:aH [1,27] s 217 1 (aq Bi.d p) o:=by rw[u];exact k.sub Zs
 rotate_left 1
 simp only[w,bd,Bi.d,go_sem];refine wO (K i) (.c (kE k λe _=>Bi.cl e) (.c (.cl _ (Bi.cl i)) .n)) A ?_;simp only[r,go_sem];refine GK.intro (mI (S:=[1]) (f:=Bi.d) (l:=m) (a:=i) P (by simp only[af,aI,aV,aP];exact k.congr bJ) (by simp[af,cF,aj,Bi.d]) A Zo Zd ?_);clear k;intro s ae o k ap;simp only[go_sem];have z:aH [1,27] s 217 1 (aq Bi.d p) o:=by rw[u];exact k.sub Zs
 all_goals
  refine bq 33 j.length (λg=>Fw.cK 42 [(31,.sl 1 (aq Nd.d j)),(32,I j.length)] λD s L M=>aH [1,27,39] s 217 1 (aq Bi.d ((j.take g).foldl (λh e=>e.eG h) p)) (D 1)) A ⟨A,by simp[ba,af],by simpa[af,ba]using z.sub Zs⟩ ?_;clear k z;rintro g D s L M ai r k;obtain⟨e,C⟩:=Zx (D 1);rw[C]at k;simp only[go_sem];refine aT (λq=>?_) λq=>?_
  .have x:=bh q;have Q:=hX (f:=Nd.d) x;have ar:((j.take g).foldl (λh e=>Nd.eG e h) p).length<=_:=Lr (j.take g) (λe B h=>W e (p9 B) h) p;have av:Nd.aR (j.take g)+j[g].num<=Nd.aR j:=by
    have:∀(l:dv)(g:Nat)(q:g<l.length),Nd.aR (l.take g)+l[g].num<=Nd.aR l:=by
     intro l
     induction l with
     |nil=>intro g q;simp at q
     |cons ak am ab=>
      intro g q;cases g with
      |zero=>simp[Nd.aR]
      |succ g=>have:=ab g (by simpa using q);simp only[ix,i1,Nd.aR];omega
    exact this j g x
   have Y:(j.take (g+1)).foldl (λh e=>Nd.eG e h) p=j[g].eG ((j.take g).foldl (λh e=>Nd.eG e h) p):=by rw[ch x,kn];rfl
   simp only[q,C,Q,go_sem];refine qj [1,27,39] [j[g].d] [] e 217 1 _ _ (V j[g] (ax x) ((j.take g).foldl (λh e=>Nd.eG e h) p) Zo) A k cu ?_;intro ah aA aJ Z an;simp only[go_sem];refine bg x ⟨A,by simp only[a7,cS,ez,eJ,af,↓reduceIte,aP,iK,ji,bT,bU,aI,aV,reduceCtorEq],?_⟩;rw[Y];simpa[af]using Z.sub Zs
  .have X:=bS q;subst X;rw[b9]at k;simp only[q,C,go_sem];exact aH.close k
termination_by o
decreasing_by exact Nd.lt B
def Nd.xN(a:Nd):∃b e g h i j k m o p f q r s,a.d=.pa a.id [b,e,g,h,i,j,k,m,o,p,f,I a.l,q,r,s]:=by
 obtain⟨u,⟨w,v,z,⟨C,F,D⟩,B,G⟩,⟨J,L,K⟩,y,x,bs,t⟩:=a;exact⟨_,_,_,_,_,_,_,_,_,_,_,_,_,_,A⟩
def Bi.xN(a:Bi):∃b f g h,a.d=.pa a.id [b,f,g,h,I a.e.l]:=by
 obtain⟨o,m,⟨i,k,j⟩,bl⟩:=a;exact⟨_,_,_,_,A⟩
def jP(x:Nd)(y:Nd)(b:Bi):Bool:=!(decide (b.e.l=y.l)&&!((x.bs++y.cD).any λa=>a.id==b.id)&&decide (1<y.us b.id))
def oi(x:Nd):Bool:=(decide (Y.kd x.t=7)||x.bs.all λb=>decide (x.us b.id<=1))&&x.dB.all λy=>(y.eG []).all (jP x y)
def Nc(x:Nd)(G:x.num<=1048576)(aD:Nd.all (λa=>!decide (Y.kd a.t=11)||decide (1<=a.ks.length)) x=ad):au 187 [x.d] (B (Nd.all oi x)):=by
 have aK:=@Nd.lS x;rw[Nd.all_eq,b3,b6]at aD;have a2:∀a∈x.ks,au 254 ([]++[a.d]++[]) (B (!Nd.all oi a)):=λa k=>by
  simp only[a8,c_];refine Sp.s [] [.tmp 2] func254 ntmps254 ?_;refine bO (Nc a (by have:=aK.2.2 a k;omega) (aD.2 a k)) ?_;exact Fz.bool A
 have aL:=y6 x.ks (λa=>!Nd.all oi a) _ [] [] iM Zs Zs a2;have ai:∀b∈x.bs,au 247 ([]++[b.d]++[.cp [x.d]]) (B (!decide (x.us b.id<=1))):=λb _=>by
  have bc:=Nb x b G;simp only[a8,bf];refine Sp.s [] [.tmp 3] func247 ntmps247 ?_;refine hU bc (.c (Nd.cl x) (.c (Bi.cl b) .n)) ?_;simp only[go_sem];exact Fz.bool (by rw[<-decide_not];exact jh.2 Zo)
 have ai:=Pu x.bs (λb=>!decide (x.us b.id<=1)) _ [] [.cp [x.d]] iM Zs (by simp;exact Nd.cl x) ai;rw[HW]at aL ai;have az:=OE x (by have:=aD.1;simp at this;omega);have aZ:∀a∈x.dB,a∈x.ks:=λa k=>by
  unfold Nd.dB qg at k;split at k
  .exact k
  .split at k
   .exact ra k
   .cases k
 have aY:x.dB.length<=x.ks.length:=by
  unfold Nd.dB qg;split
  .exact b_ _
  .split<;>simp
 rw[Nd.all_eq];obtain⟨h,aF⟩:∃g,g=x.dB:=⟨_,A⟩;have a9:oi x=((decide (Y.kd x.t=7)||x.bs.all λb=>decide (x.us b.id<=1))&&h.all λa=>(a.eG []).all (jP x a)):=by rw[aF];rfl
 rw[a9];rw[<-aF]at az aY;have a_:=Nd.cl x;have a1:∀a∈h,au 251 [a.d] (.sl 1 (aq Bi.d a.cD))/\(∀b:Bi,au 248 [a.d,b.d] (I (a.us b.id)))/\au 252 [a.d,a'] (.sl 1 (aq Bi.d (a.eG [])))/\au 250 [.sl 1 (aq (λbj=>.sl 1 (aq Bi.d bj)) [x.bs,a.cD])] (.sl 1 (aq Bi.d (x.bs++a.cD)))/\(∀b:Bi,au 253 [.sl 1 (aq Bi.d (x.bs++a.cD)),b.d] (B ((x.bs++a.cD).any λX=>X.id==b.id)))/\(a.eG []).length<=1048576:=λa k=>by
  have:=aK.2.2 a (aZ a (aF▸k));have bH:=Nd.vb a;have a4:=Nd.xL a [];simp only[gG,ek]at a4;refine⟨inner a Zo,λb=>Nb a b Zo,(DT a Zo [] de).Em.sp (e_ _),?_,λb=>y5 _ b kO,Zo⟩;have:=IK [x.bs,a.cD] Zs de;simpa using this
 obtain⟨m,⟨i,v,p,⟨r,w,u⟩,q,y⟩,⟨z,F,C⟩,g,o,bs,j⟩:=x;simp only[Nd.ks,Nd.bs,Nd.t,Y.kd]at*;simp only[Nd.d,Y.ds,O.ds,bf,a8,Nd.gJ]at ai az a_;have aE:∀g,Cl (.sl 1 (aq Bi.d g)):=λg=>ed λa _=>Bi.cl a;refine Sp.e [] [.tmp 2] func187 ntmps187 ?_;simp only[Nd.d,Nd.gJ,go_sem];obtain⟨an,U⟩:∃an:D,an=.pa m [I i,I v,S p,I r,S w,.sl 3 (O.ae u),strs q,.sl 8 (Y.ae y),I z,S F,.sl 3 (O.ae C),I g,.sl 1 (aq Nd.d o),.sl 1 (aq Bi.d bs),bd j]:=⟨_,A⟩;by_cases ap:i=7;have f7:(i !=7)=al:=by simp[ap]
 simp only[f7,go_sem];refine bO az ?_
 rotate_left 1
 have f7:(i !=7)=ad:=by simp[ap]
 simp only[f7,go_sem];refine bw ai ?_;cases bk:bs.all λb=>decide (Nd.us (.mk m (.mk i v p (.mk r w u) q y) (.mk z F C) g o bs j) b.id<=1)
 .simp only[go_sem];exact Fz.bool (by simp[ap])
 simp only[go_sem];refine bO az ?_
 all_goals
  refine hC 25 h.length (λK=>Fw.Inv 73 [(1,.cp [an]),(23,.sl 1 (aq Nd.d h)),(24,I h.length)] ((h.take K).all (λa=>(a.eG []).all (jP (.mk m (.mk i v p (.mk r w u) q y) (.mk z F C) g o bs j) a))=ad)) A ⟨A,by simp[ba,af,U,strs],Zs⟩ ?_;rintro K⟨aU,aQ,aO,be,aS,aR⟩bI J⟨rfl,ak,aA⟩;simp only[a7]at J ak;obtain⟨P,Q,R,-⟩:=ak;simp only[J,R,go_sem];refine aT (λG=>?_) λG=>?_
  .have am:=bh G;have aV:=hX (f:=Nd.d) am;have k:=a1 h[K] (ax am);have bb:=Nd.cl h[K];have aM:(h.take (K+1)).all (λa=>(a.eG []).all (jP (.mk m (.mk i v p (.mk r w u) q y) (.mk z F C) g o bs j) a))=((h[K].eG []).all (jP (.mk m (.mk i v p (.mk r w u) q y) (.mk z F C) g o bs j) h[K])):=by
    rw[ch am,List.all_append,aA];simp
   have aN:((h[K].eG []).all (jP (.mk m (.mk i v p (.mk r w u) q y) (.mk z F C) g o bs j) h[K]))=al->h.all (λa=>(a.eG []).all (jP (.mk m (.mk i v p (.mk r w u) q y) (.mk z F C) g o bs j) a))=al:=λaC=>by
    rw[List.all_eq_false];exact⟨h[K],ax am,by rw[aC];simp⟩
   simp only[G,J,Q,aV,U,go_sem];generalize h[K]=a at*;obtain⟨bl,bm,bn,bo,bp,bq⟩:=k;refine cX [] [] ?_;simp only[P,U,go_sem];refine bO bl ?_;refine fm [35] bo (.c (Fz.rows (ob:=⟨aO 35,216,1,[.sl 1 (aq Bi.d bs),.sl 1 (aq Bi.d a.cD)],aa⟩) (by simp[bi,aj]) A A Zd A (e_ _) (by simp[aq]) (by simp[aq,-cI];exact⟨aE _,aE _⟩)) .n) (aE _) ?_;simp only[go_sem];refine bO bn ?_;obtain⟨L,a3⟩:∃g,g=a.eG []:=⟨_,A⟩;rw[<-a3]at aM aN bq⊢;refine hC 40 L.length (λW=>Fw.Inv 73 [(1,.cp [an]),(4,a.d),(5,.sl 1 (aq Bi.d (bs++a.cD))),(23,.sl 1 (aq Nd.d h)),(24,I h.length),(25,I K),(38,.sl 1 (aq Bi.d L)),(39,I L.length)] ((L.take W).all (jP (.mk m (.mk i v p (.mk r w u) q y) (.mk z F C) g o bs j) a)=ad)) A ⟨A,by simp[af,P,Q,R,J],Zs⟩ ?_;clear P Q R J;rintro W⟨aU,aQ,aO,be,aS,aR⟩bJ J⟨rfl,ak,aG⟩;simp only[a7]at J ak;obtain⟨P,ab,ay,Q,R,ar,av,aw,-⟩:=ak;simp only[J,aw,go_sem];refine aT (λG=>?_) λG=>?_
   .have ah:=bh G;have aJ:=hX (f:=Bi.d) ah;have aH:(L.take (W+1)).all (jP (.mk m (.mk i v p (.mk r w u) q y) (.mk z F C) g o bs j) a)=(jP (.mk m (.mk i v p (.mk r w u) q y) (.mk z F C) g o bs j) a L[W]):=by
     rw[ch ah,List.all_append,aG];simp
    have a0:(jP (.mk m (.mk i v p (.mk r w u) q y) (.mk z F C) g o bs j) a L[W])=al->L.all (jP (.mk m (.mk i v p (.mk r w u) q y) (.mk z F C) g o bs j) a)=al:=λaC=>by
     rw[List.all_eq_false];exact⟨L[W],ax ah,by rw[aC];simp⟩
    generalize L[W]=b at*;have aI:=bm b;have aP:=bp b;have aW:=Bi.cl b;obtain⟨br,bt,bu,bv,aX⟩:=Bi.xN b;obtain⟨bx,Z,V,M,bA,bB,bC,bD,bF,bG,bz,bK,bL,bM,aB⟩:=Nd.xN a;rw[aX]at aI aP aW aJ;rw[aB]at aI bb ab;simp only[G,J,ab,av,aJ,go_sem];refine b7 ?_;cases Z:(b.e.l==a.l)
    .simp only[J,go_sem];refine bg ah ⟨A,by simp[af,P,ab,ay,Q,R,ar,av,aw,U,aB,strs],?_⟩;rw[aH,jP];simp at Z;simp[Z]
    .simp only[ay,go_sem];refine d' aP ?_;cases V:(bs++a.cD).any λX=>X.id==b.id
     .simp only[ab,go_sem];refine d' aI ?_;cases M:decide (a.us b.id>1)
      .simp only[M,J,go_sem];refine bg ah ⟨A,by simp[af,P,ab,ay,Q,R,ar,av,aw,U,aB,strs],?_⟩;rw[aH,jP];have M:decide (1<a.us b.id)=al:=M;simp[M]
      .simp only[M,go_sem];refine Fz.bool ?_;rw[aN (a0 ?_)]
       .simp
       .rw[jP];have M:decide (1<a.us b.id)=ad:=M;have Z:decide (b.e.l=a.l)=ad:=by simpa using Z
        have V:((Nd.mk m (.mk i v p (.mk r w u) q y) (.mk z F C) g o bs j).bs++a.cD).any (λX=>X.id==b.id)=al:=V;rw[Z,V,M];rfl
     .simp only[J,go_sem];refine bg ah ⟨A,by simp[af,P,ab,ay,Q,R,ar,av,aw,U,aB,strs],?_⟩;rw[aH,jP];have V:((Nd.mk m (.mk i v p (.mk r w u) q y) (.mk z F C) g o bs j).bs++a.cD).any (λX=>X.id==b.id)=ad:=V;rw[V];simp
   .have a6:=bS G;subst a6;rw[b9]at aG;simp only[G,ar,go_sem];exact bg am ⟨A,by simp[af,P,Q,R,U,strs],by rw[aM];exact aG⟩
  .have a5:=bS G;subst a5;rw[b9]at aA;simp only[G,P,U,go_sem];refine bO aL ?_;refine Fz.bool ?_
   first|(rw[aA];simp[ap];done)|(rw[aA,bk];simp;done)
termination_by x
decreasing_by exact Nd.lt k
abbrev js:O:=.mk 1 nE []
abbrev kh(n:BA):O:=.mk 2 n []
abbrev kH(a b:O):O:=.mk 3 nE [a,b]
abbrev kG(a:O):O:=.mk 4 nE [a]
variable {be g2 g7 i5 m5:D}
def Fz.HM(d:Fz fd am g7)(h:Fz fd be i5)(i:Fz fd g2 m5):Fz fd (.ag [am,be,g2]) (.ag [g7,i5,m5]):=
 .ag _ _ A λg a b e f=>by
  exact Zg
def sk(a:Int)(b:BA)(d:Fz fd am be):Fz fd (.ag [I a,S b,am]) (.ag [I a,S b,be]):=Fz.HM (.cl _ (aO _)) (.cl _ (aO _)) d
def intType:au 302 [] (.ag js.ds):=by
 refine Sp.s [] [.cell 0 87] func302 ntmps302 ?_;exact sk 1 nE (.nil 3)
def Kp:au 176 [] (.ag js.ds):=by
 refine Sp.s [] [.cell 0 87] func176 ntmps176 ?_;exact sk 1 nE (.nil 3)
def IW(a:BA):au 324 [S a] (.ag (kh a).ds):=by
 refine Sp.s [] [.cell 2 87] func324 ntmps324 ?_;exact sk 2 a (.nil 3)
def Sf(a:BA):au 181 [S a] (.ag (kh a).ds):=by
 refine Sp.s [] [.cell 2 87] func181 ntmps181 ?_;exact sk 2 a (.nil 3)
def Jq(a b:O):au 196 [.ag a.ds,.ag b.ds] (.ag (kH a b).ds):=by
 obtain⟨ak,an,sG⟩:=a;obtain⟨bk,bn,yK⟩:=b;refine Sp.s [] [.cell 4 87] func196 ntmps196 ?_;exact GU
def Ko(a b:O):au 177 [.ag a.ds,.ag b.ds] (.ag (kH a b).ds):=by
 obtain⟨ak,an,sG⟩:=a;obtain⟨bk,bn,yK⟩:=b;refine Sp.s [] [.cell 4 87] func177 ntmps177 ?_;exact GU
def Od(a:O):au 305 [.ag a.ds] (.ag (kG a).ds):=by
 obtain⟨ak,an,sG⟩:=a;refine Sp.s [] [.cell 2 87] func305 ntmps305 ?_;exact G6
def Kn(a:O):au 178 [.ag a.ds] (.ag (kG a).ds):=by
 obtain⟨ak,an,sG⟩:=a;refine Sp.s [] [.cell 2 87] func178 ntmps178 ?_;exact G6
end
end Go.Fw
