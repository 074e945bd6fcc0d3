/- A part of the proof about KeyOf. No condition. -/
import Derived.Shelf.Abstract
import Derived.WalkKit
import Derived.OwnWalkIn
import Derived.TacticsInMore
import Derived.LoopNIn
import Derived.LoopIn
import Derived.Test.YtiiahfjnecgpgaaGreatDoorM01
import Derived.Test.YtiiahfjnecgpgaaGreatDoorM04
import Derived.Test.YtiiahfjnecgpgaaGreatDoorM06
set_option maxRecDepth 100000
set_option maxHeartbeats 8000000
set_option linter.unusedSimpArgs false
set_option linter.unusedVariables false
set_option linter.defProp false
open Go.Proofs.Tryz
open Go.Proofs (enters_of)
open Option renaming some->E,none->aa
open Bool renaming false->al,true->ad
open Nat renaming reduceEqDiff->aP
open Go.Proofs.Tryz renaming prog->aB
open Go renaming maxLen->ao,TypeId->aQ,Value->aE,Program->ay,Oper->da
open Go.IntWalk renaming i64_in->cW
namespace Go.Fw
noncomputable section
attribute [local irreducible] St.put
section
open Classical
abbrev Env:=List Ev
def look(e:Env)(n:BA):Option Ev:=e.reverse.find? λx=>decide (x.n=n)
def cE(e:aX)(n:BA):Option Bi:=e.reverse.find? λx=>decide (x.e.n=n)
def gT:O->Option (O×Int)
 |.mk k n l=>if k=4 then l.head?.map λa=>(a,1)else if k=1 then E (.mk k n l,0)else aa
def rG(ds:aF)(n:BA):O:=(ds[(dh ds n).toNat]?.map ah.ty).getD js
def lM(ab:aw)(n:BA):BA:=(ab[(fD ab n).toNat]?.map ai.nm).getD nE
def cL(ab:aw)(c:BA)(ns:aK)(l:Int):Env:=(ns.zip (jd ab c)).map λx=>⟨x.1,x.2,l⟩
def mB:List (Option O)->Option O
 |[]=>aa
 |x::l=>if l.all λy=>decide (y=x)then x else aa
def O.kd:O->Int|.mk k _ _=>k
def li:O->O->Option O
 |.mk k _ [x,y],a=>if k=3/\x=a then E y else aa
 |_,_=>aa
def ff(ab:aw)(k:Int)(n:BA)(ts:cz):Option O:=
 if k=3 then if ts.map O.kd=[1,1]then E js else aa
 else if k=5 then match ts with|[f,a]=>li f a|_=>aa
 else if k=8 then if ts=jd ab n then E (kh (lM ab n))else aa
 else match ts with|[c,x,y]=>if O.kd c=1/\x=y then E x else aa|_=>aa
def zE:List Y->ByteArray
 |_::c::_=>Y.jA c
 |_=>nE
abbrev uA:=Env->Int->Option O
def iu(ab:aw)(ds:aF)(k:Int)(n:BA)(t:O)(ns:aK)(ks:a_)(b:List uA)(e:Env)(l:Int):Option O:=
 if k=1 then E (((look e n).map Ev.t).getD (rG ds n))
 else if k=2 then E js
 else if k=4 then(b.getD 0 (λ_ _=>aa) (e++[⟨n,t,l⟩]) l).map (kH t)
 else if k=6 then(b.getD 0 (λ_ _=>aa) e (l+1)).map kG
 else if k=7 then(b.getD 0 (λ_ _=>aa) e l).bind λa=>(gT a).bind λx=>b.getD 1 (λ_ _=>aa) (e++[⟨n,x.1,l+x.2⟩]) l
 else if k=9 then(b.getD 0 (λ_ _=>aa) e l).bind λa=>if a=kh (lM ab (zE ks))then mB ((b.drop 1).map λf:uA=>f e l)else aa
 else if k=10 then b.getD 0 (λ_ _=>aa) (e++cL ab n ns l) l
 else(b.mapM λf:uA=>f e l).bind (ff ab k n)
mutual
def a6(ab:List ai)(ds:List ah):Y->uA
 |.mk k _ n t ns ks=>iu ab ds k n t ns ks (kj ab ds ks)
def kj(ab:List ai)(ds:List ah):List Y->List uA
 |[]=>[]
 |c::cs=>a6 ab ds c::kj ab ds cs
end
def EA(a:aw)(b:aF):∀d:a_,kj a b d=d.map (a6 a b)
 |[]=>rfl
 |c::e=>by rw[kj,EA a b e];rfl
def er(ab:aw)(ds:aF)(k:Int)(n:BA)(t:O)(ns:aK)(ks:a_)(e:Env)(l:Int):Env:=
 if k=4 then[⟨n,t,l⟩]
 else if k=7 then((ks.head?.bind λc=>a6 ab ds c e l).bind gT).toList.map λx=>⟨n,x.1,l+x.2⟩
 else if k=10 then cL ab n ns l else[]
def cV(k:Int)(i:Nat):Bool:=decide (k=4\/k=10\/k=7/\i=1)
def bL(k l:Int):Int:=if k=6 then l+1 else l
inductive fB (ab:List ai) (ds:List ah):Y->Nd->List Bi->Int->Prop
 |mk {k v:Int} {n:ByteArray} {t:O} {ns:List ByteArray} {ks:List Y} {id:Nat} {ty:O} {l:Int} {kids:List Nd} {bs:List Bi} {b:Option Bi} {sc:List Bi}
  (j:a6 ab ds (.mk k v n t ns ks) (sc.map Bi.e) l=E ty) (hb:b=if k=1 then cE sc n else aa) (f:bs.map Bi.e=er ab ds k n t ns ks (sc.map Bi.e) l) (h:kids.length=ks.length)
  (g:∀(i:Nat)(a:i<ks.length)(d:i<kids.length),fB ab ds ks[i] kids[i] (if cV k i then sc++bs else sc) (bL k l)):
  fB ab ds (.mk k v n t ns ks) (.mk id (.mk k v n t ns ks) ty l kids bs b) sc l
def Nd.ids(x:Nd):aD:=x.id::(x.bs.map Bi.id++(x.ks.attach.map λy=>Nd.ids y.1).flatten)
termination_by x
decreasing_by exact Nd.lt y.2
def Nd.kx(a:Nd):a.ids=a.id::(a.bs.map Bi.id++(a.ks.map Nd.ids).flatten):=by rw[Nd.ids];simp
def EZ(N:Nat)(x:Nd):Prop:=x.ids.Nodup/\∀i∈x.ids,N<=i
def Nd.tI(f:Nd):∀e∈f.ids,eh e f.d:=by
 have i:∀a∈f.ks,∀e∈a.ids,eh e a.d:=λa g=>Nd.tI a;intro e b;rw[Nd.kx]at b;obtain⟨m,q,s,o,k,bs,l⟩:=f;simp only[Nd.id,Nd.bs,Nd.ks,cJ,cg,aG,ft]at b i;rw[Nd.d];rcases b with rfl|⟨h,j,rfl⟩|⟨p,⟨a,g,rfl⟩,b⟩
 .exact .here _
 .refine .pa _ (d:=.sl 1 (aq Bi.d bs)) Zs (.sl (r:=[h.d]) (d:=h.d) (aG.2 ⟨h,j,A⟩) Zs (.here _))
 .refine .pa _ (d:=.sl 1 (Nd.dL k)) Zs (.sl (r:=[a.d]) (d:=a.d) (by rw[Nd.gJ];exact aG.2 ⟨a,g,A⟩) Zs (i a g e b))
termination_by f
decreasing_by exact Nd.lt g
end
def ID(l:aX)(a:l.length<=ao):au 323 [.sl 1 (aq Bi.d l)] (.cs 1 (aq Bi.d l)):=by
 refine Sp.e [] [.tmp 2] func323 ntmps323 ?_;exact FR
def AS(a b:aX)(i:b≠[])(j:a.length+b.length<=1048576):au 304 [.sl 1 (aq Bi.d a),.sl 1 (aq Bi.d b)] (.sl 1 (aq Bi.d (a++b))):=by
 have h:=x0 Bi.one (a++b);rw[o_,fN]at h;obtain⟨f,e,rfl⟩:=List.exists_cons_of_ne_nil i;show au 304 [_,.sl 1 ([f.d]::aq Bi.d e)] _;refine Sp.s [] [.tmp 4] func304 ntmps304 ?_;refine bO (ID a iM) ?_;rw[di]at j;exact⟨⟨h,Nat.succ_pos _,Zo,by unfold ao;omega⟩,Fz.rows (ob:=⟨0,217,1,(aq Bi.d a).flatten++(aq Bi.d (f::e)).flatten,aa⟩) (rows:=aq Bi.d (a++f::e)) (by simp[aj,aq]) A A Zd (by simp[aq]) (e_ _) (by rw[o_,fN]) (by simp only[aq,aG];rintro m⟨k,_,rfl⟩l g;simp at g;subst g;exact Bi.cl k)⟩
def U_(a:aX)(e:a.length<=1048576):au 304 [.sl 1 (aq Bi.d a),a'] (.sl 1 (aq Bi.d a)):=by
 refine Sp.s [] [.tmp 4] func304 ntmps304 ?_;refine bO (ID a iM) ?_;exact .cs _ _ (ed λb _=>Bi.cl b)
def Nd.one(a:Nd):b4 a.d=ad:=by cases a;rfl
def Nd.vw(a:Nd):∃g h i j k l m o b f e p q r s,a.d=.pa a.id [g,h,i,j,k,l,m,o,I b,S f,.sl 3 (O.ae e),p,q,r,s]/\a.ty=.mk b f e:=by
 obtain⟨u,⟨w,v,z,⟨C,F,D⟩,B,G⟩,⟨b,f,e⟩,y,x,bs,t⟩:=a;exact⟨_,_,_,_,_,_,_,_,_,_,_,_,_,_,_,A,A⟩
abbrev ca(k v:Int)(n:BA)(tk:Int)(tn:BA)(az:cz)(ns:aK)(ts:a_)(y0 y1 y2:D)(l:Int)(xk h_ k7:D):DL:=[I k,I v,S n,I tk,S tn,.sl 3 (O.ae az),.sl 1 (ns.map λs=>[S s]),.sl 8 (Y.ae ts),y0,y1,y2,I l,xk,h_,k7]
def NG(s:St)(sc:aX)(b:Nat):Prop:=s.N<=b/\(∀t ob,t≠8->s.H t=E ob->∀d∈ob.cells,¬eh b d)/\¬eh b (.sl 1 (aq Bi.d sc))
variable {a4:aw}{a5:aF}{i3:aX}{YN:Nat → D → Prop}{h:Nat}{i0:ON}{gc:aU}
def rW{k v tk l X:Int}{n tn:BA}{az:cz}{ns:aK}{ts:a_}{kids:dv}{R:Nat->Nd->Bool->Prop}(aJ:kids.length<ts.length)(bn:kids.length<=1048576)
 (aM:jj aB 280 [.ag [ai.sl a4,ah.sl a5],.ag (ts[kids.length]).ds,.sl 1 (aq Bi.d i3),I X] YN) (av:∀j s,YN j s->∃e i,s=.tp [Nd.d e,B i]/\R j e i)
 {g:St} {gn:Nat} {y0 y1 y2 xk h_ k7:D} {SS:aD} (aT:h=19\/h=75) (m:g.H h=E ⟨gn,219,15,ca k v n tk tn az ns ts y0 y1 y2 l xk h_ k7,aa⟩)
 (V:aH SS g.H 174 1 (aq Nd.d kids) xk) (q:h∉SS/\8∉SS/\37∉SS)
 (au:∀j e i H Z F,R j e i->(∀o,j<=o->NG g i3 o)->aH [38] H 174 1 (aq Nd.d (kids++[e])) F->H h=E ⟨gn,219,15,ca k v n tk tn az ns ts y0 y1 y2 l F h_ k7,aa⟩->
  (∀b,b≠h->b≠8->b≠37->b≠38->b∉SS->H b=g.H b)->gc ({g with H:=H,n:=Z}.put i0 (.tp [.ag e.ty.ds,B i]))):
 gx aB g 303 [.ag [ai.sl a4,ah.sl a5],.rf h gn 0,.sl 1 (aq Bi.d i3),I X] i0 gc:=by
 have aC:∀u∈[ai.sl a4,ah.sl a5],Cl u:=by simp only[a7];exact⟨ai.cI a4,ah.cI a5,Zs⟩
 have aS:Cl (.sl 1 (aq Bi.d i3)):=ed λbc _=>Bi.cl bc;have am:cy aB 167=E (174,1,8):=Zk;have aG:=dC Nd.d kids;have J:=Y.bo ts kids.length aJ;have M:=Y.b1 ts[kids.length];have Q:List.take 8 (ts[kids.length]).ds=(ts[kids.length]).ds:=cU Zo;have bp:∃t:Int,t=kids.length:=⟨_,A⟩;have aZ:=V;have a0:(xk=a'/\(Y.ae ts)[0]?=E (ts[kids.length]).ds)\/∃b p,xk=.ms b p kids.length:=by
  rcases V with⟨x,rfl⟩|⟨b,p,_,rfl,_⟩
  .have:kids.length=0:=by simpa[aq]using x
   exact .inl ⟨A,by rw[<-J,this]⟩
  .exact .inr ⟨b,p,by rw[aG]⟩
 rcases aT with rfl|rfl
 all_goals
  refine pz [1000038] [.cell 8 87,.tmp 9] func303 A Zk ntmps303 A Zs ?_;simp only[m,ca,go_sem];refine Cv [] [18,22] mixed Zk ?_;rcases a0 with⟨C,an⟩|⟨b,p,C⟩
 all_goals
  rw[C]at m;simp only[m,go_sem]
  first|simp only[an,M,Q,go_sem]|simp only[J,M,Q,go_sem]
  refine qi [] aM (.c (.cl _ (Cl.bu aC)) (.c (.cl _ (Cl.bu (Y.cl _))) (.c (.cl _ aS) (.c (.cl _ (aO _)) .n)))) ?_;intro G s aR bm aL;obtain⟨e,i,rfl,ax⟩:=av G s aR;obtain⟨be,bf,bg,bh,bi,bj,bk,bl,bq,bs,br,bt,bv,bw,bx,P,aW⟩:=Nd.vw e;simp only[ly,P,m,go_sem];have W:=aZ;rw[C]at W;have aA:∀ak t,∀b∈SS,aj (aj (aj (aj g.H 8 aa) 8 ak) 37 aa) 37 t b=g.H b:=λak t b r=>by
   have ar:b≠8:=λw=>q.2.1 (w▸r);have ap:b≠37:=λw=>q.2.2 (w▸r);simp[aj,ar,ap]
  refine GK.intro (mI (S:=SS) (f:=Nd.d) (l:=kids) (a:=e) am (by simp only[af,aI,aV,aP];exact W.congr (aA _ _)) (by simp[af,cF,aj,P]) (Nd.one e) Zo Zd ?_);intro bd Z F aY y;have L:=y 8 Zd q.2.1;simp only[bH,bV,dP,aP,dz]at L;rcases aY with⟨x,_⟩|⟨t1,K,U,rfl,aN⟩
  .simp[aq]at x
  simp only[bG]at U;subst U;simp only[(y _ Zd q.1).trans (by simp only[aj];exact m),L,ca,go_sem];have z:=au G e i;rw[aW]at z;simp only[O.ds]at z;refine z _ _ (.ms 38 K (aq Nd.d (kids++[e])).length) ax (λo ay=>?_) (.inr ⟨38,K,Zs,A,by simp[aj,aN,dC]⟩) (by simp[aj,dC]) λb a8 ab a9 ba bb=>?_
  .obtain⟨a1,a2,a3⟩:=aL o ay;refine⟨a1,λb a6 r aQ u aE=>a2 b a6 ?_ u aE,a3 _ Zs⟩;simp[aj,r,aQ]
  .have:=y b ba bb;simp only[aj,ab,a9,aV]at this;simp[aj,a8,ab,this]
section
open Classical
mutual
def fv:Y->List ByteArray->ByteArray->Prop
 |.mk k _ n _ ns ks,sc,x=>(k=1/\n=x/\x∉sc)\/rL k n ns ks 0 sc x
def rL(k:Int)(n:ByteArray)(ns:List ByteArray):List Y->Nat->List ByteArray->ByteArray->Prop
 |[],_,_,_=>False
 |c::cs,i,sc,x=>fv c (sc++bN k n ns i) x\/rL k n ns cs (i+1) sc x
end
def s8{a:aK}{b:BA}:jk a b=ad↔b∈a:=by simp[jk]
mutual
def K6:∀(t:Y)(sc out:List ByteArray)(x:ByteArray),x∈eA t sc out↔x∈out\/fv t sc x
 |.mk k _ n _ ns ks,sc,out,x=>by
  rw[eA,K7 k n ns ks,fv];by_cases h:(decide (k=1)&&!jk sc n&&!jk out n)=ad
  .rw[aM h];simp only[b3,cO,oo]at h;have a:n∉sc:=λq=>by rw[s8.2 q]at h;simp at h
   exact Zg
  .rw[av h];constructor
   .exact Zg
   .rintro(q|⟨f,rfl,a⟩|q)
    .exact .inl q
    .by_cases b:n∈out
     .exact .inl b
     .refine(h ?_).elim;have d:jk sc n=al:=by rw[Bool.eq_false_iff];exact λq=>a (s8.1 q)
      have e:jk out n=al:=by rw[Bool.eq_false_iff];exact λq=>b (s8.1 q)
      simp[f,d,e]
    .exact .inr q
def K7(k:Int)(n:ByteArray)(ns:List ByteArray):∀(l:List Y)(i:Nat)(sc out:List ByteArray)(x:ByteArray),x∈fw k n ns l i sc out↔x∈out\/rL k n ns l i sc x
 |[],i,sc,out,x=>by simp[fw,rL]
 |c::cs,i,sc,out,x=>by rw[fw,K7 k n ns cs,K6 c,rL,or_assoc]
end
def oT(k:Int)(n:BA)(ns:aK):∀(e:a_)(b:Nat)(sc:aK)(d:BA),rL k n ns e b sc d↔∃(a:Nat)(f:a<e.length),fv e[a] (sc++bN k n ns (b+a)) d
 |[],b,sc,d=>by simp[rL]
 |c::h,b,sc,d=>by
  rw[rL,oT k n ns h];constructor
  .rintro(g|⟨a,f,g⟩)
   .exact⟨0,Zs,g⟩
   .exact⟨a+1,by simpa using f,by exact Zg⟩
  .exact Zg
def O.w(t:O):Prop:=eL t=ad/\t.ok
structure fR (ab:List ai) (ds:List ah):Prop where
 ll:mG ab
 vd:om ab
 len:ds.length<=8
 wV:∀d∈ds,O.w (ah.ty d)
 rD:∀n,∀t∈jd ab n,O.w t
structure TC (ab:List ai) (ds:List ah) (t:Y) (sc:List ByteArray):Prop where
 gd:dE t=ad
 fit:Y.aY (dR ab) t=ad
 cA:Y.aY (fC ab) t=ad
 free:∀x,fv t sc x->0<=dh ds x
 ok:t.ok
def iQ{a:Y->Bool}{k v:Int}{n:BA}{ty:O}{ns:aK}{ks:a_}(b:Y.aY a (.mk k v n ty ns ks)=ad):a (.mk k v n ty ns ks)=ad/\∀d∈ks,Y.aY a d=ad:=by
 rw[Y.aY,Y.gB,b3,b6]at b;exact b
section
variable{ab:aw}{ds:aF}{k v:Int}{n:BA}{ty:O}{ns:aK}{ks:a_}{sc:aK}
def TC.cM(e:TC ab ds (.mk k v n ty ns ks) sc)(b:Nat)(j:b<ks.length):TC ab ds ks[b] (sc++bN k n ns b):=by
 obtain⟨f,g,h,i,d⟩:=e;have a:=ax j;rw[Y.ok]at d;refine⟨(iQ f).2 _ a,(iQ g).2 _ a,(iQ h).2 _ a,λl m=>i l ?_,?_⟩
 .rw[fv,oT];exact Zg
 .exact Y.dW d.2.2.2.2.2 _ a
def TC.form(a:TC ab ds (.mk k v n ty ns ks) sc):a1 ks.length (cN k).1 (cN k).2=ad/\j' k n=ad/\jt k ty=ad/\im k ns=ad/\lR k v=ad/\kV k ks=ad:=by
 have:=(iQ a.gd).1;simp only[nh,fJ,fp,b3]at this;exact Zg
end
end
def fb(kids:dv)(bs:aX):aD:=bs.map Bi.id++(kids.map Nd.ids).flatten
structure oz (ab:List ai) (ds:List ah) (t:Y) (sc:List Bi) (l:Int) (N:Nat) (ok:Bool) (ty:O) (kids:List Nd) (bs:List Bi) (a:Option Bi):Prop where
 nodup:(fb kids bs).Nodup
 ge:∀i∈fb kids bs,N<=i
 Ys:ok=(a6 ab ds t (sc.map Bi.e) l).isSome
 nY:ok=ad->∀id,fB ab ds t (.mk id t ty l kids bs a) sc l
def uv(ab:aw)(ds:aF)(t:Y)(sc:aX)(l:Int)(N:Nat)(nd:Nd)(ok:Bool):Prop:=EZ N nd/\ok=(a6 ab ds t (sc.map Bi.e) l).isSome/\(ok=ad->fB ab ds t nd sc l)
def NE(ab:aw)(ds:aF)(t:Y)(sc:aX)(l:Int)(N:Nat)(r:D):Prop:=∃nd ok,r=.tp [Nd.d nd,B ok]/\uv ab ds t sc l N nd ok
abbrev qb(ab:aw)(ds:aF)(t:Y)(sc:aX)(l:Int):Prop:=jj aB 280 [.ag [ai.sl ab,ah.sl ds],.ag t.ds,.sl 1 (aq Bi.d sc),I l] (NE ab ds t sc l)
variable {pi:Y}{m7:Nd}{a0:Int}
def fB.ty(a:fB a4 a5 pi m7 i3 a0):a6 a4 a5 pi (i3.map Bi.e) a0=E m7.ty:=by cases a with|mk a=>exact a
variable {dg:BA}{go:O}{he:aK}{xs:Y}{g6:Env}
def oh{v:Int}{a:Int}:
 a6 a4 a5 (.mk 7 v dg go he [pi,xs]) g6 a=(a6 a4 a5 pi g6 a).bind λd=>(gT d).bind λb=>a6 a4 a5 xs (g6++[⟨dg,b.1,a+b.2⟩]) a:=by
 simp[a6,iu,kj]
variable {UV:cz}
def Nt(f:O.w (.mk 4 dg UV)):∃a,UV=[a]/\O.w a:=by
 obtain⟨b,d⟩:=f;rw[eL,O.aY,O.gB,b3,b6]at b;have e:=b.1;simp[fL]at e;obtain⟨a,rfl⟩:=hP.1 e.2;rw[O.ok]at d;exact⟨a,A,b.2 a Zs,O.dW d.2.2 a Zs⟩
def va(a:Nd):fb [a] []=a.ids:=by simp[fb]
def xK{bs:aX}{x:Bi}(b:x∈bs)(a:h=x.id):eh h (.sl 1 (aq Bi.d bs)):=by
 subst a;exact .sl (r:=[x.d]) (d:=x.d) (aG.2 ⟨x,b,A⟩) Zs (.here _)
variable {lw:O}{s2:Bool}
def I'{m:aw}{o:aF}{v b sh:Int}{j:BA}{l G:O}{k:aX}{q y z f:Nat}{i p:Nd}(C:EZ y i)(J:∀a,y<=a->q<=a)(K:q<=f)(L:¬eh f i.d)
 (R:uv m o xs (k++[⟨f,j,l,b+sh⟩]) b z p s2) (t:∀a,z<=a->q<=a/\¬eh a i.d/\¬eh a (.sl 1 (aq Bi.d (k++[⟨f,j,l,b+sh⟩])))) (M:fB m o pi i k b) (F:a6 m o pi (k.map Bi.e) b=E lw) (B:gT lw=E (l,sh)) (S:p.ty=G):
 oz m o (.mk 7 v j go he [pi,xs]) k b q s2 G [i,p] [⟨f,j,l,b+sh⟩] aa:=by
 obtain⟨r,V,s⟩:=R;have D:fb [i,p] [⟨f,j,l,b+sh⟩]=f::(i.ids++p.ids):=by simp[fb]
 have Q:a6 m o (.mk 7 v j go he [pi,xs]) (k.map Bi.e) b=a6 m o xs ((k++[(⟨f,j,l,b+sh⟩:Bi)]).map Bi.e) b:=by
  rw[oh,F,jS,B,jS];simp
 refine⟨?_,λa g=>?_,by exact Zg,λU id=>?_⟩
 .rw[D,la,gR];refine⟨λh=>?_,C.1,r.1,λa g W P I=>?_⟩
  .rcases cg.1 h with h|h
   .exact L (i.tI _ h)
   .exact(t f (r.2 f h)).2.2 (xK (x:=⟨f,j,l,b+sh⟩) Zs A)
  .subst I;exact(t a (r.2 a P)).2.1 (i.tI _ g)
 .rw[D]at g;rcases cJ.1 g with rfl|g
  .exact K
  .rcases cg.1 g with g|g
   .exact J a (C.2 a g)
   .exact(t a (r.2 a g)).1
 .have s:=s U;refine .mk (by rw[Q,s.ty,S]) Zs (by simp[er,F,B]) A λa u w=>?_
  match a,u,w with
  |0,u,w=>exact M
  |1,u,w=>exact s
def S3{s:aw}{u:aF}(a9:fR s u){v tk l:Int}{n tn:BA}{az:cz}{ns:aK}{k0 k1:Y}{i:aX}(a7:0<=l)(a8:l<=1048576)(ba:i.length<=1000000)
 (P:qb s u k0 i l) (aD:∀a:Bi,a.e.n=n->O.w a.e.t->qb s u k1 (i++[a]) l) (aL:∀aO,a6 s u k0 (i.map Bi.e) l=E aO->O.w aO)
 {am:St} {gn:Nat} (au:am.H 19=E ⟨gn,219,15,ca 7 v n tk tn az ns [k0,k1] (I 0) (S nE) (.sc (.slice aa 0 0)) l (.sc (.slice aa 0 0)) (.sc (.slice aa 0 0)) (.sc (.pointer aa)),aa⟩)
 (Z:∀aM m h g kids bs H a0 xk h_ y2,oz s u (.mk 7 v n (.mk tk tn az) ns [k0,k1]) i l am.N aM (.mk m h g) kids bs aa->H 19=E ⟨gn,219,15,ca 7 v n tk tn az ns [k0,k1] (I m) (S h) y2 l xk h_ (.sc (.pointer aa)),aa⟩->((y2=a'/\g=[])\/y2=.sl 3 (O.ae g))->
  aH [38] H 174 1 (aq Nd.d kids) xk->((h_=a'/\bs=[])\/h_=.sl 1 (aq Bi.d bs))->gc ({am with H:=H,n:=a0}.put i0 (B aM))):
 gx aB am 306 [.ag [ai.sl s,ah.sl u],.rf 19 gn 0,.sl 1 (aq Bi.d i)] i0 gc:=by
 have a_:Cl (.sl 1 (aq Bi.d i)):=ed λX _=>Bi.cl X;refine pz [32,1000065,1000068] [.tmp 6] func306 A Zk ntmps306 A Zs ?_;simp only[go_sem];refine oP (.bE [0,1,2,3,4,5] 6 (.bE [] 7 (.fin [8,9,10,11,12,13]) 11 (.fin [7,8,9,10,12,13])) 11 (.fin [6,7,8,9,10,12,13])) [] [17] mixed Zk ?_;simp only[au,go_sem];refine⟨⟨?_,?_⟩,?_⟩
 all_goals
  refine .inr (.inr (rW (kids:=[]) (ts:=[k0,k1]) (SS:=[38]) Zs Zs P (λ_ _ j=>j) (.inl A) (by first|exact au|(simp only[aj];exact au)) (.inl ⟨A,A⟩) Zs ?_));intro a5 x a2 a4 ak an aY ab K G aT;have aE:=aT 7 Zd Zd Zd Zd Zs
  try simp only[bH]at aE
  obtain⟨m,h,g,aJ⟩:∃m h g,x.ty=.mk m h g:=match x.ty with|.mk L a M=>⟨L,a,M,A⟩
  simp only[aJ,aE,go_sem];refine cX [] [25,26,30] ?_;simp only[G,ca,go_sem];obtain⟨F,aG,Q⟩:=aY;cases a2
  .simp only[go_sem];refine Z al 0 nE [] [x] [] _ _ an (.sc (.slice aa 0 0)) (.sc (.slice aa 0 0)) ⟨by rw[va];exact F.1,λf b=>by rw[va]at b;exact(ab f (F.2 f b)).1,?_,λj=>by cases j⟩ (by simp[aj,G]) (.inl ⟨A,A⟩) (K.congr bJ) (.inl ⟨A,A⟩);have aW:a6 s u k0 (i.map Bi.e) l=aa:=by
    cases aS:a6 s u k0 (i.map Bi.e) l with
    |none=>rfl
    |some _=>rw[aS]at aG;cases aG
   rw[oh,aW];rfl
  .have Q:=Q A;have J:=Q.ty;rw[aJ]at J;by_cases ap:m=1
   .subst ap;simp only[go_sem];refine GK.ptr 9 32 (ak 32) ⟨ak 32,236,5,[S n,I (1),S h,.sl 3 (O.ae g),I (l+0)],aa⟩ iN bJ A A Zs cu λa R=>?_;simp only[go_sem];refine GK.ln [67] 67 (.sl 1 (aq Bi.d [⟨a,n,.mk (1) h g,l+0⟩])) (Fz.rows (ob:=⟨_,217,1,[Bi.d ⟨a,n,.mk (1) h g,l+0⟩],aa⟩) (by simp only[bi,bG,aI,bH];rfl) A A Zd A (e_ _) A (by simp[aq];exact Bi.cl _)) (ed λX _=>Bi.cl X) ?_;simp only[G,ca,aN,go_sem];refine me (.bE [0,1,2,3,4,5,6,7,9,10,11] 12 (.fin [8,13,14,15,16,17,18,19,20]) 8 (.fin [12,13,14,15,16,17,18,19,20])) [] [78,83] ?_;simp only[go_sem];refine⟨?_,?_⟩
    all_goals
     refine hU (AS i [⟨a,n,.mk (1) h g,l+0⟩] Zs de) l9 ?_;simp only[aN,go_sem];refine .inr (.inr (rW (k:=7) (v:=v) (n:=n) (tk:=tk) (tn:=tn) (az:=az) (ns:=ns) (y0:=I 0) (y1:=S nE) (y2:=a') (l:=l) (xk:=an) (h_:=.sl 1 (aq Bi.d [⟨a,n,.mk (1) h g,l+0⟩])) (k7:=.sc (.pointer aa)) (kids:=[x]) (ts:=[k0,k1]) (SS:=[38]) Zs Zs (aD ⟨a,n,.mk (1) h g,l+0⟩ A (aL _ J)) (λ_ _ j=>j) (.inl A) (by simp[aj,ca];done) (K.congr (by simp[aj,aN])) Zs ?_));intro aQ z aA aP a1 aC ax y ay av aV;obtain⟨C,D,o,W⟩:∃C D o,z.ty=.mk C D o:=match z.ty with|.mk L a M=>⟨L,a,M,A⟩
     simp only[W,av,ca,go_sem];refine Z aA C D o [x,z] [⟨a,n,.mk (1) h g,l+0⟩] _ _ aC (.sl 1 (aq Bi.d [⟨a,n,.mk (1) h g,l+0⟩])) (.sl 3 (O.ae o)) ?_ (by simp[aj,ca]) (.inr A) (ay.congr bJ) (.inr A);rcases K with⟨P,_⟩|⟨t1,aR,V,rfl,U⟩
     .simp[aq]at P
     simp only[bG]at V;subst V;refine I' (sh:=0) F (λf b=>(ab f b).1) R.2.2 (R.2.1 38 _ (by simp[aj];exact U) _ (by simp[aq])) ax (λf b=>⟨(y f b).1,(y f b).2.1 38 _ Zd (by simp[aj,aN];exact U) _ (by simp[aq]),(y f b).2.2⟩) Q J (by simp[gT]) W
   .by_cases ar:m=4
    .subst ar;simp only[go_sem];obtain⟨⟨p,r,q⟩,rfl,aZ⟩:=Nt (aL _ J);refine cX [7,19] [] ?_;have a3:IntKind.i64.wrap (l+1)=l+1:=cW _ Zo;simp only[G,ca,a3,O.ae,go_sem];refine GK.ptr 9 32 (ak 32) ⟨ak 32,236,5,[S n,I (p),S r,.sl 3 (O.ae q),I (l+1)],aa⟩ iN bJ A A Zs cu λa R=>?_;simp only[go_sem];refine GK.ln [67] 67 (.sl 1 (aq Bi.d [⟨a,n,.mk (p) r q,l+1⟩])) (Fz.rows (ob:=⟨_,217,1,[Bi.d ⟨a,n,.mk (p) r q,l+1⟩],aa⟩) (by simp only[bi,bG,aI,bH];rfl) A A Zd A (e_ _) A (by simp[aq];exact Bi.cl _)) (ed λX _=>Bi.cl X) ?_;simp only[G,ca,aN,go_sem];refine me (.bE [0,1,2,3,4,5,6,7,9,10,11] 12 (.fin [8,13,14,15,16,17,18,19,20]) 8 (.fin [12,13,14,15,16,17,18,19,20])) [] [78,83] ?_;simp only[go_sem];refine⟨?_,?_⟩
     all_goals
      refine hU (AS i [⟨a,n,.mk (p) r q,l+1⟩] Zs de) l9 ?_;simp only[aN,go_sem];refine .inr (.inr (rW (k:=7) (v:=v) (n:=n) (tk:=tk) (tn:=tn) (az:=az) (ns:=ns) (y0:=I 0) (y1:=S nE) (y2:=a') (l:=l) (xk:=an) (h_:=.sl 1 (aq Bi.d [⟨a,n,.mk (p) r q,l+1⟩])) (k7:=.sc (.pointer aa)) (kids:=[x]) (ts:=[k0,k1]) (SS:=[38]) Zs Zs (aD ⟨a,n,.mk (p) r q,l+1⟩ A (aZ)) (λ_ _ j=>j) (.inl A) (by simp[aj,ca];done) (K.congr (by simp[aj,aN])) Zs ?_));intro aQ z aA aP a1 aC ax y ay av aV;obtain⟨C,D,o,W⟩:∃C D o,z.ty=.mk C D o:=match z.ty with|.mk L a M=>⟨L,a,M,A⟩
      simp only[W,av,ca,go_sem];refine Z aA C D o [x,z] [⟨a,n,.mk (p) r q,l+1⟩] _ _ aC (.sl 1 (aq Bi.d [⟨a,n,.mk (p) r q,l+1⟩])) (.sl 3 (O.ae o)) ?_ (by simp[aj,ca]) (.inr A) (ay.congr bJ) (.inr A);rcases K with⟨P,_⟩|⟨t1,aR,V,rfl,U⟩
      .simp[aq]at P
      simp only[bG]at V;subst V;refine I' (sh:=1) F (λf b=>(ab f b).1) R.2.2 (R.2.1 38 _ (by simp[aj];exact U) _ (by simp[aq])) ax (λf b=>⟨(y f b).1,(y f b).2.1 38 _ Zd (by simp[aj,aN];exact U) _ (by simp[aq]),(y f b).2.2⟩) Q J (by simp[gT]) W
    .have f1:(m !=1)=ad:=by simp[ap]
     have f4:(m !=4)=ad:=by simp[ar]
     simp only[f1,f4,go_sem];refine Z al 0 nE [] [x] [] _ _ an (.sc (.slice aa 0 0)) (.sc (.slice aa 0 0)) ⟨by rw[va];exact F.1,λf b=>by rw[va]at b;exact(ab f (F.2 f b)).1,?_,λj=>by cases j⟩ (by simp[aj,G]) (.inl ⟨A,A⟩) (K.congr bJ) (.inl ⟨A,A⟩);rw[oh,J];simp[gT,ap,ar]
def sw(a b x:Nat):Nat:=if x=a then b else if x=b then a else x
def VC(b d:Nat):∀a,sw b d (sw b d a)=a:=λa=>by unfold sw;split<;>split<;>(try split)<;>omega
variable {V a2:Nat}
def x7(a:a2≠h)(b:a2≠V):sw h V a2=a2:=by simp[sw,a,b]
variable {g4:aD}{fd:bt}{bv:aQ}{g1:Type}
def Ae{d:g1->D}{h:List g1}{b:D}{p:b5}(j:aH g4 fd bv 1 (aq d h) b)(g:∀a∈g4,p a=a)(l:∀f,Cl (d f)):aH g4 (λa=>(fd (p a)).map (Ob.aJ p)) bv 1 (aq d h) b/\b.aJ p=b:=by
 rcases j with⟨k,rfl⟩|⟨a,i,e,rfl,m⟩
 .exact⟨.inl ⟨k,A⟩,A⟩
 .refine⟨.inr ⟨a,i,e,A,?_⟩,by rw[D.aJ,g a e]⟩;simp only[g a e,m,ey,Ob.aJ];congr 2;rw[iq];rw[dZ];exact gX λf _=>D.gO (l f)
def NF(s:St)(sc:aX)(b:Nat):Prop:=s.N<=b/\(∀t ob,t≠908->s.H t=E ob->∀d∈ob.cells,Cl d->¬eh b d)/\¬eh b (.sl 1 (aq Bi.d sc))
def R9{k v tk l y:Int}{n tn:BA}{az:cz}{ns:aK}{ts:a_}{kids:dv}{t:aX}{R:Nat->Nd->Bool->Prop}(aI:kids.length<ts.length)(aE:kids.length<=1048576)
 (aM:jj aB 280 [.ag [ai.sl a4,ah.sl a5],.ag (ts[kids.length]).ds,.sl 1 (aq Bi.d t),I y] YN) (ap:∀j M,YN j M->∃i o,M=.tp [Nd.d i,B o]/\R j i o)
 {e:St} {gn:Nat} {y0 y1 y2 xk h_ k7:D} {SS:aD} (aQ:h=19\/h=75) (aN:e.H h=E ⟨gn,219,15,ca k v n tk tn az ns ts y0 y1 y2 l xk h_ k7,aa⟩) (ay:eO [y0,y1,y2,h_,k7])
 (aR:aH SS e.H 174 1 (aq Nd.d kids) xk) (s:h∉SS/\8∉SS/\908∉SS/\37∉SS)
 (an:∀j i o H z u,R j i o->(∀r,j<=r->NF e t r)->aH [38] H 174 1 (aq Nd.d (kids++[i])) u->H h=E ⟨gn,219,15,ca k v n tk tn az ns ts y0 y1 y2 l u h_ k7,aa⟩->
  (∀a,a≠h->a≠908->a≠37->a≠38->a∉SS->H a=e.H a)->gc ({e with H:=H,n:=z}.put i0 (.tp [.ag i.ty.ds,B o]))):
 gx aB e 303 [.ag [ai.sl a4,ah.sl a5],.rf h gn 0,.sl 1 (aq Bi.d t),I y] i0 gc:=by
 have f:=VC 8 908;have g:h≠8/\h≠908:=Zo;have K:∀a∈SS,sw 8 908 a=a:=λa m=>x7 (λb=>s.2.1 (b▸m)) λb=>s.2.2.1 (b▸m);have au:D.fV (sw 8 908) [.ag [ai.sl a4,ah.sl a5],.rf h gn 0,.sl 1 (aq Bi.d t),I y]=[.ag [ai.sl a4,ah.sl a5],.rf h gn 0,.sl 1 (aq Bi.d t),I y]:=by
  rw[D.fV,D.fV,D.fV,D.fV,D.fV,D.gO (Cl.bu cu),D.gO (ed λq _=>Bi.cl q),D.aJ,D.aJ,x7 g.1 g.2]
 obtain⟨aT,aV⟩:=Ae aR K Nd.cl;have J:∀w:D,w.aJ (sw 8 908)=w->(ca k v n tk tn az ns ts y0 y1 y2 l w h_ k7).map (D.aJ (sw 8 908))=ca k v n tk tn az ns ts y0 y1 y2 l w h_ k7:=λw aC=>by
  have G:=ay.all;simp only[a7]at G;obtain⟨Q,U,V,W,X,-⟩:=G;have Z:D.aJ (sw 8 908) (.sl 3 (O.ae az))=.sl 3 (O.ae az):=D.gO (O.cI az);have ab:D.aJ (sw 8 908) (.sl 1 (ns.map λe=>[S e]))=.sl 1 (ns.map λe=>[S e]):=D.gO (jW ns);have ak:D.aJ (sw 8 908) (.sl 8 (Y.ae ts))=.sl 8 (Y.ae ts):=D.gO (Y.cI ts);simp only[ca,bp,cB,D.gO Q,D.gO U,D.gO V,D.gO W,D.gO X,aC,Z,ab,ak];rfl
 refine yR (sw 8 908) f ?_;rw[au];refine rW (k:=k) (v:=v) (tk:=tk) (l:=l) (n:=n) (tn:=tn) (az:=az) (ns:=ns) aI aE aM ap aQ (gn:=gn) (y0:=y0) (y1:=y1) (y2:=y2) (xk:=xk) (h_:=h_) (k7:=k7) (SS:=SS) ?_ aT ⟨s.1,s.2.1,s.2.2.2⟩ λj i o H z u ar aL aS aO am=>?_
 .show(e.H (sw 8 908 h)).map (Ob.aJ (sw 8 908))=_;rw[x7 g.1 g.2,aN,ey,Ob.aJ];simp only[J xk aV]
 .have L:=Ae (p:=sw 8 908) aS (λa m=>by simp at m;subst m;rfl) Nd.cl;rw[St.tO];have b:({e.aJ (sw 8 908)with H:=H,n:=z}:St).aJ (sw 8 908)={e with H:=λa=>(H (sw 8 908 a)).map (Ob.aJ (sw 8 908)),n:=λa=>z (sw 8 908 a)}:=by
   simp only[St.aJ,St.mk.injEq,fa];funext a9;exact D.jp f _
  rw[b,D.gO (Cl.ir cu)];refine an j i o _ _ u ar (λr av=>?_) L.1 ?_ λa a0 a1 a2 a3 a6=>?_
  .obtain⟨aW,aY,aZ⟩:=aL r av;refine⟨aW,λa C m aP x aA ax=>?_,aZ⟩;have:=aY (sw 8 908 a) (Ob.aJ (sw 8 908) C) (λb=>m (by have:=dO (sw 8 908) b;rw[f]at this;exact this)) (by show(e.H (sw 8 908 (sw 8 908 a))).map _=_;rw[f,aP];rfl) x (by
    exact aG.2 ⟨x,aA,D.gO ax⟩)
   exact this
  .rw[x7 g.1 g.2,aO,ey,Ob.aJ];simp only[J u L.2]
  .have A:∀q,sw 8 908 a=q->q≠8->q≠908->a=q:=λq b P r=>by have:=dO (sw 8 908) b;rw[f,x7 P r]at this;exact this
   have:=am (sw 8 908 a) (λb=>a0 (A _ b g.1 g.2)) (λb=>a1 (by have:=dO (sw 8 908) b;rw[f]at this;exact this)) (λb=>a2 (A _ b Zd Zd)) (λb=>a3 (A _ b Zd Zd)) λb=>a6 (by
    have F:=K _ b;rw[f]at F;rw[F];exact b)
   rw[this];show((e.H (sw 8 908 (sw 8 908 a))).map (Ob.aJ (sw 8 908))).map (Ob.aJ (sw 8 908))=e.H a;rw[f];cases e.H a with
   |none=>rfl
   |some C=>
    obtain⟨gn,b,ba,a8,a'⟩:=C;simp only[ey,Ob.aJ,dZ];congr 2;have:(D.aJ (sw 8 908)∘D.aJ (sw 8 908))=id:=funext λx=>D.jp f x;rw[this,List.map_id]
structure hT (ab:List ai) (ds:List ah) (ks:List Y) (sc:List Bi) (l:Int) (N q:Nat) (a:List Nd):Prop where
 len:a.length=q
 le:q<=ks.length
 nodup:(fb a []).Nodup
 ge:∀i∈fb a [],N<=i
 nY:∀(j:Nat)(b:j<ks.length)(d:j<a.length),fB ab ds ks[j] a[j] sc l
variable {v2:dv}
def K8:h∈fb v2 []↔∃a∈v2,h∈a.ids:=by
 simp[fb];exact Zg
variable {hw:a_}
def hT.add{N1 g:Nat}{b:dv}{nd:Nd}{ok:Bool}(f:hT a4 a5 hw i3 a0 h g b)(B:g<hw.length)(t:uv a4 a5 hw[g] i3 a0 N1 nd ok)(q:∀a,N1<=a->h<=a/\∀k∈b,¬eh a k.d):
 (fb (b++[nd]) []).Nodup/\(∀a∈fb (b++[nd]) [],h<=a)/\(ok=ad->hT a4 a5 hw i3 a0 h (g+1) (b++[nd])):=by
 obtain⟨l,z,y⟩:=t;have m:fb (b++[nd]) []=fb b []++nd.ids:=by simp[fb]
 have o:(fb (b++[nd]) []).Nodup:=by
  rw[m,gR];refine⟨f.nodup,l.1,λa e j i r=>?_⟩;subst r;obtain⟨k,u,s⟩:=K8.1 e;exact(q a (l.2 a i)).2 k u (k.tI _ s)
 have p:∀a∈fb (b++[nd]) [],h<=a:=λa e=>by
  rw[m]at e;rcases cg.1 e with e|e
  .exact f.ge a e
  .exact(q a (l.2 a e)).1
 refine⟨o,p,λA=>⟨by simp[f.len],Zo,o,p,λj w x=>?_⟩⟩;by_cases i:j<b.length
 .rw[yh i];exact f.nY j w i
 .have:j=g:=by have:=f.len;simp at x;omega
  exact Zg
def p0{b:aw}{a v:Int}{d:Int}(g:a=3\/a=5\/a=8\/a=11):
 a6 b a5 (.mk a v dg go he hw) g6 d=(hw.mapM λe=>a6 b a5 e g6 d).bind (ff b a dg):=by
 have:((hw.map (a6 b a5)).mapM λf:uA=>f g6 d)=hw.mapM λe=>a6 b a5 e g6 d:=by rw[List.mapM_map];rfl
 rcases g with rfl|rfl|rfl|rfl<;>simp[a6,iu,EA,this]
variable {m4:Type}
def mapM_none{a:g1->Option m4}:∀{l:List g1}{q:Nat}(b:q<l.length),a l[q]=aa->l.mapM a=aa
 |x::l,0,b,d=>by exact Zg
 |x::l,q+1,b,d=>by
  rw[k_,mapM_none (l:=l) (q:=q) (by simpa using b) (by simpa using d)];cases a x<;>rfl
def mapM_some{Z:Type}{b:g1->Option m4}{g:Z->m4}:∀{l:List g1}{m:List Z}(h:m.length=l.length),(∀(a:Nat)(e:a<l.length)(f:a<m.length),b l[a]=E (g m[a]))->l.mapM b=E (m.map g)
 |[],[],_,_=>rfl
 |x::l,i::m,h,d=>by
  rw[k_,show b x=E (g i)from d 0 Zs Zs,mapM_some (l:=l) (m:=m) (by simpa using h) λa e f=>d (a+1) (by simpa using e) (by simpa using f)];rfl
def hT.types(a:hT a4 a5 hw i3 a0 h hw.length v2):(hw.mapM λb=>a6 a4 a5 b (i3.map Bi.e) a0)=E (v2.map Nd.ty):=
 mapM_some a.len λg d f=>(a.nY g d f).ty
def hT.fill{b:aw}{a v g:Int}{n:BA}{t ty:O}{ns:aK}{i:dv}{ok:Bool}(d:hT b a5 hw i3 g h hw.length i)(f:a=3\/a=5\/a=8\/a=11)(q:ok=(ff b a n (i.map Nd.ty)).isSome)(r:ok=ad->ff b a n (i.map Nd.ty)=E ty):
 oz b a5 (.mk a v n t ns hw) i3 g h ok ty i [] aa:=by
 have j:a6 b a5 (.mk a v n t ns hw) (i3.map Bi.e) g=ff b a n (i.map Nd.ty):=by rw[p0 f,d.types];rfl
 refine⟨d.nodup,d.ge,by rw[j];exact q,λs id=>.mk (by rw[j];exact r s) ?_ ?_ d.len λk o p=>?_⟩
 .rcases f with rfl|rfl|rfl|rfl<;>simp
 .rcases f with rfl|rfl|rfl|rfl<;>simp[er]
 .have l:cV a k=al:=by rcases f with rfl|rfl|rfl|rfl<;>simp[cV]
  have m:bL a g=g:=by rcases f with rfl|rfl|rfl|rfl<;>simp[bL]
  rw[l,m];exact d.nY k o p
def kq(nt N:Nat)(T:dd)(a:List (Nat×D))(p:(lf)->(bt)->Prop)(s:St):Prop:=s.nt=nt/\s.N=N/\s.T=T/\(∀x∈a,s.env x.1=x.2)/\p s.env s.H
instance(nt N:Nat)(T:List TE)(f:Nat->List (Nat×D))(p:Nat->(Nat->D)->(Nat->Option Ob)->Prop):ur (λq=>kq nt N T (f q) (p q)) nt f (λq e H _ h g=>g=N/\h=T/\p q e H):=⟨λ_ _⟨a,b,c,d,e⟩=>⟨a,d,b,c,e⟩⟩
section
open Classical
def O.I3:∀b a:cz,O.ae (b++a)=O.ae b++O.ae a
 |[],a=>rfl
 |x::b,a=>by rw[bf,O.ae,O.I3 b a,O.ae,bf]
def O.Cz:∀b:cz,∀a∈O.ae b,a.length=3
 |[],a,h=>by cases h
 |.mk d e f::b,a,h=>by
  rw[O.ae]at h;rcases cJ.1 h with rfl|h
  .rfl
  .exact O.Cz b a h
def o6:∀{d:List g1},d.length=2->∃a b,d=[a,b]
 |[a,b],_=>⟨a,b,A⟩
def KN:∀{e:List g1},e.length=3->∃a b d,e=[a,b,d]
 |[a,b,d],_=>⟨a,b,d,A⟩
variable {am:D}
def TA(j:aH [38] fd bv 1 (aq Nd.d v2) am)(k:∀i,fd 38=E i->∀b∈i.cells,Cl b->¬eh h b):∀a∈v2,¬eh h a.d:=λa g=>by
 rcases j with⟨e,_⟩|⟨o,m,f,-,l⟩
 .simp[aq]at e;subst e;cases g
 .simp only[bG]at f;subst f;exact k _ l _ (by rw[iq];exact aG.2 ⟨a,g,A⟩) (Nd.cl a)
def Az{f:aw}{u:aF}(br:fR f u){k v tk l:Int}{n tn:BA}{az:cz}{ns:aK}{ks:a_}{K:aX}{b1:aK}(ab:k=3\/k=5\/k=8\/k=11)(ch:0<=l)(ci:l<=1048576)
 (aC:TC f u (.mk k v n (.mk tk tn az) ns ks) b1) (bk:∀m∈ks,qb f u m K l) (bt:∀m∈ks,∀ty,a6 f u m (K.map Bi.e) l=E ty->O.w ty)
 {J:St} {gn:Nat} (bm:J.H 19=E ⟨gn,219,15,ca k v n tk tn az ns ks (I 0) (S nE) (.sc (.slice aa 0 0)) l (.sc (.slice aa 0 0)) (.sc (.slice aa 0 0)) (.sc (.pointer aa)),aa⟩)
 (y:∀ok U V P kids H bv h a2,oz f u (.mk k v n (.mk tk tn az) ns ks) K l J.N ok (.mk U V P) kids [] aa->H 19=E ⟨gn,219,15,ca k v n tk tn az ns ks (I U) (S V) a2 l h (.sc (.slice aa 0 0)) (.sc (.pointer aa)),aa⟩->((a2=a'/\P=[])\/a2=.sl 3 (O.ae P))->
  aH [38] H 174 1 (aq Nd.d kids) h->gc ({J with H:=H,n:=bv}.put i0 (B ok))):
 gx aB J 308 [.ag [ai.sl f,ah.sl u],.rf 19 gn 0,.sl 1 (aq Bi.d K)] i0 gc:=by
 have cg:ks.length<=5:=by
  have:=aC.form.1;rcases ab with rfl|rfl|rfl|rfl<;>simp[a1,cN]at this<;>omega
 have bL:cy aB 72=E (87,3,48):=Zk;refine pz [1000036,1000038] [.tmp 6] func308 A Zk ntmps308 A Zs ?_;simp only[bm,ca,go_sem];refine bq 18 ks.length (λa0=>kq 148 J.N J.T [(1,.rf 19 gn 0),(2,.sl 1 (aq Bi.d K)),(3,.cp [ai.sl f,ah.sl u]),(17,I ks.length)] λa5 H=>∃b h,hT f u ks K l J.N a0 b/\H 19=E ⟨gn,219,15,ca k v n tk tn az ns ks (I 0) (S nE) (.sc (.slice aa 0 0)) l h (.sc (.slice aa 0 0)) (.sc (.pointer aa)),aa⟩/\
  aH [38] H 174 1 (aq Nd.d b) h/\aH [36] H 87 3 (O.ae (b.map Nd.ty)) (a5 7)) A ⟨A,A,A,by simp[af,ba,ai.sl,ah.sl],[],.sc (.slice aa 0 0),⟨A,iy _,by simp[fb],by simp[fb],λa0 _ Z=>by simp at Z⟩,by simp[bm],.inl ⟨A,A⟩,.inl ⟨A,A⟩⟩ ?_
 rintro a0 a5 H bv cb b' aJ⟨rfl,rfl,b,h,M,g,x,aZ⟩;simp only[go_sem];refine aT (λa=>?_) λa=>?_
 .have aL:=bh a;obtain rfl:=M.len;simp only[a,ca,go_sem];refine oP (.bE [0,1,2,3,4,5] 6 (.bE [] 7 (.fin [8,9,10,11,12,13]) 11 (.fin [7,8,9,10,12,13])) 11 (.fin [6,7,8,9,10,12,13])) [] [27] mixed Zk ?_;simp only[g,ca,go_sem];refine⟨⟨?_,?_⟩,?_⟩
  all_goals
   refine .inr (.inr (R9 (kids:=b) (ts:=ks) (SS:=[38]) Zo Zo (bk _ (ax _)) (λ_ _ i=>i) (.inl A) (by first|exact g|(simp only[aj];exact g)) (.c (aO _) (.c (aO _) (.c (aO _) (.c (aO _) (.c (aO _) .n))))) (x.congr bJ) Zs ?_));intro b_ R b0 b8 cj bG bs bl bu bn be;have bM:=be 36 Zd Zd Zd Zd Zs;have bd:=be 8 Zd Zd Zd Zd Zs
   try simp only[bH]at bd
   obtain⟨U,V,P,aR⟩:∃U V P,R.ty=.mk U V P:=match R.ty with|.mk p q m=>⟨p,q,m,A⟩
   simp only[aR,bd,go_sem];have aD:=M.add aL bs λo G=>⟨(bl o G).1,TA (x.congr bJ) λbZ=>(bl o G).2.1 38 bZ Zd⟩;cases b0
   .simp only[go_sem];refine y al 0 nE [] (b++[R]) _ _ bG (.sc (.slice aa 0 0)) ⟨aD.1,aD.2.1,?_,λi=>by cases i⟩ (by simp[aj,bn]) (.inl ⟨A,A⟩) (bu.congr bJ);rw[p0 ab,mapM_none aL]
    .rfl
    .have:=bs.2.1;cases a:a6 f u ks[b.length] (K.map Bi.e) l with
     |none=>rfl
     |some _=>rw[a]at this;cases this
   .simp only[go_sem];refine GK.intro (dS.eF (S:=[36]) (rows:=O.ae (b.map Nd.ty)) (bx:=O.ae [R.ty]) bL (by simp only[af,aI,aV,aP,bT,bU,reduceCtorEq];exact aZ.congr (by simp[aj,bM])) (O.Cz _) (by simp[af,cF,aj,O.ae,aR,O.ds]) (by simp[O.ae]) (by simp[aR,O.ae,O.ds,b4,Value.oneCell']) (by simp only[O.bb,bW,di,gG];omega) (by simp only[O.bb,bW,di,gG];unfold ao;omega) ?_);intro b9 ck cm bY bf;have a9:=bf 19 Zd Zd;simp only[bV,dP,aP,dz,bn]at a9;have bc:=bf 38 Zd Zd;simp only[bV,dP,aP,dz]at bc;simp only[go_sem];refine qH (by simp only[af,aI,bT,bU,aV,reduceCtorEq,aP];rw[iX _ Zo]) aL ⟨A,A,A,by simp[af,ai.sl,ah.sl],b++[R],bG,aD.2.2 A,by simp[a9],bu.congr (by simp[bc]),?_⟩;simp only[af,aI,aV,aP,bC,bp,cB,O.I3,bT,bU,reduceCtorEq];exact bY
 .have aJ:=bS a;subst aJ;simp only[a,go_sem];refine GK.ln [36] 7 (.sl 3 (O.ae (b.map Nd.ty))) ((aZ.congr (by simp[bi])).fz Zd (O.Cz _) (O.bA _)) (O.cI _) ?_;have ak:∀t∈b.map Nd.ty,O.w t:=λt aQ=>by
   obtain⟨am,aW,rfl⟩:=aG.1 aQ;obtain⟨o,G,rfl⟩:=dG aW;have:=M.len;exact bt _ (ax Zo) _ (M.nY o Zo G).ty
  have bX:(b.map Nd.ty).length=ks.length:=by rw[bW,M.len]
  have z:=λok ty=>M.fill (v:=v) (n:=n) (t:=.mk tk tn az) (ty:=ty) (ns:=ns) (ok:=ok) ab;obtain⟨D,aS⟩:∃D,D=b.map Nd.ty:=⟨_,A⟩;rw[<-aS]at ak bX z;rw[<-aS];clear aS aZ bk bt aJ;have aE:=aC.form.1;rcases ab with rfl|rfl|rfl|rfl
  .obtain⟨⟨L,an,Q⟩,⟨r,s,j⟩,rfl⟩:∃p q,D=[p,q]:=o6 (by simp[a1,cN]at aE;omega);simp only[aN,g,ca,O.ae,go_sem];refine hU intType .n ?_;simp only[aN,g,ca,O.ae,go_sem]
   repeat' (first|(refine mg (λa=>?_) (λa=>?_)<;>simp only[a,go_sem])|(refine aT (λa=>?_) (λa=>?_)<;>simp only[a,aN,g,ca,O.ae,go_sem]))
   all_goals skip
   all_goals
    refine y _ 1 nE [] b _ _ h (.sl 3 (O.ae [])) (z _ _ ?_ ?_) (by simp[aj,ca,O.ae]) (.inr A) (x.congr (by simp[aj,aN]))
    .simp only[ff,O.kd,bp,cB,vZ,fa,aI];exact Zg
    .intro i;simp only[ff,O.kd,bp,cB,vZ,fa,aI];rw[aM (by simp_all)]
  .obtain⟨⟨L,an,Q⟩,⟨r,s,j⟩,rfl⟩:∃p q,D=[p,q]:=o6 (by simp[a1,cN]at aE;omega);simp only[aN,g,ca,O.ae,go_sem];refine b7 ?_;refine mg (λa=>?_) λa=>?_
   .have F:L=3:=by simpa using a
    subst F;obtain⟨a8,Z⟩:=ak (.mk 3 an Q) Zs;rw[eL,O.aY,O.gB,b3,b6]at a8;obtain⟨⟨bz,bD,bB⟩,⟨b2,b5,bF⟩,rfl⟩:∃p q,Q=[p,q]:=o6 (by have:=a8.1;simp[fL]at this;exact this.2);rw[O.ok]at Z;simp only[O.ae,go_sem];refine iP (sameType (.mk bz bD bB) (.mk r s j) (O.dW Z.2.2 _ Zs)) ?_;by_cases C:O.mk bz bD bB=.mk r s j
    .simp only[C,aN,g,ca,go_sem];refine y ad b2 b5 bF b _ _ h (.sl 3 (O.ae bF)) (z _ _ ?_ ?_) (by simp[aj,ca]) (.inr A) (x.congr (by simp[aj,aN]))
     all_goals simp[ff,li,C]
    .simp only[C,go_sem];refine y al 0 nE [] b _ _ h (.sc (.slice aa 0 0)) (z _ _ ?_ λi=>by cases i) (by simp[ca,aN,g]) (.inl ⟨A,A⟩) (x.congr (by simp[aN]));simp[ff,li,C]
   .have F:L≠3:=by simpa using a
    simp only[a,go_sem];refine y al 0 nE [] b _ _ h (.sc (.slice aa 0 0)) (z _ _ ?_ λi=>by cases i) (by simp[ca,aN,g]) (.inl ⟨A,A⟩) (x.congr (by simp[aN]));simp only[ff,av (show¬(5:Int)=3 by decide),aI];cases Q with
    |nil=>rfl
    |cons am l=>cases l with
     |nil=>rfl
     |cons bI l=>cases l with
      |nil=>simp[li,F]
      |cons _ _=>rfl
  .have bR:=(iQ aC.fit).1;have bN:0<=fD f n:=by simp[dR]at bR;omega
   obtain⟨o,G,t,aQ,a3,cc,a4,cd,bK⟩:=oN bN;have bj:=uV f n br.ll.len br.ll.cs;rw[a3,bK]at bj;have X:=ai.bo f o G;have Y:=aA.bo (ai.cs f[o]) t aQ;obtain⟨m,bP⟩:∃m,m=(ai.cs f[o])[t]:=⟨_,A⟩;rw[<-bP]at Y a4;have bg:lM f n=ai.nm f[o]:=by simp[lM,a3,G]
   obtain⟨au,bQ⟩:∃au,au=f[o]:=⟨_,A⟩;rw[<-bQ]at X Y bg;obtain⟨ay,ce⟩:=au;obtain⟨W,a7⟩:=m;simp only[ai.ds,aA.ds,aA.sl,O.sl,ai.cs]at X Y;have cf:ff f 8 n D=if D=a7 then E (kh ay)else aa:=by simp[ff,a4,aA.fs,bg,ai.nm]
   simp only[aN,g,ca,go_sem];refine b7 ?_;refine d' bj ?_;simp only[X,go_sem];refine bw (IW ay) ?_;simp only[X,Y,aN,g,ca,O.ae,go_sem];refine bO (I6 D a7 281 iM λam aW bI=>sameType am bI (ak am aW).2) ?_;refine y _ 2 ay [] b _ _ h (.sl 3 (O.ae [])) (z _ _ ?_ ?_) (by simp[aj,ca,O.ae]) (.inr A) (x.congr (by simp[aj,aN]))
   .exact Zg
   .exact Zg
  .obtain⟨⟨L,an,Q⟩,⟨r,s,j⟩,⟨ap,W,ar⟩,rfl⟩:∃p q m,D=[p,q,m]:=KN (by simp[a1,cN]at aE;omega);simp only[aN,g,ca,O.ae,go_sem];refine b7 ?_;refine mg (λa=>?_) λa=>?_
   .have F:L=1:=by simpa using a
    subst F;simp only[go_sem];refine iP (sameType (.mk r s j) (.mk ap W ar) (ak _ Zs).2) ?_;refine y _ r s j b _ _ h (.sl 3 (O.ae j)) (z _ _ ?_ ?_) (by simp[aj,ca]) (.inr A) (x.congr (by simp[aj,aN]))
    .by_cases C:O.mk r s j=.mk ap W ar<;>simp[ff,O.kd,C]
    .intro i;have C:O.mk r s j=.mk ap W ar:=by simpa using i
     simp[ff,O.kd,C]
   .have F:L≠1:=by simpa using a
    simp only[a,go_sem];refine y al r s j b _ _ h (.sl 3 (O.ae j)) (z _ _ ?_ λi=>by cases i) (by simp[aj,ca]) (.inr A) (x.congr (by simp[aj,aN]));simp[ff,O.kd,F]
def IJ{a:aw}(o:om a)(e:h<a.length)(f:V<(ai.cs a[h]).length):
 fD a (aA.nm (ai.cs a[h])[V])=h/\jd a (aA.nm (ai.cs a[h])[V])=aA.fs (ai.cs a[h])[V]:=by
 obtain⟨-,i⟩:=(o.2 h e).2 V f;simp only[iC,y' a h e,ey,kM,cg,jT]at i;obtain⟨k,l⟩:=i;have m:fD a (aA.nm (ai.cs a[h])[V])=h:=kW e (by
  rw[qY];intro g r b;refine k (ft.2 ⟨mb g,aG.2 ⟨g,r,A⟩,?_⟩);simp only[oW,k9,cO]at b;obtain⟨d,p,q⟩:=b;exact aG.2 ⟨d,p,q⟩) (by simp only[oW,k9,cO];exact⟨_,ax f,A⟩)
 have s:tW a[h] (aA.nm (ai.cs a[h])[V])=V:=kW f (by
  rw[qY];intro d b j;refine l ?_;simp only[cO]at j;simp only[mb,<-kK];exact aG.2 ⟨d,b,j⟩) Zs
 refine⟨m,?_⟩;unfold jd;exact Zg
def si{v:Int}{a:Int}:
 a6 a4 a5 (.mk 9 v dg go he (pi::hw)) g6 a=(a6 a4 a5 pi g6 a).bind λb=>if b=kh (lM a4 (zE (pi::hw)))then mB (hw.map λd=>a6 a4 a5 d g6 a)else aa:=by
 simp[a6,iu,kj,EA,Function.comp_def]
def vN{v:Int}{a:Int}:
 a6 a4 a5 (.mk 10 v dg go he [pi]) g6 a=a6 a4 a5 pi (g6++cL a4 dg he a) a:=by
 simp[a6,iu,kj]
def Mp{a:List (Option O)}{b d:Option O}(e:b∈a)(i:d∈a)(g:b≠d):mB a=aa:=by
 cases a with
 |nil=>cases e
 |cons f a=>
  rw[mB,av];intro h;exact Zg
def El{a:List (Option O)}(b:aa∈a):mB a=aa:=by
 cases a with
 |nil=>cases b
 |cons d a=>
  rw[mB];split
  .exact Zg
  .rfl
def Mo{a:List (Option O)}{x:Option O}(e:a≠[])(d:∀f∈a,f=x):mB a=x:=by
 cases a with
 |nil=>exact absurd A e
 |cons b a=>
  have:=d b Zs;subst this;rw[mB,aM];exact Zg
structure sD (ab:List ai) (dB:List Y) (a:ByteArray) (i:Nat):Prop where
 hi:i<ab.length
 at_:fD ab a=i
 len:dB.length=(ai.cs (ab[i])).length
 ne:dB≠[]
 le:dB.length<=4
 br:∀(j:Nat)(h:j<dB.length)(d:j<(ai.cs (ab[i])).length),∃v n t ns b,dB[j]=.mk 10 v n t ns [b]/\n=aA.nm (ai.cs ab[i])[j]/\ns.length=(aA.fs (ai.cs ab[i])[j]).length/\ns.length<=3
variable {rt:aK}
def DH{g:aw}(ab:fR g a5){v:Int}{m:BA}{i:a_}(o:TC g a5 (.mk 9 v m go he i) rt):
 ∃q d b l,i=q::d::b/\sD g (d::b) (Y.jA d) l:=by
 obtain⟨D,-,-,-,-,t⟩:=o.form;have x:2<=i.length/\i.length<=5:=by simp[a1,cN]at D;omega
 obtain⟨q,d,b,rfl⟩:∃a f b,i=a::f::b:=by
  match i,x.1 with
  |a::f::b,_=>exact⟨a,f,b,A⟩
 have u:∀(e:Nat)(h:e<(d::b).length),∃v m go he f,(d::b)[e]=.mk 10 v m go he [f]/\0<=fD g m/\he.length<=3:=λe h=>by
  have j:=o.cM (e+1) (by simpa using h);simp only[kV,cO]at t;have k:=t (e+1) (by simpa using h);simp only[i1,ox,Nat.zero_lt_succ,Bool.and_self,cO]at j k;generalize (d::b)[e]=M at j k;obtain⟨P,Q,R,S,U,y⟩:=M;simp only[Y.kd]at k;subst k;obtain⟨f1,-,-,f4,-,-⟩:=j.form;obtain⟨f,rfl⟩:∃f,y=[f]:=hP.1 (by simp[a1,cN]at f1;omega);refine⟨_,_,_,_,f,A,?_,?_⟩
  .have:=(iQ j.fit).1;simp[dR]at this;omega
  .simp[im]at f4;omega
 obtain⟨aq,ah,t0,am,b0,r,G,-⟩:=u 0 Zs;simp only[fO]at r;have F:0<=fD g (Y.jA d):=by rw[r];exact G
 obtain⟨l,I,ap,ae,B,V,W,C,X⟩:=oN F;have w:pC g (d::b)=ad:=by
  have:=(iQ o.cA).1;simpa[fC]using this
 simp only[pC,rA,C,b3,cO,b6]at w;obtain⟨K,L⟩:=w;refine⟨q,d,b,l,A,I,B,K,Zs,by simp at x⊢;omega,λe h Z=>?_⟩;obtain⟨ar,ak,t1,an,z,s,-,J⟩:=u e h;have p:=L ((d::b)[e],(ai.cs g[l])[e]) (by
  rw[List.mem_iff_getElem];exact⟨e,by simp at h⊢;omega,Zs⟩)
 simp only[pB,s,Y.jA,Y.DR,b3,cO]at p;exact⟨_,_,_,_,z,s,p.1,p.2,J⟩
def sD.fs{a:aw}(k:fR a a5)(b:sD a hw dg h)(i:V<hw.length):∃v d j e g,∃f:V<(ai.cs (a[h]'b.hi)).length,hw[V]=.mk 10 v d j e [g]/\jd a d=aA.fs (ai.cs (a[h]'b.hi))[V]/\e.length=(jd a d).length/\e.length<=3:=by
 have f:V<(ai.cs (a[h]'b.hi)).length:=by rw[<-b.len];exact i
 obtain⟨v,d,j,e,g,l,rfl,m,o⟩:=b.br V i f;have:=(IJ k.vd b.hi f).2;exact Zg
def hT.HJ{b:dv}{nd:Nd}(f:hT a4 a5 hw i3 a0 h V b)(w:V<hw.length)(p:nd.ids.Nodup)(q:∀a∈nd.ids,h<=a)(r:∀a∈nd.ids,∀j∈b,¬eh a j.d):
 (fb (b++[nd]) []).Nodup/\(∀a∈fb (b++[nd]) [],h<=a)/\(fB a4 a5 hw[V] nd i3 a0->hT a4 a5 hw i3 a0 h (V+1) (b++[nd])):=by
 have k:fb (b++[nd]) []=fb b []++nd.ids:=by simp[fb]
 have l:(fb (b++[nd]) []).Nodup:=by
  rw[k,gR];refine⟨f.nodup,p,λa e i g o=>?_⟩;subst o;obtain⟨j,t,s⟩:=K8.1 e;exact r a g j t (j.tI _ s)
 have m:∀a∈fb (b++[nd]) [],h<=a:=λa e=>by
  rw[k]at e;rcases cg.1 e with e|e
  .exact f.ge a e
  .exact q a e
 refine⟨l,m,λu=>⟨by simp[f.len],Zo,l,m,λi j1 j2=>?_⟩⟩;by_cases g:i<b.length
 .rw[yh g];exact f.nY i j1 g
 .have:i=V:=by have:=f.len;simp at j2;omega
  exact Zg
def hT.P2{v a:Int}(b:hT a4 a5 hw i3 a h hw.length v2)(d:a6 a4 a5 (.mk 9 v dg go he hw) (i3.map Bi.e) a=E lw):
 oz a4 a5 (.mk 9 v dg go he hw) i3 a h ad lw v2 [] aa:=
 ⟨b.nodup,b.ge,by rw[d];rfl,λ_ id=>.mk d Zs (by simp[er]) b.len λf g i=>by
  rw[show cV 9 f=al by simp[cV],show bL 9 a=a by simp[bL]];exact b.nY f g i⟩
def Qc{a:aw}{b:BA}{d:aK}(f:h<d.length)(g:h<(jd a b).length):(cL a b d a0).take (h+1)=(cL a b d a0).take h++[⟨d[h],(jd a b)[h],a0⟩]:=by
 have e:h<(cL a b d a0).length:=by simp[cL];omega
 rw[ch e];simp[cL]
def yA(P:ay)(mu:aD)(ty:aQ)(i j t:Nat)(K:aU)(s:St):Prop:=jB P mu [] al al (.call ⟨.builtin .append,#[.tmp i,.tmp j],#[ty,ty]⟩) (E t) K s
variable {g3:ay}{ce:St}
def BZ:jB g3 g4 [] al al (.call ⟨.builtin .append,#[.tmp h,.tmp V],#[bv,bv]⟩) (E a2) gc ce=yA g3 g4 bv h V a2 gc ce:=cr A A
variable {a9:Nat}
def HZ{a:St}{b f:Nat}{S:aD}{rows bx:ct}(m:cy g3 bv=E (a9,b,f))(s:aH S a.H a9 b rows (a.env V))(o:∀u∈rows,u.length=b)(t:cF a a9 b (a.env a2)=E (bx.length,bx.flatten))(q:0<bx.length)(j:bx.flatten.all b4=ad)
 (l:(rows.length+bx.length)*f<=140737488355328) (p:rows.length+bx.length<=ao) (r:h<a.nt)
 (k:∀H n e,aH [h] H a9 b (rows++bx) e->(∀d,d≠h->d∉S->H d=a.H d)->gc ({a with H:=H,n:=n}.put (E h) e)):yA g3 g4 bv V a2 h gc a:=by
 unfold yA;rw[D0];refine dS.eF m s o t q j l p λH n e g i=>⟨?_,k H n e g i⟩;simp only[St.put,aM r];rw[CQ];simp[tK]
variable {it:BA}
def sD.o6{a:iB}(b:sD a4 hw dg h)(d:a4[h]'b.hi=.mk it a):hw.length=a.length:=by
 have:=b.len;rw[d]at this;exact this
def aA.ex(a:aA):∃b d,a=.mk b d:=by cases a;exact⟨_,_,A⟩
def O.ex(a:O):∃b d e,a=.mk b d e:=by cases a;exact⟨_,_,_,A⟩
def OY(bs:aX)(a:D):(aq Bi.d bs++[[a]]).flatten[bs.length]?=E a:=by rw[fN,iq];simp
def Vc(bs:aX)(b:D)(a:Bi):(aq Bi.d bs++[[b]]).flatten.set bs.length (Bi.d a)=(aq Bi.d (bs++[a])).flatten:=by
 rw[fN,iq,iq,bC,List.set_append_right _ _ Zs];simp
def DO{b:g1->D}{g:List g1}(k:aH [V] fd bv 1 (aq b g) am)(l:∀i,fd V=E i->∀j∈i.cells,¬eh h j):∀a∈g,¬eh h (b a):=λa f=>by
 rcases k with⟨d,_⟩|⟨V,o,e,-,m⟩
 .simp[aq]at d;subst d;cases f
 .simp only[bG]at e;subst e;exact l _ m _ (by rw[iq];exact aG.2 ⟨a,f,A⟩)
def Va(b a:aX){e:D}(h:(e=a'/\a=[])\/(a≠[]/\e=.sl 1 (aq Bi.d a)))(f:b.length+a.length<=1048576):au 304 [.sl 1 (aq Bi.d b),e] (.sl 1 (aq Bi.d (b++a))):=by
 rcases h with⟨rfl,rfl⟩|⟨g,rfl⟩
 .rw[c_];exact U_ b (by simpa using f)
 .exact AS b a g f
def OD{v a:Int}{bs:aX}{id:Nat}(f:bs.map Bi.e=cL a4 dg he a)(g:fB a4 a5 pi m7 (i3++bs) a)(h:m7.ty=lw):
 fB a4 a5 (.mk 10 v dg go he [pi]) (.mk id (.mk 10 v dg go he [pi]) lw a [m7] bs aa) i3 a:=by
 refine .mk ?_ Zs (by rw[f];simp[er]) A λi b d=>?_
 .rw[vN,<-f,<-bC,g.ty,h]
 .match i,b,d with
  |0,b,d=>exact g
def B6{bs:aX}{id:Nat}:(Nd.mk id pi go a0 [m7] bs aa).ids=id::(bs.map Bi.id++m7.ids):=by
 rw[Nd.kx];simp[Nd.id,Nd.bs,Nd.ks]
def Lt{a:g1->D}{b:List g1}{y:g1}(f:y∈b)(e:eh h (a y)):eh h (.sl 1 (aq a b)):=.sl (r:=[a y]) (d:=a y) (aG.2 ⟨y,f,A⟩) Zs e
def I0{a:f_}(g:g3.follows .mixedOrders=ad)(f:GK (rI g3 a gc) ce):qq g3 g4 a gc ce:=
 ⟨g,λm b e d l o h i=>let⟨_,_,_,k,j⟩:=f m b e d l i;k.2 _ _ _ _ _ _ h j⟩
def GK.Ql{f:g1->D}{e:St}(h g k:Nat)(b:Ob){a:List g1}{i:D}(q:e.H g=E b)(r:g≠h)(d:b.cells[k]?=E i)(t:aH [h] e.H bv 1 (aq f a) i)(s:a=[]->i=a')(p:∀j,Cl (f j))
 (o:∀m,((m=a'/\a=[])\/(a≠[]/\m=.sl 1 (aq f a)))->gc {e with H:=aj (aN [h] e.H) g (E {b with cells:=b.cells.set k m})}):GK gc e:=by
 by_cases l:a=[]
 .refine GK.qx [h] g k b i (.sc (.slice aa 0 0)) q (by simpa using r) d ?_ (aO _) (o _ (.inl ⟨A,l⟩));rw[s l];exact .cl _ (aO _)
 .exact GK.qx [h] g k b i _ q (by simpa using r) d ((t.congr (by simp[bi])).fz Zd (e_ _) (by simp only[aq,aG];rintro w⟨j,_,rfl⟩u d;simp at d;subst d;exact p j)) (ed λj _=>p j) (o _ (.inr ⟨l,A⟩))
variable {be g2 g7 i5 m5:D}
def To{b:aw}{o:aF}(cf:fR b o){v tk l:Int}{n tn:BA}{az:cz}{ns:aK}{k0:Y}{dB:a_}{i:aX}{cn:BA}(et:0<=l)(eu:l<=1048576)(ez:i.length<=1000000)
 (C:sD b dB cn h) {da:D} (dj:(Y.ae (k0::dB))[1]?=E [am,be,S cn,g2,g7,i5,m5,da]) (b':zE (k0::dB)=cn) (dl:qb b o k0 i l) (dZ:∀br,a6 b o k0 (i.map Bi.e) l=E br->O.w br)
 (bl:∀v n co ns an,.mk 10 v n co ns [an]∈dB->∀bs:aX,bs.length<=3->bs.map Bi.e=cL b n ns l->qb b o an (i++bs) l) (d_:∀co∈dB,∀br,a6 b o co (i.map Bi.e) l=E br->O.w br)
 {s:St} {gn:Nat} (ce:s.H 19=E ⟨gn,219,15,ca 9 v n tk tn az ns (k0::dB) (I 0) (S nE) (.sc (.slice aa 0 0)) l (.sc (.slice aa 0 0)) (.sc (.slice aa 0 0)) (.sc (.pointer aa)),aa⟩) {bt:ON}
 (b2:∀c6 a0 a1 aL kids H U xk y2,oz b o (.mk 9 v n (.mk tk tn az) ns (k0::dB)) i l s.N c6 (.mk a0 a1 aL) kids [] aa->H 19=E ⟨gn,219,15,ca 9 v n tk tn az ns (k0::dB) (I a0) (S a1) y2 l xk (.sc (.slice aa 0 0)) (.sc (.pointer aa)),aa⟩->((y2=a'/\aL=[])\/y2=.sl 3 (O.ae aL))->
  aH [38,141] H 174 1 (aq Nd.d kids) xk->gc ({s with H:=H,n:=U}.put bt (B c6))):
 gx aB s 307 [.ag [ai.sl b,ah.sl o],.rf 19 gn 0,.sl 1 (aq Bi.d i)] bt gc:=by
 have dX:Cl (.sl 1 (aq Bi.d i)):=ed λX _=>Bi.cl X;have cM:=uV b cn cf.ll.len cf.ll.cs;obtain⟨eA,dD⟩:=Zx (je 0 b cn);rw[C.at_,dD]at cM;have bv:=ai.bo b h C.hi;have bD:lM b cn=ai.nm (b[h]'C.hi):=by simp[lM,C.at_,C.hi]
 obtain⟨aC,a2,b9⟩:∃aC a2,b[h]'C.hi=.mk aC a2:=match b[h]'C.hi with|.mk a j=>⟨a,j,A⟩
 rw[b9]at bv bD;simp only[ai.ds]at bv;have cD:(Y.ae (k0::dB)).length=dB.length+1:=by rw[Y.bb];simp
 have dE:(Y.ae (k0::dB)).drop 1=Y.ae dB:=by simp[Y.ae]
 have cY:∀a,a6 b o k0 (i.map Bi.e) l=a->(∀j,a=E j->j≠kh aC)->a6 b o (.mk 9 v n (.mk tk tn az) ns (k0::dB)) (i.map Bi.e) l=aa:=λa J g=>by
  rw[si,J];cases a with
  |none=>rfl
  |some j=>rw[jS,av];simp only[b',bD,ai.nm];exact g j A
 have dn:((1:Int)<=((dB.length+1:Nat):Int))=True:=bP Zo;have dY:List.take (dB.length+1) (Y.ae (k0::dB))=Y.ae (k0::dB):=cU (by rw[cD];exact b_ _);have dm:0<dB.length:=q0.2 C.ne;refine pz [75,109,1000057,1000114,1000134,1000141] [.tmp 6] func307 A Zk ntmps307 A Zs ?_;simp only[go_sem];refine oP (.bE [0,1,2,3,4,5] 6 (.bE [] 7 (.fin [8,9,10,11,12,13]) 11 (.fin [7,8,9,10,12,13])) 11 (.fin [6,7,8,9,10,12,13])) [] [23] mixed Zk ?_;simp only[ce,go_sem];refine⟨⟨?_,?_⟩,?_⟩
 all_goals
  refine .inr (.inr (rW (kids:=[]) (ts:=k0::dB) (SS:=[38]) Zs Zs dl (λ_ _ p=>p) (.inl A) (by first|exact ce|(simp only[aj];exact ce)) (.inl ⟨A,A⟩) Zs ?_));intro c' bc ei bT c5 cq dV cW bR t bk;have cx:=bk 7 Zd Zd Zd Zd Zs
  try simp only[bH]at cx
  obtain⟨a0,a1,aL,c3⟩:∃a0 a1 aL,bc.ty=.mk a0 a1 aL:=match bc.ty with|.mk a j an=>⟨a,j,an,A⟩
  simp only[c3,t,cx,ca,go_sem]
 all_goals
  refine b7 ?_;simp only[dj,go_sem];refine iP cM ?_;refine b7 ?_;obtain⟨cE,cP,bF⟩:=dV;have dM:hT b o (k0::dB) i l s.N 0 []:=⟨A,iy _,by simp[fb],by simp[fb],λr _ dp=>by simp at dp⟩;have bz:=dM.HJ (nd:=bc) Zs cE.1 (λh q=>(cW h (cE.2 h q)).1) Zs;have cH:∀H U,(a6 b o k0 (i.map Bi.e) l=aa\/∃j,a6 b o k0 (i.map Bi.e) l=E j/\j≠kh aC)->H 19=bT 19->H 38=bT 38->gc ({s with H:=H,n:=U}.put bt (B al)):=λH U p db dc=>by
   refine b2 al 0 nE [] [bc] _ _ cq (.sc (.slice aa 0 0)) ⟨bz.1,bz.2.1,?_,λp=>by cases p⟩ (db.trans t) (.inl ⟨A,A⟩) ((bR.congr (by simp[dc])).sub Zs);rcases p with p|⟨j,p,bl⟩
   .rw[cY _ p Zs];rfl
   .rw[cY _ p (λan aZ=>by cases aZ;exact bl)];rfl
  cases ei
  .simp only[go_sem];refine cH _ _ (.inl ?_) (by simp[aj,t]) bJ;cases g:a6 b o k0 (i.map Bi.e) l with
   |none=>rfl
   |some _=>rw[g]at cP;cases cP
  .simp only[bv,go_sem];have bF:=bF A;have bQ:=bF.ty;rw[c3]at bQ;refine iP (IW aC) ?_;refine d' (sameType (.mk a0 a1 aL) (kh aC) (dZ _ bQ).2) ?_;by_cases bM:O.mk a0 a1 aL=kh aC
   .simp only[bM,go_sem];rcases bR with⟨bg,_⟩|⟨t1,P,aE,rfl,W⟩
    .simp[aq]at bg
    simp only[bG]at aE;subst aE;refine GK.Aj 38 141 19 12 _ _ _ (by simp[aj];exact W) A (by simp[aj];exact t) Zd Zd (by rfl) ?_;simp only[cD,dE,dn,dY,List.set_cons_succ,List.set_cons_zero,ca,go_sem];have cR:=bz.2.2 bF;have c2:a6 b o k0 (i.map Bi.e) l=E (kh aC):=by rw[bQ,bM]
    refine hC 64 dB.length (λr=>kq 170 s.N s.T [(1,.rf 19 gn 0),(2,.sl 1 (aq Bi.d i)),(3,.cp [ai.sl b,ah.sl o]),(9,I h),(62,.sl 8 (Y.ae dB)),(63,I dB.length)] λbY H=>∃Q xk ar ay au y2,hT b o (k0::dB) i l s.N (r+1) Q/\
     H 19=E ⟨gn,219,15,ca 9 v n tk tn az ns (k0::dB) (I ar) (S ay) y2 l xk (.sc (.slice aa 0 0)) (.sc (.pointer aa)),aa⟩/\((y2=a'/\au=[])\/y2=.sl 3 (O.ae au))/\(0<r->y2=.sl 3 (O.ae au))/\
     aH [141] H 174 1 (aq Nd.d Q) xk/\∀(p:Nat)(g:p<dB.length),p<r->a6 b o dB[p] (i.map Bi.e) l=E (.mk ar ay au)) A
     ⟨A,A,A,by simp[af,ba,ai.sl,ah.sl],[bc],.ms 141 (c5 141) (aq Nd.d [bc]).length,0,nE,[],.sc (.slice aa 0 0),cR,by simp[aj,ca],.inl ⟨A,A⟩,λg=>absurd g Zd,.inr ⟨141,_,Zs,A,by simp[aj]⟩,λp _ g=>by omega⟩ ?_
    clear cR bz cW t bk W;rintro r⟨bY,H,U,eg,c_,c9⟩cO bj⟨rfl,rfl,rfl,bm,Q,xk,ar,ay,au,y2,cm,t,c4,ea,R,b5⟩;simp only[a7]at bj bm t R;obtain⟨u,ap,aD,aS,aQ,aR,-⟩:=bm;simp only[bj,aR,go_sem];refine aT (λg=>?_) λg=>?_
    .have a5:=bh g;obtain⟨V,G,⟨Z,ak,ab⟩,m,K,es,bA,dx,cB,er⟩:=C.fs cf a5;have bZ:=Y.bo dB r a5;rw[bA]at bZ;simp only[Y.ds,O.ds,strs,bf,a8]at bZ;have dT:(m.map λs=>[S s]).length=m.length:=Zs;simp only[g,bj,aQ,bZ,go_sem];refine cX [] [69,73] ?_;simp only[u,t,ca,dT,go_sem];refine hC 79 m.length (λx=>kq 170 s.N s.T [(1,.rf 19 gn 0),(2,.sl 1 (aq Bi.d i)),(3,.cp [ai.sl b,ah.sl o]),(9,I h),(62,.sl 8 (Y.ae dB)),(63,I dB.length),(64,I r),(11,I r),(77,.sl 1 (m.map λs=>[S s])),(78,I m.length),(13,.rf 75 (U 75) 0)] λbY H=>∃bs h_,
      H 19=E ⟨gn,219,15,ca 9 v n tk tn az ns (k0::dB) (I ar) (S ay) y2 l xk (.sc (.slice aa 0 0)) (.sc (.pointer aa)),aa⟩/\aH [141] H 174 1 (aq Nd.d Q) xk/\
      H 75=E ⟨U 75,219,15,ca 10 V G Z ak ab m [K] (I 0) (S nE) (.sc (.slice aa 0 0)) l (.sc (.slice aa 0 0)) h_ (.sc (.pointer aa)),aa⟩/\aH [111] H 217 1 (aq Bi.d bs) h_/\
      bs.map Bi.e=(cL b G m l).take x/\(bs.map Bi.id).Nodup/\(∀j∈bs,s.N<=j.id/\∀X∈Q,¬eh j.id X.d)/\(bs=[]->h_=a')) A
      ⟨A,A,A,by simp[af,u,ap,aD,aS,aQ,aR,bj,ai.sl,ah.sl],[],.sc (.slice aa 0 0),by simp[aj,t],R.congr bJ,by simp[aj,ca,Y.ae];rfl,.inl ⟨A,A⟩,Zs,Zs,Zs,λ_=>A⟩ ?_
     clear R t bj u ap aD aS aQ aR;rintro x⟨bY,H,ee,eg,c_,c9⟩ew bw⟨rfl,rfl,rfl,bm,bs,h_,t,R,bL,cj,aY,cC,b6,dr⟩;simp only[a7]at bw bm t R bL cj;obtain⟨u,ap,aD,aS,aQ,aR,bX,bU,cr,ct,bu,-⟩:=bm;simp only[bw,ct,go_sem];refine aT (λg=>?_) λg=>?_
     .have bn:=bh g;have dk:(m.map λs=>[S s])[x]?=E [S m[x]]:=by simp[bn]
      have dL:r<a2.length:=by rw[<-C.o6 b9];exact a5
      have bB:jd b G=aA.fs a2[r]:=by rw[dx];congr 1;simp[b9,ai.cs]
      have b0:=aA.bo a2 r dL;obtain⟨eq,a9,dA⟩:∃a j,a2[r]=.mk a j:=aA.ex _;rw[dA]at b0 bB;simp only[aA.fs]at bB;have dQ:x<a9.length:=by rw[<-bB,<-cB];exact bn
      have b1:=O.bo a9 x dQ;obtain⟨dg,di,dh,cN⟩:∃a j an,a9[x]=.mk a j an:=O.ex _;rw[cN]at b1;simp only[aA.ds,O.ds,O.sl]at b0 b1;have dd:cy aB 216=E (217,1,8):=Zk;have dv:bs.length=x:=by rw[<-bW (f:=Bi.e),aY,fP];simp only[cL,bW,wb];omega
      simp only[g,bw,cr,dk,go_sem];refine oP (.bE [0,1,2,3,5,6,7,8,9,10,11,12,13,14,15,16,17,18,19,20,21,22,23,24] 4 (.fin [25,26,27,28,29,30]) 25 (.bE [] 4 (.fin [26,27,28,29,30]) 26 (.fin [4,27,28,29,30]))) [] [88,107] mixed Zk ?_;simp only[bL,b0,b1,u,aD,aS,bU,bu,t,ca,bv,BZ,go_sem];refine⟨?_,?_,?_⟩
      all_goals
       refine HZ (S:=[111]) (rows:=aq Bi.d bs) (bx:=[[.rf 109 (ee 109) 0]]) dd (by simp only[af,aI,aV,aP];exact cj.congr bJ) (e_ _) ga Zs (by simp[b4]) (by simp[dC];omega) (by simp[dC];unfold ao;omega) (by show 111<170;decide) ?_;intro c8 ef eo ck a4;have a3:=a4 19 Zd Zd;have cA:=a4 75 Zd Zd;have aW:=a4 141 Zd Zd;have cv:=a4 109 Zd Zd;simp only[bV,bH,dP,aP,dz,t,bL]at a3 cA aW cv;rcases ck with⟨bg,_⟩|⟨t1,P,aE,rfl,W⟩
       .simp[aq]at bg
       simp only[bG]at aE;subst aE;simp only[cA,ca,go_sem];refine GK.LO 109 111 bs.length _ _ (by simp[aj];exact cv) A Zs cu (by simp[aj];exact W) Zd (OY _ _) λj cc=>?_;simp only[bw,go_sem];have dt:D.pa j [S m[x],I dg,S di,.sl 3 (O.ae dh),I l]=Bi.d ⟨j,m[x],a9[x],l⟩:=by rw[Bi.d,cN];rfl
       have du:∀y∈bs,y.id≠j:=λy F J=>cc.2.1 111 _ (by simp[aj];exact W) y.d (by rw[fN,iq];exact eE _ (aG.2 ⟨y,F,A⟩)) (J▸.here _);refine qH (by simp only[af,aI];rw[iX _ Zo]) bn ⟨A,A,A,by simp[af,u,ap,aD,aS,aQ,aR,bX,bU,cr,ct,bu,ai.sl,ah.sl],bs++[⟨j,m[x],a9[x],l⟩],.ms 111 P (aq Bi.d (bs++[⟨j,m[x],a9[x],l⟩])).length,by simp[aj,aN,a3],R.congr (by simp[aj,aN,aW]),by simp[aj,aN,dC];done,.inr ⟨111,P,Zs,A,?_⟩,?_,?_,?_,λJ=>by simp at J⟩
       .simp only[bH,dy,Ob.mk.injEq,nr,fa];rw[dt];exact Vc _ _ _
       .rw[bC,aY,Qc bn (by rw[<-cB];exact bn)];simp[bB]
       .rw[bC,gR];refine⟨cC,Zs,λX aJ y F J=>?_⟩;obtain⟨ep,ec,rfl⟩:=aG.1 aJ;simp at F;exact du ep ec (J.trans F)
       .intro X aJ;rcases cg.1 aJ with aJ|aJ
        .exact b6 X aJ
        .simp at aJ;subst aJ;exact⟨cc.2.2,DO R λbq bp=>cc.2.1 141 bq (by simp[aj,aW,bp])⟩
     .have dO:=bS g;subst dO;have dF:(cL b G m l).length=m.length:=by simp[cL];omega
      rw[cU Zo]at aY;have dv:bs.length=m.length:=by rw[<-dF,<-aY,bW]
      simp only[g,go_sem];refine I0 mixed (GK.Ql (f:=Bi.d) 111 75 13 _ bL Zd (by rfl) cj dr Bi.cl λc7 ci=>?_);refine me (mu:=[]) (.bE [0,1,2,3,4,5,6,7,9,10,11] 12 (.fin [8,13,14,15,16,17,18,19,20]) 8 (.fin [12,13,14,15,16,17,18,19,20])) [] [123,128] ?_;simp only[u,ap,aD,bu,aN,List.set_cons_succ,List.set_cons_zero,t,ca,go_sem];refine⟨?_,?_⟩
      all_goals
       refine hU (Va i bs ci Zo) (.c dX (.c (by rcases ci with⟨rfl,_⟩|⟨_,rfl⟩;exact aO _;exact ed λy _=>Bi.cl y) .n)) ?_;simp only[aN,t,ca,go_sem];refine .inr (.inr (rW (k:=10) (v:=V) (n:=G) (tk:=Z) (tn:=ak) (az:=ab) (ns:=m) (l:=l) (y0:=I 0) (y1:=S nE) (y2:=a') (xk:=a') (h_:=c7) (k7:=.sc (.pointer aa)) (kids:=[]) (ts:=[K]) (SS:=[38]) Zs Zs (bl V G _ m K (by rw[<-bA];exact ax _) bs Zo aY) (λ_ _ p=>p) (.inr A) (by simp[aj,ca];done) (.inl ⟨A,A⟩) Zs ?_));intro c' nd ej bT c5 cq dW dS bR dU bk;have a3:=bk 19 Zd Zd Zd Zd Zs;have aW:=bk 141 Zd Zd Zd Zd Zs;simp only[bV,dP,aP,dz,aN,bG,aV,t]at a3 aW;obtain⟨L,M,z,b8⟩:=O.ex nd.ty;simp only[b8,dU,ca,go_sem];refine GK.join (GK.qx [38] 75 12 _ cq (.sl 1 (aq Nd.d [nd])) (by simp only[bH];rfl) Zd (by rfl) ((bR.congr (by simp[bi,aj])).fz Zd (e_ _) (by simp[aq];exact Nd.cl nd)) (ed λy _=>Nd.cl y) ?_);refine GK.join (GK.qx [] 75 13 _ c7 (.sl 1 (aq Bi.d bs)) (by simp only[bH];rfl) Zs (by rfl) (by rcases ci with⟨rfl,rfl⟩|⟨_,rfl⟩;exact .nil 1;exact .cl _ (ed λy _=>Bi.cl y)) (ed λy _=>Bi.cl y) ?_);refine GK.ptr 13 75 (U 75) _ (by simp[af,bu]) (by simp only[bH];rfl) A A Zs (by simp only[List.set_cons_succ,List.set_cons_zero,a7];exact⟨aO _,aO _,aO _,aO _,aO _,O.cI _,jW _,Y.cI _,aO _,aO _,O.cI _,aO _,ed λy _=>Nd.cl y,ed λy _=>Bi.cl y,aO _,Zs⟩) λid bK=>?_;have dw:D.pa id [I 10,I V,S G,I Z,S ak,.sl 3 (O.ae ab),.sl 1 (m.map λs=>[S s]),.sl 8 (Y.ae [K]),I L,S M,.sl 3 (O.ae z),I l,.sl 1 (aq Nd.d [nd]),.sl 1 (aq Bi.d bs),.sc (.pointer aa)]=Nd.d (.mk id (.mk 10 V G (.mk Z ak ab) m [K]) (.mk L M z) l [nd] bs aa):=by simp[Nd.d,Y.ds,O.ds,strs,Nd.gJ,bd]
       simp only[a3,u,aN,bG,List.set_cons_succ,List.set_cons_zero,ca,go_sem];have df:cy aB 167=E (174,1,8):=Zk;have ey:=cm.len;refine GK.intro (mI (S:=[141]) (f:=Nd.d) (l:=Q) (a:=.mk id (.mk 10 V G (.mk Z ak ab) m [K]) (.mk L M z) l [nd] bs aa) df (by simp only[af,aI,aV,aP];exact R.congr (by simp[aj,aN,aW])) (by simp[af,cF,aj,dw]) (Nd.one _) (by have:=C.le;omega) Zd ?_);intro c8 ef eo ck a4;have cw:=a4 19 Zd Zd;simp only[bV,dP,aP,dz,aN,bG,cS,aV,a3]at cw;rcases ck with⟨bg,_⟩|⟨t1,P,aE,rfl,W⟩
       .simp[aq]at bg
       simp only[bG]at aE;subst aE;obtain⟨cG,cQ,bI⟩:=dW;have dI:¬eh id (.sl 1 (aq Nd.d [nd])):=bK.2.1 75 _ (by simp only[bH];rfl) _ Zs;have dH:¬eh id (.sl 1 (aq Bi.d bs)):=bK.2.1 75 _ (by simp only[bH];rfl) _ Zs;have dJ:∀X∈Q,¬eh id X.d:=DO R λbq bp=>bK.2.1 141 bq (by simp[aj,aN,aW,bp]);have cd:∀h∈nd.ids,s.N<=h/\(∀X∈Q,¬eh h X.d)/\h∉bs.map Bi.id:=λh q=>by
        obtain⟨ek,el,en⟩:=dS h (cG.2 h q);refine⟨ek,DO R λbq bp=>el 141 bq Zd (by simp[aj,aN,bp]),λbl=>?_⟩;obtain⟨y,F,rfl⟩:=aG.1 bl;exact en (xK (eN _ F) A)
       have b3:=cm.HJ (nd:=.mk id (.mk 10 V G (.mk Z ak ab) m [K]) (.mk L M z) l [nd] bs aa) de (by
        rw[B6,la,gR];refine⟨λaZ=>?_,cC,cG.1,λh q r cO J=>(cd r cO).2.2 (J▸q)⟩;rcases cg.1 aZ with aZ|aZ
        .obtain⟨y,F,J⟩:=aG.1 aZ;exact dH (xK F J.symm)
        .exact dI (Lt (y:=nd) Zs (nd.tI _ aZ))) (λh q=>by
        rw[B6]at q;rcases cJ.1 q with rfl|q
        .exact bK.2.2
        .rcases cg.1 q with q|q
         .obtain⟨y,F,rfl⟩:=aG.1 q;exact(b6 y F).1
         .exact(cd h q).1) (λh q=>by
        rw[B6]at q;rcases cJ.1 q with rfl|q
        .exact dJ
        .rcases cg.1 q with q|q
         .obtain⟨y,F,rfl⟩:=aG.1 q;exact(b6 y F).2
         .exact(cd h q).2.1)
       have cV:a6 b o (.mk 9 v n (.mk tk tn az) ns (k0::dB)) (i.map Bi.e) l=mB (dB.map λan=>a6 b o an (i.map Bi.e) l):=by rw[si,c2,jS,b',bD,ai.nm,aM A]
       have c1:a6 b o dB[r] (i.map Bi.e) l=a6 b o K ((i++bs).map Bi.e) l:=by rw[bA,vN,<-aY,bC]
       have cK:∀H U xk,a6 b o (.mk 9 v n (.mk tk tn az) ns (k0::dB)) (i.map Bi.e) l=aa->H 19=E ⟨gn,219,15,ca 9 v n tk tn az ns (k0::dB) (I ar) (S ay) y2 l xk (.sc (.slice aa 0 0)) (.sc (.pointer aa)),aa⟩->aH [38,141] H 174 1 (aq Nd.d (Q++[.mk id (.mk 10 V G (.mk Z ak ab) m [K]) (.mk L M z) l [nd] bs aa])) xk->gc ({s with H:=H,n:=U}.put bt (B al)):=
        λH U xk dR u ap=>b2 al ar ay au _ _ _ _ y2 ⟨b3.1,b3.2.1,by rw[dR];rfl,λp=>by cases p⟩ u c4 ap
       simp only[cw,ca,go_sem];refine b7 ?_;cases ej
       .simp only[go_sem];refine cK _ _ (.ms 141 P _) ?_ (by simp[aj,ca]) (.inr ⟨141,P,Zs,A,by simp[aj,W]⟩);rw[cV];refine El (aG.2 ⟨dB[r],ax _,?_⟩);rw[c1];cases g:a6 b o K ((i++bs).map Bi.e) l with
        |none=>rfl
        |some _=>rw[g]at cQ;cases cQ
       .have bI:=bI A;have bO:a6 b o dB[r] (i.map Bi.e) l=E (.mk L M z):=by rw[c1,bI.ty,b8]
        have cT:=b3.2.2 (by simp only[i1,bA];exact OD aY bI b8);simp only[bU,go_sem];refine mg (λg=>?_) λg=>?_
        .have cb:0<r:=by simpa using g
         have eb:=ea cb;subst eb;simp only[g,u,go_sem];refine d' (sameType (.mk L M z) (.mk ar ay au) (d_ _ (ax a5) _ bO).2) ?_;by_cases bN:O.mk L M z=.mk ar ay au
         .simp only[bN,bX,u,go_sem];refine qH (by simp only[af,aI];rw[iX _ (by have:=C.le;omega)]) a5 ⟨A,A,A,by simp[af,u,ap,aD,aS,aQ,aR,ai.sl,ah.sl],Q++[.mk id (.mk 10 V G (.mk Z ak ab) m [K]) (.mk L M z) l [nd] bs aa],.ms 141 P _,L,M,z,.sl 3 (O.ae z),cT,by simp[aj,dC],.inr A,λ_=>A,.inr ⟨141,P,Zs,A,by simp[aj,W]⟩,λp c0 dN=>?_⟩;by_cases ch:p=r
          .subst ch;exact bO
          .rw[b5 p c0 Zo,bN]
         .simp only[bN,go_sem];refine cK _ _ (.ms 141 P _) ?_ (by simp[aj,ca]) (.inr ⟨141,P,Zs,A,by simp[aj,W]⟩);rw[cV];exact Mp (aG.2 ⟨dB[r],ax _,bO⟩) (aG.2 ⟨dB[0],ax _,b5 0 dm cb⟩) λJ=>bN (by simpa using J)
        .have cb:r=0:=by simp at g;omega
         simp only[g,bX,u,go_sem];refine qH (by simp only[af,aI];rw[iX _ (by have:=C.le;omega)]) a5 ⟨A,A,A,by simp[af,u,ap,aD,aS,aQ,aR,ai.sl,ah.sl],Q++[.mk id (.mk 10 V G (.mk Z ak ab) m [K]) (.mk L M z) l [nd] bs aa],.ms 141 P _,L,M,z,.sl 3 (O.ae z),cT,by simp[aj,dC],.inr A,λ_=>A,.inr ⟨141,P,Zs,A,by simp[aj,W]⟩,λp c0 dN=>?_⟩;by_cases ch:p=r
         .subst ch;exact bO
         .omega
    .have dK:=bS g;subst dK;simp only[g,go_sem];refine b2 ad ar ay au Q _ _ xk y2 (hT.P2 (by simpa using cm) ?_) t c4 (R.sub Zs);rw[si,c2,jS,b',bD,ai.nm,aM A];refine Mo (by simpa using C.ne) λy F=>?_;obtain⟨j,dq,rfl⟩:=aG.1 F;obtain⟨p,cZ,rfl⟩:=dG dq;exact b5 p cZ cZ
   .simp only[bM,go_sem];exact cH _ _ (.inr ⟨_,bQ,bM⟩) (by simp[aj,t]) bJ
end
section
open Go.RowKit
attribute [local go_sem] Oper.semAt_some
attribute [go_sem] Xi Xo Xj Xl Xm Xk Xn UX UY N5 qZ
def N8:yk aB 340 1 (λs=>s 0):=by
 refine⟨enters_of func340 Zk A,λO y z P len C i r t f u g hlen q d l h0=>?_⟩;refine callsIn_of_wp func340 A trivial ?_ A;simp only[ntmps340,nq,di,gG,Nat.reduceAdd,Nat.reduceSub,Array.replicate_succ,Array.replicate_zero,List.push_toArray,List.append_toArray,a8,bf];have G:=(d 0 g h0).1
 gi_wp2
 gi_loopw [3] (λa wr=>∃k,f k wr/\((k=len/\a=.int .i64 (-1))\/∃m:Nat,m+1+k=len/\a=.int .i64 m)) λa _=>(intOf a+1).toNat
 case atStart=>
  exact BS
 case round=>
  obtain⟨k,b,p⟩:=hrel;obtain⟨I,o⟩:=d k _ b;rcases p with⟨rfl,rfl⟩|⟨m,K,rfl⟩
  .gi_wp2
   go_end0
   exact⟨⟨_,A⟩,.inl b⟩
  .have J:wr.cell? ⟨i,r+m,aa⟩=E (t m 0):=by simpa using o m 0 Zo Zo
   obtain rfl:=q Zo;have e:=l k wr Zo b;rw[show len-1-k=m by omega]at e;obtain⟨F,Q,x,B,M,j⟩:=e;have L:m<len:=Zo
   gi_wp2
   refine j.mono ?_;rintro D w(⟨rfl,CX⟩|⟨rfl,CY⟩)
   .gi_wp2
    exact BP
   .gi_wp2
    exact Br
def N9:yk aB 255 1 (λs=>s 0):=by
 refine⟨enters_of func255 Zk A,λO y z P len C i r t f u g hlen q d l h0=>?_⟩;refine callsIn_of_wp func255 A trivial ?_ A;simp only[ntmps255,nq,di,gG,Nat.reduceAdd,Nat.reduceSub,Array.replicate_succ,Array.replicate_zero,List.push_toArray,List.append_toArray,a8,bf];have G:=(d 0 g h0).1
 gi_wp2
 gi_loopw [3] (λa wr=>∃k,f k wr/\((k=len/\a=.int .i64 (-1))\/∃m:Nat,m+1+k=len/\a=.int .i64 m)) λa _=>(intOf a+1).toNat
 case atStart=>
  exact BS
 case round=>
  obtain⟨k,b,p⟩:=hrel;obtain⟨I,o⟩:=d k _ b;rcases p with⟨rfl,rfl⟩|⟨m,K,rfl⟩
  .gi_wp2
   go_end0
   exact⟨⟨_,A⟩,.inl b⟩
  .have J:wr.cell? ⟨i,r+m,aa⟩=E (t m 0):=by simpa using o m 0 Zo Zo
   obtain rfl:=q Zo;have e:=l k wr Zo b;rw[show len-1-k=m by omega]at e;obtain⟨F,Q,x,B,M,j⟩:=e;have L:m<len:=Zo
   gi_wp2
   refine j.mono ?_;rintro D w(⟨rfl,CX⟩|⟨rfl,CY⟩)
   .gi_wp2
    exact BP
   .gi_wp2
    exact Br
def N_(a:aX):au 335 [.sl 1 (aq Bi.d a)] (.fn 340 [] [.cp [.sl 1 (aq Bi.d a)]]):=by
 refine Sp.s [] [.tmp 2] func335 ntmps335 ?_;exact HA
def Oa(a:aX):au 195 [.sl 1 (aq Bi.d a)] (.fn 255 [] [.cp [.sl 1 (aq Bi.d a)]]):=by
 refine Sp.s [] [.tmp 2] func195 ntmps195 ?_;exact HA
def jL(d:View)(f:Nat->aE)(b:DL)(g:b.length=1)(h:∀(e:Nat)(a:D),b[e]?=E a->Rd d a (f e)):Rd d (b.headD .any) (f 0):=by
 obtain⟨a,rfl⟩:=hP.1 g;exact h 0 a A
variable {a3:DL}
def Mg(b:h<i3.length)(a:(aq Bi.d i3)[i3.length-1-h]?=E a3):a3=[i3.reverse[h]'(by simpa using b)|>.d]:=by
 rw[hX Zo]at a;simp only[dy]at a;rw[<-a,List.getElem_reverse]
def Bi.r9(a:Bi):∃b f g h,a.d=.pa a.id [S a.e.n,b,f,g,h]:=by
 obtain⟨i,m,⟨j,l,o⟩,k⟩:=a;exact⟨_,_,_,_,A⟩
def gK(l:cz)(r:O):O:=l.foldr kH r
def U'(a:aX)(j:BA)(I:a.length<=1000000):au 322 [.sl 1 (aq Bi.d a),S j] (bd (cE a j)):=by
 have p:=dC Bi.d a;refine Sp.Aw [] [.cell 4 217] func322 A Zk ntmps322 A Zs ?_;simp only[go_sem];refine bO (N_ a) ?_;refine Ef (rows:=aq Bi.d a) (el:=λz=>z 0) (eD:=λl=>l.headD .any) [] N8 (λu B l f w=>jL u B l f w) A A (by rw[p];unfold ao;omega) (e_ _) Zk Zk (λg m q=>m=aj (aj pW 4 aa) 4 (E ⟨0,217,1,[.sc (.pointer aa)],aa⟩)/\q=bump db 4/\∀(b:Nat)(f:b<g)(r:b<a.reverse.length),a.reverse[b].e.n≠j) ⟨A,A,λb f=>absurd f Zo⟩ ?_ ?_
 .rintro g m q l i t⟨rfl,rfl,k⟩;rw[p]at i t⊢;obtain rfl:=Mg i t;obtain⟨C,D,F,G,s⟩:=Bi.r9 (a.reverse[g]'(by simpa using i));simp only[s,go_sem];refine b7 ?_;refine aT (λf=>?_) λf=>?_
  .simp only[f,go_sem];have o:cE a j=E (a.reverse[g]'(by simpa using i)):=by
    unfold cE;rw[List.find?_eq_some_iff_getElem];refine⟨by simpa[du]using f,g,by simpa using i,A,λb h=>?_⟩;have:=k b h de;simpa using this
   rw[o,<-s];exact .cl _ (Bi.cl _)
  .simp only[f,go_sem];intro b h r;by_cases y:b=g
   .subst y;simpa[du]using f
   .exact k b Zo r
 .rintro m q⟨rfl,rfl,k⟩;simp only[go_sem];have o:cE a j=aa:=by
   unfold cE;rw[List.find?_eq_none];intro J x;obtain⟨b,h,rfl⟩:=dG x;have:=k b (by rw[p];simpa using h) h;simpa using this
  rw[o];exact .cl _ (aO _)
def CT(f:aX)(a:O)(M:f.length<=1000000):au 131 [.sl 1 (aq Bi.d f),.ag a.ds] (.ag (gK (f.map λb=>b.e.t) a).ds):=by
 have o:=dC Bi.d f;obtain⟨i,k,j⟩:=a;refine Sp.Aw [3] [.cell 4 87] func131 A Zk ntmps131 A Zs ?_;simp only[go_sem];refine bO (Oa f) ?_;refine Ef (rows:=aq Bi.d f) (el:=λK=>K 0) (eD:=λa=>a.headD .any) [] N9 (λB L a G J=>jL B L a G J) A A (by rw[o];unfold ao;omega) (e_ _) Zk Zk (λh l z=>l 3=E ⟨0,87,3,((f.reverse.take h).foldl (λa b=>kH b.e.t a) (.mk i k j)).ds,aa⟩/\l 4=E ⟨0,87,3,[I 0,S nE,a'],aa⟩) ⟨A,A⟩ ?_ ?_
 .rintro h l z a q y⟨g,m⟩;rw[o]at q y⊢;obtain rfl:=Mg q y;have r:h<f.reverse.length:=by simpa using q
  have p:((f.reverse.take (h+1)).foldl (λa b=>kH b.e.t a) (.mk i k j))=kH (f.reverse[h]'r).e.t ((f.reverse.take h).foldl (λa b=>kH b.e.t a) (.mk i k j)):=by
   rw[ch r,kn];rfl
  rw[p];generalize (f.reverse.take h).foldl (λa b=>kH b.e.t a) (.mk i k j)=s at g⊢;generalize f.reverse[h]'r=b at*;obtain⟨P,R,⟨C,F,D⟩,Q⟩:=b;obtain⟨u,x,w⟩:=s;simp only[Bi.d,O.ds,a8,bf]at g⊢;simp only[go_sem];refine cX [] [15] ?_;simp only[g,go_sem];refine bw (Jq (.mk C F D) (.mk u x w)) ?_;simp only[g,m,go_sem]
 .rintro l z⟨g,m⟩;rw[o,cU Zs,List.foldl_reverse]at g;have p:(f.foldr (λb a=>kH b.e.t a) (.mk i k j))=gK (f.map λb=>b.e.t) (.mk i k j):=by simp[gK,List.foldr_map]
  rw[p]at g;generalize gK (f.map λb=>b.e.t) (.mk i k j)=s at g⊢;obtain⟨u,x,w⟩:=s;simp only[O.ds]at g⊢;simp only[g,m,go_sem];exact .cl _ (Cl.bu (O.cl (.mk u x w)))
end
section
open Classical
def tt(b:aX)(a:BA):look (b.map Bi.e) a=(cE b a).map Bi.e:=by
 unfold look cE;rw[<-q_,List.find?_map];rfl
abbrev rj:=Env->Int->Prop
def b8(ab:aw)(ds:aF)(k:Int)(n:BA)(t:O)(ns:aK)(ks:a_)(e:Env)(l:Int)(i:Nat):Env:=if cV k i then e++er ab ds k n t ns ks e l else e
def KX(ab:aw)(ds:aF)(k:Int)(n:BA)(t:O)(ns:aK)(ks:a_)(a:List rj):rj:=λe l=>
 l<=8/\(k=1->∀x,look e n=E x->x.l=l)/\∀(i:Nat)(h:i<a.length),a[i] (b8 ab ds k n t ns ks e l i) (bL k l)
mutual
def eS(ab:List ai)(ds:List ah):Y->rj
 |.mk k _ n t ns ks=>KX ab ds k n t ns ks (Af ab ds ks)
def Af(ab:List ai)(ds:List ah):List Y->List rj
 |[]=>[]
 |c::cs=>eS ab ds c::Af ab ds cs
end
def KY(a:aw)(b:aF):∀d:a_,Af a b d=d.map (eS a b)
 |[]=>rfl
 |c::e=>by rw[Af,KY a b e];rfl
def tv{ab:aw}{ds:aF}{k v:Int}{n:BA}{t:O}{ns:aK}{ks:a_}{e:Env}{l:Int}:eS ab ds (.mk k v n t ns ks) e l↔
 l<=8/\(k=1->∀b,look e n=E b->b.l=l)/\∀(a:Nat)(d:a<ks.length),eS ab ds ks[a] (b8 ab ds k n t ns ks e l a) (bL k l):=by
 rw[eS,KX,KY];simp
variable {gs:Int}
def zS{bs:aX}(a:bs.map Bi.e=er a4 a5 a0 dg go he hw (i3.map Bi.e) gs):
 (if cV a0 h then i3++bs else i3).map Bi.e=b8 a4 a5 a0 dg go he hw (i3.map Bi.e) gs h:=by
 unfold b8;split<;>simp[a]
def K0:∀(f:Y){s:Nd}{g:aX}{d:Int},fB a4 a5 f s g d->(Nd.all lP s=ad↔eS a4 a5 f (g.map Bi.e) d)
 |.mk i v k f t j,_,g,d,.mk (id:=id) (ty:=ty) (kids:=kids) (bs:=bs) (b:=w) D y z C A=>by
  have r:∀(a:Nat)(p:a<j.length)(q:a<kids.length),Nd.all lP kids[a]=ad↔eS a4 a5 j[a] (b8 a4 a5 i k f t j (g.map Bi.e) d a) (bL i d):=λa p q=>by
   rw[<-zS z];exact K0 j[a] (A a p q)
  rw[Nd.all_eq,tv,b3,b6];have x:lP (.mk id (.mk i v k f t j) ty d kids bs w)=ad↔d<=8/\(i=1->∀u,look (g.map Bi.e) k=E u->u.l=d):=by
   rw[lP,b3,cO];refine and_congr Iff.rfl ?_;rw[Nd.b,y,tt];by_cases m:i=1
   .rw[aM m];cases cE g k with
    |none=>simp
    |some b=>simp only[Nd.l,m,ey,dy,forall_eq',ul];exact decide_eq_true_iff
   .simp[m]
  rw[x,and_assoc];refine and_congr Iff.rfl (and_congr Iff.rfl ⟨λo a h=>(r a h Zo).1 (o _ (ax _)),λo F B=>?_⟩);obtain⟨a,h,rfl⟩:=dG B;have h:a<kids.length:=h;exact(r a Zo h).2 (o a Zo)
termination_by f=>f
decreasing_by
 have:=cH (ax p);simp;omega
mutual
def fg(x:ByteArray):Y->Int
 |.mk k _ n _ ns ks=>if k=1 then(if n=x then 1 else 0)else gI k (lV x k n ns ks 0) 0 0 0
def lV(x:ByteArray)(k:Int)(n:ByteArray)(ns:List ByteArray):List Y->Nat->List Int
 |[],_=>[]
 |c::cs,i=>(if x∈bN k n ns i then 0 else fg x c)::lV x k n ns cs (i+1)
end
def EI(g:BA)(b:Int)(e:BA)(f:aK):∀(d:a_)(a:Nat),(lV g b e f d a).length=d.length
 |[],_=>by simp[lV]
 |c::h,a=>by simp[lV,EI g b e f h]
def EH(d:BA)(e:Int)(g:BA)(h:aK):∀(f:a_)(b a:Nat)(j:a<f.length)(k:a<(lV d e g h f b).length),(lV d e g h f b)[a]=if d∈bN e g h (b+a)then 0 else fg d f[a]
 |c::i,b,0,_,_=>by simp[lV]
 |c::i,b,a+1,j,k=>by
  simp only[lV,i1];rw[EH d e g h i (b+1) a (by simpa using j)];rw[show b+1+a=b+(a+1)by omega]
def Ci(b:Int):∀(m a:Nat),gI b (List.replicate m 0) a 0 0=0
 |0,a=>by simp[gI]
 |m+1,a=>by rw[List.replicate_succ,gI];split<;>simpa using Ci b m (a+1)
def Wr{v:Int}{a:Int}:
 a6 a4 a5 (.mk 7 v dg go he [pi,xs]) g6 a=(a6 a4 a5 pi g6 a).bind λd=>(gT d).bind λb=>a6 a4 a5 xs (g6++[⟨dg,b.1,a+b.2⟩]) a:=by
 simp[a6,iu,kj]
def ids(sc:aX):aD:=sc.map Bi.id
def S9(b:cE i3 dg=aa):dg∉i3.map λa=>a.e.n:=by
 unfold cE at b;rw[List.find?_eq_none]at b;intro g;obtain⟨a,f,d⟩:=aG.1 g;exact b a (by simpa using f) (by simpa using d)
def yc(ds:aF)(sc:aX)(n:BA):O:=((cE sc n).map λb=>b.e.t).getD (rG ds n)
variable {ce:St}
def Xc{b:aF}(Q:b.length<=8){v tk l:Int}{n tn:BA}{az:cz}{ns:aK}{ks:a_}{i:aX}(C:cE i n=aa->0<=dh b n)(D:i.length<=1000000)
 {gn:Nat} (s:ce.H 19=E ⟨gn,219,15,ca 1 v n tk tn az ns ks (I 0) (S nE) (.sc (.slice aa 0 0)) l (.sc (.slice aa 0 0)) (.sc (.slice aa 0 0)) (.sc (.pointer aa)),aa⟩)
 (k:∀f h g H F,yc b i n=.mk f h g->H 19=E ⟨gn,219,15,ca 1 v n tk tn az ns ks (I f) (S h) (.sl 3 (O.ae g)) l (.sc (.slice aa 0 0)) (.sc (.slice aa 0 0)) (bd (cE i n)),aa⟩->gc ({ce with H:=H,n:=F}.put i0 (B ad))):
 gx aB ce 301 [.ag [ai.sl a4,ah.sl b],.rf 19 gn 0,.sl 1 (aq Bi.d i)] i0 gc:=by
 refine pz [] [.tmp 6] func301 A Zk ntmps301 A Zs ?_;simp only[s,ca,go_sem];refine bw (U' i n D) ?_;cases j:cE i n with
 |some a=>
  obtain⟨f,h,g,u⟩:∃f h g,a.e.t=.mk f h g:=match a.e.t with|.mk p a q=>⟨p,a,q,A⟩
  have w:bd (E a)=.pa a.id [S a.e.n,I f,S h,.sl 3 (O.ae g),I a.e.l]:=by
   obtain⟨U,V,W,l⟩:=a;simp only at u;subst u;rfl
  simp only[j,w]at k;simp only[s,w,ca,go_sem];exact k f h g _ _ (by simp[yc,j,u]) (by simp[aj,ca])
 |none=>
  obtain⟨o,z,m,R⟩:=rV (C j);have m:dh b n=(o:Int):=m;obtain⟨P,⟨f,h,g⟩,⟨G,M,K,⟨X,ab,Z⟩,L,J⟩,x⟩:∃p a q,b[o]=.mk p a q:=by cases b[o];exact⟨_,_,_,A⟩
  have r:=ah.bo b o z;rw[x]at r;simp only[ah.ds,O.ds,Y.ds,bf,a8]at r;simp only[j,bd]at k;have y:=wX a4 b n iM;rw[m]at y;simp only[s,bd,ca,go_sem];refine cX [] [42] ?_;simp only[go_sem];refine bw y ?_;simp only[r,Int.natCast_nonneg,go_sem];exact k f h g _ _ (by simp[yc,j,rG,m,z,x,ah.ty]) (by simp[aj,ca])
def Be{b:cz}(g:fL (.mk a0 dg b)=ad)(m:dg.size<=12)(l:b.length<=12)(f:∀a∈b,O.w a):O.w (.mk a0 dg b):=by
 refine⟨?_,?_⟩
 .rw[eL,O.aY,O.gB,g,hN,b6];exact λa h=>(f a h).1
 .rw[O.ok];unfold ao;have:∀d:cz,(∀a∈d,O.w a)->O.eZ d:=λd e=>by
   induction d with
   |nil=>trivial
   |cons a d j=>exact⟨(e a Zs).2,j λk i=>e k (by simp[i])⟩
  exact⟨Zo,Zo,this b f⟩
def Al:nE.size=0:=rfl
def ES:O.w js:=Be (by simp[fL]) (by rw[Al];omega) Zs Zs
def XJ(a:O.w go)(b:O.w lw):O.w (kH go lw):=Be (by simp[fL]) (by rw[Al];omega) Zs (by simp[a,b])
def Nu(a:O.w go):O.w (kG go):=Be (by simp[fL]) (by rw[Al];omega) Zs (by simp[a])
def Bd(f:O.w (.mk a0 dg UV)):∀a∈UV,O.w a:=by
 obtain⟨b,d⟩:=f;rw[eL,O.aY,O.gB,b3,b6]at b;rw[O.ok]at d;exact λa e=>⟨b.2 a e,O.dW d.2.2 a e⟩
def XH{a:aw}(j:om a)(i:0<=fD a dg):O.w (kh (lM a dg)):=by
 obtain⟨f,e,l,k,h,-,-,-,-⟩:=oN i;have d:=(j.2 f e).1;have g:lM a dg=ai.nm a[f]:=by simp[lM,h,e]
 rw[g];simp only[sR,b3]at d;have b:=d.1.1.1;refine Be (by simp[fL,b.1,b.2]) ?_ Zs Zs;have:=b.1;simp only[ju,hD,b3,cO]at this;exact this.1.1.1.1.2
def XK{a:Ev}(d:∀a∈g6,O.w a.t)(b:look g6 dg=E a):O.w a.t:=d a (by have:=uh b;simpa using this)
def Bc{i:Int}(d:O.w go)(a:gT go=E (lw,i)):O.w lw:=by
 obtain⟨f,g,b⟩:=go;rw[gT]at a;split at a
 .cases b with
  |nil=>simp at a
  |cons e b=>simp at a;rw[<-a.1];exact Bd d e Zs
 .exact Zg
def vV(f:fR a4 a5):∀b∈cL a4 dg he a0,O.w b.t:=λb a=>by
 simp only[cL,aG]at a;obtain⟨⟨g,d⟩,e,rfl⟩:=a;exact f.rD dg d (List.of_mem_zip e).2
def XI(e:fR a4 a5)(a:BA):O.w (rG a5 a):=by
 unfold rG;cases d:a5[(dh a5 a).toNat]? with
 |none=>exact ES
 |some b=>exact e.wV b (eg d)
def Ag{b:g1->Option m4}:∀{f:List g1}{g:List m4},f.mapM b=E g->∀h∈g,∃x∈f,b x=E h
 |[],g,a,h,e=>by exact Zg
 |x::f,g,a,h,e=>by
  rw[k_]at a;cases d:b x with
  |none=>rw[d]at a;cases a
  |some m=>
   cases i:f.mapM b with
   |none=>rw[d,i]at a;cases a
   |some o=>
    rw[d,i]at a;cases a;rcases cJ.1 e with rfl|e
    .exact⟨x,Zs,d⟩
    .obtain⟨l,k,j⟩:=Ag i h e;exact⟨l,by simp[k],j⟩
def qP(s:fR a4 a5):∀(u:Y){J:aK}{f:Env}{h:Int}{k:O},TC a4 a5 u J->(∀e∈f,O.w e.t)->a6 a4 a5 u f h=E k->O.w k
 |.mk S v I U X j,J,f,h,k,r,i,a=>by
  have g:∀d∈j,∀(f:Env)(h:Int)(k:O),(∀e∈f,O.w e.t)->a6 a4 a5 d f h=E k->O.w k:=λd y f h k M P=>by
   obtain⟨G,D,rfl⟩:=dG y;exact qP s j[G] (r.cM G D) M P
  obtain⟨f1,f2,f3,f4,f5,f6⟩:=r.form;have B:∀(e:Ev),O.w e.t->∀o∈f++[e],O.w o.t:=λe F o m=>by
   exact Zg
  rcases mT S with rfl|rfl|rfl|rfl|rfl|rfl|rfl|rfl|rfl|rfl|rfl|⟨q1,q2,q3,q4,q5,q6,q7,q8,q9,tL,tM⟩
  .simp[a6,iu]at a;cases z:look f I with
   |none=>rw[z]at a;simp at a;subst a;exact XI s I
   |some e=>rw[z]at a;simp at a;subst a;exact XK i z
  .simp[a6,iu]at a;subst a;exact ES
  .rw[p0 Zs]at a;obtain⟨A,p,b⟩:=iJ.1 a;simp[ff]at b;rw[<-b.2];exact ES
  .simp[a1,cN]at f1;obtain⟨d,rfl⟩:=hP.1 (show j.length=1 by omega);simp[a6,iu,kj]at a;obtain⟨q,l,rfl⟩:=a;have C:=r.ok;rw[Y.ok]at C;have a:O.w U:=⟨by simp[jt,fK]at f3;exact f3.1,C.2.1⟩;exact XJ a (g d Zs _ _ _ (B _ a) l)
  .rw[p0 Zs]at a;obtain⟨A,p,b⟩:=iJ.1 a;simp[ff]at b;split at b
   .rename_i K q;obtain⟨d,y,L⟩:=Ag p K Zs;unfold li at b;split at b
    .split at b
     .cases b;exact Bd (g d y _ _ _ i L) _ Zs
     .cases b
    .cases b
   .cases b
  .simp[a1,cN]at f1;obtain⟨d,rfl⟩:=hP.1 (show j.length=1 by omega);simp[a6,iu,kj]at a;obtain⟨q,l,rfl⟩:=a;exact Nu (g d Zs _ _ _ i l)
  .simp[a1,cN]at f1;obtain⟨d,x,rfl⟩:=o6 (show j.length=2 by omega);rw[oh]at a;obtain⟨q,l,a⟩:=iJ.1 a;obtain⟨⟨e,W⟩,F,a⟩:=iJ.1 a;exact g x Zs _ _ _ (B _ (Bc (g d Zs _ _ _ i l) F)) a
  .rw[p0 Zs]at a;obtain⟨A,p,b⟩:=iJ.1 a;simp[ff]at b;rw[<-b.2];have:=(iQ r.fit).1;simp[dR]at this;exact XH s.vd this
  .simp[a1,cN]at f1;cases j with
   |nil=>simp at f1
   |cons d h=>
    cases h with
    |nil=>simp at f1
    |cons x h=>
     rw[si]at a;obtain⟨q,l,a⟩:=iJ.1 a;split at a
     .rw[bp,mB]at a;split at a
      .exact g x Zs _ _ _ i a
      .cases a
     .cases a
  .simp[a1,cN]at f1;obtain⟨d,rfl⟩:=hP.1 (show j.length=1 by omega);simp[a6,iu,kj]at a;refine g d Zs _ _ _ (λo m=>?_) a;rcases cg.1 m with m|m
   .exact i o m
   .exact vV s o m
  .rw[p0 Zs]at a;obtain⟨A,p,b⟩:=iJ.1 a;simp[ff]at b;split at b
   .rename_i d e o;obtain⟨V,Q,R⟩:=Ag p e Zs;split at b
    .cases b;exact g V Q _ _ _ i R
    .cases b
   .cases b
  .exact Bv
termination_by u=>u
decreasing_by
 have:=cH (ax D);simp;omega
abbrev sE:D:=a'
def pG{ab:aw}{ds:aF}{k v tk l f:Int}{n tn g:BA}{az a:cz}{ns:aK}{ks:a_}{sc:aX}{ok:Bool}{kids:dv}{bs:aX}{b:Option Bi}{h:St}{gn:Nat}{o w s:D}{SS:aD}
 (U:oz ab ds (.mk k v n (.mk tk tn az) ns ks) sc l h.N ok (.mk f g a) kids bs b) (R:h.env 10=.rf 19 gn 0)
 (Z:h.H 19=E ⟨gn,219,15,ca k v n tk tn az ns ks (I f) (S g) o l w s (bd b),aa⟩) (ak:(o=sE/\a=[])\/o=.sl 3 (O.ae a))
 (r:aH SS h.H 174 1 (aq Nd.d kids) w) (J:19∉SS) (ai:(s=sE/\bs=[])\/s=.sl 1 (aq Bi.d bs))
 (P:∀B u,uv ab ds (.mk k v n (.mk tk tn az) ns ks) sc l h.N B ok->gc {h with env:=af h.env 10 B.d,H:=u}):GK gc h:=by
 refine GK.join (GK.qx SS 19 12 _ w (.sl 1 (aq Nd.d kids)) Z J A (kE (S:=SS) (e:=174) (r.congr λav ah=>by simp[bi,ah]) λj _=>Nd.cl j) (ed λj _=>Nd.cl j) ?_);refine GK.join (GK.qx [] 19 13 ⟨gn,219,15,ca k v n tk tn az ns ks (I f) (S g) o l (.sl 1 (aq Nd.d kids)) s (bd b),aa⟩ s (.sl 1 (aq Bi.d bs)) (by simp[aj,ca]) Zs A ?_ (ed λj _=>Bi.cl j) ?_)
 .rcases ai with⟨rfl,rfl⟩|rfl
  .exact .nil 1
  .exact .cl _ (ed λj _=>Bi.cl j)
 refine GK.join (GK.qx [] 19 10 ⟨gn,219,15,ca k v n tk tn az ns ks (I f) (S g) o l (.sl 1 (aq Nd.d kids)) (.sl 1 (aq Bi.d bs)) (bd b),aa⟩ o (.sl 3 (O.ae a)) (by simp[aj,ca]) Zs A ?_ (O.cI a) ?_)
 .rcases ak with⟨rfl,rfl⟩|rfl
  .exact .nil 3
  .exact .cl _ (O.cI a)
 refine GK.ptr 10 19 gn ⟨gn,219,15,ca k v n tk tn az ns ks (I f) (S g) (.sl 3 (O.ae a)) l (.sl 1 (aq Nd.d kids)) (.sl 1 (aq Bi.d bs)) (bd b),aa⟩ R (by simp[aj,ca]) A A Zs ?_ λi X=>?_
 .have z:=Nd.cl (.mk 0 (.mk k v n (.mk tk tn az) ns ks) (.mk f g a) l kids bs b);rw[Nd.d]at z;cases z with|pa _ _ F=>
  intro p t;obtain⟨an,V⟩:=hQ.1 t;refine F an p ?_;rw[<-V];simp only[Y.ds,O.ds,Nd.gJ,bf,a8,ca];rfl
 obtain⟨G,K,L,M⟩:=U;obtain⟨-,ap,ar⟩:=X;have x:∀p∈[(.sl 1 (aq Nd.d kids):D),.sl 1 (aq Bi.d bs)],¬eh i p:=λp t=>ap 19 ⟨gn,219,15,ca k v n tk tn az ns ks (I f) (S g) (.sl 3 (O.ae a)) l (.sl 1 (aq Nd.d kids)) (.sl 1 (aq Bi.d bs)) (bd b),aa⟩ (by simp[aj,ca]) p (by
  simp only[ca,cJ,cS,iz]at t⊢;rcases t with rfl|rfl<;>simp)
 have Q:i∉fb kids bs:=λq=>by
  rcases cg.1 q with q|q
  .obtain⟨C,r,e⟩:=aG.1 q;exact x (.sl 1 (aq Bi.d bs)) Zs (xK r e.symm)
  .obtain⟨au,W,m⟩:=ft.1 q;obtain⟨C,r,rfl⟩:=aG.1 W;exact x (.sl 1 (aq Nd.d kids)) Zs (Lt r (C.tI i m))
 have y:(Nd.mk i (.mk k v n (.mk tk tn az) ns ks) (.mk f g a) l kids bs b).ids=i::fb kids bs:=by rw[Nd.kx];rfl
 have:=λu=>P (.mk i (.mk k v n (.mk tk tn az) ns ks) (.mk f g a) l kids bs b) u ⟨⟨by rw[y,la];exact⟨Q,G⟩,λam m=>by
  rw[y]at m;rcases cJ.1 m with rfl|m
  .exact ar
  .exact K am m⟩,L,λq=>M q i⟩
 simp only[Nd.d,Y.ds,O.ds,Nd.gJ,bf,a8]at this;exact this _
def P6{v b:Int}{a:BA}(d:hw=[])(f:yc a5 i3 a=lw):oz a4 a5 (.mk 1 v a go he hw) i3 b h ad lw [] [] (cE i3 a):=by
 subst d;have e:a6 a4 a5 (.mk 1 v a go he []) (i3.map Bi.e) b=E lw:=by
  rw[<-f];simp only[a6,iu,aI,tt,yc,Option.map_map];rfl
 exact HC
def P5{v a:Int}(b:hw=[]):oz a4 a5 (.mk 2 v dg go he hw) i3 a h ad js [] [] aa:=by
 subst b;have e:a6 a4 a5 (.mk 2 v dg go he []) (i3.map Bi.e) a=E js:=by simp[a6,iu]
 exact HC
def P3{v d:Int}(o:uv a4 a5 pi i3 (d+1) V m7 s2)(l:∀a,V<=a->h<=a)(p:m7.ty=lw):oz a4 a5 (.mk 6 v dg go he [pi]) i3 d h s2 (kG lw) [m7] [] aa:=by
 obtain⟨j,m,b⟩:=o;have f:a6 a4 a5 (.mk 6 v dg go he [pi]) (i3.map Bi.e) d=(a6 a4 a5 pi (i3.map Bi.e) (d+1)).map kG:=by simp[a6,iu,kj]
 refine⟨by rw[va];exact j.1,λa b=>by rw[va]at b;exact l a (j.2 a b),by rw[f,m];simp,λk id=>.mk (by rw[f,(b k).ty,p];rfl) Zs (by simp[er]) A λa g i=>?_⟩
 match a,g,i with
 |0,g,i=>exact b k
def P4{v b:Int}{i:BA}{f u:O}{l:aX}{a:Nat}{k:Nd}(z:uv a4 a5 pi (l++[⟨a,i,f,b⟩]) b V k s2)(w:h<=a)
 (t:∀g,V<=g->h<=g/\¬eh g (.sl 1 (aq Bi.d (l++[⟨a,i,f,b⟩])))) (B:k.ty=u):oz a4 a5 (.mk 4 v i f he [pi]) l b h s2 (kH f u) [k] [⟨a,i,f,b⟩] aa:=by
 obtain⟨o,y,j⟩:=z;have p:a6 a4 a5 (.mk 4 v i f he [pi]) (l.map Bi.e) b=(a6 a4 a5 pi ((l++[(⟨a,i,f,b⟩:Bi)]).map Bi.e) b).map (kH f):=by simp[a6,iu,kj]
 have s:fb [k] [⟨a,i,f,b⟩]=a::k.ids:=by simp[fb]
 refine⟨?_,λg j=>?_,by rw[p,y];simp,λm id=>.mk (by rw[p,(j m).ty,B];rfl) Zs (by simp[er]) A λg q r=>?_⟩
 .rw[s,la];exact⟨λm=>(t a (o.2 a m)).2 (xK (x:=⟨a,i,f,b⟩) Zs A),o.1⟩
 .rw[s]at j;rcases cJ.1 j with rfl|j
  .exact w
  .exact(t g (o.2 g j)).1
 .match g,q,r with
  |0,q,r=>exact j m
def Le(b bs:aX):(b++bs).map (λa=>a.e.n)=b.map (λa=>a.e.n)++bs.map λa=>a.e.n:=bC
def node{ab:aw}{ds:aF}(hp:fR ab ds):∀(u:Y)(sc:aX)(l:Int),TC ab ds u (sc.map λa=>a.e.n)->(∀a∈sc,O.w a.e.t)->0<=l->l+u.num<=1000->sc.length+3*u.num<=1000000->Y.kd u≠10->qb ab ds u sc l
 |.mk k v n (.mk tk tn az) ns ks,sc,l,iE,X,x,bf,bj,aT=>by
  obtain⟨f1,f2,f3,f4,f5,f6⟩:=iE.form;have ay:∀c∈ks,c.num+1<=Y.num (.mk k v n (.mk tk tn az) ns ks):=λc hc=>by have:=Y.gV hc;rw[Y.num];omega
  have av:∀(i:Nat)(h:i<ks.length),¬(k=9/\0<i)->Y.kd ks[i]≠10:=λi h q=>by
   simp only[kV,cO]at f6;have:=f6 i h;by_cases c:Y.kd ks[i]=10
   .rw[bD c]at this;simp at this;exact absurd this q
   .exact c
  have ih:∀(i:Nat)(h:i<ks.length)(bs:aX)(z:Int),bs.map (λa=>a.e.n)=bN k n ns i->(∀a∈bs,O.w a.e.t)->bs.length<=3->l<=z->z<=l+1->¬(k=9/\0<i)->qb ab ds ks[i] (sc++bs) z:=λi h bs z V F U bc be aW=>by
   have C:=ay _ (ax h);refine node hp ks[i] (sc++bs) z ?_ (λa hb=>?_) Zo Zo de (av i h aW)
   .rw[Le,V];exact iE.cM i h
   .rcases cg.1 hb with hb|hb
    .exact X a hb
    .exact F a hb
  have a2:∀(i:Nat)(h:i<ks.length)(Q:Int)(m:BA)(P:O)(J:aK)(c:Y)(K:ks[i]=.mk 10 Q m P J [c])(bs:aX),bs.map (λa=>a.e.n)=J->(∀a∈bs,O.w a.e.t)->bs.length<=3->qb ab ds c (sc++bs) l:=λi h Q m P J c K bs V F U=>by
   have C:=ay _ (ax h);have R:=iE.cM i h;rw[K]at C R;have bg:=Y.gV (l:=[c]) (c:=c) Zs;rw[Y.num]at C;have aQ:=R.cM 0 Zs;have aS:k=9:=by
    by_cases q:k=9/\0<i
    .exact q.1
    .have:=av i h q;rw[K]at this;exact absurd A this
   subst aS;refine node hp c (sc++bs) l ?_ (λa hb=>?_) x Zo de ?_
   .rw[Le,V];have:=aQ;simp[bN]at this;exact this
   .rcases cg.1 hb with hb|hb
    .exact X a hb
    .exact F a hb
   .have:=R.form.2.2.2.2.2;simp only[kV,cO]at this;have:=this 0 Zs;simpa using this
  have L:∀c∈ks,(∀i,bN k n ns i=[])->k≠9->qb ab ds c sc l:=λc hc hb h9=>by
   exact Ho
  have u6:∀D∈sc.map Bi.e,O.w D.t:=λD f=>by obtain⟨a,hb,rfl⟩:=aG.1 f;exact X a hb
  have y:∀c∈ks,∀ai,a6 ab ds c (sc.map Bi.e) l=E ai->O.w ai:=λc hc ai h=>by
   exact FV
  have bh:Cl (.sl 1 (aq Bi.d sc)):=ed λD _=>Bi.cl D;refine jj.eo [19,47,1000048,1000049,1000101] [.tmp 8,.tmp 9] func280 A Zk ntmps280 A Zs λa8=>?_;simp only[oe,go_sem];rcases mT k with rfl|rfl|rfl|rfl|rfl|rfl|rfl|rfl|rfl|rfl|rfl|⟨q1,q2,q3,q4,q5,q6,q7,q8,q9,tL,tM⟩
  case inr.inr.inr.inr.inr.inr.inr.inr.inr.inl=>exact absurd A aT
  .simp only[go_sem];refine .inr (.inr (Xc (v:=v) (tk:=tk) (l:=l) (n:=n) (tn:=tn) (az:=az) (ns:=ns) (ks:=ks) (gn:=0) hp.len (λaU=>iE.free n (by rw[fv];exact .inl ⟨A,A,S9 aU⟩)) Zo (by simp[aj,ca];rfl) ?_));intro o r p B m aZ b;simp only[go_sem];refine pG (ab:=ab) (ds:=ds) (sc:=sc) (k:=1) (v:=v) (tk:=tk) (l:=l) (n:=n) (tn:=tn) (az:=az) (ns:=ns) (ks:=_) (gn:=0) (ok:=ad) (P6 (by simpa[a1,cN]using f1) aZ) iN (b) (.inr A) (SS:=[]) (kids:=[]) (.inl ⟨A,A⟩) Zs (.inl ⟨A,A⟩) λnd s hr=>?_;exact qe
  .simp only[go_sem];refine hU intType .n ?_;simp only[go_sem];refine pG (ab:=ab) (ds:=ds) (sc:=sc) (k:=2) (v:=v) (tk:=tk) (l:=l) (n:=n) (tn:=tn) (az:=az) (ns:=ns) (ks:=_) (gn:=0) (ok:=ad) (P5 (by simpa[a1,cN]using f1)) iN (A) (.inr A) (SS:=[]) (kids:=[]) (.inl ⟨A,A⟩) Zs (.inl ⟨A,A⟩) λnd s hr=>?_;exact qe
  .skip
   simp only[go_sem];refine .inr (.inr (Az (k:=3) (v:=v) (tk:=tk) (l:=l) (n:=n) (tn:=tn) (az:=az) (ns:=ns) (ks:=ks) (gn:=0) hp Zs x Zo iE (λc hc=>L c hc (λi=>by simp[bN]) Zs) y (by simp[aj,ca];rfl) ?_));intro ok o r p kids B m xk y2 g b j f;simp only[go_sem];refine pG (ab:=ab) (ds:=ds) (sc:=sc) (k:=3) (v:=v) (tk:=tk) (l:=l) (n:=n) (tn:=tn) (az:=az) (ns:=ns) (ks:=ks) (gn:=0) g iN b j (SS:=[38]) f Zs (.inl ⟨A,A⟩) λnd s hr=>?_;exact qe
  .obtain⟨c,rfl⟩:=hP.1 (show ks.length=1 by simp[a1,cN]at f1;omega);have aY:O.w (.mk tk tn az):=⟨by simp only[jt,fK,aI,b3]at f3;exact f3.1,by have:=iE.ok;rw[Y.ok]at this;exact this.2.1⟩;simp only[go_sem];refine GK.ptr 47 47 0 ⟨0,236,5,[S n,I tk,S tn,.sl 3 (O.ae az),I l],aa⟩ iN bJ A A Zs cu λa aV=>?_;simp only[go_sem];refine GK.ln [48] 48 (.sl 1 (aq Bi.d [⟨a,n,.mk tk tn az,l⟩])) (Fz.rows (ob:=⟨_,217,1,[Bi.d ⟨a,n,.mk tk tn az,l⟩],aa⟩) (by simp only[bi,bG,aI,bH];rfl) A A Zd A (e_ _) A (by simp[aq];exact Bi.cl _)) (ed λD _=>Bi.cl D) ?_;simp only[aN,go_sem];refine oP (.bE [0,1,2,3,4,5,8] 6 (.bE [] 7 (.bE [] 9 (.fin [10,11,12,13,14,15]) 13 (.fin [9,10,11,12,14,15])) 13 (.fin [7,9,10,11,12,14,15])) 13 (.fin [6,7,9,10,11,12,14,15])) [] [58] mixed Zk ?_;simp only[aN,go_sem];refine⟨⟨?_,?_⟩,?_⟩
   all_goals
    refine hU (AS sc [⟨a,n,.mk tk tn az,l⟩] Zs de) l9 ?_;simp only[aN,go_sem]
   focus (refine⟨?_,?_⟩)
   all_goals
    refine .inr (.inr (rW (k:=4) (v:=v) (n:=n) (tk:=tk) (tn:=tn) (az:=az) (ns:=ns) (l:=l) (y0:=I 0) (y1:=S nE) (y2:=sE) (xk:=sE) (h_:=.sl 1 (aq Bi.d [⟨a,n,.mk tk tn az,l⟩])) (k7:=.sc (.pointer aa)) (kids:=[]) (ts:=[c]) (SS:=[38]) Zs Zs (ih 0 Zs [⟨a,n,.mk tk tn az,l⟩] l (by simp[bN]) (by simpa using aY) Zs Zo Zo Zs) (λ_ _ q=>q) (.inl A) (by simp[aj,ca];rfl) (.inl ⟨A,A⟩) Zs ?_));intro aC nd ah aB a4 a7 hr M Z W an;have am:=an 12 Zd Zd Zd Zd Zs
    try simp only[bH]at am
    obtain⟨o,r,p,G⟩:=O.ex nd.ty;simp only[G,am,aN,go_sem];refine bw (Jq (.mk tk tn az) (.mk o r p)) ?_;simp only[W,ca,go_sem];refine pG (ab:=ab) (ds:=ds) (sc:=sc) (k:=4) (v:=v) (tk:=tk) (l:=l) (n:=n) (tn:=tn) (az:=az) (ns:=ns) (ks:=_) (gn:=0) (ok:=ah) (P4 hr aV.2.2 (λi hi=>⟨(M i hi).1,(M i hi).2.2⟩) G) iN (by simp[aj,ca,bd]) (.inr A) (SS:=[38]) (kids:=[nd]) (Z.congr bJ) Zs (.inr A) λnd s hr=>?_;simp only[go_sem];exact⟨_,.cl _ (Cl.ir cu),Cl.ir cu,nd,_,A,hr⟩
  .skip
   simp only[go_sem];refine .inr (.inr (Az (k:=5) (v:=v) (tk:=tk) (l:=l) (n:=n) (tn:=tn) (az:=az) (ns:=ns) (ks:=ks) (gn:=0) hp Zs x Zo iE (λc hc=>L c hc (λi=>by simp[bN]) Zs) y (by simp[aj,ca];rfl) ?_));intro ok o r p kids B m xk y2 g b j f;simp only[go_sem];refine pG (ab:=ab) (ds:=ds) (sc:=sc) (k:=5) (v:=v) (tk:=tk) (l:=l) (n:=n) (tn:=tn) (az:=az) (ns:=ns) (ks:=ks) (gn:=0) g iN b j (SS:=[38]) f Zs (.inl ⟨A,A⟩) λnd s hr=>?_;exact qe
  .obtain⟨c,rfl⟩:=hP.1 (show ks.length=1 by simp[a1,cN]at f1;omega);have a5:IntKind.i64.wrap (l+1)=l+1:=cW _ Zo;simp only[a5,go_sem];refine .inr (.inr (rW (k:=6) (v:=v) (n:=n) (tk:=tk) (tn:=tn) (az:=az) (ns:=ns) (l:=l) (y0:=I 0) (y1:=S nE) (y2:=sE) (xk:=sE) (h_:=sE) (k7:=.sc (.pointer aa)) (kids:=[]) (ts:=[c]) (SS:=[38]) Zs Zs (by have:=ih 0 Zs [] (l+1) (by simp[bN]) Zs Zs Zo Zo Zs;rwa[c_]at this) (λ_ _ q=>q) (.inl A) (by simp[aj,ca];rfl) (.inl ⟨A,A⟩) Zs ?_));intro aC nd ah aB a4 a7 hr M Z W an;obtain⟨o,r,p,G⟩:=O.ex nd.ty;simp only[G,go_sem];refine bw (Od (.mk o r p)) ?_;simp only[W,ca,go_sem];refine pG (ab:=ab) (ds:=ds) (sc:=sc) (k:=6) (v:=v) (tk:=tk) (l:=l) (n:=n) (tn:=tn) (az:=az) (ns:=ns) (ks:=_) (gn:=0) (ok:=ah) (P3 hr (λi hi=>(M i hi).1) G) iN (by simp[aj,ca,bd]) (.inr A) (SS:=[38]) (kids:=[nd]) (Z.congr bJ) Zs (.inl ⟨A,A⟩) λnd s hr=>?_;exact qe
  .obtain⟨k0,k1,rfl⟩:=o6 (show ks.length=2 by simp[a1,cN]at f1;omega);simp only[go_sem];refine .inr (.inr (S3 (v:=v) (tk:=tk) (l:=l) (n:=n) (tn:=tn) (az:=az) (ns:=ns) (k0:=k0) (k1:=k1) (gn:=0) hp x Zo Zo (by have:=ih 0 Zs [] l A Zs Zs Zo Zo Zs;rwa[c_]at this) (λa hb F=>ih 1 Zs [a] l (by simp[bN,hb]) (by simpa using F) Zs Zo Zo Zs) (y k0 Zs) (by simp[aj,ca];rfl) ?_));intro ok o r p kids bs B m xk h_ y2 g b j f a0;simp only[go_sem];refine pG (ab:=ab) (ds:=ds) (sc:=sc) (k:=7) (v:=v) (tk:=tk) (l:=l) (n:=n) (tn:=tn) (az:=az) (ns:=ns) (ks:=_) (gn:=0) (ok:=ok) (g) iN (b) (j) (SS:=[38]) (kids:=kids) (f) Zs (a0) λnd s hr=>?_;exact qe
  .skip
   simp only[go_sem];refine .inr (.inr (Az (k:=8) (v:=v) (tk:=tk) (l:=l) (n:=n) (tn:=tn) (az:=az) (ns:=ns) (ks:=ks) (gn:=0) hp Zs x Zo iE (λc hc=>L c hc (λi=>by simp[bN]) Zs) y (by simp[aj,ca];rfl) ?_));intro ok o r p kids B m xk y2 g b j f;simp only[go_sem];refine pG (ab:=ab) (ds:=ds) (sc:=sc) (k:=8) (v:=v) (tk:=tk) (l:=l) (n:=n) (tn:=tn) (az:=az) (ns:=ns) (ks:=ks) (gn:=0) g iN b j (SS:=[38]) f Zs (.inl ⟨A,A⟩) λnd s hr=>?_;exact qe
  .obtain⟨k0,c,z,i,rfl,C⟩:=DH hp iE;obtain⟨aE,aP,cn,⟨aL,aO,aM⟩,aJ,aH⟩:=c;simp only[go_sem];refine .inr (.inr (To (v:=v) (tk:=tk) (l:=l) (n:=n) (tn:=tn) (az:=az) (ns:=ns) (k0:=k0) (dB:=.mk aE aP cn (.mk aL aO aM) aJ aH::z) (gn:=0) (cn:=cn) hp x Zo Zo C (by simp[Y.ae,Y.ds,O.ds];exact⟨A,A,A,A,A,A,A⟩) A (by have:=ih 0 Zs [] l (by simp[bN]) Zs Zs Zo Zo Zs;rwa[c_]at this) (y k0 Zs) (λQ m P J aD aR bs U ap=>?_) (λu aA=>y u (by simp at aA⊢;exact .inr aA)) (by simp[aj,ca];rfl) ?_))
   .obtain⟨a3,ar,au⟩:=dG aR;exact a2 (a3+1) (by simpa using ar) Q m P J aD (by simpa using au) bs (by
     obtain⟨bm,bk,t2,bl,a9,bb,ak,a',a_,ba⟩:=C.fs hp ar;rw[au]at ak;cases ak;have:=dO (List.map Ev.n) ap;rw[dZ]at this;refine this.trans ?_;simp only[cL,dZ];exact List.map_fst_zip Zo) (λa hb=>vV hp a.e (by rw[<-ap];exact aG.2 ⟨a,hb,A⟩)) U
   .intro ok o r p kids B m xk y2 g b j f;simp only[go_sem];refine pG (ab:=ab) (ds:=ds) (sc:=sc) (k:=9) (v:=v) (tk:=tk) (l:=l) (n:=n) (tn:=tn) (az:=az) (ns:=ns) (ks:=_) (gn:=0) (ok:=ok) (g) iN (b) (j) (SS:=[38,141]) (kids:=kids) (f) Zs (.inl ⟨A,A⟩) λnd s hr=>?_;exact qe
  .skip
   simp only[go_sem];refine .inr (.inr (Az (k:=11) (v:=v) (tk:=tk) (l:=l) (n:=n) (tn:=tn) (az:=az) (ns:=ns) (ks:=ks) (gn:=0) hp Zs x Zo iE (λc hc=>L c hc (λi=>by simp[bN]) Zs) y (by simp[aj,ca];rfl) ?_));intro ok o r p kids B m xk y2 g b j f;simp only[go_sem];refine pG (ab:=ab) (ds:=ds) (sc:=sc) (k:=11) (v:=v) (tk:=tk) (l:=l) (n:=n) (tn:=tn) (az:=az) (ns:=ns) (ks:=ks) (gn:=0) g iN b j (SS:=[38]) f Zs (.inl ⟨A,A⟩) λnd s hr=>?_;exact qe
  .exact Bv
termination_by u=>u
decreasing_by
 .have:=cH (ax h);simp;omega
 .have:=cH (ax h);rw[K]at this;simp at this⊢;omega
end
section
open Classical
def wQ(ab:List ai):Y->Bool
 |.mk k _ n _ ns _=>decide (k=10->ns.length=(jd ab n).length)
structure Sh (ab:List ai) (t:Y):Prop where
 gd:dE t=ad
 cl:Y.aY (wQ ab) t=ad
def sj{d:Type}:∀{l:List d},l.length=2->∃a b,l=[a,b]
 |[a,b],_=>⟨a,b,A⟩
section
variable{ab:aw}{ds:aF}{k v:Int}{n:BA}{t:O}{ns:aK}{ks:a_}{l:Int}{sc bs:aX}
def Sh.cM(b:Sh ab (.mk k v n t ns ks)):∀a∈ks,Sh ab a:=λa d=>⟨(iQ b.gd).2 a d,(iQ b.cl).2 a d⟩
def Sh.len(a:Sh ab (.mk k v n t ns ks)):a1 ks.length (cN k).1 (cN k).2=ad:=by
 have:=(iQ a.gd).1;simp only[nh,fJ,b3]at this;exact this.1.1
def Sh.vr(a:Sh ab (.mk k v n t ns ks)):k=10->ns.length=(jd ab n).length:=by
 have:=(iQ a.cl).1;rw[wQ,cO]at this;exact this
def Sh.one(b:Sh ab (.mk k v n t ns ks))(e:k=4\/k=6\/k=10):∃a,ks=[a]:=by
 have d:=b.len;refine hP.1 ?_;rcases e with rfl|rfl|rfl<;>simp[a1,cN]at d<;>omega
def Sh.zero(b:Sh ab (.mk k v n t ns ks))(d:k=1):ks=[]:=by
 have a:=b.len;subst d;simp[a1,cN]at a;exact a
def zf{a:Env}(i:Sh ab (.mk k v n t ns ks))(d:(a6 ab ds (.mk k v n t ns ks) a l).isSome=ad):(er ab ds k n t ns ks a l).map Ev.n=if k=4\/k=7 then[n]else if k=10 then ns else[]:=by
 unfold er;by_cases g:k=4
 .simp[g]
 .by_cases h:k=7
  .subst h;have o:=i.len;simp[a1,cN]at o;obtain⟨m,q,rfl⟩:=sj (show ks.length=2 by omega);rw[Wr]at d;cases b:a6 ab ds m a l with
   |none=>simp[b]at d
   |some p=>
    cases j:gT p with
    |none=>simp[b,j]at d
    |some e=>simp[b,j]
  .by_cases f:k=10
   .subst f;simp only[cL];simp only[Int.reduceEq,aV,aI,or_self,dZ];have r:=i.vr A;have:(Ev.n∘λe:ByteArray×O=>(⟨e.1,e.2,l⟩:Ev))=Prod.fst:=A;rw[this,List.map_fst_zip Zo]
   .simp[g,h,f]
def zU{h:Env}{i:Nat}(m:Sh ab (.mk k v n t ns ks))(p:(a6 ab ds (.mk k v n t ns ks) h l).isSome=ad)(o:bs.map Bi.e=er ab ds k n t ns ks h l):(if cV k i then bs else[]).map (λb=>b.e.n)=bN k n ns i:=by
 have a:=zf m p;rw[<-o,dZ]at a;have a:bs.map (λb=>b.e.n)=_:=a;unfold cV bN;by_cases f:k=4
 .subst f;simp[a]
 .by_cases g:k=7
  .subst g;by_cases j:i=1<;>simp[a,j]
  .by_cases d:k=10
   .subst d;simp[a]
   .simp[f,g,d]
def vD{a:Nat}:(if cV k a then sc++bs else sc)=sc++(if cV k a then bs else[]):=by split<;>simp
end
def n0(b d:aX)(a:BA):cE (b++d) a=(cE d a).or (cE b a):=by
 unfold cE;rw[we,List.find?_append]
def rY{b:aX}{x:BA}(f:x∉b.map λa=>a.e.n):cE b x=aa:=by
 unfold cE;rw[List.find?_eq_none];intro a g;simp only[cO];exact λd=>f (aG.2 ⟨a,by simpa using g,d⟩)
def vg{b:aX}{x:BA}(g:x∈b.map λa=>a.e.n):∃a∈b,cE b x=E a/\a.e.n=x:=by
 cases d:cE b x with
 |none=>
  unfold cE at d;rw[List.find?_eq_none]at d;obtain⟨a,h,f⟩:=aG.1 g;exact absurd f (by simpa using d a (by simpa using h))
 |some a=>exact⟨a,by have:=uh d;simpa using this,A,by have:=List.find?_some d;simpa using this⟩
def mv{b:aX}{f:BA}{a:Bi}(d:cE b f=E a):a∈b/\a.e.n=f:=by
 refine⟨by have:=uh d;simpa using this,by have:=List.find?_some d;simpa using this⟩
def xq:∀{sc:aX}(b:(ids sc).Nodup){f g:Bi}(i:f∈sc)(j:g∈sc)(h:f.id=g.id),f=g
 |a::sc,b,f,g,i,j,h=>by
  rw[ids,bp,la]at b;rcases cJ.1 i with d|d<;>rcases cJ.1 j with e|e
  .rw[d,e]
  .exact absurd (aG.2 ⟨g,e,by rw[<-h,d]⟩) b.1
  .exact absurd (aG.2 ⟨f,d,by rw[h,e]⟩) b.1
  .exact xq b.2 d e h
def xF{f:Type}:∀{l:List (List f)}{e:List f},l.flatten.Nodup->e∈l->e.Nodup
 |a::l,e,b,d=>by
  rw[dN,gR]at b;rcases cJ.1 d with rfl|d
  .exact b.1
  .exact xF b.2.1 d
structure Ap (nd:Nd) (sc:List Bi):Prop where
 u:nd.ids.Nodup
 s:(ids sc).Nodup
 d:∀i∈nd.ids,i∉ids sc
def Ap.cM{id:Nat}{t:Y}{z:O}{l:Int}{i:dv}{bs sc:aX}{p:Option Bi}(s:Ap (.mk id t z l i bs p) sc)(g:aX)(h:g=bs\/g=[]):∀d∈i,Ap d (sc++g):=λd m=>by
 obtain⟨e,u,f⟩:=s;rw[Nd.kx]at e f;simp only[Nd.id,Nd.bs,Nd.ks]at e f;rw[la,gR]at e;obtain⟨-,w,y,x⟩:=e;have o:∀a∈d.ids,a∈(i.map Nd.ids).flatten:=λa b=>ft.2 ⟨_,aG.2 ⟨d,m,A⟩,b⟩;refine⟨?_,?_,λa b q=>?_⟩
 .exact xF y (aG.2 ⟨d,m,A⟩)
 .rw[ids,bC,gR];refine⟨u,?_,λa b B j r=>?_⟩
  .rcases h with rfl|rfl
   .exact w
   .simp
  .subst r;rcases h with rfl|rfl
   .exact f a (np _ (eE _ j)) b
   .simp at j
 .rw[ids,bC]at q;rcases cg.1 q with q|q
  .exact f a (np _ (eN _ (o a b))) q
  .rcases h with rfl|rfl
   .exact x a q a (o a b) A
   .simp at q
def A8{ab:aw}{ds:aF}:∀(t:Y){x:Nd}{sc:aX}{l:Int},Sh ab t->fB ab ds t x sc l->Ap x sc->∀b∈sc,x.us b.id=if cE sc b.e.n=E b then fg b.e.n t else 0
 |.mk k v n t ns ks,_,sc,l,r,.mk (id:=id) (ty:=ty) (kids:=kids) (bs:=bs) (b:=J) Q B M C O,y,b,u=>by
  have F:∀(i:Nat)(d:i<ks.length)(f:i<kids.length),kids[i].us b.id=if b.e.n∈bN k n ns i then 0 else if cE sc b.e.n=E b then fg b.e.n ks[i]else 0:=λi d f=>by
   have o:=O i d f;rw[vD]at o;have D:=zU (i:=i) r (by rw[Q];rfl) M;have z:=y.cM (if cV k i then bs else[]) (by split<;>simp) kids[i] (ax f);rw[A8 ks[i] (r.cM _ (ax d)) o z b (eE _ u),n0];by_cases j:b.e.n∈bN k n ns i
   .rw[aM j,av];obtain⟨g,w,K,U⟩:=vg (b:=if cV k i then bs else[]) (by rw[D];exact j);rw[K];intro q;have q:E g=E b:=q;cases q;have:=z.s;rw[ids,bC,gR]at this;exact this.2.2 _ (aG.2 ⟨_,u,A⟩) _ (aG.2 ⟨_,w,A⟩) A
   .rw[av j,rY (b:=if cV k i then bs else[]) (by rw[D];exact j),lZ]
  rw[Nd.vQ];show(if J.any (λS=>decide (S.id=b.id))=ad then 1 else gI k (kids.map λg=>g.us b.id) 0 0 0)=_;by_cases h:k=1
  .have:=r.zero h;subst this;have:kids=[]:=List.eq_nil_of_length_eq_zero C;subst this;rw[B,aM h,fg,aM h];cases p:cE sc n with
   |none=>
    have:cE sc b.e.n≠E b\/n≠b.e.n:=by
     by_cases a:n=b.e.n
     .left;rw[<-a,p];simp
     .exact .inr a
    rcases this with q|q
    .rw[av q];rfl
    .rw[av q,ite_self];rfl
   |some I=>
    obtain⟨d,f⟩:=mv p;by_cases a:I.id=b.id
    .have:=xq y.s d u a;subst this;simp[f,p]
    .have P:¬(cE sc b.e.n=E b/\n=b.e.n):=λ⟨G,R⟩=>by rw[<-R,p]at G;cases G;exact a A
     simp only[Option.any_some,a,ri,uf,aV,cB,gI,su];split
     .split
      .exact absurd ⟨‹_›,‹_›⟩ P
      .rfl
     .rfl
  .rw[B,av h,fg,av h];refine(av Zs).trans ?_;by_cases m:cE sc b.e.n=E b
   .rw[aM m];congr 1;refine p7 (by simp[EI,C]) λi d f=>?_;have L:i<kids.length:=by simpa using d
    rw[eI,EH _ _ _ _ _ _ _ Zo,F i Zo L,ek,aM m]
   .rw[av m];have a:kids.map (λg=>g.us b.id)=List.replicate kids.length 0:=List.map_eq_replicate_iff.2 λg w=>by
     obtain⟨i,o,rfl⟩:=dG w;rw[F i Zo o,av m];split<;>rfl
    rw[a];exact Ci _ _ _
termination_by t=>t
decreasing_by
 have:=cH (ax d);simp;omega
end
section
open Classical
def Nd.mZ(x:Nd):aX:=x.b.toList++(x.ks.attach.map λy=>Nd.mZ y.1).flatten
termination_by x
decreasing_by exact Nd.lt y.2
def Nd.As(a:Nd):a.mZ=a.b.toList++(a.ks.map Nd.mZ).flatten:=by rw[Nd.mZ];simp
def d_(a:aX)(b:Bi):aX:=if a.any (λd=>d.id==b.id)then a else a++[b]
def TO(a:Option Bi)(b:aX):o9 a b=a.toList.foldl d_ b:=by cases a<;>rfl
def CP(d:m4->g1->m4):∀(b:List (List g1))(a:m4),b.flatten.foldl d a=b.foldl (λa m=>m.foldl d a) a
 |[],a=>rfl
 |m::b,a=>by exact Zg
def Nd.xJ(d:Nd)(f:aX):d.eG f=d.mZ.foldl d_ f:=by
 have i:∀e∈d.ks,∀a:aX,e.eG a=e.mZ.foldl d_ a:=λe h a=>Nd.xJ e a;rw[Nd.DS,Nd.As,kn,CP,List.foldl_map,TO];generalize d.b.toList.foldl d_ f=a;generalize g:d.ks=j at i;clear g
 induction j generalizing a with
 |nil=>rfl
 |cons k l m=>
  exact Zg
termination_by d
decreasing_by exact Nd.lt h
def J5:∀{b:aX}{a:Bi},a∈i3.foldl d_ b->a∈b\/a∈i3:=by
 induction i3 with
 |nil=>intro b a h;exact .inl h
 |cons e f d=>
  intro b a h;rcases d h with h|h
  .unfold d_ at h;split at h
   .exact .inl h
   .exact Zg
  .exact .inr (by simp[h])
def J4:∀{b:aX}{a:Nat},(a∈ids b\/a∈ids i3)->a∈ids (i3.foldl d_ b):=by
 induction i3 with
 |nil=>intro b a h;rcases h with h|h;exact h;simp[ids]at h
 |cons j k g=>
  intro b a h;refine g ?_;rcases h with h|h
  .left;unfold d_;split
   .exact h
   .rw[ids,bC];exact eE _ h
  .rw[ids,bp]at h;rcases cJ.1 h with h|h
   .left;unfold d_;split
    .rename_i d;simp only[k9,l6]at d;obtain⟨i,f,e⟩:=d;exact aG.2 ⟨i,f,e.trans h.symm⟩
    .rw[ids,bC,h];simp
   .exact .inr h
def Nd.Dl(b:Nd):∀a∈b.cD,a.id∈b.ids:=by
 have g:∀d∈b.ks,∀a∈d.cD,a.id∈d.ids:=λd f=>Nd.Dl d;intro a e;rw[Nd.nX]at e;rw[Nd.kx];exact Zg
termination_by b
decreasing_by exact Nd.lt f
def Au:∀(d:Y){g:Nd}{a:aX}{j:Int},fB a4 a5 d g a j->∀b∈g.mZ,b∈a\/b∈g.cD
 |.mk x v q d z i,_,a,j,.mk (kids:=kids) (bs:=bs) (b:=s) w k t u o,b,hm=>by
  rw[Nd.As]at hm;rw[Nd.nX];simp only[Nd.b,Nd.ks,Nd.bs]at hm⊢;rcases cg.1 hm with hm|hm
  .rw[k]at hm;split at hm
   .cases e:cE a q with
    |none=>rw[e]at hm;simp at hm
    |some r=>rw[e]at hm;simp at hm;subst hm;exact .inl (mv e).1
   .simp at hm
  .obtain⟨y,hm,l⟩:=ft.1 hm;obtain⟨A,p,rfl⟩:=aG.1 hm;obtain⟨f,m,rfl⟩:=dG p;rcases Au i[f] (o f Zo m) b l with h|h
   .exact Zg
   .exact Zg
termination_by d=>d
decreasing_by
 have:=cH (ax (show f<i.length by omega));simp;omega
def Na(d:Nd)(e:Nat):d.us e≠0->e∈ids d.mZ:=by
 have l:∀a∈d.ks,a.us e≠0->e∈ids a.mZ:=λa g=>Na a e;intro i;rw[Nd.vQ]at i;rw[Nd.As,ids,bC];by_cases f:d.b.any (λh=>decide (h.id=e))=ad
 .refine eE _ ?_;cases j:d.b with
  |none=>rw[j]at f;simp at f
  |some h=>rw[j]at f;simp at f;simp[f]
 .rw[av f]at i;refine eN _ ?_;by_cases m:∃a∈d.ks,a.us e≠0
  .obtain⟨a,g,k⟩:=m;obtain⟨h,j,o⟩:=aG.1 (l a g k);exact Zg
  .refine absurd ?_ i;have:d.ks.map (λa=>a.us e)=List.replicate d.ks.length 0:=List.map_eq_replicate_iff.2 λa g=>by
    exact Zg
   rw[this];exact Ci _ _ _
termination_by d
decreasing_by exact Nd.lt g
def kT(t:Y)(e:Env)(l:Int):Prop:=∀x v,look e x=E v->v.l=l->fg x t<=1
def fx(e:Env)(ns:aK):Env:=e.filter λv=>!decide (v.n∈ns)
def KS(b:Env)(d:aK)(a:BA):look (fx b d) a=if a∈d then aa else look b a:=by
 unfold look fx;exact Zg
def M2(ab:aw)(ds:aF)(k:Int)(n:BA)(t:O)(ns:aK)(ks:a_)(a:List rj):rj:=λe l=>
 (k=4->∀c∈ks.take 1,fg n c<=1)/\(k=10->∀c∈ks.take 1,(∀x∈ns,fg x c<=1)/\kT c (fx e ns) l)/\(k=11->∀c∈ks.drop 1,kT c e l)/\
 ∀(i:Nat)(h:i<a.length),a[i] (b8 ab ds k n t ns ks e l i) (bL k l)
mutual
def ee(ab:List ai)(ds:List ah):Y->rj
 |.mk k _ n t ns ks=>M2 ab ds k n t ns ks (A5 ab ds ks)
def A5(ab:List ai)(ds:List ah):List Y->List rj
 |[]=>[]
 |c::cs=>ee ab ds c::A5 ab ds cs
end
def M3(a:aw)(b:aF):∀d:a_,A5 a b d=d.map (ee a b)
 |[]=>rfl
 |c::e=>by rw[A5,M3 a b e];rfl
def M1{ab:aw}{ds:aF}{k v:Int}{n:BA}{t:O}{ns:aK}{ks:a_}{e:Env}{l:Int}:ee ab ds (.mk k v n t ns ks) e l↔
 (k=4->∀a∈ks.take 1,fg n a<=1)/\(k=10->∀a∈ks.take 1,(∀d∈ns,fg d a<=1)/\kT a (fx e ns) l)/\(k=11->∀a∈ks.drop 1,kT a e l)/\
 ∀(b:Nat)(f:b<ks.length),ee ab ds ks[b] (b8 ab ds k n t ns ks e l b) (bL k l):=by
 rw[ee,M2,M3];simp
def fB.l(a:fB a4 a5 pi m7 i3 a0):m7.l=a0/\m7.t=pi:=by cases a;exact⟨A,A⟩
def Ij{m:Y}{j x:Nd}{p k:aX}(M:Sh a4 m)(t:fB a4 a5 m j (p++k) a0)(u:Ap j (p++k))(R:∀b∈x.bs,b∈k)(I:∀b∈k,b∈x.bs):
 ((j.eG []).all (jP x j)=ad↔kT m (fx (p.map Bi.e) (k.map λb=>b.e.n)) a0):=by
 have G:=A8 m M t u;have F:∀b∈p,∀a∈x.bs++j.cD,a.id≠b.id:=λb g a f r=>by
  rcases cg.1 f with f|f
  .have:=u.s;rw[ids,bC,gR]at this;exact this.2.2 _ (aG.2 ⟨b,g,A⟩) _ (aG.2 ⟨a,R a f,A⟩) r.symm
  .refine u.d _ (j.Dl a f) ?_;rw[r,ids,bC];exact eE _ (aG.2 ⟨b,g,A⟩)
 rw[b6];constructor
 .intro z J v i h;rw[KS]at i;split at i
  .cases i
  .rename_i w;rw[tt]at i;cases g:cE p J with
   |none=>rw[g]at i;cases i
   |some b=>
    rw[g]at i;simp only[ey,dy]at i;subst i;obtain⟨o,O⟩:=mv g;have B:=G b (eE _ o);rw[n0,O,rY (b:=k) (x:=J) w,lZ,g,aM A]at B;refine Int.not_lt.1 λW=>?_;have P:b.id∈ids (j.eG []):=by
     rw[Nd.xJ];exact J4 (.inr (Na j b.id Zo))
    obtain⟨a,f,r⟩:=aG.1 P;have S:a=b:=by
     rw[Nd.xJ]at f;rcases J5 f with q|q
     .cases q
     .rcases Au m t a q with q|q
      .exact xq u.s q (eE _ o) r
      .exact absurd r (F b o a (eN _ q))
    subst S;have:=z a f;simp only[jP,oo,ud,fZ,Bool.not_eq_false',k9,l6]at this;rcases this with(q|⟨U,Q,C⟩)|q
    .exact q (by rw[t.l.1];exact h)
    .exact F a o U Q C
    .omega
 .intro z b g;rw[jP,oo,<-Bool.not_eq_true];intro D;simp only[b3,cO,oo,qY,l6]at D;obtain⟨⟨K,y⟩,V⟩:=D;rw[Nd.xJ]at g;have o:b∈p:=by
   rcases J5 g with q|q
   .cases q
   .rcases Au m t b q with q|q
    .rcases cg.1 q with q|q
     .exact q
     .exact absurd A (y b (eE _ (I b q)))
    .exact absurd A (y b (eN _ q))
  have B:=G b (eE _ o);split at B
  .rename_i h;rw[n0]at h;have w:b.e.n∉k.map λa=>a.e.n:=λq=>by
    obtain⟨a,f,L,C⟩:=vg q;rw[L]at h;have h:=h;cases h;exact y b (eE _ (I b f)) A
   rw[rY w,lZ]at h;have:=z b.e.n b.e (by rw[KS,av w,tt,h];rfl) (by rw[K,t.l.1]);omega
  .omega
def M4{w:aw}{B:aF}:∀(k:Y){R:Nd}{o:aX}{i:Int},Sh w k->fB w B k R o i->Ap R o->(Nd.all oi R=ad↔ee w B k (o.map Bi.e) i)
 |.mk g v p k m j,_,o,i,y,.mk (id:=id) (ty:=ty) (kids:=kids) (bs:=bs) (b:=z) az F V Z X,aq=>by
  have K:∀(d:Nat)(f:d<j.length)(l:d<kids.length),fB w B j[d] kids[d] (o++if cV g d then bs else[]) (bL g i)/\Ap kids[d] (o++if cV g d then bs else[]):=λd f l=>
   ⟨by rw[<-vD];exact X d f l,aq.cM _ (by split<;>simp) _ (ax l)⟩
  have ae:∀(d:Nat)(f:d<j.length)(l:d<kids.length),Nd.all oi kids[d]=ad↔ee w B j[d] (b8 w B g p k m j (o.map Bi.e) i d) (bL g i):=λd f l=>by
   rw[<-zS V];exact M4 j[d] (y.cM _ (ax f)) (X d f l) (by rw[vD];exact(K d f l).2)
  have ar:kids.all (Nd.all oi)=ad↔∀(d:Nat)(h:d<j.length),ee w B j[d] (b8 w B g p k m j (o.map Bi.e) i d) (bL g i):=by
   rw[b6];exact⟨λh d C=>(ae d C Zo).1 (h _ (ax _)),λh u P=>by
    obtain⟨d,C,rfl⟩:=dG P;exact(ae d Zo C).2 (h d Zo)⟩
  have D:=zf y (by rw[az];rfl);rw[<-V,dZ]at D;have D:bs.map (λb=>b.e.n)=_:=D;rw[Nd.all_eq,M1,b3];show oi _=ad/\kids.all _=ad↔_;rw[ar,<-and_assoc,<-and_assoc,and_assoc (a:=g=4->_)];refine and_congr ?_ Iff.rfl;rw[oi,b3];show((decide (g=7)||bs.all _)=ad/\(qg g kids).all _=ad)↔_;by_cases I:g=4
  .subst I;obtain⟨q,rfl⟩:=y.one (.inl A);obtain⟨u,rfl⟩:=hP.1 Z;obtain⟨b,rfl⟩:∃b,bs=[b]:=hP.1 (by have:=dO List.length D;simpa using this);have av:b.e.n=p:=by simpa using D
   obtain⟨r,s⟩:=K 0 Zs Zs;simp only[cV,ox,true_or,aI,fO]at r s;have f:=A8 q (y.cM _ Zs) r s b Zs;rw[n0,show cE [b] b.e.n=E b by simp[cE],Option.some_or,aM A,av]at f;have O:(Nd.mk id (.mk 4 v p k m [q]) ty i [u] [b] z).us b.id=u.us b.id:=by
    rw[Nd.vQ,F];simp[Nd.ks,Nd.t,Y.kd,gI,Nd.b]
   simp[qg,O,f]
  .by_cases G:g=10
   .subst G;obtain⟨q,rfl⟩:=y.one (.inr (.inr A));obtain⟨u,rfl⟩:=hP.1 Z;obtain⟨r,s⟩:=K 0 Zs Zs;simp only[cV,ox,Int.reduceEq,false_or,true_or,aI,fO,bL,aV]at r s;have f:=A8 q (y.cM _ Zs) r s;have U:=Ij (x:=.mk id (.mk 10 v p k m [q]) ty i [u] bs z) (y.cM _ Zs) r s (λb h=>h) λb h=>h;have M:bs.map (λb=>b.e.n)=m:=by simpa using D
    rw[M]at U;have O:∀Q,(Nd.mk id (.mk 10 v p k m [q]) ty i [u] bs z).us Q=u.us Q:=λQ=>by
     rw[Nd.vQ,F];simp[Nd.ks,Nd.t,Y.kd,gI,Nd.b]
    have l:(bs.all λb=>decide ((Nd.mk id (.mk 10 v p k m [q]) ty i [u] bs z).us b.id<=1))=ad↔∀x∈m,fg x q<=1:=by
     simp only[b6,cO,O];constructor
     .intro h x aA;obtain⟨ai,ab,am,an⟩:=vg (b:=bs) (x:=x) (by rw[M];exact aA);have:=f ai (eN _ ab);rw[n0,an,am,Option.some_or,aM A]at this;have:=h ai ab;omega
     .intro h b F;rw[f b (eN _ F)];split
      .exact h _ (by rw[<-M];exact aG.2 ⟨b,F,A⟩)
      .omega
    simp only[qg,aI,List.all_cons,List.all_nil,ue,U,Int.reduceEq,ri,p6,l,ix,List.take_zero,bG,dT,ez,ul,fa,nr]
   .have W:g≠7->bs=[]:=λJ=>by simpa[I,J,G]using D
    have au:(decide (g=7)||bs.all λb=>decide ((Nd.mk id (.mk g v p k m j) ty i kids bs z).us b.id<=1))=ad:=by
     by_cases J:g=7
     .simp[J]
     .simp[W J]
    by_cases S:g=11
    .subst S;have ap:=W Zd;subst ap;simp only[qg,I,G,Int.reduceEq,aV,aI,ez,ul,nr,b6];refine(and_iff_right Zs).trans ?_;have ah:∀(d:Nat)(f:d<j.length)(l:d<kids.length),((kids[d].eG []).all (jP (.mk id (.mk 11 v p k m j) ty i kids [] z) kids[d])=ad↔kT j[d] (o.map Bi.e) i):=λd f l=>by
      obtain⟨r,s⟩:=K d f l;simp only[ite_self,bL,Int.reduceEq,aV]at r s;have:=Ij (x:=.mk id (.mk 11 v p k m j) ty i kids [] z) (y.cM _ (ax f)) r s (λb h=>h) λb h=>h;rw[this];have ak:fx (o.map Bi.e) ([].map λb:Bi=>b.e.n)=o.map Bi.e:=by simp[fx]
      rw[ak]
     constructor
     .intro h q ay;obtain⟨d,C,rfl⟩:=dG ay;rw[p8];have L:1+d<j.length:=by simp at C;omega
      refine(ah (1+d) L Zo).1 ?_;rw[b6];exact h _ (by rw[<-p8 (h:=by simp;omega)];exact ax _)
     .intro h u P;obtain⟨d,C,rfl⟩:=dG P;rw[p8];have L:1+d<kids.length:=by simp at C;omega
      have:=(ah (1+d) Zo L).2 (h _ (by rw[<-p8 (h:=by simp;omega)];exact ax _));rw[b6]at this;exact this
    .simp[qg,I,G,S,au]
termination_by k=>k
decreasing_by
 have:=cH (ax f);simp;omega
variable {rt:aK}
def TC.case{v:Int}(d:TC a4 a5 (.mk a0 v dg go he hw) rt)(a:Nat)(e:a<hw.length):Y.kd hw[a]=10↔a0=9/\0<a:=by
 obtain⟨-,-,-,-,-,b⟩:=d.form;simp only[kV,cO]at b;have:=b a e;rw[nk]at this;simpa using this
def TC.cl(f:fR a4 a5):∀(d:Y){s:aK},TC a4 a5 d s->Y.kd d≠10->Y.aY (wQ a4) d=ad
 |.mk O v Q d R k,s,e,z=>by
  rw[Y.aY,Y.gB,b3,b6];refine⟨by rw[wQ,cO];exact λg=>absurd g z,λl y=>?_⟩;obtain⟨a,b,rfl⟩:=dG y;by_cases g:Y.kd k[a]=10
  .obtain⟨rfl,K⟩:=(e.case a b).1 g;obtain⟨P,l,C,M,m,B⟩:=DH f e;have A:a-1<(l::C).length:=by rw[m]at b;simp at b⊢;omega
   obtain⟨G,D,t2,F,t,L,w,I,x,J⟩:=B.fs f A;have h:k[a]=.mk 10 G D t2 F [t]:=by
    rw[<-w];simp only[m];obtain⟨r,rfl⟩:∃r,a=r+1:=⟨a-1,Zo⟩;rfl
   have j:=e.cM a b;rw[h]at j;have o:=j.cM 0 Zs;have p:=j.case 0 Zs;simp only[fO]at o p;rw[h,Y.aY,Y.gB,b3,b6];refine⟨by rw[wQ,cO];exact λ_=>x,λu q=>?_⟩;simp only[bG]at q;subst q;exact TC.cl f u o (by rw[Ne,p];simp)
  .exact TC.cl f k[a] (e.cM a b) g
termination_by d=>d
decreasing_by
 .have i:=cH (ax b);rw[h]at i;simp at i⊢;omega
 .have i:=cH (ax b);simp;omega
def TC.sh(d:fR a4 a5)(a:TC a4 a5 pi he)(b:Y.kd pi≠10):Sh a4 pi:=⟨a.gd,a.cl d pi b⟩
def J':∀(h:Y){q:Nd}{r:aX}{p:Int},Sh a4 h->fB a4 a5 h q r p->q.num<=4*h.num
 |.mk m v I h J o,_,r,p,i,.mk (kids:=kids) (bs:=bs) y G u x w=>by
  have l:=zf i (by rw[y];rfl);rw[<-u,dZ]at l;have a:=dO List.length l;have F:bs.length<=3:=by
   by_cases j:m=4\/m=7
   .rw[aM j]at a;simp at a;omega
   .rw[av j]at a;split at a
    .have:=(iQ i.gd).1;simp only[nh,fJ,fp,b3]at this;have t:=this.1.2.1.2;rename_i B;subst B;simp[im]at t;simp at a;omega
    .simp at a;simp[a]
  rw[Nd.num,Y.num];have A:∀(e:dv)(b:a_),e.length=b.length->(∀(d:Nat)(f:d<e.length)(g:d<b.length),(e[d]).num<=4*(b[d]).num)->Nd.aR e<=4*Y.aR b:=by
   intro e
   induction e with
   |nil=>intro b _ _;simp[Nd.aR]
   |cons C e z=>
    intro b a k;cases b with
    |nil=>simp at a
    |cons D b=>
     have s:=k 0 Zs Zs;have f:=z b (by simpa using a) λd f g=>k (d+1) (by simpa using f) (by simpa using g);simp only[fO]at s;rw[Nd.aR,Y.aR];omega
  have:=A kids o x λd f g=>J' o[d] (i.cM _ (ax g)) (w d g f);omega
termination_by h=>h
decreasing_by
 have f:=cH (ax g);simp;omega
structure l7 (ab:List ai) (ds:List ah):Prop where
 pg:fR ab ds
 bd:∀d∈ds,TC ab ds (ah.bd d) []/\Y.kd (ah.bd d)≠10/\(ah.bd d).num<=160
def Pq(a:go∈jd a4 dg):∃d∈a4,∃b∈ai.cs d,go∈aA.fs b:=by
 unfold jd at a;split at a
 .rename_i d f;split at a
  .rename_i b e;exact⟨d,eg f,b,eg e,a⟩
  .cases a
 .cases a
def n9(d:gU (.mk a4 a5)=0)(A:(bm.mk a4 a5).ok):l7 a4 a5:=by
 rw[gU]at d;split at d
 .rename_i h;split at d
  .cases d
  .rename_i p;split at d
   .cases d
   .rename_i l;obtain⟨K,G,L,t⟩:=A;have w:=D4 h;have a:=D5 h;obtain⟨s,-,z,x⟩:=h;have B:fR a4 a5:=⟨a,s,z,λb a=>⟨(w b a).2,(DU (t b a)).2⟩,λJ u C=>by
     obtain⟨b,a,f,q,r⟩:=Pq C;refine⟨?_,?_⟩
     .obtain⟨i,g,rfl⟩:=dG a;obtain⟨F,y,rfl⟩:=dG q;have k:=((s.2 i g).2 F y).1;simp only[nL,b3,b6,fK]at k;exact(k.2 u r).1.1
     .have m:=G _ a;obtain⟨P,M⟩:=b;rw[ai.ok]at m;have o:=m.2.2 _ q;obtain⟨R,Q⟩:=f;rw[aA.ok]at o;exact O.dW o.2.2 u r⟩
    refine⟨B,λb a=>?_⟩;simp only[k9,not_exists,not_and,Bool.not_eq_true,oo]at p l;have j:=p b a;have f:=l b a;simp only[lC,Bool.or_eq_false_iff,Bool.not_eq_false',qY,cO]at j;obtain⟨i,g,rfl⟩:=dG a;obtain⟨-,-,-,e⟩:=x i g;simp only[jE,b3,cO]at e;refine⟨⟨e.1.1,j.2,by simpa using f,λI D=>?_,(DU (t _ a)).1⟩,e.1.2,e.2.2⟩;have:=j.1.2 I ((K6 _ _ _ _).2 (.inr D));omega
 .cases d
def gq(ab:aw)(ds:aF):Int:=if gU (.mk ab ds)≠0 then gU (.mk ab ds)else if∀d∈ds,a6 ab ds (ah.bd d) [] 0=E (ah.ty d)then 0 else 8
def WY(e:aw)(b:aF)(a7:(bm.mk e b).sz<=1048576)(x:(bm.mk e b).ok):jj aB 242 [.ag [ai.sl e,ah.sl b]] λs aQ=>∃i,aQ=.tp [.sl 1 (aq Nd.d i),I (gq e b)]/\(gq e b=0->hT e b (b.map ah.bd) [] 0 s b.length i):=by
 have Q:=O7 (.mk e b) a7 x;rw[bm.ds]at Q;have az:Cl (.ag [ai.sl e,ah.sl b]):=Cl.bu cu;have aY:cy aB 167=E (174,1,8):=Zk;refine jj.eo [1000045] [.tmp 2,.tmp 3] func242 A Zk ntmps242 A Zs λs=>?_;simp only[oe,go_sem];simp only[ai.sl,ah.sl]at Q az;refine bO Q ?_;refine aT (λj=>?_) λj=>?_
 .have k:gU (.mk e b)≠0:=by simpa using j
  have ay:gq e b=gU (.mk e b):=by rw[gq,aM k]
  simp only[go_sem];refine⟨.tp [.sl 1 (aq Nd.d []),I (gq e b)],Fz.k3 (.nil 1) (by rw[ay];exact .cl _ (aO _)),Cl.ir cu,[],A,λg=>absurd (ay▸g) k⟩
 have k:gU (.mk e b)=0:=by simpa using j
 obtain⟨U,a1⟩:=n9 k x;have bC:b.length<=8:=U.len;simp only[go_sem];refine bq 18 b.length (λh=>kq 48 s [] [(1,.cp [ai.sl e,ah.sl b]),(16,ah.sl b),(17,I b.length)] λL ar=>∃i,hT e b (b.map ah.bd) [] 0 s h i/\(∀t∈b.take h,a6 e b (ah.bd t) [] 0=E (ah.ty t))/\aH [45] ar 174 1 (aq Nd.d i) (L 5)) A
  ⟨A,A,A,by simp[af,ba,ai.sl,ah.sl],[],⟨A,iy _,by simp[fb],by simp[fb],λh _ aZ=>by simp at aZ⟩,Zs,.inl ⟨A,A⟩⟩ ?_
 rintro h L ar bD bj bi bB⟨rfl,rfl,i,ae,Z,y⟩;obtain⟨bK,K⟩:=Zx (L 5);rw[K]at y;simp only[go_sem];refine aT (λj=>?_) λj=>?_
 .have p:=bh j;have M:=ah.bo b h p;obtain⟨P,aD,a5⟩:=a1 _ (ax p);have R:=node U (ah.bd b[h]) [] 0 P Zs (oq _) Zo de aD;have X:∀r,O.w r->au 281 ([]++[.ag r.ds,.ag (ah.ty b[h]).ds]++[]) (B (decide (r=ah.ty b[h]))):=λr ab=>sameType r (ah.ty b[h]) ab.2;obtain⟨bw,⟨aR,aU,aS⟩,⟨C,J,F,⟨ak,an,am⟩,G,D⟩,u⟩:∃a aW aX,b[h]=.mk a aW aX:=by cases b[h];exact⟨_,_,_,A⟩
  simp only[u,ah.bd,ah.ty]at M P aD a5 R X;simp only[ah.ds,O.ds,Y.ds,bf,a8]at M R X;simp only[j,M,go_sem];refine qi [] R (.c (.cl _ az) (.c (.cl _ (Cl.bu (Y.cl (.mk C J F (.mk ak an am) G D)))) (.c (.nil 1) (.c (.cl _ (aO _)) .n)))) ?_;rintro N1 aQ⟨nd,ok,rfl,V⟩bA aJ;have a2:(b.map ah.bd)[h]'(by simpa using p)=.mk C J F (.mk ak an am) G D:=by simp[u,ah.bd]
  have a0:=ae.add (by simpa using p) (N1:=N1) (nd:=nd) (ok:=ok) (by rw[a2];exact V) λaN aC=>⟨(aJ aN aC).1,λap aL=>by
   have:=(aJ aN aC).2.1 45;rcases y with⟨k,_⟩|⟨bH,bx,aK,-,x⟩
   .simp[aq]at k;subst k;cases aL
   .simp only[bG]at aK;subst aK;simp only[aj,aP,aV]at this;exact this _ x _ (by rw[iq];exact aG.2 ⟨ap,aL,A⟩)⟩
  have aA:∀g:¬(a6 e b (.mk C J F (.mk ak an am) G D) [] 0=E (.mk aR aU aS)),gq e b=8:=λg=>by
   rw[gq,av (by simp[k]),av];intro z;have:=z _ (ax p);rw[u]at this;exact g this
  obtain⟨bk,bl,bn,bp,br,bs,bt,bv,a_,bc,bb,bL,bM,bN,bP,aE,a'⟩:=Nd.vw nd;cases ok with
  |false=>
   simp only[ly,go_sem];refine b7 ?_;have m:=aA λg=>by have:=V.2.1;simp only[cB]at this;rw[g]at this;cases this
   refine⟨.tp [.sl 1 (aq Nd.d []),I (gq e b)],Fz.k3 (.nil 1) (by rw[m];exact .cl _ (aO _)),Cl.ir cu,[],A,λg=>by rw[m]at g;cases g⟩
  |true=>
   have a3:=V.2.2 A;have q:=a3.ty;simp only[cB]at q;have ab:=qP U _ P Zs q;have W:=X _ ab;rw[a']at W q;simp only[O.ds]at W;simp only[ly,aE,go_sem];refine b7 ?_;refine d' W ?_;by_cases g:O.mk a_ bc bb=.mk aR aU aS
   .simp only[g,K,go_sem];refine GK.intro (mI (S:=[45]) (f:=Nd.d) (l:=i) (a:=nd) aY (by simp only[af,aI,aV,aP,bT,bU,reduceCtorEq];exact y.congr bJ) (by simp[af,cF,aj,aE]) (Nd.one nd) (by have:=ae.len;omega) Zd ?_);intro be bF bI a9 bz;simp only[go_sem];refine bg p ⟨A,A,A,by simp[af,ai.sl,ah.sl],i++[nd],a0.2.2 A,λt o=>?_,by simpa[af]using a9⟩;rw[ch p]at o;rcases cg.1 o with o|o
    .exact Z t o
    .simp only[bG]at o;subst o;rw[u];simp only[ah.bd,ah.ty];rw[q,g]
   .have m:=aA λz=>by rw[q]at z;exact g (sC z)
    simp only[g,go_sem];refine⟨.tp [.sl 1 (aq Nd.d []),I (gq e b)],Fz.k3 (.nil 1) (by rw[m];exact .cl _ (aO _)),Cl.ir cu,[],A,λg=>by rw[m]at g;cases g⟩
 .have a4:=bS j;subst a4;rw[b9]at Z;have m:gq e b=0:=by rw[gq,av (by simp[k]),aM Z]
  simp only[j,K,go_sem];refine⟨.tp [.sl 1 (aq Nd.d i),I (gq e b)],Fz.k3 (kE y λap _=>Nd.cl ap) (by rw[m];exact .cl _ (aO _)),Cl.ir cu,i,A,λ_=>ae⟩
def hT.all{b:aF}{f:dv}(hz:hT a4 b (b.map ah.bd) [] 0 h b.length f)(g:Nd->Bool)(k:Y->Prop)(p:∀(d:ah)(j:Nd),d∈b->fB a4 b (ah.bd d) j [] 0->j.ids.Nodup->(g j=ad↔k (ah.bd d))):(f.any λo=>!g o)=ad↔¬∀d∈b,k (ah.bd d):=by
 have u:=hz.len;have m:∀(a:Nat)(e:a<b.length)(h2:a<f.length),g f[a]=ad↔k (ah.bd b[a]):=λa e h2=>by
  refine p _ _ (ax e) ?_ ?_
  .have:=hz.nY a (by simpa using e) h2;simpa using this
  .exact Ht
 simp only[k9,oo];constructor
 .rintro⟨o,t,l⟩i;obtain⟨a,h2,rfl⟩:=dG t;rw[(m a Zo h2).2 (i _ (ax _))]at l;cases l
 .intro i;refine Classical.byContradiction λr=>i λd q=>?_;obtain⟨a,e,rfl⟩:=dG q;refine(m a e Zo).1 ?_;cases s:g (f[a]'Zo)with
  |true=>rfl
  |false=>exact absurd ⟨_,ax _,s⟩ r
def hT.mem{a:aF}(hz:hT a4 a (a.map ah.bd) [] 0 h a.length v2)(f:m7∈v2):∃e∈a,fB a4 a (ah.bd e) m7 [] 0/\m7.ids.Nodup:=by
 obtain⟨b,h2,rfl⟩:=dG f;have g:=hz.len;have d:b<a.length:=Zo;refine⟨a[b],ax d,?_,?_⟩
 .have:=hz.nY b (by simpa using d) h2;simpa using this
 .exact Ht
def l7.sh(b:l7 a4 a5){a:ah}(d:a∈a5):Sh a4 (ah.bd a):=(b.bd a d).1.sh b.pg (b.bd a d).2.1
def l7.num(b:l7 a4 a5){a:ah}(d:a∈a5)(e:fB a4 a5 (ah.bd a) m7 [] 0):m7.num<=640:=by
 have:=J' _ (b.sh d) e;have:=(b.bd a d).2.2;omega
def g_(ab:aw)(ds:aF):Int:=if gq ab ds≠0 then gq ab ds else if∀d∈ds,eS ab ds (ah.bd d) [] 0 then 0 else 9
def fS(ab:aw)(ds:aF):Int:=if g_ ab ds≠0 then g_ ab ds else if∀d∈ds,ee ab ds (ah.bd d) [] 0 then 0 else 10
def oM(b:gq a4 a5=0):gU (.mk a4 a5)=0:=by
 by_cases a:gU (.mk a4 a5)=0
 .exact a
 .rw[gq,aM a]at b;exact b
def qm(b:g_ a4 a5=0):gq a4 a5=0:=by
 by_cases a:gq a4 a5=0
 .exact a
 .rw[g_,aM a]at b;exact b
def sQ(b:fS a4 a5=0):g_ a4 a5=0:=by
 by_cases a:g_ a4 a5=0
 .exact a
 .rw[fS,aM a]at b;exact b
abbrev EX(ab:aw)(ds:aF)(c:Int)(N:Nat)(r:D):Prop:=∃a,r=.tp [.sl 1 (aq Nd.d a),I c]/\(c=0->hT ab ds (ds.map ah.bd) [] 0 N ds.length a)
def HV(m:l7 a4 a5):∀(a:Y),Sh a4 a->∀{j:Nd}{k:aX}{i:Int},fB a4 a5 a j k i->Nd.all (λe=>!decide (Y.kd e.t=11)||decide (1<=e.ks.length)) j=ad
 |.mk p v x a y h,g,_,k,i,.mk (kids:=kids) (bs:=bs) w r s u l=>by
  rw[Nd.all_eq,b3,b6];refine⟨?_,λe o=>?_⟩
  .simp only[Nd.t,Nd.ks,Y.kd];have:=g.len;by_cases f:p=11
   .subst f;simp[a1,cN]at this;exact Bool.or_eq_true_iff.2 (.inr (bD (show 1<=kids.length by omega)))
   .simp[f]
  .obtain⟨b,d,rfl⟩:=dG o;have d:b<kids.length:=d;exact HV m h[b] (g.cM _ (ax Zo)) (l b Zo d)
termination_by a=>a
decreasing_by
 have q:=cH (ax (show b<h.length by omega));simp;omega
def S4(b:aw)(a:aF)(L:(bm.mk b a).sz<=1048576)(y:(bm.mk b a).ok):jj aB 184 [.ag [ai.sl b,ah.sl a]] (EX b a (g_ b a)):=by
 have x:Cl (.ag [ai.sl b,ah.sl a]):=Cl.bu cu;have z:=WY b a L y;have J:l7 b a->∀(i:ah),i∈a->∀e:Nd,fB b a (ah.bd i) e [] 0->au 243 ([]++[e.d]++[]) (B (!Nd.all lP e)):=λq i p e r=>by
  simp only[a8,c_];refine Sp.s [] [.tmp 2] func243 ntmps243 ?_;refine bO (KO e (fY (q.num p r) Zd)) ?_;exact Fz.bool A
 simp only[ai.sl,ah.sl]at x z⊢;refine jj.eo [] [.tmp 2,.tmp 3] func184 A Zk ntmps184 A Zs λu=>?_;simp only[oe,go_sem];refine qi [] z (.c (.cl _ x) .n) ?_;rintro D W⟨j,rfl,f⟩Q K;simp only[ly,go_sem];have F:∀m,D<=m->u<=m:=λm G=>(K m G).1;refine mg (λl=>?_) λl=>?_
 .have g:gq b a=0:=by simpa using l
  have f:=f g;have O:hT b a (a.map ah.bd) [] 0 u a.length j:=⟨f.len,f.le,f.nodup,λC t=>F C (f.ge C t),f.nY⟩;have q:=n9 ((oM) g) y;have R:=f.len;have S:=q.pg.len;have w:=f.all (Nd.all lP) (λP=>eS b a P [] 0) λi V p t U=>K0 _ t;simp only[l,go_sem];refine hU (y6 j (λe=>!Nd.all lP e) _ [] [] iM Zs Zs λe M=>by
   obtain⟨i,p,r,-⟩:=f.mem M;exact J q i p e r) (.c (ed λe _=>Nd.cl e) (.c (Cl.qu Zs Zs) .n)) ?_
  simp only[go_sem];refine aT (λo=>?_) λo=>?_
  .have h:g_ b a=9:=by rw[g_,av (by simp[g]),av (w.1 o)]
   simp only[go_sem];exact⟨.tp [.sl 1 (aq Nd.d []),I (g_ b a)],Fz.k3 (.nil 1) (by rw[h];exact .cl _ (aO _)),Cl.ir cu,[],A,λk=>by rw[h]at k;cases k⟩
  .have h:g_ b a=0:=by
    rw[g_,av (by simp[g]),aM];refine Classical.byContradiction λk=>?_;rw[w.2 k]at o;cases o
   simp only[go_sem];exact⟨.tp [.sl 1 (aq Nd.d j),I (g_ b a)],Fz.k3 (.cl _ (ed λe _=>Nd.cl e)) (by rw[h,g];exact .cl _ (aO _)),Cl.ir cu,j,A,λ_=>O⟩
 .have g:gq b a≠0:=by simpa using l
  have h:g_ b a=gq b a:=by rw[g_,aM g]
  simp only[l,go_sem];exact⟨.tp [.sl 1 (aq Nd.d j),I (g_ b a)],Fz.k3 (.cl _ (ed λe _=>Nd.cl e)) (by rw[h];exact .cl _ (aO _)),Cl.ir cu,j,A,λk=>absurd (h▸k) g⟩
def O9(b:aw)(a:aF)(M:(bm.mk b a).sz<=1048576)(y:(bm.mk b a).ok):jj aB 127 [.ag [ai.sl b,ah.sl a]] (EX b a (fS b a)):=by
 have x:Cl (.ag [ai.sl b,ah.sl a]):=Cl.bu cu;have z:=S4 b a M y;have J:l7 b a->∀(k:ah),k∈a->∀e:Nd,fB b a (ah.bd k) e [] 0->au 186 ([]++[e.d]++[]) (B (!Nd.all oi e)):=λj k l e q=>by
  simp only[a8,c_];refine Sp.s [] [.tmp 2] func186 ntmps186 ?_;refine bO (Nc e (fY (j.num l q) Zd) (HV j _ (j.sh l) q)) ?_;exact Fz.bool A
 simp only[ai.sl,ah.sl]at x z⊢;refine jj.eo [] [.tmp 2,.tmp 3] func127 A Zk ntmps127 A Zs λu=>?_;simp only[oe,go_sem];refine qi [] z (.c (.cl _ x) .n) ?_;rintro D W⟨m,rfl,f⟩R L;simp only[ly,go_sem];have F:∀p,D<=p->u<=p:=λp G=>(L p G).1;refine mg (λo=>?_) λo=>?_
 .have g:g_ b a=0:=by simpa using o
  have f:=f g;have P:hT b a (a.map ah.bd) [] 0 u a.length m:=⟨f.len,f.le,f.nodup,λC t=>F C (f.ge C t),f.nY⟩;have j:=n9 ((λh=>oM (qm h)) g) y;have S:=f.len;have U:=j.pg.len;have w:=f.all (Nd.all oi) (λQ=>ee b a Q [] 0) λk V l t K=>M4 _ (j.sh l) t ⟨K,by simp[ids],by simp[ids]⟩;simp only[o,go_sem];refine hU (y6 m (λe=>!Nd.all oi e) _ [] [] iM Zs Zs λe O=>by
   obtain⟨k,l,q,-⟩:=f.mem O;exact J j k l e q) (.c (ed λe _=>Nd.cl e) (.c (Cl.qu Zs Zs) .n)) ?_
  simp only[go_sem];refine aT (λr=>?_) λr=>?_
  .have i:fS b a=10:=by rw[fS,av (by simp[g]),av (w.1 r)]
   simp only[go_sem];exact⟨.tp [.sl 1 (aq Nd.d []),I (fS b a)],Fz.k3 (.nil 1) (by rw[i];exact .cl _ (aO _)),Cl.ir cu,[],A,λh=>by rw[i]at h;cases h⟩
  .have i:fS b a=0:=by
    rw[fS,av (by simp[g]),aM];refine Classical.byContradiction λh=>?_;rw[w.2 h]at r;cases r
   simp only[go_sem];exact⟨.tp [.sl 1 (aq Nd.d m),I (fS b a)],Fz.k3 (.cl _ (ed λe _=>Nd.cl e)) (by rw[i,g];exact .cl _ (aO _)),Cl.ir cu,m,A,λ_=>P⟩
 .have g:g_ b a≠0:=by simpa using o
  have i:fS b a=g_ b a:=by rw[fS,aM g]
  simp only[o,go_sem];exact⟨.tp [.sl 1 (aq Nd.d m),I (fS b a)],Fz.k3 (.cl _ (ed λe _=>Nd.cl e)) (by rw[i];exact .cl _ (aO _)),Cl.ir cu,m,A,λh=>absurd (i▸h) g⟩
def mV(b d:Env)(a:BA):look (b++d) a=(look d a).or (look b a):=by
 unfold look;rw[we,List.find?_append]
def mw(a:dg∉g6.map Ev.n):look g6 dg=aa:=by
 unfold look;exact Zg
def jN{a:Ev}(b:look g6 dg=E a):a∈g6/\a.n=dg:=
 ⟨by have:=uh b;simpa using this,by have:=List.find?_some b;simpa using this⟩
def pU(d:dg∈g6.map Ev.n):∃a,look g6 dg=E a:=by
 cases b:look g6 dg with
 |none=>
  unfold look at b;exact Zg
 |some a=>exact⟨a,A⟩
def CU:∀{t:Y}{b:aK}{d:BA},fv t b d->d∉b
 |.mk i v j t k g,b,d,a=>by
  rw[fv,oT]at a;rcases a with⟨_,rfl,a⟩|⟨f,e,a⟩
  .exact a
  .exact λh=>CU (t:=g[f]) a (eE _ h)
termination_by t=>t
decreasing_by
 have:=cH (ax e);simp;omega
def K3{b d:g1->Option m4}:∀{a:List g1},(∀c∈a,b c=d c)->a.mapM b=a.mapM d
 |[],_=>rfl
 |c::a,e=>by rw[k_,k_,e c Zs,K3 λf g=>e f (by simp[g])]
def s5:∀(e:Y)(g h:aK)(b:BA),b∉h->(fv e (h++g) b↔fv e g b)
 |.mk j v k e l i,g,h,b,f=>by
  rw[fv,fv,oT,oT];refine or_congr (and_congr_right λ_=>⟨λa=>⟨a.1,λq=>a.2 (eN _ q)⟩,λa=>⟨a.1,λq=>?_⟩⟩) ⟨λ⟨d,a,q⟩=>⟨d,a,?_⟩,λ⟨d,a,q⟩=>⟨d,a,?_⟩⟩
  .rcases cg.1 q with q|q
   .exact f q
   .exact a.2 q
  .rw[dM]at q;exact(s5 i[d] _ _ b f).1 q
  .rw[dM];exact(s5 i[d] _ _ b f).2 q
termination_by e=>e
decreasing_by
 all_goals
  have:=cH (ax a);simp;omega
def nP{k v:Int}{n:BA}{t:O}{ns:aK}{i:Nat}(b:i<hw.length){a:BA}(e:a∉bN k n ns i)(d:fv hw[i] [] a):fv (.mk k v n t ns hw) [] a:=by
 rw[fv,oT];refine .inr ⟨i,b,?_⟩;rw[ek,a8];have:=(s5 hw[i] [] (bN k n ns i) a e).2 d;rwa[c_]at this
def Qm{v:Int}{b:BA}{a:BA}(g:fv (.mk a0 v b go he hw) [] a):(a0=1/\b=a)\/∃(d:Nat)(f:d<hw.length),a∉bN a0 b he d/\fv hw[d] [] a:=by
 rw[fv,oT]at g;rcases g with⟨j,k,-⟩|⟨e,f,i⟩
 .exact .inl ⟨j,k⟩
 .rw[ek,a8]at i;have h:=CU i;refine .inr ⟨e,f,h,(s5 hw[e] [] (bN a0 b he e) a h).1 Zg⟩
abbrev eT(e:Env)(x:BA):Option O:=(look e x).map Ev.t
def WE{b f d:Env}{a:BA}(h:b.map Ev.n=d.map Ev.n)(i:a∈b.map Ev.n->eT b a=eT d a)(g:a∉b.map Ev.n->eT g6 a=eT f a):eT (g6++b) a=eT (f++d) a:=by
 unfold eT at*;rw[mV,mV];by_cases e:a∈b.map Ev.n
 .obtain⟨k,j⟩:=pU e;exact Zg
 .rw[mw e,mw (show a∉d.map Ev.n by rw[<-h];exact e),lZ,lZ];exact g e
def wZ(a:aw)(b:BA)(d:aK)(e f:Int)(g:BA):(cL a b d e).map Ev.n=(cL a b d f).map Ev.n/\eT (cL a b d e) g=eT (cL a b d f) g:=by
 refine⟨by simp[cL,Function.comp_def],?_⟩;unfold eT look cL;rw[<-q_,<-q_,List.find?_map,List.find?_map,Option.map_map,Option.map_map];rfl
def AX{g:aw}{m:aF}:∀(l:Y)(p q:Env)(a d:Int),Sh g l->(∀e,fv l [] e->eT p e=eT q e)->a6 g m l p a=a6 g m l q d
 |.mk z v f l i j,p,q,a,d,o,D=>by
  have y:∀(b:Nat)(h:b<j.length)(u w:Env)(a d:Int),u.map Ev.n=bN z f i b->w.map Ev.n=bN z f i b->(∀e,eT u e=eT w e)->a6 g m j[b] (p++u) a=a6 g m j[b] (q++w) d:=λb h u w a d F K L=>
   AX j[b] _ _ _ _ (o.cM _ (ax h)) λe P=>WE (F.trans K.symm) (λ_=>L e) λC=>D e (nP h (by rwa[<-F]) P)
  have t:∀(b:Nat)(h:b<j.length)(a d:Int),bN z f i b=[]->a6 g m j[b] p a=a6 g m j[b] q d:=λb h a d s=>by
   have:=y b h [] [] a d (by rw[s];rfl) (by rw[s];rfl) λ_=>A;rwa[c_,c_]at this
  have x:=o.len;rcases mT z with rfl|rfl|rfl|rfl|rfl|rfl|rfl|rfl|rfl|rfl|rfl|⟨Q,U,V,W,X,Z,ab,ae,ah,R,S⟩
  case inl=>
   have:=D f (by rw[fv];exact .inl ⟨A,A,Zs⟩);unfold eT at this;simp[a6,iu,this]
  case inr.inl=>simp[a6,iu]
  case inr.inr.inr.inl=>
   obtain⟨k,rfl⟩:=o.one (.inl A);have:=y 0 Zs [⟨f,l,a⟩] [⟨f,l,d⟩] a d (by simp[bN]) (by simp[bN]) λe=>by unfold eT look;by_cases C:f=e<;>simp[C]
   simp only[fO]at this;simp[a6,iu,kj,this]
  case inr.inr.inr.inr.inr.inl=>
   obtain⟨k,rfl⟩:=o.one (.inr (.inl A));have:=t 0 Zs (a+1) (d+1) (by simp[bN]);simp only[fO]at this;simp[a6,iu,kj,this]
  case inr.inr.inr.inr.inr.inr.inl=>
   simp[a1,cN]at x;obtain⟨k,J,rfl⟩:=sj (show j.length=2 by omega);rw[oh,oh];have r:=t 0 Zs a d (by simp[bN]);simp only[fO]at r;rw[r];refine dO _ (funext λI=>dO _ (funext λe=>?_));have:=y 1 Zs [⟨f,e.1,a+e.2⟩] [⟨f,e.1,d+e.2⟩] a d (by simp[bN]) (by simp[bN]) λai=>by unfold eT look;by_cases C:f=ai<;>simp[C]
   exact this
  case inr.inr.inr.inr.inr.inr.inr.inr.inl=>
   simp[a1,cN]at x;obtain⟨k,B,rfl⟩:∃k B,j=k::B:=by cases j with
    |nil=>simp at x
    |cons k B=>exact⟨k,B,A⟩
   have s:∀b,bN 9 f i b=[]:=λb=>by simp[bN]
   rw[si,si];have r:=t 0 Zs a d (s 0);simp only[fO]at r;rw[r];refine dO _ (funext λI=>?_);split
   .refine dO _ (gX λJ O=>?_);obtain⟨b,h,rfl⟩:=dG O;exact t (b+1) (by simpa using h) a d (s _)
   .rfl
  case inr.inr.inr.inr.inr.inr.inr.inr.inr.inl=>
   obtain⟨k,rfl⟩:=o.one (.inr (.inr A));have am:=o.vr A;rw[vN,vN];have G:∀a,(cL g f i a).map Ev.n=i:=λa=>by
    have:(cL g f i a).map Ev.n=(i.zip (jd g f)).map Prod.fst:=by simp[cL,Function.comp_def]
    rw[this,List.map_fst_zip Zo]
   exact y 0 Zs (cL g f i a) (cL g f i d) a d (by rw[G];simp[bN]) (by rw[G];simp[bN]) λe=>(wZ g f i a d e).2
  case inr.inr.inr.inr.inr.inr.inr.inr.inr.inr.inr=>simp[a1,cN,Q,U,V,W,X,Z,ab,ae,ah,R,S]at x;omega
  all_goals
   rw[p0 Zs,p0 Zs];refine dO (λak=>Option.bind ak _) (K3 λk M=>?_);obtain⟨b,h,rfl⟩:=dG M;exact t b h a d (by simp[bN])
termination_by l=>l
decreasing_by
 have:=cH (ax h);simp;omega
def KZ:∀(a:Y){z:Nd}{h:aX}{g:Int},Sh a4 a->fB a4 a5 a z h g->eS a4 a5 a (h.map Bi.e) g->∀i,fv a [] i->∀b,cE h i=E b->g<=b.e.l
 |.mk x v F a G y,_,h,g,o,.mk (kids:=kids) (bs:=bs) (b:=B) u C p D s,j,i,w,b,q=>by
  rw[tv]at j;rcases Qm w with⟨rfl,rfl⟩|⟨f,d,t,r⟩
  .have:=j.2.1 A b.e (by rw[tt,q];rfl);omega
  .have k:=j.2.2 f d;rw[<-zS p]at k;have m:=KZ y[f] (o.cM _ (ax d)) (s f d Zo) k i r b (by
    rw[vD,n0,rY (b:=if cV x f then bs else[]) (by rw[zU o (by rw[u];rfl) p];exact t),lZ,q])
   unfold bL at m;split at m<;>omega
termination_by a=>a
decreasing_by
 have:=cH (ax d);simp;omega
end
end
end Go.Fw
