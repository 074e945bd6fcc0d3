/- A part of the proof about KeyOf. No condition. -/
import Derived.Test.YtiiahfjnecgpgaaGreatDoorM01
import Derived.Test.YtiiahfjnecgpgaaGreatDoorM04
import Derived.Test.YtiiahfjnecgpgaaGreatDoorM07
set_option maxRecDepth 100000
set_option maxHeartbeats 8000000
set_option linter.unusedSimpArgs false
set_option linter.unusedVariables false
set_option linter.defProp false
open Go.Proofs.Tryz
open Option renaming some->E,none->aa
open Bool renaming true->ad,false->al
open Nat renaming reduceEqDiff->aP
open Go.Proofs.Tryz renaming prog->aB
open Go renaming maxLen->ao,Program->ay,TypeId->aQ,Value->aE
open Go.IntWalk renaming i64_in->cW
namespace Go.Fw
noncomputable section
attribute [local irreducible] St.put
section
open Classical
mutual
def ii:Y->List ByteArray->List ByteArray
 |.mk k _ n _ ns ks,sc=>(if k=1/\n∉sc then[n]else[])++rK k n ns ks 0 sc
def rK(k:Int)(n:ByteArray)(ns:List ByteArray):List Y->Nat->List ByteArray->List ByteArray
 |[],_,_=>[]
 |c::cs,i,sc=>ii c (sc++bN k n ns i)++rK k n ns cs (i+1) sc
end
def iF(a:aK)(x:BA):aK:=if x∈a then a else a++[x]
mutual
def w8:∀(t:Y)(sc out:List ByteArray),eA t sc out=(ii t sc).foldl iF out
 |.mk k v n ty ns ks,sc,out=>by
  rw[eA,ii,kn,Jn k n ns ks];congr 1;by_cases h:k=1/\n∉sc
  .rw[aM h];have:jk sc n=al:=by rw[Bool.eq_false_iff];exact λq=>h.2 (s8.1 q)
   simp only[h.1,ox,this,Bool.not_false,hN,iZ,List.foldl_nil,iF];by_cases q:n∈out
   .simp[s8.2 q,q]
   .have:jk out n=al:=by rw[Bool.eq_false_iff];exact λz=>q (s8.1 z)
    simp[this,q]
  .rw[av h,av]
   .rfl
   .intro q;simp only[b3,cO,oo]at q;exact h ⟨q.1.1,λz=>by rw[s8.2 z]at q;simp at q⟩
def Jn(k:Int)(n:ByteArray)(ns:List ByteArray):∀(l:List Y)(i:Nat)(sc out:List ByteArray),fw k n ns l i sc out=(rK k n ns l i sc).foldl iF out
 |[],_,_,_=>by rw[fw,rK];rfl
 |c::cs,i,sc,out=>by rw[fw,rK,kn,w8 c,Jn k n ns cs]
end
def zo(d:Int)(e:BA)(f:aK):∀(h:a_)(a:Nat)(g:aK),rK d e f h a g=(h.mapIdx λb c=>ii c (g++bN d e f (a+b))).flatten
 |[],_,_=>by rw[rK];rfl
 |c::i,a,g=>by
  rw[rK,zo d e f i,List.mapIdx_cons,dN];congr 3;funext b c;rw[re,rh 1 b]
variable {g1:Type}
def Qb(b:g1->Bool)(a:List (List g1)):a.flatten.filter b=(a.map (List.filter b)).flatten:=by exact Zg
variable {a4:aw}{a5:aF}
def Ls:∀(g:Y){m:Nd}{a f:aX}{x:Int},Sh a4 g->fB a4 a5 g m (a++f) x->Ap m (a++f)->
 m.mZ.filter (λb=>decide (b.id∈ids a))=(ii g (f.map λb=>b.e.n)).filterMap (cE a)
 |.mk u v y g P w,_,a,f,x,r,.mk (kids:=kids) (bs:=bs) (b:=z) G j C F D,q=>by
  rw[Nd.As,ii,List.filter_append,List.filterMap_append];show z.toList.filter _++((kids.map Nd.mZ).flatten).filter _=_;congr 1
  .rw[j];have M:∀b∈f,b.id∉ids a:=λb j h=>by
    have:=q.s;rw[ids,bC,gR]at this;exact this.2.2 _ h _ (aG.2 ⟨b,j,A⟩) A
   by_cases i:u=1
   .rw[aM i,n0];by_cases h:y∈f.map λb=>b.e.n
    .obtain⟨Q,O,J,K⟩:=vg h;exact Zg
    .rw[rY h,aM ⟨i,h⟩,lZ];cases l:cE a y with
     |none=>simp[l]
     |some b=>
      have:=(mv l).1;have:b.id∈ids a:=aG.2 ⟨b,this,A⟩;simp[l,this]
   .rw[av i,av (λI=>i I.1)];rfl
  .rw[zo,Qb,List.filterMap_flatten,dZ];congr 1;refine p7 (by simp[F]) λd B L=>?_;have t:d<kids.length:=by simpa using B
   have k:d<w.length:=Zo;simp only[eI,ug,vY,ek];have o:=D d k t;rw[vD,dM]at o;have p:=q.cM (if cV u d then bs else[]) (by split<;>simp) kids[d] (ax t);rw[dM]at p;have:=Ls w[d] (r.cM _ (ax k)) o p;rw[this,bC,zU r (by rw[G];rfl) C]
termination_by g=>g
decreasing_by
 have:=cH (ax k);simp;omega
def J3(b:Bi->Bool)(o:∀a i:Bi,a.id=i.id->b a=b i):∀(g e d:aX),((g.foldl d_ d).filter b).foldl d_ e=(g.filter b).foldl d_ ((d.filter b).foldl d_ e)
 |[],e,d=>rfl
 |a::g,e,d=>by
  rw[iZ,J3 b o g,List.filter_cons];unfold d_;by_cases h:d.any (λf=>f.id==a.id)=ad
  .rw[aM h];split
   .rename_i s;rw[iZ];have:(((d.filter b).foldl d_ e).any λf=>f.id==a.id)=ad:=by
     simp only[k9,l6]at h⊢;obtain⟨f,q,j⟩:=h;have l:a.id∈ids ((d.filter b).foldl d_ e):=J4 (.inr (aG.2 ⟨f,ko.2 ⟨q,by exact Zg⟩,j⟩));obtain⟨r,p,k⟩:=aG.1 l;exact⟨r,p,k⟩
    have m:d_ ((d.filter b).foldl d_ e) a=(d.filter b).foldl d_ e:=aM this;exact(dO (λf=>(g.filter b).foldl d_ f) m).symm
   .rfl
  .exact Zg
def Dp{b:aX}(f:(ids b).Nodup):∀(d a:aK),(∀x∈a,(cE b x).isSome=ad)->(d.filterMap (cE b)).foldl d_ (a.filterMap (cE b))=((d.filter λx=>(cE b x).isSome).foldl iF a).filterMap (cE b)
 |[],a,_=>rfl
 |x::d,a,h=>by
  rw[List.filterMap_cons,List.filter_cons];cases g:cE b x with
  |none=>simp only[Option.isSome_none,uf,aV];exact Dp f d a h
  |some j=>
   simp only[lY,aI,iZ];have l:d_ (a.filterMap (cE b)) j=(iF a x).filterMap (cE b):=by
    unfold d_ iF;by_cases r:x∈a
    .exact Zg
    .rw[av r,av]
     .simp[g]
     .simp only[k9,l6,not_exists,not_and];intro u o k;obtain⟨i,e,m⟩:=List.mem_filterMap.1 o;obtain⟨p,s⟩:=mv g;obtain⟨q,t⟩:=mv m;have:=xq f q p k;exact Zg
   rw[l];refine Dp f d _ λi e=>?_;unfold iF at e;split at e
   .exact h i e
   .exact Zg
def J2(d:ByteArray->Bool):∀(a b:aK),(a.foldl iF b).filter d=(a.filter d).foldl iF (b.filter d)
 |[],b=>rfl
 |x::a,b=>by
  rw[iZ,J2 d a,List.filter_cons];unfold iF;exact Zg
def Nd.bE(x:Nd):List (Nd×aX):=(x.ks.drop 1).map λc=>if Y.kd x.t=9 then(c.ks.headD c,c.bs)else(c,[])
def Nd.cap(x:Nd):aX:=(x.bE.map λp=>(p.1.eG []).filter λb=>!((p.2++p.1.cD).any λa=>a.id==b.id)).flatten.foldl d_ []
def bz(ks:a_)(e:Env):aK:=((ks.drop 1).foldl (λo c=>eA c [] o) []).filter λx=>(look e x).isSome
def w6:∀(b:Y)(h:aK)(d:BA),d∈ii b h↔fv b h d
 |.mk k v n b m g,h,d=>by
  rw[ii,fv,oT,cg,zo,ft];refine or_congr ?_ ⟨?_,?_⟩
  .exact Zg
  .rintro⟨l,j,e⟩;obtain⟨a,f,rfl⟩:=dG j;have i:a<g.length:=by simpa using f
   rw[ug]at e;exact⟨a,i,(w6 g[a] _ d).1 e⟩
  .rintro⟨a,f,e⟩;refine⟨_,ax (n:=a) (by simpa using f),?_⟩;rw[ug];exact(w6 g[a] _ d).2 e
termination_by b=>b
decreasing_by
 all_goals
  have:=cH (ax Zg);simp;omega
variable {a0:Int}
def xx(a:a0=9\/a0=11)(d:BA)(e:aK)(b:Nat):bN a0 d e b=[]:=by rcases a with rfl|rfl<;>simp[bN]
variable {go lw:O}{he:aK}{z2:Option Bi}
def Jo{l:aw}{b v:Int}{s:BA}{d:a_}{id:Nat}{g:Int}{f:dv}{bs u:aX}(B:b=9\/b=11)(M:Sh l (.mk b v s go he d))(P:b=9->∀(a:Nat)(p:a<d.length),0<a->Y.kd d[a]=10)
 (p:fB l a5 (.mk b v s go he d) (.mk id (.mk b v s go he d) lw g f bs z2) u g) (L:Ap (.mk id (.mk b v s go he d) lw g f bs z2) u) (a:Nat) (z:a<d.length) (I:a<f.length) (K:0<a):
 ∃(j:Y)(w:Nd)(h:aX),(w,h)=(if b=9 then(f[a].ks.headD f[a],f[a].bs)else(f[a],[]))/\fB l a5 j w (u++h) g/\Ap w (u++h)/\Sh l j/\ii d[a] []=ii j (h.map λi=>i.e.n)/\
  (if b=9 then∃D t C k,d[a]=.mk 10 D t C k [j]/\h.map Bi.e=cL l t k g/\h.map (λi=>i.e.n)=k else j=d[a]/\h=[]):=by
 cases p with|mk an ae ai am R=>
 have q:=R a z I;have Q:cV b a=al:=by rcases B with rfl|rfl<;>simp[cV]
 have W:bL b g=g:=by rcases B with rfl|rfl<;>simp[bL]
 rw[Q,av Zs,W]at q;have y:=L.cM [] (.inr A) f[a] (ax I);rw[c_]at y;have r:=M.cM _ (ax z);rcases B with rfl|rfl
 .have x:=P A a z K;generalize ak:d[a]=Z at q r x;generalize f[a]=w at q y;obtain⟨aq,D,t,C,k,au⟩:=Z;simp only[Y.kd]at x;subst x;obtain⟨j,rfl⟩:=r.one (.inr (.inr A));cases q with|@mk _ _ _ _ _ _ ap ay _ ar o ab _ X ah G V S=>
  obtain⟨J,rfl⟩:=hP.1 V;have F:=S 0 Zs Zs;have U:bL 10 g=g:=by simp[bL]
  simp only[cV,ox,Int.reduceEq,false_or,true_or,aI,fO,U]at F;have m:=zf r (by rw[X];rfl);rw[<-G,dZ]at m;have m:o.map (λi=>i.e.n)=k:=by
   have p:o.map (λi=>i.e.n)=_:=m;simpa using p
  refine⟨j,J,o,by simp[Nd.ks,Nd.bs],F,y.cM o (.inl A) J Zs,r.cM _ Zs,?_,?_⟩
  .rw[ii,zo];simp[bN,m]
  .rw[aM A];exact⟨D,t,C,k,A,by rw[G];simp[er],m⟩
 .exact Zg
variable {m4:Type}
def foldl_flatMap{Z:Type}(d:Z->m4->Z)(e:g1->List m4):∀(b:List g1)(a:Z),b.foldl (λa x=>(e x).foldl d a) a=(b.map e).flatten.foldl d a
 |[],a=>rfl
 |x::b,a=>by rw[iZ,foldl_flatMap d e b,bp,dN,kn]
def yV{j v:Int}{w:BA}{y:O}{x:aK}{f:a_}{id:Nat}{M:O}{G:Int}{l:dv}{bs m:aX}{z:Env}(ab:j=9\/j=11)(ap:Sh a4 (.mk j v w y x f))(aq:j=9->∀(e:Nat)(P:e<f.length),0<e->Y.kd f[e]=10)
 (P:fB a4 a5 (.mk j v w y x f) (.mk id (.mk j v w y x f) M G l bs z2) m G) (V:Ap (.mk id (.mk j v w y x f) M G l bs z2) m) (W:∀g,fv (.mk j v w y x f) [] g->((look z g).isSome=(cE m g).isSome)):
 (Nd.mk id (.mk j v w y x f) M G l bs z2).cap=(bz f z).filterMap (cE m)/\∀g∈bz f z,(cE m g).isSome=ad:=by
 have ay:l.length=f.length:=by cases P;assumption
 have ae:∀g∈((f.drop 1).map λa=>ii a []).flatten,fv (.mk j v w y x f) [] g:=λg u=>by
  obtain⟨ah,az,u⟩:=ft.1 u;obtain⟨a,au,rfl⟩:=aG.1 az;obtain⟨e,J,rfl⟩:=dG (ra au);exact nP J (by rw[xx ab];simp) ((w6 _ _ _).1 u)
 have ar:bz f z=((((f.drop 1).map λa=>ii a []).flatten).filter λg=>(cE m g).isSome).foldl iF []:=by
  unfold bz;have:(λ(b:aK)(a:Y)=>eA a [] b)=λb a=>(ii a []).foldl iF b:=by funext b a;exact w8 a [] b
  rw[this,foldl_flatMap iF (λa=>ii a []),J2,List.filter_nil];congr 1;exact List.filter_congr λg u=>W g (ae g u)
 constructor
 .have X:∀h:List (aX),h.flatten.foldl d_ []=h.foldl (λb ah=>ah.foldl d_ b) []:=λh=>CP d_ h [];unfold Nd.cap;rw[ar];have I:=Dp V.s (((f.drop 1).map λa=>ii a []).flatten) [] Zs;rw[List.filterMap_nil]at I;rw[<-I,List.filterMap_flatten,X,X];have av:(Nd.mk id (.mk j v w y x f) M G l bs z2).bE=(l.drop 1).map λa=>if j=9 then(a.ks.headD a,a.bs)else(a,[]):=A
  rw[av,dZ,List.foldl_map,dZ,List.foldl_map];have step:∀(e:Nat)(J:e<f.length)(Z:e<l.length),0<e->∀b:aX,((λi:Nd×aX=>(i.1.eG []).filter λk=>!((i.2++i.1.cD).any λo=>o.id==k.id)) (if j=9 then(l[e].ks.headD l[e],l[e].bs)else(l[e],[]))).foldl d_ b=((ii f[e] []).filterMap (cE m)).foldl d_ b:=λe J Z I b=>by
   obtain⟨a,o,R,ai,p,r,ak,am,-⟩:=Jo ab ap aq P V e J Z I;rw[<-ai];simp only;rw[Nd.xJ,J3 (λk=>!((R++o.cD).any λC=>C.id==k.id)) (λS i q=>by simp only[q]),List.filter_nil,List.foldl_nil];have an:o.mZ.filter (λk=>!((R++o.cD).any λC=>C.id==k.id))=o.mZ.filter (λi=>decide (i.id∈ids m)):=List.filter_congr λk aA=>by
    have t:=Au a p k aA;by_cases q:k.id∈ids m
    .simp only[q,ox,oo,qY,l6];intro C hw z;rcases cg.1 hw with hw|hw
     .have:=r.s;rw[ids,bC,gR]at this;exact this.2.2 _ q _ (aG.2 ⟨C,hw,A⟩) z.symm
     .refine r.d _ (o.Dl C hw) ?_;rw[z,ids,bC];exact eE _ q
    .simp only[q,ri,Bool.not_eq_false',k9,l6];rcases t with t|t
     .rcases cg.1 t with t|t
      .exact absurd (aG.2 ⟨k,t,A⟩) q
      .exact⟨k,eE _ t,A⟩
     .exact⟨k,eN _ t,A⟩
   rw[an,Ls a ak p r,am]
  have gen:∀(h:dv)(B:a_)(F:h.length=B.length)(K:∀(e:Nat)(p:e<h.length)(r:e<B.length)(b:aX),((λi:Nd×aX=>(i.1.eG []).filter λk=>!((i.2++i.1.cD).any λo=>o.id==k.id)) (if j=9 then(h[e].ks.headD h[e],h[e].bs)else(h[e],[]))).foldl d_ b=((ii B[e] []).filterMap (cE m)).foldl d_ b)(b:aX),
   h.foldl (λb a=>((λi:Nd×aX=>(i.1.eG []).filter λk=>!((i.2++i.1.cD).any λo=>o.id==k.id)) (if j=9 then(a.ks.headD a,a.bs)else(a,[]))).foldl d_ b) b=B.foldl (λb a=>((ii a []).filterMap (cE m)).foldl d_ b) b:=by
   intro h
   induction h with
   |nil=>intro B F K b;cases B with
    |nil=>rfl
    |cons=>simp at F
   |cons S h Q=>
    intro B F K b;cases B with
    |nil=>simp at F
    |cons i B=>
     rw[iZ,iZ];have U:=K 0 Zs Zs b;simp only[fO]at U;rw[U];exact Q B (by simpa using F) (λe p r b=>K (e+1) (by simpa using p) (by simpa using r) b) _
  exact gen (l.drop 1) (f.drop 1) (by simp[ay]) (λe p r b=>by
   rw[p8,p8];exact step (1+e) _ _ Zo b) []
 .intro g u;unfold bz at u;obtain⟨p,r⟩:=ko.1 u;have:(λ(b:aK)(a:Y)=>eA a [] b)=λb a=>(ii a []).foldl iF b:=by funext b a;exact w8 a [] b
  rw[this,foldl_flatMap iF (λa=>ii a [])]at p;have ax:∀(D L:aK),g∈D.foldl iF L->g∈L\/g∈D:=λD=>by
   induction D with
   |nil=>exact λL q=>.inl q
   |cons S D Q=>
    intro L q;rcases Q _ q with q|q
    .unfold iF at q;split at q
     .exact .inl q
     .rcases cg.1 q with q|q
      .exact .inl q
      .simp at q;subst q;exact .inr Zs
    .exact .inr (by simp[q])
  rcases ax _ _ p with q|q
  .cases q
  .rw[<-W g (ae g q)];exact r
variable {g3:ay}{g4:aD}{h V a2 a9:Nat}{bv g8:aQ}{gc:aU}
def HY{b:St}{S:aD}{f:g1->D}{l:List g1}{a:g1}(m:cy g3 bv=E (g8,1,a9))(r:aH S b.H g8 1 (aq f l) (b.env V))(s:cF b g8 1 (b.env a2)=E (1,[f a]))(o:b4 (f a)=ad)
 (k:(l.length+1)*a9<=140737488355328) (p:1<=a9) (q:h<b.nt) (j:∀H n e,aH [h] H g8 1 (aq f (l++[a])) e->(∀d,d≠h->d∉S->H d=b.H d)->gc ({b with H:=H,n:=n}.put (E h) e)):yA g3 g4 bv V a2 h gc b:=
 HZ (bx:=aq f [a]) m r (e_ l) (by simpa[aq]using s) (by simp[aq]) (by simp[aq,o]) (by simpa[aq]using k)
  (by have:=Nat.le_mul_of_pos_right (l.length+1) p;simp[aq];unfold ao;omega) q λH n e g i=>j H n e (by rw[o_];exact g) i
def uu(x:Nd):Prop:=(Y.kd x.t=11/\x.ks.length=3)\/(Y.kd x.t=9/\1<=x.ks.length/\∀c∈x.ks.drop 1,∃y,c.ks=[y])
abbrev cT(p:aX):D:=.sl 1 (aq Bi.d p)
def oH(a:aX):Cl (cT a):=ed λb _=>Bi.cl b
def Nd.LF(a:Nd):∃b e i j k l m o p q f g h,a.d=.pa a.id [b,e,i,j,k,l,m,o,p,q,f,g,.sl 1 (aq Nd.d a.ks),.sl 1 (aq Bi.d a.bs),h]:=by
 obtain⟨s,⟨t,v,x,⟨z,C,B⟩,y,D⟩,⟨F,I,G⟩,w,u,bs,r⟩:=a;simp only[Nd.d,Y.ds,O.ds,bf,a8,Nd.gJ,Nd.id,Nd.ks,Nd.bs];exact⟨_,_,_,_,_,_,_,_,_,_,_,_,_,A⟩
def Jm(p:Nd)(D:uu p)(R:p.ks.length<=1048576):au 189 [p.d] (.tp [.sl 1 (aq Nd.d (p.bE.map Prod.fst)),.sl 1 (aq cT (p.bE.map Prod.snd))]):=by
 obtain⟨i,⟨x,v,W,⟨aK,aM,aL⟩,aJ,aN⟩,⟨aO,aR,aQ⟩,l,g,bs,ab⟩:=p;have D:(x=11/\g.length=3)\/(x=9/\1<=g.length/\∀b∈g.drop 1,∃h,b.ks=[h]):=D;have R:g.length<=1048576:=R;have aw:(Nd.mk i (.mk x v W (.mk aK aM aL) aJ aN) (.mk aO aR aQ) l g bs ab).bE=(g.drop 1).map λb=>if x=9 then(b.ks.headD b,b.bs)else(b,[]):=A
 have jL:cy aB 167=E (174,1,8):=Zk;have G:cy aB 170=E (216,1,24):=Zk;rw[aw,dZ,dZ];have f1:1<=g.length->((1:Int)<=(g.length:Int))=True:=λo=>bP Zo;have J:((0:Int)<=1)=True:=Zs;have Y:Int.toNat 1=1:=A;have U:(aq Nd.d g).take g.length=aq Nd.d g:=cU (by rw[dC];omega);refine Sp.e [] [.tmp 2,.tmp 3] func189 ntmps189 ?_;simp only[Nd.d,Nd.gJ,go_sem];rcases D with⟨rfl,am⟩|⟨rfl,ak,az⟩
 .simp only[go_sem];refine Cu [0,1,2,3,4,6,5,7] [] [] mixed Zk ?_;have C:=f1 Zo;have aG:pf aB 216=[a']:=Zk;have av:(g.drop 1).map (Prod.fst∘λb:Nd=>if(11:Int)=9 then(b.ks.headD b,b.bs)else(b,[]))=g.drop 1:=by simp[Function.comp_def]
  simp only[C,J,Y,U,aG,G,av,vC,go_sem];refine⟨Zd,Fz.k3 (.cl _ (ed λh _=>Nd.cl h)) ?_⟩
  .obtain⟨a,a_,b,rfl⟩:=KN am;refine Fz.ms 17 ⟨0,216,1,[a',a'],aa⟩ [[.sl 1 []],[.sl 1 []]] (λ_ _=>.sc (.slice aa 0 0)) bJ A Zd (λi X m=>by rcases i with _|_|i<;>simp at m<;>subst m<;>rfl) (λi X s ae m t=>?_) λi X s ae m t=>?_
   .rcases i with _|_|i<;>simp at m<;>subst m<;>rcases s with _|s<;>simp at t<;>simp
   .rcases i with _|_|i<;>simp at m<;>subst m<;>rcases s with _|s<;>simp at t<;>subst t<;>exact .nil 1
 .have C:=f1 ak;have ar:(aq Nd.d (g.drop 1)).length=(g.drop 1).length:=dC _ _;simp only[C,J,Y,U,vC,ar,go_sem];generalize ap:g.drop 1=j at*;have bb:j.length<=1048576:=by rw[<-ap,List.length_drop];omega
  refine bq 24 j.length (λk=>Fw.cK 47 [(22,.sl 1 (aq Nd.d j)),(23,I j.length)] λq y W Z=>aH [36] y 174 1 (aq Nd.d ((j.take k).map λb=>b.ks.headD b)) (q 2)/\aH [43] y 216 1 (aq cT ((j.take k).map λb=>b.bs)) (q 3)) A ⟨A,by simp[af,ba],.inl ⟨A,A⟩,.inl ⟨A,A⟩⟩ ?_;rintro k q y bd Z aW bc⟨u,w⟩;obtain⟨bj,z⟩:=Zx (q 2);obtain⟨bl,B⟩:=Zx (q 3);rw[z]at u;rw[B]at w;simp only[go_sem];refine aT (λo=>?_) λo=>?_
  .have r:=bh o;have ai:=hX (f:=Nd.d) r;obtain⟨h,V⟩:=az _ (ax r);obtain⟨aX,aY,a2,a3,a4,a5,a6,a7,a8,a9,aZ,a0,a1,P⟩:=Nd.LF j[k];rw[V]at P;have ay:(aq Nd.d [h])[0]?=E [Nd.d h]:=A;obtain⟨F,Q⟩:∃F,h.d=.pa h.id F:=by obtain⟨_,_,_,_,_,_,_,_,_,_,_,_,_,ah⟩:=Nd.LF h;exact⟨_,ah⟩
   have aC:(j.take (k+1)).map (λb=>b.ks.headD b)=(j.take k).map (λb=>b.ks.headD b)++[h]:=by rw[ch r,bC];simp[V]
   have aD:(j.take (k+1)).map (λb=>b.bs)=(j.take k).map (λb=>b.bs)++[j[k].bs]:=by rw[ch r,bC];rfl
   simp only[o,ai,P,go_sem];refine oP (.bE [0,1,2,3,4,5,6,9,10,11,12,13] 7 (.bE [] 8 (.fin [14,15,16,17]) 14 (.fin [8,15,16,17])) 14 (.fin [7,8,15,16,17])) [] [] mixed Zk ?_;simp only[ay,Q,z,B,BZ,go_sem];refine⟨⟨?_,?_⟩,?_⟩
   all_goals
    refine HY (S:=[36]) (f:=Nd.d) (l:=(j.take k).map λb=>b.ks.headD b) (a:=h) jL (by simp only[af,aI,aV,aP,bT,bU,reduceCtorEq];exact u.congr bJ) (by simp[af,cF,aj,Q]) (Nd.one h) de Zd (by show 36<47;decide) ?_;intro aS be bi aE O;have L:=O 42 Zd Zd;have M:=O 43 Zd Zd;simp only[bV,bH,dP,aP,dz]at L M;simp only[BZ,go_sem];refine HY (S:=[43]) (f:=cT) (l:=(j.take k).map λb=>b.bs) (a:=j[k].bs) G (by simp only[af,aI,aV,aP,bT,bU,reduceCtorEq];exact w.congr (by simp[aj,M])) (by simp[af,cF,aj,L]) A de Zd (by show 43<47;decide) ?_;intro aU bf bk aF an;have K:=an 36 Zd Zd;simp only[bV,dP,aP,dz]at K;simp only[go_sem];refine bg r ⟨A,by simp[af],?_,?_⟩
    .rw[aC];simpa[af]using aE.congr (by simp[K])
    .rw[aD];simpa[af]using aF
  .have aA:=bS o;subst aA;rw[b9]at u w;simp only[o,z,B,go_sem];refine Fz.k3 ?_ ?_
   .exact kE u λh _=>Nd.cl h
   .exact kE w λh _=>oH h
def dw(i:Int):Core:=.mk 1 i [] []
def e8(k:Int)(i:Nat):Nat:=if(k=9\/k=11)/\0<i then 1 else 0
def gu(k:Int)(l:aD):aD:=l.mapIdx λi b=>e8 k i+b
def cj(k:Int)(l:aD)(m i:Nat):Nat:=m+((gu k l).take i).sum
mutual
def Y.aZ:Y->Nat
 |.mk k _ _ _ _ ks=>(gu k (Y.mK ks)).sum
def Y.mK:List Y->List Nat
 |[]=>[]
 |c::cs=>Y.aZ c::Y.mK cs
end
def Y.px:∀a:a_,Y.mK a=a.map Y.aZ
 |[]=>rfl
 |c::b=>by rw[Y.mK,Y.px b];rfl
mutual
def Nd.aZ:Nd->Nat
 |.mk _ t _ _ ks _ _=>(gu (Y.kd t) (Nd.mK ks)).sum
def Nd.mK:List Nd->List Nat
 |[]=>[]
 |c::cs=>Nd.aZ c::Nd.mK cs
end
def Nd.px:∀a:dv,Nd.mK a=a.map Nd.aZ
 |[]=>rfl
 |c::b=>by rw[Nd.mK,Nd.px b];rfl
def jz(e:Env)(x:BA):Nat:=e.reverse.findIdx λv=>decide (v.n=x)
def gf(vs:aD)(j:Nat):Nat:=vs.reverse.findIdx λi=>decide (i=j)
def lx(ds:aF)(e:Env)(x:BA):Core:=if(look e x).isSome then dw (jz e x)else .mk 11 (dh ds x) [] []
def lJ(ds:aF)(e:Env)(l:Int)(x:BA):Core:=if(look e x).any (λv=>decide (v.l=l+1))then .mk 6 0 [] [lx ds e x]else lx ds e x
def lj(h:Core)(l:bM):Core:=l.foldl (λh a=>.mk 5 0 [] [h,a]) h
def gy(ab:List ai):Y->Env
 |.mk k _ n _ ns _=>if k=10 then cL ab n ns 0 else[]
def hV(a:Env)(x:BA):BA:=if x∈a.map Ev.n then nE else x
def hW(a vs:Env)(l:Int):Env:=
 a++(vs.map (λv:Ev=>if v.l=l+1 then(⟨nE,kG v.t,0⟩:Ev)else⟨hV a v.n,v.t,0⟩)++(vs.filter λv=>decide (v.l=l+1)).map λv=>⟨hV a v.n,v.t,1⟩)
def gr(n:Nat):List Bool->Nat->Nat->List Int
 |[],_,_=>[]
 |b::l,i,j=>if b then((n:Int)+j-1-i)::gr n l (i+1) (j+1)else gr n l (i+1) j
def lO:Nat->Core->Core
 |0,c=>c
 |n+1,c=>.mk 4 0 [] [lO n c]
def mU(a:IL)(c:Core):Core:=a.foldr (λi c=>.mk 7 0 [] [dw i,c]) c
def k5(ab:aw)(k v:Int)(n:BA):Int:=if k=8 then je 0 ab n else v
abbrev wv:=Env->Int->Nat->Core×bM
def gg(k:Int)(i:Nat):Prop:=(k=9\/k=11)/\0<i
def jf(ab:aw)(ds:aF)(k:Int)(n:BA)(t:O)(ns:aK)(ks:a_)(cs:aD)(a:List wv)(e:Env)(l:Int)(m i:Nat):Core×bM:=
 if gg k i then a.getD i (λ_ _ _=>(dw 0,[])) (hW ((ks[i]?.map (gy ab)).getD []) ((bz ks e).filterMap (look e)) l) 0 (cj k cs m i+1)
 else a.getD i (λ_ _ _=>(dw 0,[])) (b8 ab ds k n t ns ks e l i) (bL k l) (cj k cs m i)
def p4(ab:aw)(ks:a_)(e:Env)(l:Int)(i:Nat)(c:Core):Core:=
 lO (((ks[i]?.map (gy ab)).getD []).length+((bz ks e).filterMap (look e)).length) (mU (gr ((bz ks e).filterMap (look e)).length (((bz ks e).filterMap (look e)).map λv=>decide (v.l=l+1)) 0 0) c)
def qQ(ab:aw)(ds:aF)(k v:Int)(n:BA)(t:O)(ns:aK)(ks:a_)(cs:aD)(a:List wv):wv:=λe l m=>
 if k=10 then a.getD 0 (λ_ _ _=>(dw 0,[])) e l m else
 (if k=1 then lx ds e n
  else if k=9\/k=11 then lj (Core.mk (if k=9 then 9 else 10) 0 ((List.range' 1 (a.length-1)).map λi=>((ds.length+cj k cs m i:Nat):Int)) [(jf ab ds k n t ns ks cs a e l m 0).1]) ((bz ks e).map (lJ ds e l))
  else .mk k (k5 ab k v n) [] ((List.range a.length).map λi=>(jf ab ds k n t ns ks cs a e l m i).1),
  ((List.range a.length).map λi=>(if gg k i then[p4 ab ks e l i (jf ab ds k n t ns ks cs a e l m i).1]else[])++(jf ab ds k n t ns ks cs a e l m i).2).flatten)
mutual
def cw(ab:List ai)(ds:List ah):Y->wv
 |.mk k v n t ns ks=>qQ ab ds k v n t ns ks (Y.mK ks) (qR ab ds ks)
def qR(ab:List ai)(ds:List ah):List Y->List wv
 |[]=>[]
 |c::cs=>cw ab ds c::qR ab ds cs
end
def vP(a:aw)(b:aF):∀d:a_,qR a b d=d.map (cw a b)
 |[]=>rfl
 |c::e=>by rw[qR,vP a b e];rfl
abbrev uz:=List Nat->Nat->Core
def mJ(L:Int)(vs:aD)(b:Bi):Core:=if b.e.l=L+1 then .mk 6 0 [] [dw (gf vs b.id)]else dw (gf vs b.id)
def sg(k:Int)(n:BA)(ns:aK)(bs:aX)(cs:aD)(a:List uz)(vs:aD)(m i:Nat):Core:=
 a.getD i (λ_ _=>dw 0) (if bN k n ns i=[]then vs else vs++ids bs) (cj k cs m i)
def x9(ab:List ai)(ds:List ah)(t:Y)(b:Option Bi)(bs d:List Bi)(L:Int)(cs:List Nat)(a:List uz):uz:=λvs m=>
 match t with
 |.mk k v n _ ns _=>
  if k=1 then(match b with|some b=>dw (gf vs b.id)|none=>.mk 11 (dh ds n) [] [])
  else if k=9\/k=11 then lj (Core.mk (if k=9 then 9 else 10) 0 ((List.range' 1 (a.length-1)).map λi=>((ds.length+cj k cs m i:Nat):Int)) [sg k n ns bs cs a vs m 0]) (d.map (mJ L vs))
  else .mk k (k5 ab k v n) [] ((List.range a.length).map λi=>sg k n ns bs cs a vs m i)
mutual
def iW(ab:List ai)(ds:List ah):Nd->uz
 |.mk id t ty l ks bs b=>x9 ab ds t b bs (Nd.mk id t ty l ks bs b).cap l (Nd.mK ks) (AZ ab ds ks)
def AZ(ab:List ai)(ds:List ah):List Nd->List uz
 |[]=>[]
 |c::cs=>iW ab ds c::AZ ab ds cs
end
def A0(a:aw)(b:aF):∀d:dv,AZ a b d=d.map (iW a b)
 |[]=>rfl
 |c::e=>by rw[AZ,A0 a b e];rfl
abbrev Rt:=Nd×List Bi×Nd
def vB(x:Nd)(a:List (List Rt)):List Rt:=(a.mapIdx λi r=>(if gg (Y.kd x.t) i then(x.bE[i-1]?).toList.map λp=>(p.1,p.2,x)else[])++r).flatten
mutual
def Nd.ep:Nd->List Rt
 |.mk id t ty l ks bs b=>vB (.mk id t ty l ks bs b) (Nd.AP ks)
def Nd.AP:List Nd->List (List Rt)
 |[]=>[]
 |c::cs=>c.ep::Nd.AP cs
end
def Nd.Mh:∀a:dv,Nd.AP a=a.map Nd.ep
 |[]=>rfl
 |c::b=>by rw[Nd.AP,Nd.Mh b];rfl
def eM(L:Int)(o:Nat->Nat):List Bi->Nat->List Nat
 |[],_=>[]
 |b::bs,j=>if b.e.l=L+1 then o j::eM L o bs (j+1)else b.id::eM L o bs j
def bY(L:Int)(a:aX):aX:=a.filter λb=>decide (b.e.l=L+1)
def lK(ab:aw)(ds:aF)(r:Rt)(o:b5)(m:Nat):Core:=
 lO (r.2.1.length+r.2.2.cap.length) (mU ((List.range (bY r.2.2.l r.2.2.cap).length).map λj=>((gf (ids r.2.1++eM r.2.2.l o r.2.2.cap 0++(ids (bY r.2.2.l r.2.2.cap)).take j) (o j):Nat):Int))
  (iW ab ds r.1 (ids r.2.1++(eM r.2.2.l o r.2.2.cap 0++ids (bY r.2.2.l r.2.2.cap))) m))
def oG(ab:aw)(ds:aF)(o:Nat->b5)(a:List Rt)(m:Nat):bM:=(a.zipIdx m).map λp=>lK ab ds p.1 (o p.2) (p.2+1)
def ti{vs a:aD}(d:h∉a):gf (vs++a) h=a.length+gf vs h:=by
 unfold gf;rw[we,List.findIdx_append,av]
 .rw[yj,rh]
 .rw[List.findIdx_lt_length];rintro⟨f,e,b⟩;simp only[cO]at b;subst b;exact d (by simpa using e)
def xt{vs a:aD}(b:h∈a):gf (vs++a) h=gf a h:=by
 unfold gf;rw[we,List.findIdx_append,aM];rw[List.findIdx_lt_length];exact⟨h,by simpa using b,Zs⟩
variable {dg:BA}
def Dg{a b:Env}(d:dg∉b.map Ev.n):jz (a++b) dg=b.length+jz a dg:=by
 unfold jz;rw[we,List.findIdx_append,av]
 .rw[yj,rh]
 .rw[List.findIdx_lt_length];rintro⟨f,e,a⟩;simp only[cO]at a;subst a;exact d (aG.2 ⟨f,by simpa using e,A⟩)
variable {g6 pp:Env}
def Dh(a:dg∈pp.map Ev.n):jz (g6++pp) dg=jz pp dg:=by
 unfold jz;rw[we,List.findIdx_append,aM];rw[List.findIdx_lt_length];obtain⟨v,b,rfl⟩:=aG.1 a;exact⟨v,by simpa using b,Zs⟩
def CF{e:g1->Bool}{f:m4->Bool}:∀{d:List g1}{B:List m4},d.length=B.length->(∀(b:Nat)(h:b<d.length)(i:b<B.length),e d[b]=f B[b])->d.findIdx e=B.findIdx f
 |[],[],_,_=>rfl
 |a::d,j::B,k,g=>by
  rw[sx,sx,show e a=f j from g 0 Zs Zs,CF (by simpa using k) λb h i=>g (b+1) (by simpa using h) (by simpa using i)]
def JX{b:aD}{B:Env}(f:b.length=B.length)(g:∀(a:Nat)(d:a<b.length)(e:a<B.length),b[a]=h↔(B[a]).n=dg):gf b h=jz B dg:=by
 refine CF (by simp[f]) λa d e=>?_;rw[List.getElem_reverse,List.getElem_reverse];have:=g (b.length-1-a) (by simp at d;omega) (by simp at e;omega);simp only[f]at this⊢;exact jh.2 this
def Rc:∀{b:aX}{f:BA}{d:Bi},(ids b).Nodup->cE b f=E d->gf (ids b) d.id=jz (b.map Bi.e) f:=by
 intro b f d g a;unfold cE at a;unfold gf jz ids;unfold ids at g;rw[<-q_,<-q_];have h:(b.reverse.map Bi.id).Nodup:=by rw[q_];exact(List.reverse_perm _).nodup_iff.2 g
 generalize b.reverse=i at*;clear g
 induction i with
 |nil=>cases a
 |cons j i o=>
  rw[bp,bp,sx,sx];rw[List.find?_cons]at a;by_cases k:j.e.n=f
  .simp only[k,ox]at a⊢;cases a;simp
  .simp only[k,ri]at a⊢;rw[bp,la]at h;have m:=uh a;have:j.id≠d.id:=λl=>h.1 (l▸aG.2 ⟨d,m,A⟩);simp only[this,ri,cond_false];rw[o a h.2]
def ua(a:Int)(f:b5):∀(d:aX)(e:Nat),(eM a f d e).length=d.length
 |[],_=>rfl
 |b::bs,e=>by rw[eM];split<;>simp[ua a f bs]
def yf(d:Int)(m:b5):∀(h:aX)(f a:Nat)(q:a<h.length)(r:a<(eM d m h f).length),(h[a].e.l=d+1/\∃k,f<=k/\(eM d m h f)[a]=m k)\/(h[a].e.l≠d+1/\(eM d m h f)[a]=h[a].id)
 |b::bs,f,0,_,_=>by
  unfold eM;by_cases g:b.e.l=d+1
  .left;simp[g];exact⟨f,b_ _,A⟩
  .right;simp[g]
 |b::bs,f,a+1,q,r=>by
  have o:a<bs.length:=by simpa using q
  by_cases g:b.e.l=d+1
  .rcases yf d m bs (f+1) a o (by rw[ua];exact o)with⟨i,k,j,p⟩|⟨i,j⟩
   .left;refine⟨by simpa using i,k,Zo,?_⟩;simp only[eM,g,aI,i1];exact p
   .right;refine⟨by simpa using i,?_⟩;simp only[eM,g,aI,i1];exact j
  .rcases yf d m bs f a o (by rw[ua];exact o)with⟨i,k,j,p⟩|⟨i,j⟩
   .left;refine⟨by simpa using i,k,j,?_⟩;simp only[eM,g,aV,i1];exact p
   .right;refine⟨by simpa using i,?_⟩;simp only[eM,g,aV,i1];exact j
variable {i3:aX}
def Nq(e:Int)(d:b5)(k:V∈eM e d i3 h):(∃a,h<=a/\V=d a)\/∃j∈i3,j.id=V:=by
 obtain⟨i,f,rfl⟩:=dG k;have g:i<i3.length:=by rwa[ua]at f
 rcases yf e d i3 h i g f with⟨_,a,b,l⟩|⟨_,b⟩
 .exact .inl ⟨a,b,l⟩
 .exact .inr ⟨_,ax g,b.symm⟩
def zq(f:Int)(d:b5)(s:∀g a,d g=d a->g=a)(p:Nat):∀(j:aX)(pre:aD)(g a:Nat),(∀b∈j,∀o,d o≠b.id)->p=g+j.length->
 (List.range (bY f j).length).map (λh=>(((a+h)+gf (pre++eM f d j a) (d (a+h)):Nat):Int))=gr p (j.map λb=>decide (b.e.l=f+1)) g a
 |[],pre,g,a,_,_=>rfl
 |b::bs,pre,g,a,w,r=>by
  have q:∀b∈bs,∀o,d o≠b.id:=λb k=>w b (by simp[k]);by_cases i:b.e.l=f+1
  .have k:bY f (b::bs)=b::bY f bs:=by simp[bY,i]
   rw[k,di,List.range_succ_eq_map,bp,dZ,bp,gr];simp only[i,ox,aI];have m:eM f d (b::bs) a=d a::eM f d bs (a+1):=by rw[eM,aM i]
   congr 1
   .rw[m,show pre++d a::eM f d bs (a+1)=(pre++[d a])++eM f d bs (a+1)by simp,kL,ti,ua]
    .have:gf (pre++[d a]) (d a)=0:=by rw[xt Zs];simp[gf,sx]
     rw[this];simp at r;omega
    .intro h;rcases Nq f d h with⟨o,z,u⟩|⟨y,x,t⟩
     .have:=s _ _ u;omega
     .exact q y x a t.symm
   .rw[<-(zq f d s p bs (pre++[d a]) (g+1) (a+1) q (by simp at r;omega))];refine gX λh _=>?_;simp only[vY,m];rw[show pre++d a::eM f d bs (a+1)=(pre++[d a])++eM f d bs (a+1)by simp,show a+h.succ=a+1+h by omega]
  .have k:bY f (b::bs)=bY f bs:=by simp[bY,i]
   have m:eM f d (b::bs) a=b.id::eM f d bs a:=by rw[eM,av i]
   rw[k,bp,gr];simp only[i,ri,uf,aV];rw[<-(zq f d s p bs (pre++[b.id]) (g+1) a q (by simp at r;omega))];refine gX λh _=>?_;rw[m,show pre++b.id::eM f d bs a=(pre++[b.id])++eM f d bs a by simp]
def Nd.l_(a:Nd):a.aZ=(gu (Y.kd a.t) (a.ks.map Nd.aZ)).sum:=by cases a;rw[Nd.aZ,Nd.px];rfl
variable {hw:a_}
def Y.l_{v:Int}:Y.aZ (.mk a0 v dg go he hw)=(gu a0 (hw.map Y.aZ)).sum:=by rw[Y.aZ,Y.px]
def B8:∀(a:Y){g:Nd}{h:aX}{f:Int},fB a4 a5 a g h f->g.aZ=Y.aZ a
 |.mk m v r a s e,_,h,f,.mk (kids:=kids) (bs:=bs) q o p l k=>by
  rw[Nd.l_,Y.l_];show(gu m (kids.map Nd.aZ)).sum=_;congr 2;refine p7 (by simp[l]) λb i j=>?_;have d:b<e.length:=by simpa using j
  rw[eI,eI];exact B8 e[b] (k b d (by simpa using i))
termination_by a=>a
decreasing_by
 have:=cH (ax d);simp;omega
def Nd.AO(a:Nd):a.ep=vB a (a.ks.map Nd.ep):=by cases a;rw[Nd.ep,Nd.Mh];rfl
def s4(a:Nd):a.bE.length=a.ks.length-1:=by simp[Nd.bE]
def od(d:Int)(b:Nat):e8 d b=if gg d b then 1 else 0:=by
 unfold e8;by_cases a:gg d b
 .rw[aM a];exact aM a
 .rw[av a];exact av a
def Eh(a:Nd)(d:List (List Rt))(i:d.length=a.ks.length):(d.mapIdx λb h=>(if gg (Y.kd a.t) b then(a.bE[b-1]?).toList.map λe=>((e.1,e.2,a):Rt)else[])++h).map List.length=gu (Y.kd a.t) (d.map List.length):=by
 refine p7 (by simp[gu]) λb f j=>?_;have k:b<a.ks.length:=by simp at f;omega
 simp only[eI,ug,gu,bF,od];congr 1;split
 .rename_i g;rw[bR (by rw[s4];have:=g.2;omega)];simp
 .rfl
def vA:∀a:Nd,a.ep.length=a.aZ:=λa=>by
 have e:∀b∈a.ks,b.ep.length=b.aZ:=λb d=>vA b;rw[Nd.AO,Nd.l_,vB,yi,Eh a _ Zs,dZ];congr 2;exact gX e
termination_by a=>a
decreasing_by exact Nd.lt d
def NC:∀(b:List (List g1))(d:Nat),b.flatten.zipIdx d=(b.mapIdx λe a=>a.zipIdx (d+((b.take e).map List.length).sum)).flatten
 |[],d=>rfl
 |a::b,d=>by
  rw[dN,List.zipIdx_append,NC b,List.mapIdx_cons,dN];exact Zg
def OA(f:aw)(g:aF)(i:Nat->b5)(a:Nd)(h:Nat):
 oG f g i a.ep h=((List.range a.ks.length).map λb=>(if gg (Y.kd a.t) b then((a.bE[b-1]?).toList.map λd=>lK f g (d.1,d.2,a) (i (cj (Y.kd a.t) (a.ks.map Nd.aZ) h b)) (cj (Y.kd a.t) (a.ks.map Nd.aZ) h b+1))else[])++
  oG f g i ((a.ks[b]?.map Nd.ep).getD []) (cj (Y.kd a.t) (a.ks.map Nd.aZ) h b+e8 (Y.kd a.t) b)).flatten:=by
 rw[Nd.AO,vB,oG,NC,List.map_flatten];congr 1;refine p7 Zs λb w m=>?_;have p:b<a.ks.length:=by simpa using m
 rw[eI,ug,ug,eI,eI,List.getElem_range];have q:(List.map List.length (List.take b (List.mapIdx (λb l=>(if gg (Y.kd a.t) b then(a.bE[b-1]?).toList.map λd=>((d.1,d.2,a):Rt)else[])++l) (a.ks.map Nd.ep)))).sum=((gu (Y.kd a.t) (a.ks.map Nd.aZ)).take b).sum:=by
  rw[kK,Eh a _ Zs,dZ];congr 3;exact gX λu _=>vA u
 have r:h+(List.map List.length (List.take b (List.mapIdx (λb l=>(if gg (Y.kd a.t) b then(a.bE[b-1]?).toList.map λd=>((d.1,d.2,a):Rt)else[])++l) (a.ks.map Nd.ep)))).sum=cj (Y.kd a.t) (a.ks.map Nd.aZ) h b:=by rw[q];rfl
 rw[show((a.ks[b]?.map Nd.ep).getD [])=(a.ks[b]).ep by simp[p]];have s:∀(j B:List Rt)(k:Nat),((j++B).zipIdx k).map (λd=>lK f g d.1 (i d.2) (d.2+1))=(j.zipIdx k).map (λd=>lK f g d.1 (i d.2) (d.2+1))++oG f g i B (k+j.length):=λj B k=>by
  rw[List.zipIdx_append,bC];rfl
 rw[r,s];by_cases e:gg (Y.kd a.t) b
 .have o:b-1<a.bE.length:=by rw[s4];have:=e.2;omega
  rw[aM e,aM e,od,aM e,bR o];rfl
 .rw[av e,av e,od,av e];rfl
def Sh.case{v:Int}(b:Sh a4 (.mk a0 v dg go he hw))(a:Nat)(e:a<hw.length):Y.kd hw[a]=10↔a0=9/\0<a:=by
 have:=(iQ b.gd).1;simp only[nh,fJ,fp,b3]at this;have d:=this.2;simp only[kV,cO]at d;exact Zg
def S8(a:gN dg=ad):dg≠nE:=by
 rintro rfl;simp[gN,hD,Al]at a
def zt:∀(a:Y){h:aK}{d:BA},Sh a4 a->fv a h d->d≠nE
 |.mk k v l a m j,h,d,e,b=>by
  rw[fv,oT]at b;rcases b with⟨rfl,rfl,-⟩|⟨i,g,b⟩
  .have:=(iQ e.gd).1;simp only[nh,fJ,fp,b3]at this;have f:=this.1.2.1.1.1;simp only[j',true_or,aI]at f;exact S8 f
  .exact zt j[i] (e.cM _ (ax g)) b
termination_by a=>a
decreasing_by
 have:=cH (ax g);simp;omega
structure Cx (ab:List ai) (ds:List ah) (t:Y) (nd:Nd) (sc:List Bi) (L:Int):Prop where
 sh:Sh ab t
 is:fB ab ds t nd sc L
 ap:Ap nd sc
 lv:eS ab ds t (sc.map Bi.e) L
 ge:∀b∈sc,b.e.l<=L+1
def Oz{b:O×Int}(a:gT go=E b):b.2=0\/b.2=1:=by
 obtain⟨f,g,d⟩:=go;rw[gT]at a;split at a
 .cases d with
  |nil=>cases a
  |cons e d=>simp at a;subst a;exact .inr A
 .exact Zg
def PX{ab:aw}{ds:aF}{k:Int}{n:BA}{t:O}{ns:aK}{ks:a_}{e:Env}{l:Int}:∀v∈er ab ds k n t ns ks e l,v.l<=l+1:=λv a=>by
 unfold er at a;split at a
 .simp at a;subst a;simp;omega
 .split at a
  .simp only[aG,Option.mem_toList]at a;obtain⟨f,b,rfl⟩:=a;obtain⟨d,-,b⟩:=iJ.1 b;have:=Oz b;simp only;omega
  .split at a
   .simp only[cL,aG]at a;exact Zg
   .cases a
variable {v2:dv}
def Cx.cM{ab:aw}{ds:aF}{k v:Int}{n:BA}{t:O}{ns:aK}{ks:a_}{id:Nat}{y:O}{d:Int}{bs h:aX}(p:Cx ab ds (.mk k v n t ns ks) (.mk id (.mk k v n t ns ks) y d v2 bs z2) h d)(b:Nat)(g:b<ks.length)(o:b<v2.length):
 Cx ab ds ks[b] v2[b] (h++if cV k b then bs else[]) (bL k d):=by
 obtain⟨q,r,s,j,u⟩:=p;cases r with|mk B a w A x=>
 rw[tv]at j;have m:=x b g o;have f:=j.2.2 b g;rw[<-zS w]at f;rw[vD]at m f;have z:d<=bL k d:=by unfold bL;split<;>omega
 refine⟨q.cM _ (ax g),m,s.cM _ (by split<;>simp) _ (ax o),f,λi a=>?_⟩;rcases cg.1 a with a|a
 .have:=u i a;omega
 .split at a
  .have:=PX (ab:=ab) (ds:=ds) (k:=k) (n:=n) (t:=t) (ns:=ns) (ks:=ks) (e:=h.map Bi.e) (l:=d) i.e Zg;omega
  .cases a
structure Rl (t:Y) (sc:List Bi) (L:Int) (vs:List Nat) (e:Env) (l:Int):Prop where
 get:∀x,fv t [] x->∀b,cE sc x=E b->b.id∈vs/\gf vs b.id=jz e x/\∃v,look e x=E v/\v.t=b.e.t/\v.l+L=b.e.l+l
 no:∀x,fv t [] x->cE sc x=aa->look e x=aa
variable {pi:Y}{gs:Int}
def Rl.xu{vs:aD}(b:Rl pi i3 a0 vs g6 gs){a:BA}(e:fv pi [] a):(look g6 a).isSome=(cE i3 a).isSome:=by
 cases d:cE i3 a with
 |none=>rw[b.no a e d];rfl
 |some f=>obtain⟨-,-,v,g,-⟩:=b.get a e f d;rw[g];rfl
def Rl.ty{vs:aD}(b:Rl pi i3 a0 vs g6 gs){a:BA}(f:fv pi [] a):eT (i3.map Bi.e) a=eT g6 a:=by
 unfold eT;rw[tt,Option.map_map];cases d:cE i3 a with
 |none=>rw[b.no a f d];rfl
 |some g=>obtain⟨-,-,v,i,h,-⟩:=b.get a f g d;rw[i];simp[h]
def PY{m:aw}{o:aF}{a v:Int}{b:BA}{k:O}{h:aK}{r:a_}{id:Nat}{U:O}{d:Int}{bs y:aX}(J:Cx m o (.mk a v b k h r) (.mk id (.mk a v b k h r) U d v2 bs z2) y d){vs:aD}{p:Env}{g:Int}(S:Rl (.mk a v b k h r) y d vs p g)(I:a≠10)(i:Nat)(ab:i<r.length):
 (bN a b h i=[]/\(if cV a i then bs else[])=[]/\b8 m o a b k h r p g i=p/\bL a d-d=bL a g-g)\/
 (bN a b h i=[b]/\(∃f,(if cV a i then bs else[])=[f]/\bs=[f]/\f.e.n=b/\b8 m o a b k h r p g i=p++[⟨b,f.e.t,f.e.l-d+g⟩])/\bL a d=d/\bL a g=g):=by
 obtain⟨D,K,W,X,Y⟩:=J;cases K with|mk w Z u ah ae=>
 by_cases z:a=4
 .subst z;right;obtain⟨f,rfl⟩:∃f,bs=[f]:=hP.1 (by have:=dO List.length u;simpa[er]using this);have:f.e=⟨b,k,d⟩:=by simpa[er]using u
  refine⟨by simp[bN],⟨f,by simp[cV],A,by rw[this],?_⟩,by simp[bL],by simp[bL]⟩;simp[b8,cV,er,this]
 .by_cases B:a=7/\i=1
  .obtain⟨rfl,rfl⟩:=B;right;have Q:=D.len;simp[a1,cN]at Q;obtain⟨s,C,rfl⟩:=sj (show r.length=2 by omega);have L:a6 m o s (y.map Bi.e) d=a6 m o s p g:=AX s _ _ _ _ (D.cM _ Zs) λj x=>S.ty (nP (i:=0) Zs (by simp[bN]) x);rw[oh]at w;obtain⟨V,F,w⟩:=iJ.1 w;obtain⟨j,x,-⟩:=iJ.1 w;have M:er m o 7 b k h [s,C] (y.map Bi.e) d=[⟨b,j.1,d+j.2⟩]:=by simp[er,F,x]
   have P:er m o 7 b k h [s,C] p g=[⟨b,j.1,g+j.2⟩]:=by simp[er,<-L,F,x]
   rw[M]at u;obtain⟨f,rfl⟩:∃f,bs=[f]:=hP.1 (by have:=dO List.length u;simpa using this);have:f.e=⟨b,j.1,d+j.2⟩:=by simpa using u
   refine⟨by simp[bN],⟨f,by simp[cV],A,by rw[this],?_⟩,by simp[bL],by simp[bL]⟩;have R:g+j.2=d+j.2-d+g:=Zo;simp[b8,cV,P,this,R]
  .left;have G:cV a i=al:=by simp only[cV,fZ];rintro(q|q|q);exact z q;exact I q;exact B q
   refine⟨by unfold bN;rw[av Zg,av I],by rw[G];rfl,by rw[b8,G];rfl,?_⟩;unfold bL;split<;>omega
def Rl.cM{g v:Int}{k:BA}{s:aK}{m:a_}{id:Nat}{o:Int}{bs y:aX}(K:Cx a4 a5 (.mk g v k go s m) (.mk id (.mk g v k go s m) lw o v2 bs z2) y o){vs:aD}{x:Int}(r:Rl (.mk g v k go s m) y o vs g6 x)(U:g≠10)(j:Nat)(q:j<m.length)(W:j<v2.length):
 Rl m[j] (y++if cV g j then bs else[]) (bL g o) (if bN g k s j=[]then vs else vs++ids bs) (b8 a4 a5 g k go s m g6 x j) (bL g x):=by
 rcases PY K r U j q with⟨p,z,u,w⟩|⟨p,⟨b,z,u,w,P⟩,Q,R⟩
 .rw[p,z,u,aM A,c_];refine⟨λf i b G=>?_,λf i G=>r.no f (nP q (by rw[p];simp) i) G⟩;obtain⟨B,C,v,D,F,L⟩:=r.get f (nP q (by rw[p];simp) i) b G;exact⟨B,C,v,D,F,Zo⟩
 .rw[p,z,P,av Zs,Q,R,u];have S:∀I∈y,I.id≠b.id:=λI V h=>by
   have:=K.ap.d b.id (by rw[Nd.kx];simp[Nd.bs,u]);exact this (aG.2 ⟨I,V,h⟩)
  refine⟨λf i J a=>?_,λf i a=>?_⟩
  .rw[n0]at a;by_cases h:f=k
   .subst h;have M:cE [b] f=E b:=by simp[cE,w]
    rw[M]at a;have a:=a;cases a;refine⟨by simp[ids],?_,⟨f,b.e.t,b.e.l-o+x⟩,by simp[look],A,by simp only;omega⟩;rw[xt (by simp[ids]),Dh Zs];simp[gf,jz,ids,sx]
   .rw[rY (b:=[b]) (by simp[w,h]),lZ]at a;obtain⟨B,C,v,D,F,L⟩:=r.get f (nP q Zg i) J a;refine⟨eE _ B,?_,v,?_,F,L⟩
    .rw[ti (by simpa[ids]using(S J (mv a).1)),Dg (by simpa using h),C];simp[ids]
    .rw[mV,mw (by simpa using h),lZ,D]
  .rw[n0,Option.or_eq_none_iff]at a;have h:f≠k:=by rintro rfl;have:=a.1;simp[cE,w]at this
   rw[mV,mw (by simpa using h),lZ];exact r.no f (nP q Zg i) a.2
def Jl:∀(b a:aK),a.Nodup->(b.foldl iF a).Nodup
 |[],a,d=>d
 |x::b,a,d=>by
  refine Jl b _ ?_;unfold iF;split
  .exact d
  .exact Zg
def OV(e:a_)(d:Env):(bz e d).Nodup:=by
 unfold bz;have:(λ(b:aK)(a:Y)=>eA a [] b)=λb a=>(ii a []).foldl iF b:=by funext b a;exact w8 a [] b
 rw[this,foldl_flatMap iF (λa=>ii a [])];exact List.Nodup.sublist List.filter_sublist (Jl _ _ Zs)
def K5:∀(d e:aK)(b:BA),b∈d.foldl iF e↔b∈e\/b∈d
 |[],e,b=>by simp
 |a::d,e,b=>by
  rw[iZ,K5 d];unfold iF;split
  .exact Zg
  .exact Zg
def my{d:a_}:dg∈bz d g6↔(look g6 dg).isSome=ad/\∃(a:Nat)(h:a<d.length),0<a/\fv d[a] [] dg:=by
 unfold bz;have:(λ(e:aK)(b:Y)=>eA b [] e)=λe b=>(ii b []).foldl iF e:=by funext e b;exact w8 b [] e
 rw[this,foldl_flatMap iF (λb=>ii b []),ko,K5,and_comm];refine and_congr_right λ_=>⟨λh=>?_,λ⟨a,h,m,i⟩=>.inr ?_⟩
 .rcases h with h|h
  .cases h
  .obtain⟨o,l,f⟩:=ft.1 h;obtain⟨b,g,rfl⟩:=aG.1 l;obtain⟨a,j,rfl⟩:=dG g;rw[p8]at f;exact⟨1+a,by simp at j;omega,Zo,(w6 _ _ _).1 f⟩
 .refine ft.2 ⟨ii d[a] [],aG.2 ⟨d[a],?_,A⟩,(w6 _ _ _).2 i⟩;have k:a-1<(d.drop 1).length:=by simp;omega
  have:(d.drop 1)[a-1]=d[a]:=by
   exact Zg
  rw[<-this];exact ax k
def qt{b:g1->Option m4}{d:g1->m4}:∀{a:List g1},(∀x∈a,b x=E (d x))->a.filterMap b=a.map d
 |[],_=>rfl
 |x::a,e=>by rw[List.filterMap_cons,e x Zs,bp,qt λg f=>e g (by simp[f])]
variable {m7:Nd}
def Rl.root{k v:Int}{n:BA}{t:O}{ns:aK}{C:a_}{id:Nat}{bI:O}{g:Int}{bs Z:aX}(ba:k=9\/k=11)(aP:Cx a4 a5 (.mk k v n t ns C) (.mk id (.mk k v n t ns C) bI g v2 bs z2) Z g){vs:aD}{K:Env}{W:Int}(be:Rl (.mk k v n t ns C) Z g vs K W)
 {f:ByteArray->Bi} {x:ByteArray->Ev} (ai:∀a∈bz C K,cE Z a=E (f a)) (a':∀a∈bz C K,look K a=E (x a)) {I:b5} (bv:∀L,∀a∈bz C K,I L≠(f a).id)
 {am:Y} {u:aX} {B:Env} (ah:Cx a4 a5 am m7 (Z++u) g) (bl:∀h∈u,h.e.l=g) (bm:∀a,eT (u.map Bi.e) a=eT B a) (aS:B.map Ev.n=u.map λh=>h.e.n) (bj:∀v∈B,v.l=0) (bw:∀L,I L∉ids u)
 (bq:∀a,fv am [] a->a∉u.map (λh=>h.e.n)->∃(b:Nat)(aP:b<C.length),0<b/\fv C[b] [] a):
 Rl am (Z++u) g (ids u++(eM g I ((bz C K).map f) 0++ids (bY g ((bz C K).map f)))) (hW B ((bz C K).map x) W) 0:=by
 have ae:∀a∈bz C K,(f a).id∈ids Z/\(f a).e.n=a/\(x a).n=a/\(x a).t=(f a).e.t/\(x a).l+g=(f a).e.l+W:=λa i=>by
  obtain⟨r,b,p,a3,aJ⟩:=my.1 i;have bt:=nP (k:=k) (v:=v) (n:=n) (t:=t) (ns:=ns) p (by rw[xx ba];simp) aJ;obtain⟨-,-,q,w,o,U⟩:=be.get a bt _ (ai a i);rw[a' a i]at w;cases w;exact⟨aG.2 ⟨_,(mv (ai a i)).1,A⟩,(mv (ai a i)).2,(jN (a' a i)).2,o,U⟩
 have a9:∀a∈bz C K,((x a).l=W+1↔(f a).e.l=g+1):=λa i=>by have:=(ae a i).2.2.2.2;omega
 have bQ:=OV C K;generalize bi:bz C K=d at*;have aI:bY g (d.map f)=(d.filter λa=>decide ((f a).e.l=g+1)).map f:=by unfold bY;rw[List.filter_map];rfl
 have bb:((d.map x).filter λv=>decide (v.l=W+1))=(d.filter λa=>decide ((f a).e.l=g+1)).map x:=by
  rw[List.filter_map];congr 1;exact List.filter_congr λa i=>by simp only[vY,a9 a i]
 have aT:∀z∈u,z.id∉ids Z:=λz bH m=>by
  have:=ah.ap.s;rw[ids,bC,gR]at this;exact this.2.2 _ m _ (aG.2 ⟨z,bH,A⟩) A
 have bn:(ids u).Nodup:=by
  have:=ah.ap.s;rw[ids,bC,gR]at this;exact this.2.1
 have bx:(ids Z).Nodup:=aP.ap.s;have aU:∀a∈d,∀M∈d,(f a).id=(f M).id->a=M:=λa i M aN m=>by
  have:=xq bx (mv (ai a i)).1 (mv (ai M aN)).1 m;rw[<-(ae a i).2.1,<-(ae M aN).2.1,this]
 have aC:∀a,a∈B.map Ev.n↔a∈u.map λh=>h.e.n:=λa=>by rw[aS]
 have V:∀a,a≠nE->∀M∈d,(hV B (x M).n=a↔M=a/\a∉u.map λh=>h.e.n):=λa i M aN=>by
  rw[(ae M aN).2.2.1];unfold hV;split
  .rename_i m;exact⟨λz=>absurd z.symm i,λz=>absurd ((aC M).1 m) (z.1▸z.2)⟩
  .rename_i m;exact⟨λz=>⟨z,z▸λq=>m ((aC M).2 q)⟩,λz=>z.1⟩
 let P:Env:=(d.map x).map (λv:Ev=>if v.l=W+1 then(⟨nE,kG v.t,0⟩:Ev)else⟨hV B v.n,v.t,0⟩)
 let J:Env:=((d.map x).filter λv=>decide (v.l=W+1)).map λv=>⟨hV B v.n,v.t,1⟩
 have bk:hW B (d.map x) W=B++(P++J):=A;have an:P.length=d.length:=by simp[P]
 have aE:∀(b:Nat)(r:b<P.length)(w:b<d.length),P[b]=if(f d[b]).e.l=g+1 then⟨nE,kG (x d[b]).t,0⟩else⟨hV B (x d[b]).n,(x d[b]).t,0⟩:=λb r w=>by
  simp only[P,eI,a9 _ (ax w)]
 have aq:∀(b:Nat)(r:b<J.length)(w:b<(d.filter λa=>decide ((f a).e.l=g+1)).length),J[b]=⟨hV B (x (d.filter λa=>decide ((f a).e.l=g+1))[b]).n,(x (d.filter λa=>decide ((f a).e.l=g+1))[b]).t,1⟩:=λb r w=>by
  simp only[J,bb,eI]
 have ar:J.length=(d.filter λa=>decide ((f a).e.l=g+1)).length:=by simp[J,bb]
 have aR:∀a,a≠nE->(a∈P.map Ev.n↔a∈d/\(f a).e.l≠g+1/\a∉u.map λh=>h.e.n):=λa i=>by
  rw[List.mem_iff_getElem];constructor
  .rintro⟨b,p,j⟩;have au:b<d.length:=by simpa[an]using p
   rw[eI,aE b (by simpa using p) au]at j;split at j
   .exact absurd j.symm i
   .rename_i m;obtain⟨F,S⟩:=(V a i _ (ax au)).1 j;exact⟨F▸ax au,F▸m,S⟩
  .rintro⟨r,w,o⟩;obtain⟨b,p,rfl⟩:=dG r;refine⟨b,by simpa[an]using p,?_⟩;rw[eI,aE b (by rw[an];exact p) p,av w];exact(V _ i _ (ax p)).2 ⟨A,o⟩
 have aH:∀a,a≠nE->(a∈J.map Ev.n↔a∈d/\(f a).e.l=g+1/\a∉u.map λh=>h.e.n):=λa i=>by
  rw[List.mem_iff_getElem];constructor
  .rintro⟨b,p,j⟩;have au:b<(d.filter λa=>decide ((f a).e.l=g+1)).length:=by simpa[ar]using p
   rw[eI,aq b (by simpa using p) au]at j;have aY:=ax au;obtain⟨R,aO⟩:=ko.1 aY;obtain⟨F,S⟩:=(V a i _ R).1 j;rw[F]at R aO;exact⟨R,by simpa using aO,S⟩
  .rintro⟨r,w,o⟩;have aY:a∈d.filter λa=>decide ((f a).e.l=g+1):=ko.2 ⟨r,by simpa using w⟩;obtain⟨b,p,j⟩:=dG aY;refine⟨b,by simpa[ar]using p,?_⟩;rw[eI,aq b (by rw[ar];exact p) p,j];exact(V _ i _ r).2 ⟨A,o⟩
 have bf:(eM g I (d.map f) 0).length=P.length:=by rw[ua,an,bW]
 have aW:(ids (bY g (d.map f))).length=J.length:=by rw[aI,ar];simp[ids]
 have bB:∀L,L∈eM g I (d.map f) 0->(∃X,L=I X)\/∃a∈d,(f a).id=L:=λL aL=>by
  rcases Nq g I aL with⟨X,_,m⟩|⟨h,y,m⟩
  .exact .inl ⟨X,m⟩
  .obtain⟨a,i,rfl⟩:=aG.1 y;exact .inr ⟨a,i,m⟩
 have bc:∀L,L∈ids (bY g (d.map f))->∃a∈d,(f a).e.l=g+1/\(f a).id=L:=λL aL=>by
  rw[aI]at aL;obtain⟨h,y,m⟩:=aG.1 aL;obtain⟨a,i,rfl⟩:=aG.1 y;obtain⟨R,aO⟩:=ko.1 i;exact⟨a,R,by simpa using aO,m⟩
 rw[bk];constructor
 .intro a i h y;have D:=zt am ah.sh i;rw[n0]at y;by_cases m:a∈u.map λh=>h.e.n
  .obtain⟨bg,aA,j,F⟩:=vg m;rw[j]at y;have y:E bg=E h:=y;cases y;have ay:a∉(P++J).map Ev.n:=by
    rw[bC,cg];rintro(z|z)
    .exact((aR a D).1 z).2.2 m
    .exact((aH a D).1 z).2.2 m
   have bA:h.id∉eM g I (d.map f) 0++ids (bY g (d.map f)):=by
    rw[cg];rintro(z|z)
    .rcases bB _ z with⟨X,S⟩|⟨q,G,S⟩
     .exact bw X (S▸aG.2 ⟨h,aA,A⟩)
     .exact aT h aA (S▸(ae q G).1)
    .obtain⟨q,G,-,S⟩:=bc _ z;exact aT h aA (S▸(ae q G).1)
   refine⟨eE _ (aG.2 ⟨h,aA,A⟩),?_,?_⟩
   .rw[ti bA,Dg ay,bF,bF,bf,aW,Rc bn j];congr 1;unfold jz;refine CF ?_ λb r w=>?_
    .have:=dO List.length aS;simpa using this.symm
    .have o:(B.map Ev.n).reverse=(u.map λh=>h.e.n).reverse:=by rw[aS]
     rw[<-q_,<-q_]at o;have U:(u.map Bi.e).reverse.map Ev.n=B.reverse.map Ev.n:=by
      rw[o,<-q_,dZ];rfl
     have:=dO (λz=>z[b]?) U;simp only[gF,bR r,bR w,ey,dy]at this;simp only[this]
   .rw[mV,mw ay,lZ];have r:=bm a;unfold eT at r;rw[tt,j]at r;cases aV:look B a with
    |none=>rw[aV]at r;cases r
    |some q=>
     rw[aV]at r;refine⟨q,A,by simpa using r.symm,?_⟩;rw[bj q (jN aV).1,bl h aA];omega
  .rw[rY m,lZ]at y;obtain⟨b,p,a3,aJ⟩:=bq a i m;have br:=nP (k:=k) (v:=v) (n:=n) (t:=t) (ns:=ns) p (by rw[xx ba];simp) aJ;have Q:a∈d:=by
    rw[<-bi,my];exact⟨by rw[be.xu br,y];rfl,b,p,a3,aJ⟩
   have j:f a=h:=by have:=ai a Q;rw[y]at this;cases this;rfl
   obtain⟨bh,bJ,bK,a1,bL⟩:=ae a Q;have bO:g<=h.e.l:=KZ am ah.sh ah.is ah.lv a i h (by rw[n0,rY m,lZ,y]);have bP:h.e.l<=g+1:=aP.ge h (mv y).1;have bM:a∉B.map Ev.n:=λz=>m ((aC a).1 z);have bN:h.id∉ids u:=λz=>by
    obtain⟨q,G,F⟩:=aG.1 z;exact aT q G (F▸j▸bh)
   by_cases ab:h.e.l=g+1
   .have az:a∈J.map Ev.n:=(aH a D).2 ⟨Q,by rw[j];exact ab,m⟩;have bG:a∈d.filter λa=>decide ((f a).e.l=g+1):=ko.2 ⟨Q,by rw[j];simpa using ab⟩;have a7:h.id∈ids (bY g (d.map f)):=by
     rw[aI];exact aG.2 ⟨f a,aG.2 ⟨a,bG,A⟩,by rw[j]⟩
    refine⟨eN _ (eN _ a7),?_,?_⟩
    .rw[<-dM,<-dM,xt a7,Dh az];refine JX aW λb r w=>?_;have o:b<(d.filter λa=>decide ((f a).e.l=g+1)).length:=by rw[<-ar];exact w
     obtain⟨R,-⟩:=ko.1 (ax o);rw[aq b w o];have U:(ids (bY g (d.map f)))[b]=(f ((d.filter λa=>decide ((f a).e.l=g+1))[b])).id:=by
      simp only[aI,ids,eI]
     rw[U,V a D _ R,<-j];exact⟨λz=>⟨aU _ R _ Q z,m⟩,λz=>by rw[z.1]⟩
    .obtain⟨q,G⟩:=pU az;rw[mV,mV,G,Option.some_or,Option.some_or];obtain⟨a0,ak⟩:=jN G;obtain⟨b,p,rfl⟩:=dG a0;have o:b<(d.filter λa=>decide ((f a).e.l=g+1)).length:=by rw[<-ar];exact p
     obtain⟨R,-⟩:=ko.1 (ax o);rw[aq b p o]at ak;have aQ:=((V a D _ R).1 ak).1;refine⟨J[b],A,?_,?_⟩
     .rw[aq b p o,aQ,a1,j]
     .rw[aq b p o,ab];simp only;omega
   .have az:a∉J.map Ev.n:=λz=>ab (by have:=((aH a D).1 z).2.1;rwa[j]at this);have ay:a∈P.map Ev.n:=(aR a D).2 ⟨Q,by rw[j];exact ab,m⟩;have bp:h.id∉ids (bY g (d.map f)):=λz=>by
     obtain⟨q,G,bD,F⟩:=bc _ z;have:=aU q G a Q (by rw[F,j]);subst this;exact ab (by rw[<-j];exact bD)
    obtain⟨aZ,bu,a2⟩:=dG Q;have a8:h.id∈eM g I (d.map f) 0:=by
     have o:aZ<(d.map f).length:=by simpa using bu
     have U:aZ<(eM g I (d.map f) 0).length:=by rw[ua];exact o
     rcases yf g I (d.map f) 0 aZ o U with⟨z,-⟩|⟨-,z⟩
     .rw[eI,a2,j]at z;exact absurd z ab
     .rw[eI,a2,j]at z;rw[<-z];exact ax U
    refine⟨eN _ (eE _ a8),?_,?_⟩
    .rw[<-dM,<-dM,ti bp,Dg az,aW,xt a8,Dh ay];congr 1;refine JX bf λb r w=>?_;have o:b<d.length:=by rw[<-an];exact w
     rw[aE b w o];rcases yf g I (d.map f) 0 b (by simpa using o) r with⟨z,X,-,F⟩|⟨z,F⟩
     .rw[eI]at z;rw[F,aM z];exact⟨λq=>absurd (show I X=(f a).id by rw[j];exact q) (bv X a Q),λq=>absurd q.symm D⟩
     .rw[eI]at z;rw[F,av z,eI,V a D _ (ax o),<-j];exact⟨λq=>⟨aU _ (ax o) _ Q q,m⟩,λq=>by rw[q.1]⟩
    .obtain⟨q,G⟩:=pU ay;rw[mV,mV,mw az,lZ,G,Option.some_or];obtain⟨a0,ak⟩:=jN G;obtain⟨b,p,rfl⟩:=dG a0;have o:b<d.length:=by rw[<-an];exact p
     have aB:=aE b p o;rw[aB]at ak;split at ak
     .exact absurd ak.symm D
     .rename_i z;rw[av z]at aB;have aQ:=((V a D _ (ax o)).1 ak).1;refine⟨P[b],A,?_,?_⟩
      .rw[aB,aQ,a1,j]
      .rw[aB];simp only;omega
 .intro a i y;have D:=zt am ah.sh i;rw[n0,Option.or_eq_none_iff]at y;obtain⟨a6,bo⟩:=y;have m:a∉u.map λh=>h.e.n:=λz=>by
   obtain⟨q,-,j,-⟩:=vg z;rw[j]at a6;cases a6
  have bd:a∉d:=λz=>by have:=ai a z;rw[bo]at this;cases this
  rw[mV,mV,mw (λz=>bd ((aH a D).1 z).1),mw (λz=>bd ((aR a D).1 z).1),mw (λz=>m ((aC a).1 z))];rfl
def EB{v:Int}{a:Int}:cw a4 a5 (.mk 10 v dg go he [pi]) g6 a h=cw a4 a5 pi g6 a h:=by
 rw[cw,qQ,vP];simp
def U3{v:Int}{a:Nd}{e:Int}(b:fB a4 a5 (.mk 10 v dg go he [pi]) a i3 e):a.ep=(a.ks.headD a).ep:=by
 cases b with|mk i f g d h=>
 obtain⟨j,rfl⟩:=hP.1 d;rw[Nd.AO];simp[vB,gg,Nd.ks,Nd.t,Y.kd]
def getD_map{b:g1->m4}{a:List g1}(e:h<a.length)(d:m4):(a.map b).getD h d=b a[h]:=by exact Zg
def Wt{a v:Int}{d:BA}{bs g:aX}{f:Int}{b:List uz}{vs:aD}:x9 a4 a5 (.mk a v d go he hw) z2 bs g f g4 b vs h=
 if a=1 then(match z2 with|some z2=>dw (gf vs z2.id)|none=>.mk 11 (dh a5 d) [] [])
 else if a=9\/a=11 then lj (Core.mk (if a=9 then 9 else 10) 0 ((List.range' 1 (b.length-1)).map λe=>((a5.length+cj a g4 h e:Nat):Int)) [sg a d he bs g4 b vs h 0]) (g.map (mJ f vs))
 else .mk a (k5 a4 a v d) [] ((List.range b.length).map λe=>sg a d he bs g4 b vs h e):=rfl
def Mf{k:aw}{M:aF}{j v:Int}{t:BA}{z:O}{u:aK}{a:a_}{id:Nat}{I:O}{d:Int}{p:dv}{bs x:aX}{G:Option Bi}(Q:j=9\/j=11)(s:Cx k M (.mk j v t z u a) (.mk id (.mk j v t z u a) I d p bs G) x d){vs:aD}{B:Env}{aH:Int}(aB:Rl (.mk j v t z u a) x d vs B aH)
 (i:Nat) (hi:i<a.length) (ab:i<p.length) (P:0<i):
 ∃(r:Y)(y:Nd)(o:aX),(y,o)=(if j=9 then(p[i].ks.headD p[i],p[i].bs)else(p[i],[]))/\(if j=9 then∃F q C m,a[i]=.mk 10 F q C m [r]else r=a[i])/\Y.kd r≠10/\Cx k M r y (x++o) d/\
  (∀b∈o,b.id∈(Nd.mk id (.mk j v t z u a) I d p bs G).ids)/\(∀J∈y.ids,J∈(Nd.mk id (.mk j v t z u a) I d p bs G).ids)/\(gy k a[i]).length=o.length/\
  ∀V:Nat->Nat,(∀J,∀b∈(Nd.mk id (.mk j v t z u a) I d p bs G).cap,V J≠b.id)->(∀J,V J∉ids o)->Rl r (x++o) d (ids o++(eM d V (Nd.mk id (.mk j v t z u a) I d p bs G).cap 0++ids (bY d (Nd.mk id (.mk j v t z u a) I d p bs G).cap))) (hW (gy k a[i]) ((bz a B).filterMap (look B)) aH) 0:=by
 have ah:=s.sh;have aA:∀y∈p,∀i∈y.ids,i∈(Nd.mk id (.mk j v t z u a) I d p bs G).ids:=λy hy i hi=>by
  exact HD
 obtain⟨r,y,o,K,aI,aJ,aL,-,g⟩:=Jo Q s.sh (λh i hi P=>(s.sh.case i hi).2 ⟨h,P⟩) s.is s.ap i hi ab P;obtain⟨ar,aP⟩:=yV Q s.sh (λh i hi P=>(s.sh.case i hi).2 ⟨h,P⟩) s.is s.ap λf D=>aB.xu D
 let am:ByteArray->Bi:=λf=>(cE x f).getD ⟨0,⟨nE,js,0⟩⟩
 let an:ByteArray->Ev:=λf=>(look B f).getD ⟨nE,js,0⟩
 have ay:∀f∈bz a B,cE x f=E (am f):=λf D=>by
  have:=aP f D;obtain⟨b,hb⟩:=pk.1 this;simp[am,hb]
 have az:∀f∈bz a B,look B f=E (an f):=λf D=>by
  obtain⟨b,hb⟩:=pk.1 (my.1 D).1;simp[an,hb]
 rw[qt ay]at ar;rw[qt az];have ae:eS k M a[i] (x.map Bi.e) d:=by
  have:=(tv.1 s.lv).2.2 i hi;have W:b8 k M j t z u a (x.map Bi.e) d i=x.map Bi.e:=by rcases Q with rfl|rfl<;>simp[b8,cV]
  have X:bL j d=d:=by rcases Q with rfl|rfl<;>simp[bL]
  rwa[W,X]at this
 have aR:Y.kd r≠10:=by
  split at g
  .obtain⟨F,q,C,m,h,-⟩:=g;have aC:=ah.cM _ (ax hi);rw[h]at aC;have:=aC.case 0 Zs;simp only[fO]at this;rw[Ne,this];simp
  .rename_i w;rw[g.1,Ne,ah.case i hi];exact λh=>w h.1
 have aq:∀b∈o,b.e.l=d:=λb hb=>by
  split at g
  .obtain⟨F,q,C,m,-,h,-⟩:=g;have:b.e∈cL k q m d:=by rw[<-h];exact aG.2 ⟨b,hb,A⟩
   simp only[cL,aG]at this;obtain⟨S,-,B⟩:=this;rw[<-B]
  .rw[g.2]at hb;cases hb
 have U:(∀f,eT (o.map Bi.e) f=eT (gy k a[i]) f)/\(gy k a[i]).map Ev.n=o.map (λb=>b.e.n)/\∀v∈gy k a[i],v.l=0:=by
  split at g
  .obtain⟨F,q,C,m,h,R,ak⟩:=g;have Z:gy k a[i]=cL k q m 0:=by rw[h];simp[gy]
   rw[Z];refine⟨λf=>by rw[R];exact(wZ k q m d 0 f).2,?_,λv aE=>?_⟩
   .rw[(wZ k q m 0 d nE).1,<-R,dZ];rfl
   .simp only[cL,aG]at aE;obtain⟨S,-,B⟩:=aE;rw[<-B]
  .rename_i w;have Z:gy k a[i]=[]:=by
    have:Y.kd a[i]≠10:=by rw[Ne,ah.case i hi];exact λh=>w h.1
    generalize a[i]=S at this;obtain⟨aW,aY,aZ,a0,a1,a2⟩:=S;simp only[Y.kd]at this;simp[gy,this]
   rw[Z,g.2];simp
 have au:Cx k M r y (x++o) d:=by
  refine⟨aL,aI,aJ,?_,λb hb=>?_⟩
  .split at g
   .obtain⟨F,q,C,m,h,R,ak⟩:=g;rw[h,tv]at ae;have:=ae.2.2 0 Zs;simp only[fO]at this;have W:b8 k M 10 q C m [r] (x.map Bi.e) d 0=(x++o).map Bi.e:=by simp[b8,cV,er,R]
    have X:bL 10 d=d:=by simp[bL]
    rwa[W,X]at this
   .rw[g.1,g.2,c_];exact ae
  .rcases cg.1 hb with hb|hb
   .exact s.ge b hb
   .have:=aq b hb;omega
 have aO:∀b∈o,b.id∈(Nd.mk id (.mk j v t z u a) I d p bs G).ids:=λb hb=>by
  split at g
  .rename_i w;rw[aM w]at K;have:=(Prod.mk.inj K).2;refine aA _ (ax ab) _ ?_;rw[Nd.kx,<-this];exact FX
  .rw[g.2]at hb;cases hb
 have aV:∀J∈y.ids,J∈(Nd.mk id (.mk j v t z u a) I d p bs G).ids:=λJ L=>by
  refine aA _ (ax ab) _ ?_;by_cases w:j=9
  .rw[aM w]at K;rw[(Prod.mk.inj K).1]at L;cases ai:p[i].ks with
   |nil=>rw[ai]at L;exact L
   |cons S a4=>
    rw[ai]at L;rw[Nd.kx,ai];exact np _ (eN _ (ft.2 ⟨S.ids,Zs,L⟩))
  .rw[av w]at K;rw[(Prod.mk.inj K).1]at L;exact L
 have aQ:∀f,fv r [] f->f∉o.map (λb=>b.e.n)->∃(i:Nat)(a3:i<a.length),0<i/\fv a[i] [] f:=λf D aS=>by
  refine⟨i,hi,P,?_⟩;split at g
  .obtain⟨F,q,C,m,h,R,ak⟩:=g;rw[h];exact nP (i:=0) Zs (by rw[show bN 10 q m 0=m by simp[bN],<-ak];exact aS) D
  .rw[<-g.1];exact D
 have aN:if j=9 then∃F q C m,a[i]=.mk 10 F q C m [r]else r=a[i]:=by
  split at g
  .rename_i w;rw[aM w];obtain⟨F,q,C,m,h,-⟩:=g;exact⟨F,q,C,m,h⟩
  .rename_i w;rw[av w];exact g.1
 rw[ar];exact⟨r,y,o,K,aN,aR,au,aO,aV,by have:=dO List.length U.2.1;simpa using this,λV aT aU=>Rl.root Q s aB ay az (λh f D=>aT h _ (aG.2 ⟨f,D,A⟩)) au aq U.1 U.2.1 U.2.2 aU aQ⟩
def ED{ab:aw}{ds:aF}(w:Nat->b5)(aV:∀h a ay,w h a=w h ay->a=ay):∀(o:Y){F:Nd}{x:aX}{s:Int}{vs:aD}{g:Env}{p:Int}(t:Nat),Y.kd o≠10->Cx ab ds o F x s->Rl o x s vs g p->
 (∀h a,w h a∉F.ids/\w h a∉ids x)->iW ab ds F vs t=(cw ab ds o g p t).1/\oG ab ds w F.ep t=(cw ab ds o g p t).2
 |.mk f v r o u d,F,x,s,vs,g,p,t,au,D,O,M=>by
  have au:f≠10:=au;have R:=D.sh;obtain⟨id,I,j,bs,C,rfl,Z,bb⟩:∃id I j bs C,F=.mk id (.mk f v r o u d) I s j bs C/\j.length=d.length/\C=if f=1 then cE x r else aa:=by
   cases D.is with|mk bu hb br Z bt=>exact⟨_,_,_,_,_,A,Z,hb⟩
  have aq:j.map Nd.aZ=d.map Y.aZ:=by
   refine p7 (by simp[Z]) λa K aC=>?_;have hi:a<d.length:=by simpa using aC
   rw[eI,eI];exact B8 d[a] (D.cM a hi (by simpa using K)).is
  have bh:∀y∈j,∀a∈y.ids,a∈(Nd.mk id (.mk f v r o u d) I s j bs C).ids:=λy hy a hi=>by
   exact HD
  have bg:∀b∈bs,b.id∈(Nd.mk id (.mk f v r o u d) I s j bs C).ids:=λb hb=>by
   rw[Nd.kx];exact FX
  have aQ:∀(P:aX),(∀b∈P,b.id∈(Nd.mk id (.mk f v r o u d) I s j bs C).ids)->∀h a,w h a∉ids (x++P):=λP a_ h a q=>by
   rw[ids,bC]at q;rcases cg.1 q with q|q
   .exact(M h a).2 q
   .obtain⟨b,hb,g⟩:=aG.1 q;exact(M h a).1 (g▸a_ b hb)
  have a0:∀(a:Nat)(hi:a<d.length)(k:Y),(k=d[a]\/∃am ae ak ah,d[a]=.mk 10 am ae ak ah [k])->∀{F:Nd}{x:aX}{s:Int}{vs:aD}{g:Env}{p:Int}(t:Nat),Y.kd k≠10->Cx ab ds k F x s->Rl k x s vs g p->
   (∀h a,w h a∉F.ids/\w h a∉ids x)->iW ab ds F vs t=(cw ab ds k g p t).1/\oG ab ds w F.ep t=(cw ab ds k g p t).2:=λa hi k bc=>ED w aV k
  have aT:∀(a:Nat)(hi:a<d.length)(z:a<j.length)(S:Nat),¬gg f a->iW ab ds j[a] (if bN f r u a=[]then vs else vs++ids bs) S=(cw ab ds d[a] (b8 ab ds f r o u d g p a) (bL f p) S).1/\oG ab ds w j[a].ep S=(cw ab ds d[a] (b8 ab ds f r o u d g p a) (bL f p) S).2:=λa hi z S L=>by
   refine a0 a hi _ (.inl A) S ?_ (D.cM a hi z) (O.cM D au a hi z) λh q=>⟨λG=>(M h q).1 (bh _ (ax z) _ G),aQ _ (by split;exact bg;simp) h q⟩;rw[Ne,R.case a hi];exact λq=>L ⟨.inl q.1,q.2⟩
  have bm:∀(B:f=9\/f=11)(a:Nat)(hi:a<d.length)(z:a<j.length)(h:Nat),0<a->
   (Nd.mk id (.mk f v r o u d) I s j bs C).bE[a-1]?.toList.map (λai=>lK ab ds (ai.1,ai.2,Nd.mk id (.mk f v r o u d) I s j bs C) (w h) (h+1))=[p4 ab d g p a (cw ab ds d[a] (hW (gy ab d[a]) ((bz d g).filterMap (look g)) p) 0 (h+1)).1]/\
   oG ab ds w j[a].ep (h+1)=(cw ab ds d[a] (hW (gy ab d[a]) ((bz d g).filterMap (look g)) p) 0 (h+1)).2:=λB a hi z h V=>by
   obtain⟨k,y,P,U,W,bj,bd,aO,bo,ba,aY⟩:=Mf B D O a hi z V;obtain⟨X,aE⟩:=yV B R (λq a hi V=>(R.case a hi).2 ⟨q,V⟩) D.is D.ap λi m=>O.xu m
   let J:ByteArray->Bi:=λi=>(cE x i).getD ⟨0,⟨nE,js,0⟩⟩
   let aB:ByteArray->Ev:=λi=>(look g i).getD ⟨nE,js,0⟩
   have Q:∀i∈bz d g,cE x i=E (J i):=λi m=>by
    have:=aE i m;obtain⟨b,hb⟩:=pk.1 this;simp[J,hb]
   have ar:∀i∈bz d g,look g i=E (aB i):=λi m=>by
    obtain⟨b,hb⟩:=pk.1 (my.1 m).1;simp[aB,hb]
   rw[qt Q]at X;rw[qt ar];rw[X,qt ar]at aY;have a2:k=d[a]\/∃am ae ak ah,d[a]=.mk 10 am ae ak ah [k]:=by
    split at W
    .exact .inr W
    .exact .inl W
   have bl:=aY (w h) (λq b hb G=>(M h q).2 (by
    obtain⟨i,m,rfl⟩:=aG.1 hb;exact G▸aG.2 ⟨_,(mv (Q i m)).1,A⟩)) (λq G=>by
    obtain⟨b,hb,g⟩:=aG.1 G;exact(M h q).1 (g▸aO b hb))
   have aS:=a0 a hi k a2 (h+1) bj bd bl λh q=>⟨λG=>(M h q).1 (bo _ G),aQ P aO h q⟩;have bn:∀az:Env,cw ab ds d[a] az 0 (h+1)=cw ab ds k az 0 (h+1):=λaz=>by
    rcases a2 with q|⟨am,ae,ak,ah,q⟩
    .rw[q]
    .rw[q,EB]
   rw[bn,<-aS.1,<-aS.2];have be:(Nd.mk id (.mk f v r o u d) I s j bs C).bE[a-1]?=E (y,P):=by
    show((j.drop 1).map λk=>if f=9 then(k.ks.headD k,k.bs)else(k,[]))[a-1]?=_;rw[gF,List.getElem?_drop,show 1+(a-1)=a by omega,bR z,ey,U]
   refine⟨?_,?_⟩
   .rw[be];simp only[Option.toList_some,bp,cB,vZ,fa];have a':(Nd.mk id (.mk f v r o u d) I s j bs C).l=s:=A;unfold lK p4;simp only[a',X];have a9:((d[a]?.map (gy ab)).getD [])=gy ab d[a]:=by rw[bR hi];rfl
    rw[a9,qt ar,ba,bW,bW];congr 2;have aP:∀b∈(bz d g).map J,b.id∈ids x:=λb hb=>by
     obtain⟨i,m,rfl⟩:=aG.1 hb;exact aG.2 ⟨_,(mv (Q i m)).1,A⟩
    have L:=zq s (w h) (aV h) ((bz d g).map J).length ((bz d g).map J) (ids P) 0 0 (λb hb q G=>(M h q).2 (G▸aP b hb)) Zs;rw[bW]at L;have bf:(((bz d g).map J).map λb=>decide (b.e.l=s+1))=((bz d g).map aB).map λv=>decide (v.l=p+1):=by
     rw[dZ,dZ];refine gX λi m=>?_;obtain⟨ay,aJ,-,aH⟩:=(my.1 m).2;obtain⟨-,-,aK,an,a6,a7⟩:=O.get i (nP aJ (by rw[xx B];simp) aH) _ (Q i m);rw[ar i m]at an;cases an;simp only[vY];exact jh.2 Zo
    rw[bf]at L;rw[<-L];refine gX λq aW=>?_;have aW:q<(bY s ((bz d g).map J)).length:=by simpa using aW
    rw[ek,ti]
    .have:((ids (bY s ((bz d g).map J))).take q).length=q:=by simp[ids];omega
     rw[this]
    .intro G;obtain⟨b,hb,a4⟩:=aG.1 (p9 G);exact(M h q).2 (a4▸aP b (ko.1 hb).1)
   .by_cases a3:f=9
    .rw[aM a3]at U W;obtain⟨am,ae,ak,ah,q⟩:=W;have aR:=(D.cM a hi z).is;rw[q]at aR;rw[U3 aR,(Prod.mk.inj U).1]
    .rw[av a3]at U;rw[(Prod.mk.inj U).1]
  have aL:∀a,a<d.length->jf ab ds f r o u d (d.map Y.aZ) (d.map (cw ab ds)) g p t a=if bq:a<d.length then(if gg f a then cw ab ds d[a] (hW (gy ab d[a]) ((bz d g).filterMap (look g)) p) 0 (cj f (d.map Y.aZ) t a+1)else cw ab ds d[a] (b8 ab ds f r o u d g p a) (bL f p) (cj f (d.map Y.aZ) t a))else(dw 0,[]):=λa hi=>by
   rw[dif_pos hi,jf,getD_map hi,bR hi];rfl
  have aN:∀a(hi:a<d.length),¬gg f a->sg f r u bs (d.map Y.aZ) (j.map (iW ab ds)) vs t a=(jf ab ds f r o u d (d.map Y.aZ) (d.map (cw ab ds)) g p t a).1:=λa hi L=>by
   rw[aL a hi,dif_pos hi,av L,sg,getD_map Zo];exact(aT a hi Zo _ L).1
  rw[iW,Wt,A0,Nd.px,aq,cw,qQ,vP,Y.px,av au];refine⟨?_,?_⟩
  .simp only[bW,Z];by_cases aA:f=1
   .subst aA;rw[aM A,aM A,bb,aM A];have m:fv (.mk 1 v r o u d) [] r:=by rw[fv];exact .inl ⟨A,A,Zs⟩
    unfold lx;cases aU:cE x r with
    |none=>rw[O.no r m aU];rfl
    |some b=>
     obtain⟨-,K,aK,aC,-⟩:=O.get r m b aU;rw[aC,<-K];rfl
   .rw[av aA,av aA];by_cases B:f=9\/f=11
    .rw[aM B,aM B];have bk:0<d.length:=by
      have:=R.len;rcases B with rfl|rfl<;>simp[a1,cN]at this<;>omega
     rw[aN 0 bk (λq=>by have:=q.2;omega)];congr 1;obtain⟨X,aE⟩:=yV B R (λq a hi V=>(R.case a hi).2 ⟨q,V⟩) D.is D.ap λi m=>O.xu m;have Q:∀i∈bz d g,cE x i=E ((cE x i).getD ⟨0,⟨nE,js,0⟩⟩):=λi m=>by
      obtain⟨b,hb⟩:=pk.1 (aE i m);simp[hb]
     rw[X,qt Q,dZ];refine gX λi m=>?_;obtain⟨ay,aJ,-,aH⟩:=(my.1 m).2;obtain⟨-,K,aK,an,a6,a7⟩:=O.get i (nP aJ (by rw[xx B];simp) aH) _ (Q i m);have bi:(aK.l=p+1)↔(((cE x i).getD ⟨0,⟨nE,js,0⟩⟩).e.l=s+1):=Zo;simp only[vY,mJ,lJ,lx,an,Option.any_some,lY,aI,cO,bi,K]
    .rw[av B,av B];congr 1;refine gX λa hi=>?_;exact aN a (by simpa using hi) λq=>B q.1
  .rw[OA];show((List.range j.length).map λa=>(if gg f a then _ else[])++_).flatten=_;simp only[bW,Z];congr 1;refine gX λa hi=>?_;have hi:a<d.length:=by simpa using hi
   have z:a<j.length:=Zo;rw[aL a hi,dif_pos hi];have a5:(((Nd.mk id (.mk f v r o u d) I s j bs C).ks[a]?.map Nd.ep).getD [])=j[a].ep:=by
    show((j[a]?.map Nd.ep).getD [])=_;rw[bR z];rfl
   rw[a5];show(if gg f a then _ else[])++oG ab ds w j[a].ep (cj f (j.map Nd.aZ) t a+e8 f a)=_;rw[od];by_cases k:gg f a
   .simp only[aM k];have:=bm k.1 a hi z (cj f (d.map Y.aZ) t a) k.2;rw[<-this.1,<-this.2,aq];show List.map (λai:Nd×aX=>lK ab ds (ai.1,ai.2,_) (w (cj f (j.map Nd.aZ) t a)) (cj f (j.map Nd.aZ) t a+1)) _++_=_;rw[aq]
   .simp only[av k,a8,kL];rw[aq];exact(aT a hi z _ k).2
termination_by o=>o
decreasing_by
 have K:=cH (ax hi);rcases bc with q|⟨_,_,_,_,q⟩
 .rw[q];simp;omega
 .rw[q]at K;simp at K⊢;omega
def jC(p:Nd×aX)(b:Bi):Bool:=!((p.2++p.1.cD).any λa=>a.id==b.id)
def oJ(l:List (Nd×aX))(o:aX):aX:=l.foldl (λo p=>((p.1.eG []).filter (jC p)).foldl d_ o) o
def yU(a:Nd):a.cap=oJ a.bE []:=by
 unfold Nd.cap oJ;rw[CP,List.foldl_map];rfl
def Dn:∀(d a:aX),(d.foldl d_ a).length<=a.length+d.length
 |[],a=>by simp
 |b::d,a=>by
  rw[iZ];have:=Dn d (d_ a b);have e:(d_ a b).length<=a.length+1:=by unfold d_;split<;>simp
  simp only[di];omega
def wP{n:Nat}:∀(d:List (Nd×aX))(b:aX),(∀a∈d,a.1.num<=n)->(oJ d b).length<=b.length+d.length*n
 |[],b,_=>by simp[oJ]
 |a::d,b,e=>by
  unfold oJ;rw[iZ];have f:=wP d (((a.1.eG []).filter (jC a)).foldl d_ b) λi h=>e i (by simp[h]);unfold oJ at f;have j:=Dn ((a.1.eG []).filter (jC a)) b;have k:((a.1.eG []).filter (jC a)).length<=(a.1.eG []).length:=nl _ _;have g:=Nd.xL a.1 [];have l:=e a Zs;simp only[gG,ek]at g;rw[di,p'];omega
def w_{a:Nd}(k:uu a):∀e∈a.bE,e.1.num<=a.num/\e.2.length<=a.num:=by
 intro e h;unfold Nd.bE at h;obtain⟨b,g,rfl⟩:=aG.1 h;have m:=(@Nd.lS a).2.2 b (ra g);rcases k with⟨d,-⟩|⟨d,-,j⟩
 .rw[av (by rw[d];decide)];exact⟨by simp only;omega,Zs⟩
 .rw[aM d];obtain⟨l,i⟩:=j b g;have f:=@Nd.lS b;have o:=f.2.2 l (by rw[i];simp);simp only[i,qZ];exact⟨Zo,by have:=f.2.1;omega⟩
def Dq(a:Nd)(b:Bi)(C:0<=a.l)(D:a.l<=1048576):au 138 [a.d,b.d] (B (decide (b.e.l=a.l+1))):=by
 obtain⟨i,j,m,o,p,q,r,t,u,w,k,F,G,I,g⟩:=Nd.xN a;obtain⟨x,y,z,A,f⟩:=Bi.xN b;have h:IntKind.i64.wrap (a.l+1)=a.l+1:=cW _ Zo;refine Sp.s [] [.tmp 4] func138 ntmps138 ?_;refine b7 ?_;simp only[g,f,h,go_sem];exact Fz.bool (by rw[nk];simp)
def Lf(l:aX)(F:l.length<=1099511627776):au 190 [cT l] (.sl 1 (aq S (l.map λb=>b.e.n))):=by
 have r:cy aB 60=E (9,1,16):=Zk;refine Sp.e [1000018] [.tmp 2] func190 ntmps190 ?_;simp only[cT,dC Bi.d l,go_sem];refine bq 8 l.length (λh=>Fw.cK 21 [(6,.sl 1 (aq Bi.d l)),(7,I l.length)] λk o J q=>aH [18] o 9 1 (aq S ((l.take h).map λb=>b.e.n)) (k 3)) A ⟨A,by simp[af,ba],.inl ⟨A,A⟩⟩ ?_;rintro h k o K q x G i;obtain⟨O,j⟩:=Zx (k 3);rw[j]at i;simp only[go_sem];refine aT (λg=>?_) λg=>?_
 .have m:=bh g;have p:=hX (f:=Bi.d) m;obtain⟨y,z,B,C,s⟩:=Bi.r9 l[h];rw[s]at p;simp only[g,j,p,go_sem];refine GK.intro (mI (S:=[18]) (f:=S) (l:=(l.take h).map λb=>b.e.n) (a:=l[h].e.n) r (by simp only[af,aI,aV,aP,bT,bU,reduceCtorEq];exact i.congr bJ) ga A de Zd ?_);intro w L M u D;simp only[go_sem];refine bg m ⟨A,by simp[af],?_⟩;rw[ch m,bC];simpa[af]using u
 .have t:=bS g;subst t;rw[b9]at i;simp only[g,j,go_sem];exact kE i λP _=>aO _
def OX(m:Nd)(W:uu m)(aY:m.num<=1048576):au 188 [m.d] (cT m.cap):=by
 have aW:=(@Nd.lS m).1;have ah:=Jm m W Zo;have O:=w_ W;have aQ:m.bE.length<=1048576:=by have:=s4 m;omega
 have a1:=Nd.cl m;rw[yU];generalize m.bE=l at*;have ae:(aq Nd.d (l.map Prod.fst)).length=l.length:=by simp[aq]
 have Z:cy aB 216=E (217,1,8):=Zk;refine Sp.s [1000051] [.tmp 2] func188 ntmps188 ?_;refine bw ah ?_;simp only[ae,go_sem];refine bq 18 l.length (λh=>Fw.cK 55 [(5,.sl 1 (aq cT (l.map Prod.snd))),(16,.sl 1 (aq Nd.d (l.map Prod.fst))),(17,I l.length)] λp q n x=>aH [51] q 217 1 (aq Bi.d (oJ (l.take h) [])) (p 3)) A ⟨A,by simp[af,ba],.inl ⟨A,A⟩⟩ ?_;rintro h p q X x Y a0 i;obtain⟨aC,j⟩:=Zx (p 3);rw[j]at i;simp only[go_sem];refine aT (λk=>?_) λk=>?_
 .have t:=bh k;have z:(aq Nd.d (l.map Prod.fst))[h]?=E [Nd.d l[h].1]:=by simp[aq,t]
  have B:(aq cT (l.map Prod.snd))[h]?=E [cT l[h].2]:=by simp[aq,t]
  obtain⟨R,Q⟩:=O _ (ax t);have M:=wP (n:=1048576) (l.take h) [] λG F=>by have:=(O G (p9 F)).1;omega
  have ay:(l.take h).length<=1048576:=by rw[fP];omega
  have aO:(l.take h).length*1048576<=1048576*1048576:=ui _ ay;have C:oJ (l.take (h+1)) []=((l[h].1.eG []).filter (jC l[h])).foldl d_ (oJ (l.take h) []):=by
   rw[ch t];unfold oJ;rw[kn];rfl
  generalize aL:oJ (l.take h) []=o at*;obtain⟨⟨e,f⟩,F⟩:∃G,G=l[h]:=⟨_,A⟩;rw[<-F]at z B R Q C;simp only at z B R Q C;have aR:=Nd.vb e;have ap:=Nd.xL e [];simp only[gG,ek]at ap;have ai:=inner e Zo;have am:=(DT e Zo [] de).Em.sp (e_ _);have L:=IK [f,e.cD] Zs de;simp only[dN,fX,c_]at L;have ar:=λy=>y5 (f++e.cD) y kO;have u:∀l,Cl (.sl 1 (aq Bi.d l)):=λl=>ed λe _=>Bi.cl e;simp only[k,z,go_sem];refine cX [] [] ?_;simp only[B,cT,go_sem];refine bO ai ?_;refine fm [29] L (.c (Fz.rows (ob:=⟨X 29,216,1,[.sl 1 (aq Bi.d f),.sl 1 (aq Bi.d e.cD)],aa⟩) (by simp[bi,aj]) A A Zd A (e_ _) (by simp[aq]) (by simp[aq,-cI];exact⟨u _,u _⟩)) .n) (u _) ?_;simp only[go_sem];refine bw am ?_;generalize aZ:e.eG []=b at*;simp only[go_sem];refine bq 34 b.length (λg=>Fw.cK 55 [(5,.sl 1 (aq cT (l.map Prod.snd))),(16,.sl 1 (aq Nd.d (l.map Prod.fst))),(17,I l.length),(18,I h),(8,.sl 1 (aq Bi.d (f++e.cD))),(32,.sl 1 (aq Bi.d b)),(33,I b.length)] λp q n x=>aH [51] q 217 1 (aq Bi.d (((b.take g).filter (jC (e,f))).foldl d_ o)) (p 3)) A
   ⟨A,by simp[af],by simpa[af,j]using i.congr (by simp[aj,aN])⟩ ?_
  clear i j;rintro g p q X x Y aX i;obtain⟨aC,j⟩:=Zx (p 3);rw[j]at i;simp only[go_sem];refine aT (λk=>?_) λk=>?_
  .have r:=bh k;have ab:=hX (f:=Bi.d) r;have az:(b.take (g+1)).filter (jC (e,f))=(b.take g).filter (jC (e,f))++(if jC (e,f) b[g]=ad then[b[g]]else[]):=by
    rw[ch r,List.filter_append,List.filter_cons];rfl
   have D:((b.take (g+1)).filter (jC (e,f))).foldl d_ o=(if jC (e,f) b[g]=ad then d_ (((b.take g).filter (jC (e,f))).foldl d_ o) b[g]else((b.take g).filter (jC (e,f))).foldl d_ o):=by
    rw[az,kn];split<;>rfl
   have aS:=Dn ((b.take g).filter (jC (e,f))) o;have aU:((b.take g).filter (jC (e,f))).length<=b.length:=fY (nl _ _) (by rw[fP];omega);have an:=λy=>y5 (((b.take g).filter (jC (e,f))).foldl d_ o) y (by unfold ao;simp at M;omega);generalize ((b.take g).filter (jC (e,f))).foldl d_ o=U at*;simp only[k,ab,go_sem];refine hU (ar b[g]) (.c (u _) (.c (Bi.cl _) .n)) ?_;cases P:(f++e.cD).any λJ=>J.id==b[g].id with
   |true=>
    have w:jC (e,f) b[g]=al:=by unfold jC;simp only[P];rfl
    simp only[go_sem];refine bg r ⟨A,by simp[af],?_⟩;rw[D,w];simpa[af,j]using i
   |false=>
    have w:jC (e,f) b[g]=ad:=by unfold jC;simp only[P];rfl
    simp only[j,go_sem];refine wO (an b[g]) (.c (kE (i.congr Zs) λ_ _=>Bi.cl _) (.c (.cl _ (Bi.cl _)) .n)) A ?_;cases V:U.any λJ=>J.id==b[g].id with
    |true=>
     simp only[go_sem];refine bg r ⟨A,by simp[af],?_⟩;rw[D,w,aM A,show d_ U b[g]=U from aM V];simpa[af,j]using i
    |false=>
     obtain⟨aE,aF,aG,aJ,K⟩:=Bi.r9 b[g];simp only[j,K,go_sem];refine GK.intro (mI (S:=[51]) (f:=Bi.d) (l:=U) (a:=b[g]) Z (by simp only[af,aI,aV,aP,bT,bU,reduceCtorEq];exact i.congr bJ) (by simp[af,cF,aj,K]) (Bi.one _) (by simp at M;omega) Zd ?_);intro aD a2 a3 aA aK;simp only[go_sem];refine bg r ⟨A,by simp[af],?_⟩;rw[D,w,aM A,show d_ U b[g]=U++[b[g]]from av (by rw[V];simp)];simpa[af]using aA
  .have ak:=bS k;subst ak;rw[b9]at i;simp only[k,go_sem];exact bg t ⟨A,by simp[af],by rw[C];simpa[af,j]using i⟩
 .have aw:=bS k;subst aw;rw[b9]at i;simp only[k,j,go_sem];exact kE i λe _=>Bi.cl e
def CH(x:Nd)(a:List (Nat->List (Nd×aD)))(m:Nat):List (Nd×aD):=
 (if Y.kd x.t=9\/Y.kd x.t=11 then[(x,(List.range' 1 (a.length-1)).map (cj (Y.kd x.t) (x.ks.map Nd.aZ) m))]else[])++
  ((List.range a.length).map λi=>a.getD i (λ_=>[]) (cj (Y.kd x.t) (x.ks.map Nd.aZ) m i+e8 (Y.kd x.t) i)).flatten
mutual
def Nd.eR:Nd->Nat->List (Nd×List Nat)
 |.mk id t ty l ks bs b=>CH (.mk id t ty l ks bs b) (Nd.zk ks)
def Nd.zk:List Nd->List (Nat->List (Nd×List Nat))
 |[]=>[]
 |c::cs=>Nd.eR c::Nd.zk cs
end
def Nd.Jc:∀a:dv,Nd.zk a=a.map Nd.eR
 |[]=>rfl
 |c::b=>by rw[Nd.zk,Nd.Jc b];rfl
def Nd.Qa(a:Nd)(b:Nat):a.eR b=CH a (a.ks.map Nd.eR) b:=by cases a;rw[Nd.eR,Nd.Jc];rfl
def jy(x:Nd)(m q:Nat):List (Nd×aD):=((List.range q).map λi=>((x.ks[i]?).map λc=>c.eR (cj (Y.kd x.t) (x.ks.map Nd.aZ) m i+e8 (Y.kd x.t) i)).getD []).flatten
def fA(x:Nd)(q:Nat):List Rt:=(((x.ks.map Nd.ep).mapIdx λi r=>(if gg (Y.kd x.t) i then(x.bE[i-1]?).toList.map λp=>((p.1,p.2,x):Rt)else[])++r).take q).flatten
def oR(a:Nd)(d:Nat):a.eR d=(if Y.kd a.t=9\/Y.kd a.t=11 then[(a,(List.range' 1 (a.ks.length-1)).map (cj (Y.kd a.t) (a.ks.map Nd.aZ) d))]else[])++jy a d a.ks.length:=by
 rw[Nd.Qa,CH,jy,bW];congr 2;refine gX λe b=>?_;have b:e<a.ks.length:=by simpa using b
 rw[getD_map b,bR b];rfl
def AN(a:Nd):a.ep=fA a a.ks.length:=by
 rw[Nd.AO,vB,fA,cU Zs]
def wY{a:Nd}(b:V<a.ks.length):jy a h (V+1)=jy a h V++(a.ks[V]).eR (cj (Y.kd a.t) (a.ks.map Nd.aZ) h V+e8 (Y.kd a.t) V):=by
 rw[jy,wc,bC,fN,bp,cB,bR b];simp[jy]
def xZ{a:Nd}(d:h<a.ks.length):fA a (h+1)=fA a h++((if gg (Y.kd a.t) h then(a.bE[h-1]?).toList.map λb=>((b.1,b.2,a):Rt)else[])++(a.ks[h]).ep):=by
 rw[fA,ch (by simpa using d),fN];simp[fA]
def AQ(a:Nd):fA a 0=[]:=by simp[fA]
def zl(b:Nd)(a:Nat):jy b a 0=[]:=by simp[jy]
def tR(a:Nd)(b d:Nat):b+(fA a d).length=cj (Y.kd a.t) (a.ks.map Nd.aZ) b d:=by
 unfold fA cj;rw[yi,kK,Eh a _ Zs,dZ];congr 4;exact gX λe _=>vA e
def Ei(a:Nd){q:Nat}:(fA a q).length<=a.aZ:=by
 have b:=tR a 0 q;rw[Nd.l_];unfold cj at b;have:((gu (Y.kd a.t) (a.ks.map Nd.aZ)).take q++(gu (Y.kd a.t) (a.ks.map Nd.aZ)).drop q).sum=_+_:=sB;rw[lb]at this;omega
def Iy{b e:Nd}(d:Y.kd b.t=10)(a:b.ks=[e])(f:Nat):b.eR f=e.eR f/\b.ep=e.ep/\b.aZ=e.aZ:=by
 refine⟨?_,?_,?_⟩
 .rw[oR,d,a];simp[jy,a,d,cj,gu,e8]
 .rw[AN,a];simp[fA,a,d,gg]
 .rw[Nd.l_,d,a];simp[gu,e8]
def CI:∀(b:Nd)(a:Nat),∀e∈b.eR a,e.1.id∈b.ids:=λb a e d=>by
 have h:∀f∈b.ks,∀a,∀e∈f.eR a,e.1.id∈f.ids:=λf g a=>CI f a;rw[oR]at d;rw[Nd.kx];rcases cg.1 d with d|d
 .exact Zg
 .unfold jy at d;exact Zg
termination_by b=>b
decreasing_by exact Nd.lt g
def kP(b:Nat):aE:=.pointer (E ⟨b,0,aa⟩)
abbrev lE(n:Nat):D:=I (n:Int)
abbrev i_:=Nat×Nd×aD
def dJ(r:i_):D:=.pa r.1 [r.2.1.d,cT r.2.1.cap,.sl 1 (aq lE r.2.2)]
variable {a3:DL}
def Ui(b:∀a∈a3,Cl a):Cl (.pa h a3):=.pa _ _ λe a d=>b a (eg d)
def zj(a:i_):Cl (dJ a):=Ui (eO.all (.c (Nd.cl _) (.c (oH _) (.c (ed λ_ _=>aO _) Zc))))
def Nd.IV(a:Nd):∃b,a.d=.pa a.id b:=by obtain⟨f,h,i,b,g,bs,e⟩:=a;exact⟨_,by rw[Nd.d];rfl⟩
def wj(T:cb)(H:bt)(b:Nat)(c:D):Prop:=
 (∃q l r,c=.pa q (.pa b l::r)/\Cl c)\/∃t g ob l r,T t/\c=.rf t g 0/\H t=E ob/\ob.gen=g/\ob.keys=aa/\ob.cells=.pa b l::r/\Cl (.pa b l)
variable {sm:cb}{ce:St}{am:D}
def wj.o4(a:wj sm ce.H h am):Fw.o4 ce am=E h:=by
 rcases a with⟨l,g,i,rfl,-⟩|⟨m,j,k,g,i,-,rfl,b,d,e,f,-⟩
 .rfl
 .unfold Fw.o4;simp only[b,d,e,f,iK,aI]
def jI(T:cb)(H:bt)(is:aD)(cs:DL):Prop:=is.length=cs.length/\∀(i b:Nat)(c:D),is[i]?=E b->cs[i]?=E c->wj T H b c
variable {fd:bt}
def jI.tail{a:D}(b:jI sm fd (h::g4) (a::a3)):wj sm fd h a/\jI sm fd g4 a3:=
 ⟨b.2 0 h a A A,by have:=b.1;simpa using this,λf h a d e=>b.2 (f+1) h a (by simpa using d) (by simpa using e)⟩
def Kk{T:cb}:∀{b:aD}{d:DL},jI T ce.H b d->h∉b->ky ce h (b.map kP) d=E aa
 |[],[],_,_=>rfl
 |[],f::d,a,_=>by have:=a.1;simp at this
 |i::b,[],a,_=>by have:=a.1;simp at this
 |i::b,f::d,a,e=>by
  simp only[cJ,jT]at e;obtain⟨g,j⟩:=a.tail;simp only[bp,kP,ky,g.o4,aI,e.1,aV];rw[Kk j e.2];rfl
def Kj{T:cb}:∀{d:aD}{e:DL}{b:Nat},jI T ce.H d e->d.Nodup->d[b]?=E h->ky ce h (d.map kP) e=E (E b)
 |[],_,b,_,_,a=>by simp at a
 |i::d,[],b,f,_,_=>by have:=f.1;simp at this
 |i::d,o::e,b,f,g,a=>by
  obtain⟨k,l⟩:=f.tail;simp only[bp,kP,ky,k.o4,aI];cases b with
  |zero=>simp at a;subst a;simp
  |succ b=>
   have a:d[b]?=E h:=by simpa using a
   rw[la]at g;have m:h≠i:=λj=>g.1 (j▸eg a);rw[av m,Kj l g.2 a];rfl
variable {z9:cb}{i8:bt}
def jI.mono(b:jI sm fd g4 a3)(d:∀a,sm a->z9 a/\i8 a=fd a):jI z9 i8 g4 a3:=
 ⟨b.1,λi f g j k=>by
  rcases b.2 i f g j k with o|⟨a,h,m,l,s,e,p,q,r⟩
  .exact .inl o
  .exact .inr ⟨a,h,m,l,s,(d a e).1,p,(d a e).2.trans q,r⟩⟩
def jI.add{b:Nat}{c:D}(e:jI sm fd g4 a3)(l:wj sm fd b c):jI sm fd (g4++[b]) (a3++[c]):=by
 refine⟨by simp[e.1],λf h i a d=>?_⟩;by_cases g:f<g4.length
 .rw[jR g]at a;rw[jR (by rw[<-e.1];exact g)]at d;exact e.2 f h i a d
 .rw[jv Zo]at a;rw[jv (by rw[<-e.1];omega),<-e.1]at d;obtain⟨j,-⟩:=ej.1 a;have k:f-g4.length=0:=by simp at j;omega
  rw[k]at a d;simp at a d;subst a;subst d;exact l
structure ja (ab:List ai) (ds:List ah) (T:Nat->Prop) (H:Nat->Option Ob) (f gm:Nat) (dX:List Rt) (is:List Nat) (cs:List D):Prop where
 ob:∃a e b rows,H 21=E ⟨f,173,6,[ai.sl ab,ah.sl ds,a,e,b,.mp 19 gm],aa⟩/\aH [126] H 285 4 rows a/\rows.length=dX.length/\(∀r∈rows,r.length=4/\∀d∈r,Cl d)/\
  aH [137] H 174 1 (aq Nd.d (dX.map Prod.fst)) e/\aH [147] H 216 1 (aq cT (dX.map λr=>r.2.1)) b
 hm:H 19=E ⟨gm,0,1,cs,E (is.map kP)⟩
 xE:jI T H is cs
variable {AC:List Rt}
def ja.congr{a H':bt}(m:ja a4 a5 sm a h V AC g4 a3)(o:H' 21=a 21)(p:H' 19=a 19)(q:H' 126=a 126)(r:H' 137=a 137)(s:H' 147=a 147)(t:∀b,sm b->z9 b/\H' b=a b):ja a4 a5 z9 H' h V AC g4 a3:=by
 obtain⟨⟨w,y,x,u,d,e,f,g,i,j⟩,k,l⟩:=m;exact⟨⟨w,y,x,u,o.trans d,e.congr (by simp[q]),f,g,i.congr (by simp[r]),j.congr (by simp[s])⟩,p.trans k,l.mono t⟩
variable {i2:ct}
def Th{f:D}{p:b5}(m:aH g4 fd h V i2 f)(k:∀a∈g4,p a=a)(q:∀j∈i2,∀b∈j,Cl b):aH g4 (λa=>(fd (p a)).map (Ob.aJ p)) h V i2 f/\f.aJ p=f:=by
 rcases m with⟨o,rfl⟩|⟨a,l,i,rfl,s⟩
 .exact⟨.inl ⟨o,A⟩,A⟩
 .refine⟨.inr ⟨a,l,i,A,?_⟩,by rw[D.aJ,k a i]⟩;simp only[k a i,s,ey,Ob.aJ];congr 2;have:∀e:DL,(∀b∈e,Cl b)->e.map (D.aJ p)=e:=λe r=>by
   exact(gX (g:=id) λb d=>D.gO (r b d)).trans Zs
  exact this _ λb d=>by obtain⟨j,t,d⟩:=ft.1 d;exact q j t b d
def ja.aJ{p:b5}(l:∀o,p (p o)=o)(J:p 21=21)(k:p 19=19)(K:p 126=126)(L:p 137=137)(M:p 147=147)
 (I:ja a4 a5 sm fd h V AC g4 a3):ja a4 a5 (λd=>sm (p d)) (λd=>(fd (p d)).map (Ob.aJ p)) h V AC g4 (a3.map (D.aJ p)):=by
 obtain⟨⟨U,X,W,S,r,s,t,i,u,w⟩,x,j⟩:=I;obtain⟨A,B⟩:=Th s (p:=p) (by simp[K]) λb O=>(i b O).2;obtain⟨d1,d2⟩:=Ae u (p:=p) (by simp[L]) Nd.cl;obtain⟨C,F⟩:=Ae w (p:=p) (by simp[M]) oH;refine⟨⟨U,X,W,S,?_,A,t,i,d1,C⟩,?_,?_⟩
 .simp only[J,r,ey,Ob.aJ,bp,cB,B,d2,F,D.gO (ai.cI a4),D.gO (ah.cI a5),D.aJ,k]
 .simp only[k,x,ey,Ob.aJ]
 .refine⟨by rw[bW];exact j.1,λm y am R a=>?_⟩;rw[gF]at a;cases e:a3[m]? with
  |none=>rw[e]at a;cases a
  |some z=>
   rw[e]at a;simp only[ey,dy]at a;subst a;rcases j.2 m y z R e with⟨Q,g,b,rfl,f⟩|⟨d,G,P,g,b,Y,rfl,Z,ab,ae,ak,q⟩
   .exact .inl ⟨Q,g,b,D.gO f,by rw[D.gO f];exact f⟩
   .refine .inr ⟨p d,G,P.aJ p,g,b.map (D.aJ p),by simpa only[l]using Y,by rw[D.aJ],by simp only[l,Z,ey],ab,ae,?_,q⟩;simp only[Ob.aJ,ak,bp,D.gO q]
def TD(d t:Nat):Prop:=∃j,j<d/\t=1000+2*j
def fI(d x:Nat):Nat:=if x=48 then 1000+2*d else if x=1000+2*d then 48 else if x=103 then 1001+2*d else if x=1001+2*d then 103 else x
def Ex(a b:Nat):fI a (fI a b)=b:=by
 unfold fI
 repeat' split
 all_goals omega
def sf(a:V≠48)(b:V≠103)(d:V<1000+2*h):fI h V=V:=by
 unfold fI;rw[av a,av Zo,av b,av Zo]
abbrev TF(d t:Nat):Prop:=TD d t\/t=48
def E4(a f:Nat):TF a (fI a f)↔TD (a+1) f:=by
 unfold TF TD;constructor
 .rintro(⟨d,g,e⟩|e)
  .have b:=Ex a f;rw[e,sf Zo Zo Zo]at b;exact⟨d,Zo,b.symm⟩
  .have b:=Ex a f;rw[e]at b;exact⟨a,Zo,by rw[<-b];simp[fI]⟩
 .rintro⟨d,g,rfl⟩;by_cases h:d=a
  .subst h;right;simp[fI]
  .left;exact⟨d,Zo,sf Zo Zo Zo⟩
def rk(ab:aw)(ds:aF)(x:Nd):Prop:=∀(d:Nat)(e:Int)(s:St)(dst:ON)(K:aU)(b gm:Nat)(dX:List Rt)(is:aD)(cs:DL),
 ja ab ds (TD d) s.H b gm dX is cs->(∀j∈x.ids,j∉is)->dX.length+x.aZ<=1000000->
 (∀H n(a:List i_),a.map Prod.snd=x.eR dX.length->ja ab ds (TD d) H b gm (dX++x.ep) (is++a.map λr=>r.2.1.id) (cs++a.map dJ)->(∀t,1000<=t->t<1000+2*d->H t=s.H t)->K ({s with H:=H,n:=n}.put dst (.tp [])))->
 gx aB s 128 [.rf 21 b 0,I e,x.d] dst K
variable {m2:b5}
def Ob.jp(e:∀b,m2 (m2 b)=b)(a:ux):(a.map (Ob.aJ m2)).map (Ob.aJ m2)=a:=by
 cases a with
 |none=>rfl
 |some f=>
  obtain⟨g,i,k,h,j⟩:=f;simp only[ey,Ob.aJ,dZ];congr 2;exact(gX (g:=id) λd _=>D.jp e d).trans Zs
variable {i0:ON}
def Ja{f:Nd}(S:rk a4 a5 f){d:Nat}{e:St}{h gm:Nat}{dX:List Rt}{is:aD}{cs:DL}
 (C:ja a4 a5 (TF d) e.H h gm dX is cs) (O:∀U∈f.ids,U∉is) (P:dX.length+f.aZ<=1000000)
 (B:∀H n(j:List i_),j.map Prod.snd=f.eR dX.length->ja a4 a5 (TF d) H h gm (dX++f.ep) (is++j.map λq=>q.2.1.id) (cs++j.map dJ)->(∀a,1000<=a->a<1000+2*d->H a=e.H a)->H 48=e.H 48->H 103=e.H 103->gc ({e with H:=H,n:=n}.put i0 (.tp []))):
 gx aB e 128 [.rf 21 h 0,I a0,f.d] i0 gc:=by
 have b:=Ex d;have o:fI d 21=21:=sf Zd Zd Zo;have w:fI d 19=19:=sf Zd Zd Zo;have s:fI d 126=126:=sf Zd Zd Zo;have t:fI d 137=137:=sf Zd Zd Zo;have u:fI d 147=147:=sf Zd Zd Zo;have K:D.fV (fI d) [.rf 21 h 0,I a0,f.d]=[.rf 21 h 0,I a0,f.d]:=by
  have z:D.aJ (fI d) (.rf 21 h 0)=.rf 21 h 0:=by rw[D.aJ,o]
  rw[D.fV,D.fV,D.fV,D.fV,z,D.gO (aO _),D.gO (Nd.cl f)]
 have J:(λa=>TF d (fI d a))=TD (d+1):=by funext a;exact propext (E4 d a)
 have G:(λa=>TD (d+1) (fI d a))=TF d:=by funext a;exact propext ((E4 d _).symm.trans (by rw[b]))
 have r:=C.aJ b o w s t u;rw[J]at r;refine yR (fI d) b ?_;rw[K];refine S (d+1) a0 (e.aJ (fI d)) i0 _ h gm dX is (cs.map (D.aJ (fI d))) r O P λH n j M F l=>?_;have k:=F.aJ b o w s t u;rw[G]at k;have L:(cs.map (D.aJ (fI d))++j.map dJ).map (D.aJ (fI d))=cs++j.map dJ:=by
  rw[bC,dZ,dZ];congr 1
  .exact(gX (g:=id) λx _=>D.jp b x).trans Zs
  .exact gX λq _=>D.gO (zj q)
 rw[L]at k;have m:∀a,(e.aJ (fI d)).H a=(e.H (fI d a)).map (Ob.aJ (fI d)):=λa=>A;rw[St.tO];have y:({e.aJ (fI d)with H:=H,n:=n}:St).aJ (fI d)={e with H:=λa=>(H (fI d a)).map (Ob.aJ (fI d)),n:=λa=>n (fI d a)}:=by
  simp only[St.aJ,St.mk.injEq,fa];funext V;exact D.jp b _
 rw[y,D.gO (Cl.ir Zs)];refine B _ _ j M k (λa Q R=>?_) ?_ ?_
 .have i:=sf Zo Zo R;simp only[i];rw[l a Q Zo,m,i,Ob.jp b]
 .have i:fI d 48=1000+2*d:=by simp[fI]
  have p:fI d (1000+2*d)=48:=by rw[<-i];exact b 48
  simp only[i];rw[l _ Zo Zo,m,p,Ob.jp b]
 .have i:fI d 103=1001+2*d:=by unfold fI;rw[av Zd,av Zo,aM A]
  have p:fI d (1001+2*d)=103:=by rw[<-i];exact b 103
  simp only[i];rw[l _ Zo Zo,m,p,Ob.jp b]
def aH.len{P:ay}{S:aD}{t:aQ}(b:aH S fd h V i2 am)(a:gi P t=1):tm P t am=E (I (i2.length:Nat)):=by
 rcases b with⟨rfl,rfl⟩|⟨g,d,f,rfl,e⟩
 .simp only[tm,a,aI];rfl
 .simp only[tm,a,aI]
def Pb(a:List Bool)(h:a.length<=1099511627776):au 191 [.sl 1 (aq B a)] (.sl 1 (aq B a)):=by
 have g:gp aB 191 [.sl 1 (aq B a)] 4 1 (aq B a):=by
  cases a with
  |nil=>
   refine gp.none ?_ λj k=>?_
   .refine gp.eo [] [.tmp 2] func191 A Zk ntmps191 A Zs ?_ ?_
    .simp[aq]
    simp only[go_sem];exact .inl ⟨A,A⟩
   .refine gp.eo [] [.tmp 2] func191 A Zk ntmps191 A Zs ?_ ?_
    .simp[aq]
    simp only[go_sem];exact⟨iy _,.inr ⟨7,⟨0,4,1,[],aa⟩,A,A,A,A,⟨[],A⟩,A⟩⟩
  |cons b a=>
   have e:=x0 (f:=B) (λ_=>A) (b::a);simp only[di]at h;have i:=dC B (b::a);have d:=Ek (f:=B) (λ_=>aO _) (b::a);simp only[aq,bp,di]at e i d⊢;refine gp.eo [] [.tmp 2] func191 A Zk ntmps191 A Zs ?_ ?_
   .exact d
   simp only[e,go_sem];exact⟨⟨Zo,by unfold ao;omega⟩,.inr ⟨7,⟨0,4,1,_,aa⟩,Zs,A,A,A,⟨[],Zs⟩,A⟩⟩
 exact g.sp (e_ _)
def Nd.LC(a:Nd):∃e g h i j k m o p f,a.d=.pa a.id [I (Y.kd a.t),e,g,h,i,j,k,m,o,p,f,I a.l,.sl 1 (aq Nd.d a.ks),.sl 1 (aq Bi.d a.bs),bd a.b]:=by
 obtain⟨r,⟨s,v,x,⟨z,C,B⟩,y,D⟩,⟨F,J,G⟩,w,u,bs,q⟩:=a;simp only[Nd.d,Y.ds,O.ds,bf,a8,Nd.gJ,Nd.id,Nd.t,Y.kd,Nd.l,Nd.ks,Nd.bs,Nd.b];exact⟨_,_,_,_,_,_,_,_,_,_,A⟩
variable {v9:Nd}
def zP(d:v9∈m7.ks):∀a∈v9.ids,a∈m7.ids:=λa b=>by
 rw[Nd.kx];exact np _ (eN _ (ft.2 ⟨_,aG.2 ⟨v9,d,A⟩,b⟩))
def CK:∀{d:List (List g1)}{i j:Nat}{a:g1},d.flatten.Nodup->(e:i<d.length)->(h:j<d.length)->a∈d[i]->a∈d[j]->i=j
 |[],_,_,_,_,e,_,_,_=>by simp at e
 |x::d,0,0,a,b,e,h,f,g=>rfl
 |x::d,0,j+1,a,b,e,h,f,g=>by
  rw[dN,gR]at b;exact absurd A (b.2.2 a f a (ft.2 ⟨_,ax (by simpa using h),g⟩))
 |x::d,i+1,0,a,b,e,h,f,g=>by
  rw[dN,gR]at b;exact absurd A (b.2.2 a g a (ft.2 ⟨_,ax (by simpa using e),f⟩))
 |x::d,i+1,j+1,a,b,e,h,f,g=>by
  rw[dN,gR]at b;rw[CK b.2.1 (by simpa using e) (by simpa using h) f g]
variable {WP:List i_}
def Jd{d:Nd}(k:d.ids.Nodup)(r:V<d.ks.length)(m:WP.map Prod.snd=jy d h V):∀j∈(d.ks[V]).ids,j∉WP.map λb=>b.2.1.id:=λj o q=>by
 obtain⟨b,s,rfl⟩:=aG.1 q;have e:b.2∈jy d h V:=by rw[<-m];exact aG.2 ⟨b,s,A⟩
 unfold jy at e;obtain⟨t,p,f⟩:=ft.1 e;obtain⟨i,g,rfl⟩:=aG.1 p;have g:i<V:=by simpa using g
 rw[bR Zo]at f;have l:=CI _ _ _ f;rw[Nd.kx,la,gR]at k;have:=CK (i:=i) (j:=V) (a:=b.2.1.id) k.2.2.1 de (by simpa using r) (by simpa using l) (by simpa using o);omega
def Je(a:m7.ids.Nodup)(f:v9∈m7.ks):∀b∈v9.ids,b≠m7.id:=λb e d=>by
 rw[Nd.kx,la]at a;exact a.1 (d▸eN _ (ft.2 ⟨_,aG.2 ⟨v9,f,A⟩,e⟩))
def xY{x:Nd}{q:Nat}(d:q<x.ks.length):(fA x q).length+(if gg (Y.kd x.t) q then 1 else 0)+(x.ks[q]).aZ<=x.aZ:=by
 have a:=Ei x (q:=q+1);rw[xZ d]at a;simp only[bF,vA]at a;split
 .rename_i b;rw[aM b,bR (by rw[s4];have:=b.2;omega)]at a;simp at a;omega
 .rename_i b;rw[av b]at a;simp at a;omega
def P7(a:Nd)(p:Y.kd a.t≠9)(o:Y.kd a.t≠11)(X:a.ids.Nodup)(aI:a.ks.length<=1048576)(ab:∀ai∈a.ks,rk a4 a5 ai):rk a4 a5 a:=by
 intro j u s aH am k w K ae L P W aJ B;obtain⟨ar,ay,az,aA,aB,aC,aD,aE,aG,au,S⟩:=Nd.LC a;have m:∀J,¬gg (Y.kd a.t) J:=λJ q=>by rcases q.1 with q|q;exact p q;exact o q
 have f9:(Y.kd a.t !=9)=ad:=by simp[p]
 have f11:(Y.kd a.t !=11)=ad:=by simp[o]
 rw[oR,AN,av (by rintro(q|q);exact p q;exact o q),a8]at B;rw[S];refine pz [] [] func128 A Zk ntmps128 A Zs ?_;simp only[f9,f11,dC Nd.d a.ks,go_sem];refine bq 35 a.ks.length (λq=>kq 157 s.N s.T [(0,.rf 21 k 0),(1,I u),(33,.sl 1 (aq Nd.d a.ks)),(34,I a.ks.length)] λM i=>∃g:List i_,g.map Prod.snd=jy a K.length q/\ja a4 a5 (TD j) i k w (K++fA a q) (ae++g.map λah=>ah.2.1.id) (L++g.map dJ)/\∀e,1000<=e->e<1000+2*j->i e=s.H e) A
  ⟨A,A,A,by simp[af,ba],[],by simp[zl],by simpa[AQ]using P,λ_ _ _=>A⟩ ?_
 rintro q M i aL ap an aK⟨rfl,rfl,g,l,C,D⟩;simp only[go_sem];refine aT (λh=>?_) λh=>?_
 .have b:q<a.ks.length:=by simpa using h
  have G:=ax b;have R:=xY b;rw[av (m q)]at R;simp only[h,hX (f:=Nd.d) b,go_sem];refine .inr (.inr (ab _ G j u _ _ _ k w _ _ _ C (λr F z=>?_) (by rw[bF];omega) λak aM O U Q V=>?_))
  .rcases cg.1 z with z|z
   .exact W r (zP G r F) z
   .exact Jd X b l r F z
  simp only[go_sem];refine bg b ⟨A,A,A,by simp[af],g++O,?_,?_,λe x y=>(V e x y).trans (D e x y)⟩
  .rw[bC,l,U,wY b,bF,tR,od,av (m q),kL]
  .rw[xZ b,av (m q),a8,<-dM,bC,bC,<-dM,<-dM];exact Q
 .have Z:q=a.ks.length:=by simp at h;omega
  subst Z;simp only[h,go_sem];exact B _ _ g l C D
def jI.HL:∀(d:List i_){e:aD}{a:DL},jI sm fd e a->jI sm fd (e++d.map λr=>r.2.1.id) (a++d.map dJ)
 |[],e,a,f=>by simpa using f
 |r::d,e,a,f=>by
  obtain⟨h,g⟩:=Nd.IV r.2.1;have:=jI.HL d (f.add (b:=r.2.1.id) (c:=dJ r) (.inl ⟨r.1,h,_,by rw[dJ,g],zj r⟩));rw[bp,bp];simpa using this
def wu(a:TD h V):1000<=V/\V<1000+2*h:=by obtain⟨d,b,rfl⟩:=a;omega
variable {eq:Nat}{g0 ip:DL}
def ja.start{b a:bt}{ob:Ob}(u:ja a4 a5 (TD h) b V a2 AC g4 a3)(o:a 21=b 21)(q:a 126=b 126)(r:a 137=b 137)(s:a 147=b 147)(w:∀d,1000<=d->a d=b d)
 (p:a 19=E ⟨a2,0,1,a3++[.rf 48 a9 0],E ((g4++[eq]).map kP)⟩) (t:a 48=E ob) (z:ob.gen=a9) (B:ob.keys=aa) (x:ob.cells=.pa eq g0::ip) (y:Cl (.pa eq g0)):ja a4 a5 (TF h) a V a2 AC (g4++[eq]) (a3++[.rf 48 a9 0]):=by
 obtain⟨⟨D,G,F,C,f,g,i,j,k,l⟩,I,m⟩:=u;exact⟨⟨D,G,F,C,o.trans f,g.congr (by simp[q]),i,j,k.congr (by simp[r]),l.congr (by simp[s])⟩,p,
  (m.mono λd e=>⟨.inl e,w d (wu e).1⟩).add (.inr ⟨48,a9,ob,g0,ip,.inr A,A,t,z,B,x,y⟩)⟩
def ja.keep{a b:bt}(m:ja a4 a5 (TF h) a V a2 AC g4 a3)(f:b 21=a 21)(g:b 19=a 19)(i:b 126=a 126)(j:b 137=a 137)(k:b 147=a 147)(l:b 48=a 48)(o:∀d,1000<=d->b d=a d):ja a4 a5 (TF h) b V a2 AC g4 a3:=
 m.congr f g i j k λd e=>⟨e,by rcases e with e|rfl;exact o d (wu e).1;exact l⟩
def jI.aj(j:jI sm fd g4 a3)(C:∀a,sm a->i8 a=fd a\/∃d e,fd a=E d/\i8 a=E e/\e.gen=d.gen/\e.keys=d.keys/\e.cells.head?=d.cells.head?):jI sm i8 g4 a3:=
 ⟨j.1,λD t u A B=>by
  rcases j.2 D t u A B with F|⟨a,i,d,k,G,g,m,o,p,q,r,s⟩
  .exact .inl F
  .rcases C a g with w|⟨K,l,h,x,y,z,b⟩
   .exact .inr ⟨a,i,d,k,G,g,m,w.trans o,p,q,r,s⟩
   .rw[o]at h;cases h;rw[r]at b;cases f:l.cells with
    |nil=>rw[f]at b;cases b
    |cons J I=>
     rw[f]at b;simp only[List.head?_cons,dy]at b;exact .inr ⟨a,i,l,k,I,g,m,x,y.trans p,z.trans q,by rw[f,b],s⟩⟩
def Vd(a b:List g1)(e d:g1):(a++[e]++b).set a.length d=a++[d]++b:=by
 rw[dM,dM,List.set_append_right _ _ (b_ _),uj];rfl
def Qt(a d:List g1)(b:g1):(a++[b]++d)[a.length]?=E b:=by
 rw[dM,jv (b_ _),uj];rfl
def U0{a:Nd}(k:Y.kd a.t=a0)(o:uu a)(p:a0=9->∀m∈a.ks.drop 1,Y.kd m.t=10)(i:h<a.bE.length)(w:h+1<a.ks.length):(a.bE[h]).1.ep=(a.ks[h+1]).ep/\(∀b,(a.bE[h]).1.eR b=(a.ks[h+1]).eR b)/\(a.bE[h]).1.aZ=(a.ks[h+1]).aZ/\∀u∈(a.bE[h]).1.ids,u∈(a.ks[h+1]).ids:=by
 have r:h<(a.ks.drop 1).length:=by simp;omega
 have g:(a.ks.drop 1)[h]=a.ks[h+1]:=by rw[p8];congr 1;omega
 have s:a.bE[h]=if Y.kd a.t=9 then((a.ks[h+1]).ks.headD a.ks[h+1],(a.ks[h+1]).bs)else(a.ks[h+1],[]):=by
  rw[<-g];exact eI _
 rw[s,k];have l:a.ks[h+1]∈a.ks.drop 1:=g▸ax r;by_cases d:a0=9
 .rcases o with⟨j,-⟩|⟨-,-,q⟩
  .rw[k,d]at j;exact absurd j Zd
  obtain⟨x,f⟩:=q _ l;have e:=λb=>Iy (p d _ l) f b;simp only[d,aI,f,qZ];exact⟨(e 0).2.1.symm,λb=>(e b).1.symm,(e 0).2.2.symm,zP (by rw[f];simp)⟩
 .rw[av d];exact⟨A,λ_=>A,A,λ_ i=>i⟩
def AA{a:Option D}{d:D}(b:a=E d)(e:gc (ce.put i0 d)):ka ce i0 gc a:=by rw[b];exact e
def P8{an:aw}{ap:aF}(x:Nd){am:Int}(K:Y.kd x.t=am)(bh:am=9\/am=11)(ab:uu x)(dh:am=9->∀cM∈x.ks.drop 1,Y.kd cM.t=10)(dt:0<=x.l)(ea:x.l<=1000)(bj:x.ids.Nodup)(dA:x.num<=1048576)
 (dL:∀cm,x.ks.head?=E cm->rk an ap cm) (dN:∀i∈x.bE,rk an ap i.1):rk an ap x:=by
 intro d aE m dW dV aJ gm dX is cs ah be eb bX;have dq:x.ks.length<=1048576:=by have:=(@Nd.lS x).1;omega
 have Q:0<x.ks.length:=by rcases ab with⟨-,w⟩|⟨-,w,-⟩<;>omega
 obtain⟨X,dp,b_⟩:∃X,x.ks.head?=E X/\x.ks[0]?=E X:=by
  cases dr:x.ks with
  |nil=>rw[dr]at Q;simp at Q
  |cons a l=>exact⟨a,A,A⟩
 have aC:x.ks[0]=X:=by rw[bR Q]at b_;exact sC b_
 have b':X∈x.ks:=aC▸ax Q;have dm:x.bE.length=x.ks.length-1:=s4 x;obtain⟨ct,cv,cw,cx,cz,cA,cC,cD,cE,cu,aR⟩:=Nd.LC x;rw[K]at aR;have aX:=Nd.cl x;have b2:=OX x ab dA;have b7:=Jm x ab dq;have aA:=λo=>Dq x o dt Zo;have b5:=wP (n:=1048576) x.bE [] λi R=>by have:=(w_ ab i R).1;omega
 rw[<-yU]at b5;have d_:x.bE.length*1048576<=1048576*1048576:=ui _ Zo;simp only[gG,ek]at b5;have dx:=Lf x.cap Zo;have b3:=Pb (x.cap.map λo=>decide (o.e.l=x.l+1)) de;have az:∀bn,gg am bn↔0<bn:=λbn=>⟨λq=>q.2,λq=>⟨bh,q⟩⟩;obtain⟨br,bu,bt,rows,ay,bb,V,bl,b0,bZ⟩:=ah.ob;have c3:=ah.hm;have dv:∀bo:St,(∀g,1000<=g->bo.H g=m.H g)->ky bo x.id (is.map kP) cs=E aa:=λbo dH=>Kk (T:=TD d) (ah.xE.mono λg L=>⟨L,dH g (wu L).1⟩) (be x.id (by rw[Nd.kx];simp));rw[aR]at aX b2 b7 aA;rw[oR,AN,K,aM bh]at bX;have dw:vi aB 171=E (.pointer aa):=Zk;have cQ:cy aB 279=E (4,1,1):=Zk;have cS:cy aB 223=E (3,1,8):=Zk;have cP:cy aB 73=E (285,4,80):=Zk;have cU:cy aB 167=E (174,1,8):=Zk;have cR:cy aB 170=E (216,1,24):=Zk;have du:cs.length=is.length:=ah.xE.1.symm;rw[aR];obtain⟨G,C⟩:∃G:D,G=.pa x.id [I am,ct,cv,cw,cx,cz,cA,cC,cD,cE,cu,I x.l,.sl 1 (aq Nd.d x.ks),.sl 1 (aq Bi.d x.bs),bd x.b]:=⟨_,A⟩;refine pz [48,1000069,1000071,1000088] [] func128 A Zk ntmps128 A Zs ?_;rcases bh with rfl|rfl
 all_goals
  simp only[go_sem];refine bw b2 ?_;simp only[ay,c3,dw,go_sem];rw[dv _ λg L=>by simp only[aj];rw[av Zo,av Zo]];simp only[cT,go_sem];refine⟨du,?_⟩;refine bq 60 x.cap.length (λq=>kq 157 m.N m.T [(0,.rf 21 aJ 0),(1,I aE),(2,G),(8,.rf 48 (m.n 48) 0),(58,.sl 1 (aq Bi.d x.cap)),(59,I x.cap.length)] λar p=>ja an ap (TF d) p aJ gm dX (is++[x.id]) (cs++[.rf 48 (m.n 48) 0])/\p 48=E ⟨m.n 48,225,3,[G,cT x.cap,a'],aa⟩/\
   (∀g,1000<=g->g<1000+2*d->p g=m.H g)/\aH [69] p 4 1 (aq B ((x.cap.take q).map λo=>decide (o.e.l=x.l+1))) (ar 9)) A
   ⟨A,A,A,by simp[af,ba,C],?_,by simp[aj,C],λg h j=>by simp only[aj];rw[av Zo,av Zo,av Zo],.inl ⟨A,A⟩⟩ ?_
  .refine ah.start bJ bJ bJ bJ (λg h=>by simp only[aj];rw[av Zo,av Zo,av Zo]) (by simp[aj,kP]) (ob:=⟨m.n 48,225,3,[G,cT x.cap,a'],aa⟩) (by simp[aj,C]) A A (by rw[C]) aX
  rintro q ar p dO T cr dF⟨rfl,rfl,J,y,O,ak⟩;obtain⟨eu,aG⟩:=Zx (ar 9);rw[aG]at ak;simp only[go_sem];refine aT (λw=>?_) λw=>?_
  .have s:q<x.cap.length:=by simpa using w
   have a2:=hX (f:=Bi.d) s;have aA:=aA x.cap[q];rw[<-C]at aA;simp only[w,aG,a2,go_sem];refine hU aA (.c (by rw[C];exact aX) (.c (Bi.cl _) .n)) ?_;simp only[go_sem];refine GK.intro (mI (S:=[69]) (f:=B) (l:=(x.cap.take q).map λo=>decide (o.e.l=x.l+1)) (a:=decide (x.cap[q].e.l=x.l+1)) cQ (by simp only[af,aI,aV,aP,bT,bU,reduceCtorEq];exact ak.congr bJ) ga A de Zd ?_);intro cn dQ eo dI c';have M:∀g,g≠69->g≠68->cn g=p g:=λg h j=>by rw[c' g h (by simpa using h)];simp only[aj];rw[av j,av j]
   simp only[go_sem];refine bg s ⟨A,A,A,by simp[af],J.keep (M _ Zd Zd) (M _ Zd Zd) (M _ Zd Zd) (M _ Zd Zd) (M _ Zd Zd) (M _ Zd Zd) (λg h=>M g Zo Zo),(M _ Zd Zd).trans y,λg h j=>(M g Zo Zo).trans (O g h j),?_⟩;rw[ch s,bC];simpa[af]using dI
  have bk:q=x.cap.length:=by simp at w;omega
  subst bk;rw[b9]at ak;simp only[w,go_sem];generalize d':(x.cap.map λo=>decide (o.e.l=x.l+1))=aD at ak b3;refine GK.ln [69] 9 (.sl 1 (aq B aD)) (by simp only[af,aV,aP,aG,bT,bU,aI,reduceCtorEq];exact kE (ak.congr (by simp[bi])) λ_ _=>aO _) (ed λ_ _=>aO _) ?_;have a2:(aq Nd.d x.ks)[0]?=E [X.d]:=by rw[hX Q,aC]
  simp only[C,a2,go_sem];have u:∀g,g≠69->aN [69] p g=p g:=λg w=>by simp[aN,w]
  have b1:=xY (x:=x) Q;rw[av (by rw[K,az];simp),aC,AQ]at b1;refine .inr (.inr (Ja (dL X dp) (d:=d) (gm:=gm) (dX:=dX) (is:=is++[x.id]) (cs:=cs++[.rf 48 (m.n 48) 0]) (J.keep (u _ Zd) (u _ Zd) (u _ Zd) (u _ Zd) (u _ Zd) (u _ Zd) λg h=>u g Zo) (λP aU z=>?_) (by simp at b1;omega) λco dQ cV b6 bY b8 bQ _=>?_))
  .rcases cg.1 z with z|z
   .exact be P (zP b' P aU) z
   .exact Je bj b' P aU (by simpa using z)
  have y:=bQ.trans ((u 48 Zd).trans y);have O:∀g,1000<=g->g<1000+2*d->co g=m.H g:=λg h j=>(b8 g h j).trans ((u g Zo).trans (O g h j));simp only[C,go_sem];have dj:(x.bE.map Prod.fst).length=x.bE.length:=by simp[aq]
  refine bw b7 ?_;simp only[dj,go_sem];refine bq 87 x.bE.length (λq=>kq 157 m.N m.T [(0,.rf 21 aJ 0),(1,I aE),(2,G),(8,.rf 48 (m.n 48) 0),(9,.sl 1 (aq B aD)),(13,.sl 1 (aq cT (x.bE.map Prod.snd))),(85,.sl 1 (aq Nd.d (x.bE.map Prod.fst))),(86,I x.bE.length)] λar p=>∃(r:List i_)(aY:D),r.map Prod.snd=jy x dX.length (q+1)/\
   ja an ap (TF d) p aJ gm (dX++fA x (q+1)) (is++[x.id]++r.map λk=>k.2.1.id) (cs++[.rf 48 (m.n 48) 0]++r.map dJ)/\p 48=E ⟨m.n 48,225,3,[G,cT x.cap,aY],aa⟩/\(∀g,1000<=g->g<1000+2*d->p g=m.H g)/\
   aH [103] p 3 1 (aq lE ((List.range' 1 q).map (cj (Y.kd x.t) (x.ks.map Nd.aZ) dX.length))) aY) A
   ⟨A,A,A,by simp[af,C],cV,.sc (.slice aa 0 0),?_,?_,y,O,.inl ⟨A,A⟩⟩ ?_
  .rw[b6,wY Q,zl,a8,aC,K];simp[cj,e8]
  .rw[xZ Q,AQ,K,av (by rw[az];simp),a8,a8,aC];exact bY
  clear y O bY J ak bQ b8 b6 aG u;rintro q ar p dO T cr dF⟨rfl,rfl,r,aY,aS,J,y,O,bm⟩;have ef:gi aB 73=1:=Zk;simp only[go_sem];by_cases s:q<x.bE.length
  .refine GK.intro ?_;have bc:decide ((q:Int)<(x.bE.length:Nat))=ad:=by simpa using s
   obtain⟨i,R⟩:∃i,i=x.bE[q]:=⟨_,A⟩;have cW:(aq Nd.d (x.bE.map Prod.fst))[q]?=E [i.1.d]:=by simp[aq,s,R]
   have bD:(aq cT (x.bE.map Prod.snd))[q]?=E [cT i.2]:=by simp[aq,s,R]
   have dy:=Lf i.2 (by have:=(w_ ab i (R▸ax s)).2;omega);obtain⟨br,bu,bt,rows,ay,bb,V,bl,b0,bZ⟩:=J.ob;simp only[bc,cW,go_sem];refine cX [48,21] [] ?_;simp only[ay,y,go_sem];refine AA (d:=I ((dX++fA x (q+1)).length:Nat)) ?_ ?_
   .rw[<-V];rcases bb with⟨cY,rfl⟩|⟨g,dY,-,rfl,-⟩
    .rw[cY];rfl
    .rfl
   simp only[ay,y,ic,go_sem];have df:(dX++fA x (q+1)).length=cj (Y.kd x.t) (x.ks.map Nd.aZ) dX.length (q+1):=by rw[bF,tR]
   have dZ:q<=1048576:=Zo;refine iO (S:=[103]) (rows:=aq lE ((List.range' 1 q).map (cj (Y.kd x.t) (x.ks.map Nd.aZ) dX.length))) (bx:=aq lE [(dX++fA x (q+1)).length]) Zs cS (by simp only[af,aI,aV,aP,bT,bU,reduceCtorEq];exact bm.congr bJ) (e_ _) (by simp[af,cF,aj,aq]) (by simp[aq]) A (by simp[aq];omega) (by simp[aq];unfold ao;omega) (by show 103<157;decide) ?_;intro bv eh eq cc c_;rw[<-o_]at cc;rcases cc with⟨W,_⟩|⟨t1,a3,F,rfl,dB⟩
   .simp[aq]at W
   simp only[bG]at F;subst F;have ae:∀g,g≠103->g≠102->bv g=p g:=λg h j=>by rw[c_ g h (by simpa using h)];simp only[aj];rw[av j,av j]
   have c6:=(ae 48 Zd Zd).trans y;have a4:=(ae 21 Zd Zd).trans ay;simp only[c6,go_sem];refine mc [0,1,2,3,4,5,6,7,8,9,11,12,13,14,16,10,15,17,18,19,20,21,22,23] [48,21] [] ?_;simp only[a4,bD,cT,go_sem];refine bO dy ?_;refine bO dx ?_;refine hU b3 (.c (ed λ_ _=>aO _) .n) ?_;simp only[a4,ic,go_sem];have dG:∀k∈rows,k.length=4:=λk U=>(bl k U).1;have ee:rows.length<=1000000:=by rw[V,bF];have:=Ei x (q:=q+1);omega
   refine iO (S:=[126]) (rows:=rows) (bx:=[[I aE,.sl 1 (aq S (i.2.map λo=>o.e.n)),.sl 1 (aq S (x.cap.map λo=>o.e.n)),.sl 1 (aq B aD)]]) Zs cP (by simp only[af,aI,aV,aP,bT,bU,reduceCtorEq];exact bb.congr (by simp[aj,ae 126 Zd Zd])) dG ga Zs A de kO (by show 126<157;decide) ?_;intro bz ei er dK a_;rcases dK with⟨W,_⟩|⟨t1,bI,F,rfl,dC⟩
   .simp at W
   simp only[bG]at F;subst F;have aL:∀g,g≠126->g≠125->g≠48->bz g=bv g:=λg h j Z=>by rw[a_ g h (by simpa using h)];simp only[aj];rw[av j,av j,av Z]
   have bS:=a_ 48 Zd Zd;have bP:=a_ 21 Zd Zd;simp only[bV,bH,dP,aP,dz,a4]at bS bP;simp only[bP,go_sem];refine oP (.bE [0,1,2,3,4,5,6,9,10,11,12,13,14,15,16] 7 (.bE [] 8 (.fin [17,18,19,20,21,22,23,24]) 17 (.fin [8,18,19,20,21,22,23,24])) 17 (.fin [7,8,18,19,20,21,22,23,24])) [21] [] mixed Zk ?_;obtain⟨eg,aW⟩:=Nd.IV i.1;simp only[bD,aW,cT,ic,go_sem];refine⟨⟨?_,?_⟩,?_⟩
   all_goals
    refine iO (S:=[137]) (rows:=aq Nd.d ((dX++fA x (q+1)).map Prod.fst)) (bx:=aq Nd.d [i.1]) Zs cU (by simp only[af,aI,aV,aP,bT,bU,reduceCtorEq];exact b0.congr (by simp[aj,aL 137 Zd Zd Zd,ae 137 Zd Zd])) (e_ _) (by simp[af,cF,aj,aq,aW]) (by simp[aq]) (by simp[aq,aW,b4]) (by simp[aq]at V⊢;omega) (by simp[aq]at V⊢;unfold ao;omega) (by show 137<157;decide) ?_;intro cq ej es cd aQ;rw[<-o_]at cd;rcases cd with⟨W,_⟩|⟨t1,bK,F,rfl,dD⟩
    .simp[aq]at W
    simp only[bG]at F;subst F;have bM:=aQ 146 Zd Zd;have a5:=aQ 21 Zd Zd;simp only[bV,bH,dP,aP,dz]at bM a5;simp only[a5,ic,go_sem];refine iO (S:=[147]) (rows:=aq cT ((dX++fA x (q+1)).map λk=>k.2.1)) (bx:=aq cT [i.2]) Zs cR (by
     simp only[af,aI,aV,aP,bT,bU,reduceCtorEq];refine bZ.congr ?_;simp only[bG,dT];have bN:=aQ 147 Zd Zd;simp only[bV,dP,aP,dz]at bN;simp only[bV,dP,aP,dz,bN,aL 147 Zd Zd Zd,ae 147 Zd Zd]) (e_ _) (by simp[af,cF,aj,aq,bM]) (by simp[aq]) (by simp[aq,b4]) (by simp[aq]at V⊢;omega) (by simp[aq]at V⊢;unfold ao;omega) (by show 147<157;decide) ?_
    intro a0 el et ce da;rw[<-o_]at ce;rcases ce with⟨W,_⟩|⟨t1,bL,F,rfl,dE⟩
    .simp[aq]at W
    simp only[bG]at F;subst F;have a9:∀g,g≠147->g≠146->a0 g=cq g:=λg h j=>by
     rw[da g h (by simpa using h)]
     try simp only[aj,j,aV]
    have aK:∀g,g≠147->g≠146->g≠137->g≠136->g≠21->a0 g=bz g:=λg h j Z c5 c8=>by
     rw[a9 g h j,aQ g Z (by simpa using Z)];simp only[aj,j,c5,c8,aV]
    have c4:=(a9 21 Zd Zd).trans a5;simp only[c4,go_sem];have ai:q+1<x.ks.length:=Zo;have ca:=ax ai;obtain⟨cf,ci,dU,ck⟩:=U0 K ab dh s ai;rw[<-R]at cf ci dU ck;have dg:=xY ai;rw[aM (by rw[K,az];omega)]at dg;rw[<-aW];have a6:∀g,(g<100\/1000<=g)->g≠48->g≠21->a0 g=p g:=λg h j Z=>by
     rw[aK g Zo Zo Zo Zo Z,aL g Zo Zo j,ae g Zo Zo]
    have bW:=(aK 48 Zd Zd Zd Zd Zd).trans bS;have c1:=(aK 126 Zd Zd Zd Zd Zd).trans dC;have c2:=(a9 137 Zd Zd).trans dD;have c0:=(aK 103 Zd Zd Zd Zd Zd).trans ((aL 103 Zd Zd Zd).trans dB);have bA:(dX++fA x (q+1)++[((i.1,i.2,x):Rt)]).map Prod.fst=(dX++fA x (q+1)).map Prod.fst++[i.1]:=Zs;have bB:(dX++fA x (q+1)++[((i.1,i.2,x):Rt)]).map (λk=>k.2.1)=(dX++fA x (q+1)).map (λk=>k.2.1)++[i.2]:=Zs;refine .inr (.inr (Ja (dN i (R▸ax s)) (d:=d) (gm:=gm) (dX:=dX++fA x (q+1)++[(i.1,i.2,x)]) (is:=is++[x.id]++r.map λk=>k.2.1.id) (cs:=cs++[.rf 48 (m.n 48) 0]++r.map dJ) ?_ (λP aU z=>?_) ?_ λa1 en au dk dc dn c7 cZ=>?_))
    .refine⟨⟨.ms 126 bI _,.ms 137 bK _,.ms 147 bL _,rows++[[I aE,.sl 1 (aq S (i.2.map λo=>o.e.n)),.sl 1 (aq S (x.cap.map λo=>o.e.n)),.sl 1 (aq B aD)]],by simp only[bH];rfl,.inr ⟨126,bI,Zs,A,by simp only[bV,dP,aP,dz];exact c1⟩,by simp[V];omega,λk U=>?_,.inr ⟨137,bK,Zs,by simp[bA],by simp only[bV,dP,aP,dz];rw[bA];exact c2⟩,.inr ⟨147,bL,Zs,by simp[bB],by simp only[bV,dP,aP,dz];rw[bB];exact dE⟩⟩,?_,?_⟩
     .rcases cg.1 U with U|U
      .exact bl k U
      .simp only[bG]at U;subst U;refine⟨A,?_⟩;simp only[a7];exact⟨aO _,ed λ_ _=>aO _,ed λ_ _=>aO _,ed λ_ _=>aO _,Zs⟩
     .simp only[bV,dP,aP,dz];exact(a6 19 Zd Zd Zd).trans J.hm
     .refine J.xE.aj λg L=>?_;rcases L with L|rfl
      .have:=(wu L).1;left;simp only[aj];rw[av Zo,av Zo];exact a6 g Zo Zo Zo
      .right;exact⟨_,⟨m.n 48,225,3,[G,cT x.cap,.ms 103 a3 ((List.range' 1 q).map (cj (Y.kd x.t) (x.ks.map Nd.aZ) dX.length)++[(dX++fA x (q+1)).length]).length],aa⟩,y,by simp only[bV,dP,aP,dz];exact bW,A,A,A⟩
    .have bf:=ck P aU;rcases cg.1 z with z|z
     .rcases cg.1 z with z|z
      .exact be P (zP ca P bf) z
      .exact Je bj ca P bf (by simpa using z)
     .exact Jd bj ai aS P bf z
    .simp only[bF,di,gG];omega
    .simp only[go_sem];have dd:=tR x dX.length (q+1);have cb:(List.range' 1 (q+1)).map (cj (Y.kd x.t) (x.ks.map Nd.aZ) dX.length)=(List.range' 1 q).map (cj (Y.kd x.t) (x.ks.map Nd.aZ) dX.length)++[(dX++fA x (q+1)).length]:=by
      rw[List.range'_concat,bC];simp only[bp,cB,Nat.one_mul,df,rh 1 q]
     refine bg s ⟨A,A,A,by simp[af],r++au,.ms 103 a3 ((List.range' 1 q).map (cj (Y.kd x.t) (x.ks.map Nd.aZ) dX.length)++[(dX++fA x (q+1)).length]).length,?_,?_,?_,λg h j=>?_,.inr ⟨103,a3,Zs,by rw[cb];simp,?_⟩⟩
     .rw[bC,aS,dk,wY ai,ci,od,aM (by rw[K,az];omega)];congr 2;simp only[bF,di,gG]at dd⊢;omega
     .have cO:dX++fA x (q+1+1)=dX++fA x (q+1)++[(i.1,i.2,x)]++i.1.ep:=by
       rw[xZ ai,aM (by rw[K,az];omega),cf];simp only[Nat.add_sub_cancel,bR s,<-R,Option.toList_some,bp,cB,dM]
      have db:is++[x.id]++(r++au).map (λk:i_=>k.2.1.id)=is++[x.id]++r.map (λk=>k.2.1.id)++au.map λk=>k.2.1.id:=Zs;have c9:cs++[.rf 48 (m.n 48) 0]++(r++au).map dJ=cs++[.rf 48 (m.n 48) 0]++r.map dJ++au.map dJ:=Zs;rw[cO,db,c9];exact dc
     .refine(show a1 48=_ from c7).trans ?_;simp only[bV,dP,aP,dz];exact bW
     .show a1 g=_;rw[dn g h j];simp only[aj];rw[av Zo,av Zo,a6 g Zo Zo Zo];exact O g h j
     .show a1 103=_;rw[cZ];simp only[bV,dP,aP,dz];rw[c0,cb]
  .have bk:q=x.bE.length:=Zo;subst bk;have bc:decide ((x.bE.length:Int)<(x.bE.length:Nat))=al:=Zs;have ds:x.bE.length+1=x.ks.length:=Zo;rw[ds]at aS J;rw[dm]at bm;have u:∀g,g≠103->aN [103] p g=p g:=λg w=>by simp[aN,w]
   refine GK.join (GK.qx [103] 48 2 _ aY (.sl 1 (aq lE ((List.range' 1 (x.ks.length-1)).map (cj (Y.kd x.t) (x.ks.map Nd.aZ) dX.length)))) y Zd A (kE (bm.congr (by simp[bi])) λ_ _=>aO _) (ed λ_ _=>aO _) ?_);refine GK.LO 48 19 cs.length ⟨m.n 48,225,3,[G,cT x.cap,.sl 1 (aq lE ((List.range' 1 (x.ks.length-1)).map (cj (Y.kd x.t) (x.ks.map Nd.aZ) dX.length)))],aa⟩ _ bJ A Zs (by simp only[a7];exact⟨by rw[C];exact aX,oH _,ed λ_ _=>aO _,Zs⟩) (by simp only[bV,dP,aP,dz,u];exact J.hm) Zd (by rw[show cs++[D.rf 48 (m.n 48) 0]++r.map dJ=cs++[D.rf 48 (m.n 48) 0]++r.map dJ from A];exact Qt _ _ _) λo ec=>?_;simp only[bc,UP,Vd,go_sem];refine bX _ _ ((o,x,(List.range' 1 (x.ks.length-1)).map (cj (Y.kd x.t) (x.ks.map Nd.aZ) dX.length))::r) (by rw[bp,aS,K];rfl) ?_ λg h j=>?_
   .have dl:∀k:i_,k=(o,x,(List.range' 1 (x.ks.length-1)).map (cj (Y.kd x.t) (x.ks.map Nd.aZ) dX.length))->dJ k=.pa o [G,cT x.cap,.sl 1 (aq lE ((List.range' 1 (x.ks.length-1)).map (cj (Y.kd x.t) (x.ks.map Nd.aZ) dX.length)))]:=λk cN=>by rw[cN,dJ,aR,C]
    obtain⟨br,bu,bt,rows,cG,cH,cI,cJ,cK,cL⟩:=J.ob;refine⟨⟨br,bu,bt,rows,?_,cH.congr (by simp[aj,aN]),cI,cJ,cK.congr (by simp[aj,aN]),cL.congr (by simp[aj,aN])⟩,?_,?_⟩
    .simp only[aj,aN,bG,aP,aV];exact cG
    .simp only[bH,bp,dl _ A];simp
    .refine jI.HL _ (ah.xE.mono λg L=>⟨L,?_⟩);obtain⟨dR,dS⟩:=wu L;simp only[aj,aN,bG];rw[av Zo,av Zo,av Zo,av Zo];exact O g dR dS
   .simp only[aj,aN,bG];rw[av Zo,av Zo,av Zo,av Zo];exact O g h j
def E0(y:Nd):Prop:=((Y.kd y.t=9\/Y.kd y.t=11)->uu y/\(Y.kd y.t=9->∀c∈y.ks.drop 1,Y.kd c.t=10))/\0<=y.l/\y.l<=1000
abbrev Wf(x:Nd):Prop:=Nd.all (λy=>decide (E0 y)) x=ad
def Wf.own(a:Wf m7):E0 m7/\∀b∈m7.ks,Wf b:=by
 rw[Wf,Nd.all_eq,b3,b6,cO]at a;exact a
def zT:∀(f:Y){B:Nd}{C:aX}{k:Int},Sh a4 f->fB a4 a5 f B C k->0<=k->k+f.num<=1000->Wf B
 |.mk r v ae f ai j,_,C,k,h,.mk (kids:=kids) (bs:=bs) (b:=P) (ty:=ty) (id:=id) X S U V y,F,m=>by
  rw[Wf,Nd.all_eq,b3,b6,cO];refine⟨⟨λq=>?_,F,by rw[Y.num]at m;simp only[Nd.l];omega⟩,λD I=>?_⟩
  .have q:r=9\/r=11:=q;have z:=h.len;have w:∀(a:Nat)(m:a<j.length)(R:a<kids.length),r=9->0<a->Y.kd kids[a].t=10/\∃D,kids[a].ks=[D]:=λa s K L M=>by
    have o:=(h.case a s).2 ⟨L,M⟩;have d:=y a s K;have u:=h.cM _ (ax s);generalize j[a]=O at o d u;obtain⟨Z,an,ah,am,ak,ab⟩:=O;simp only[Y.kd]at o;subst o;obtain⟨e,rfl⟩:=u.one (.inr (.inr A));generalize kids[a]=ap at d;cases d with|mk _ _ _ G _=>
    exact⟨A,hP.1 G⟩
   have x:∀e∈kids.drop 1,∃(a:Nat)(Q:a<kids.length),0<a/\kids[a]=e:=λe g=>by
    obtain⟨a,d,rfl⟩:=dG g;exact⟨1+a,by simp at d;omega,Zo,by rw[p8]⟩
   refine⟨?_,λJ e g=>?_⟩
   .rcases q with rfl|rfl
    .refine .inr ⟨A,?_,λe g=>?_⟩
     .simp[a1,cN]at z;show 1<=kids.length;omega
     .obtain⟨a,d,p,rfl⟩:=x e g;exact(w a Zo d A p).2
    .refine .inl ⟨A,?_⟩;simp[a1,cN]at z;show kids.length=3;omega
   .obtain⟨a,d,p,rfl⟩:=x e g;exact(w a Zo d J p).1
  .obtain⟨a,d,rfl⟩:=dG I;have d:a<kids.length:=d;have i:a<j.length:=Zo;have W:=Y.gV (ax i);rw[Y.num]at m;refine zT j[a] (h.cM _ (ax i)) (y a i d) ?_ ?_<;>unfold bL<;>split<;>omega
termination_by f=>f
decreasing_by
 have:=cH (ax i);simp;omega
def find(b:Nd)(D:Wf b)(C:b.num<=1048576)(h:b.ids.Nodup):rk a4 a5 b:=by
 obtain⟨⟨w,x,y⟩,o⟩:=D.own;have k:=@Nd.lS b;have s:∀a∈b.ks,a.ids.Nodup:=λa d=>by
  rw[Nd.kx,la,gR]at h;exact xF h.2.2.1 (aG.2 ⟨a,d,A⟩)
 have l:∀a∈b.ks,rk a4 a5 a:=λa d=>find a (o a d) (by have:=k.2.2 a d;omega) (s a d);by_cases g:Y.kd b.t=9\/Y.kd b.t=11
 .obtain⟨p,z⟩:=w g;refine P8 b A g p z x y h C (λa d=>l a (List.mem_of_mem_head? d)) λF u=>?_;unfold Nd.bE at u;obtain⟨e,q,rfl⟩:=aG.1 u;have f:=ra q;rcases p with⟨j,-⟩|⟨j,-,B⟩
  .rw[av (by rw[j];decide)];exact l e f
  .rw[aM j];obtain⟨a,d⟩:=B e q;have i:a∈e.ks:=by rw[d];simp
   have r:=s e f;simp only[d,qZ];refine find a ((o e f).own.2 a i) (by have:=k.2.2 e f;have:=(@Nd.lS e).2.2 a i;omega) ?_;rw[Nd.kx,la,gR]at r;exact xF r.2.2.1 (aG.2 ⟨a,i,A⟩)
 .exact P7 b (λm=>g (.inl m)) (λm=>g (.inr m)) h (by have:=k.1;omega) l
termination_by b
decreasing_by
 .exact Nd.lt d
 .exact Nat.lt_trans (Nd.lt i) (Nd.lt f)
def wM:∀f:Nd,f.aZ+1<=f.num:=λf=>by
 have p:∀d∈f.ks,d.aZ+1<=d.num:=λd i=>wM d;rw[Nd.l_];obtain⟨a,l,x,g,k,bs,e⟩:=f;rw[Nd.num];have r:∀(g:dv)(h:Int)(b:Nat),(∀d∈g,d.aZ+1<=d.num)->((g.map Nd.aZ).mapIdx λa e=>e8 h (b+a)+e).sum<=Nd.aR g:=λg h=>by
  induction g with
  |nil=>intro b _;simp[Nd.aR]
  |cons m s q=>
   intro b j;have t:=j m Zs;have u:=q (b+1) λd i=>j d (by simp[i]);have w:e8 h b<=1:=by unfold e8;split<;>omega
   rw[bp,List.mapIdx_cons,ia,Nd.aR];have o:(λa e=>e8 h (b+(a+1))+e)=λa e=>e8 h (b+1+a)+e:=by funext a e;rw[show b+(a+1)=b+1+a by omega]
   rw[o,kL];omega
 have:=r k (Y.kd l) 0 p;simp only[ek]at this;show(gu (Y.kd l) (k.map Nd.aZ)).sum+1<=_;unfold gu;omega
termination_by f=>f
decreasing_by exact Nd.lt i
def eQ(l:dv):List Rt:=(l.map Nd.ep).flatten
def iD:List Nd->Nat->List (Nd×List Nat)
 |[],_=>[]
 |x::l,m=>x.eR m++iD l (m+x.aZ)
def oC:∀a:dv,(eQ a).length=(a.map Nd.aZ).sum
 |[]=>rfl
 |x::a=>by
  have:=oC a;unfold eQ at this⊢;rw[bp,dN,bF,this,vA,bp,ia]
def HS:∀(a:dv)(d:Nd)(b:Nat),iD (a++[d]) b=iD a b++d.eR (b+(eQ a).length)
 |[],d,b=>by simp[iD,eQ]
 |y::a,d,b=>by
  rw[bf,iD,HS a d,iD,dM];congr 3;rw[oC,oC,bp,ia];omega
def HO:∀(b:dv)(d:Nat),∀a∈iD b d,∃x∈b,a.1.id∈x.ids
 |[],d,a,h=>by cases h
 |x::b,d,a,h=>by
  rw[iD]at h;rcases cg.1 h with h|h
  .exact⟨x,Zs,CI x d a h⟩
  .obtain⟨f,e,h⟩:=HO b _ a h;exact⟨f,by simp[e],h⟩
def Ty{g:aw}{e:aF}(aD:(bm.mk g e).sz<=1048576)(R:(bm.mk g e).ok){s:St}{dst:ON}{K:aU}
 (am:fS g e≠0->∀n,K ({s with n:=n}.put dst (.tp [.sc (.pointer aa),a',I (fS g e)])))
 (an:fS g e=0->∀H n b U J ak(k:List i_),hT g e (e.map ah.bd) [] 0 U e.length b->k.map Prod.snd=iD b 0->ja g e (TD 0) H J ak (eQ b) (k.map λo=>o.2.1.id) (k.map dJ)->K ({s with H:=H,n:=n}.put dst (.tp [.rf 21 J 0,.sl 1 (aq Nd.d b),I 0]))):
 gx aB s 83 [.ag [ai.sl g,ah.sl e]] dst K:=by
 have O:Cl (.ag [ai.sl g,ah.sl e]):=Cl.bu cu;have S:=O9 g e aD R;have L:ai.sl g=.sl 2 (ai.ae g):=A;have M:ah.sl e=.sl 12 (ah.ae e):=A;rw[L,M]at O S⊢;refine pz [21] [.tmp 2,.tmp 3,.tmp 4] func83 A Zk ntmps83 A Zs ?_;simp only[go_sem];refine qi [] S (.c (.cl _ O) .n) ?_;rintro V o⟨b,rfl,r⟩aP aS;simp only[ly,go_sem];refine aT (λm=>?_) λm=>?_
 .have t:fS g e≠0:=by simpa using m
  simp only[go_sem];exact am t _
 have t:fS g e=0:=by simpa using m
 have r:=r t;have z:=n9 (oM (qm (sQ t))) R;have F:=r.len;have aR:=z.pg.len;have Q:∀l∈b,l.num<=640/\Wf l/\l.ids.Nodup:=λl p=>by
  obtain⟨W,D,u,w⟩:=r.mem p;refine⟨z.num D u,zT _ (z.sh D) u (oq _) (by have:=(z.bd W D).2.2;omega),w⟩
 have au:∀x:dv,(∀l∈x,l∈b)->(eQ x).length<=x.length*640:=λx F=>by
  rw[oC]
  induction x with
  |nil=>simp
  |cons B aM aE=>
   have u:=(Q B (F B Zs)).1;have w:=wM B;have aN:=aE λl p=>F l (by simp[p]);rw[bp,ia,di];omega
 simp only[go_sem];refine bq 24 b.length (λh=>kq 36 s.N s.T [(7,.rf 21 (s.n 21) 0),(22,.sl 1 (aq Nd.d b)),(23,I b.length),(5,.sl 1 (aq Nd.d b))] λY H=>∃(k:List i_),k.map Prod.snd=iD (b.take h) 0/\ja g e (TD 0) H (s.n 21) (s.n 19) (eQ (b.take h)) (k.map λo=>o.2.1.id) (k.map dJ)) A
  ⟨A,A,A,by simp[af,ba],[],A,⟨⟨.sc (.slice aa 0 0),.sc (.slice aa 0 0),.sc (.slice aa 0 0),[],by simp[aj,L,M],.inl ⟨A,A⟩,A,Zs,.inl ⟨A,A⟩,.inl ⟨A,A⟩⟩,by simp[aj],⟨A,Zs⟩⟩⟩ ?_
 rintro h Y H aW aL aK aV⟨rfl,rfl,k,y,C⟩;simp only[go_sem];refine aT (λm=>?_) λm=>?_
 .have q:=bh m;have ab:=hX (f:=Nd.d) q;obtain⟨aY,aH,aI⟩:=Q _ (ax q);have ar:=au (b.take h) λl p=>p9 p;have aO:=wM b[h];simp only[m,ab,go_sem];refine .inr (.inr (find _ aH Zo aI 0 h _ _ _ _ _ _ _ _ C (λj az G=>?_) (by rw[fP]at ar;have G:min h b.length<=8:=Zo;have:=ui 640 G;omega) λaJ aX Z av ap _=>?_))
  .obtain⟨o,aC,rfl⟩:=aG.1 G;have u:o.2∈iD (b.take h) 0:=by rw[<-y];exact aG.2 ⟨o,aC,A⟩
   obtain⟨l,p,w⟩:=HO _ _ _ u;obtain⟨i,ay,rfl⟩:=dG p;rw[List.getElem_take]at w;have aQ:i<h:=by simp at ay;omega
   have P:=r.nodup;simp only[fb,cB,a8]at P;have:=CK (i:=i) (j:=h) (a:=o.2.1.id) P de (by simpa using q) (by simpa using w) (by simpa using az);omega
  simp only[go_sem];refine bg q ⟨A,A,A,by simp[af],k++Z,?_,?_⟩
  .rw[bC,y,av,ch q,HS,ek]
  .have X:eQ (b.take (h+1))=eQ (b.take h)++b[h].ep:=by
    unfold eQ;rw[ch q,bC,fN];simp only[bp,cB,dN,fX,c_]
   rw[X,bC,bC];exact ap
 .have aA:=bS m;subst aA;rw[b9]at y C;simp only[m,go_sem];exact an t _ _ b V _ _ k r y C
mutual
def cf:O->O
 |.mk k n ks=>if k=4 then(uT ks).headD (.mk 0 nE [])else .mk k n (uT ks)
def uT:List O->List O
 |[]=>[]
 |c::cs=>cf c::uT cs
end
def zd:∀a:cz,uT a=a.map cf
 |[]=>rfl
 |c::b=>by rw[uT,zd b];rfl
mutual
def dp:O->Prop
 |.mk k n ks=>ks.length<=1000/\(k=4->1<=ks.length)/\w4 ks
def w4:List O->Prop
 |[]=>True
 |c::cs=>dp c/\w4 cs
end
def sX:∀a:cz,w4 a↔∀d∈a,dp d
 |[]=>by simp[w4]
 |c::b=>by rw[w4,sX b];simp
def ig:∀(f:O)(a:dp f),dp (cf f)
 |.mk m o h,a=>by
  rw[dp,sX]at a;have e:∀b∈h,dp (cf b):=λb d=>ig b (a.2.2 b d);rw[cf,zd];split
  .rename_i g
   match h,a,e with
   |c::l,_,e=>exact e c Zs
   |[],a,_=>have:=a.2.1 g;simp at this
  .rename_i g;rw[dp,sX];refine⟨by simp[a.1],λj=>absurd j g,λb d=>?_⟩;obtain⟨k,i,rfl⟩:=aG.1 d;exact e k i
termination_by f=>f
decreasing_by
 have:=cH d;simp;omega
def oS:∀b:O,eL b=ad->dp b
 |.mk j k h,e=>by
  rw[eL,O.aY,b3]at e;have g:∀d∈h,eL d=ad:=by
   have:=e.2;rw[O.gB,b6]at this;exact this
  have a:=e.1;unfold fL at a;rw[dp,sX];refine⟨?_,λi=>?_,λd f=>oS d (g d f)⟩
  .repeat' split at a
   all_goals simp at a
   all_goals first|omega|simp[a]|simp_all
  .subst i;simp at a;omega
termination_by b=>b
decreasing_by
 have:=cH f;simp;omega
def fG(d:aH [h] fd bv V i2 am)(g:i2≠[]):∃a,am=.ms h a i2.length/\fd h=E ⟨a,bv,V,i2.flatten,aa⟩:=by
 rcases d with⟨e,-⟩|⟨t1,a,b,rfl,f⟩
 .exact absurd e g
 .simp only[bG]at b;subst b;exact⟨a,A,f⟩
def n3{S:aD}(a:aH S fd bv h i2 am):b4 am=ad:=by
 rcases a with⟨-,rfl⟩|⟨t1,b,e,rfl,d⟩<;>rfl
def I7(p:O)(f:dp p):au 194 [.ag p.ds] (.ag (cf p).ds):=by
 have aC:∀d:O,SizeOf.sizeOf d<SizeOf.sizeOf p->dp d->au 194 [.ag d.ds] (.ag (cf d).ds):=λd m ar=>I7 d ar;obtain⟨J,L,K⟩:=p;have ap:cy aB 72=E (87,3,48):=Zk;refine Sp.s [1] [.cell 2 87] func194 ntmps194 ?_;refine mW (λh=>h.nt=34/\h.env 1=.rf 1 0 0/\h.env 2=.rf 2 0 0/\(∃c,h.H 2=E ⟨0,87,3,c,aa⟩/\c.length=3)/\∃e o a,h.H 1=E ⟨0,87,3,[I e,S o,.sl 3 (O.ae a)],aa⟩/\dp (.mk e o a)/\cf (.mk e o a)=cf (.mk J L K)/\SizeOf.sizeOf (O.mk e o a)<=SizeOf.sizeOf (O.mk J L K))
  (λh=>match h.H 1 with|some aE=>SizeOf.sizeOf aE.cells|none=>0) ⟨A,by simp[af],by simp[af],⟨_,by simp[aj];rfl,A⟩,J,L,K,by simp[aj],f,A,b_ _⟩ ?_
 rintro⟨P,q,am,aL,M,an⟩⟨rfl,t,F,⟨w,l,V⟩,e,o,a,x,aw,Z,ai⟩;simp only at t F l x;have z:=aw;rw[dp,sX]at z;simp only[t,x,go_sem];refine aT (λg=>?_) λg=>?_
 .have g:e=4:=by simpa using g
  subst g;obtain⟨c,r,rfl⟩:∃c r,a=c::r:=by
   match a,z.2.1 A with
   |c::r,_=>exact⟨c,r,A⟩
  have u:(O.ae (c::r))[0]?=E c.ds:=A;obtain⟨i,k,j⟩:=c;simp only[t,x,u,go_sem];unfold Am;refine⟨⟨A,by simp[af,t],by simp[af,F],⟨w,by simp[aj,l],V⟩,i,k,j,by simp[aj],z.2.2 _ Zs,?_,?_⟩,?_⟩
  .rw[<-Z];conv=>rhs;rw[cf,uT,aM A]
   rfl
  .simp at ai⊢;omega
  .simp[aj,O.ae,O.ds];omega
 .have g:e≠4:=by simpa using g
  rw[<-Z,cf,av g,zd];simp only[t,x,O.bb a,go_sem];refine bq 21 a.length (λb=>Fw.cK 34 [(2,.rf 2 0 0),(3,.rf 3 (am 3) 0),(19,.sl 3 (O.ae a)),(20,I a.length)] λP q aD M=>q 2=E ⟨0,87,3,w,aa⟩/\∃d,q 3=E ⟨am 3,87,3,[I e,S o,d],aa⟩/\aH [30] q 87 3 (O.ae ((a.take b).map cf)) d) A
   ⟨A,by simp[af,F],by simp[aj,l],_,by simp only[aj];rfl,.inl ⟨A,A⟩⟩ ?_
  rintro b P q aD M an aJ⟨l,d,y,m⟩;simp only[go_sem];refine aT (λf=>?_) λf=>?_
  .have B:=bh f;have u:=O.bo a b B;have ah:=ax B;have G:=aC a[b] (by have:=cH ah;simp at ai⊢;omega) (z.2.2 _ ah);have X:=O.cl a[b];rcases W:a[b]with⟨i,k,j⟩
   rw[W]at u G X;simp only[O.ds]at u G X;simp only[f,u,go_sem];refine cX [3,5] [] ?_;simp only[y,ic,go_sem];refine bw G ?_;have aA:O.ae ((a.take (b+1)).map cf)=O.ae ((a.take b).map cf)++[(cf (.mk i k j)).ds]:=by
    simp only[O.bZ];rw[ch B,W];simp
   have Y:=O.b1 (cf (.mk i k j));have ay:((cf (.mk i k j)).ds).all b4=ad:=by rw[b6];exact O.one _
   have ab:(O.ae ((a.take b).map cf)).length=b:=by rw[O.bb];simp;omega
   generalize cf (.mk i k j)=aq at*;simp only[y,Y,go_sem];refine iO (S:=[30]) (rows:=O.ae ((a.take b).map cf)) (bx:=[aq.ds]) Zs ap (by simp only[af,aI,aV,aP,bT,bU,reduceCtorEq];exact m.congr bJ) (O.ea _) (by simp[af,cF,aj,Y]) Zs (by simpa using ay) (by rw[ab];show(b+1)*48<=_;omega) (by rw[ab];show b+1<=ao;unfold ao;omega) (by show 30<34;decide) ?_;intro aF aK aN ak U;obtain⟨aG,rfl,-⟩:=fG ak Zs;have R:=U 3 Zd Zd;have Q:=U 2 Zd Zd;simp only[bV,dP,aP,dz,l,y]at R Q;simp only[R,go_sem];refine bg B ⟨A,by simp[af],by simp[aj,Q],_,by simp only[bH];rfl,?_⟩;rw[aA];refine aH.congr ak ?_;simp[aj]
  .have az:=bS f;subst az;rw[b9]at m;obtain⟨aQ,aR,aS,rfl⟩:∃C D c,w=[C,D,c]:=by
    match w,V with
    |[C,D,c],_=>exact⟨C,D,c,A⟩
   simp only[f,l,y,go_sem];refine⟨n3 m,Fz.HM (.cl _ (aO _)) (.cl _ (aO _)) ?_⟩;exact(aH.fz (m.congr bJ) Zd (O.ea _) (O.bA _))
termination_by SizeOf.sizeOf p
decreasing_by exact m
structure bQ where
 c:Core
 ty:List O
def aW(t:bQ):DL:=t.c.ds++[.sl 3 (O.ae t.ty)]
def VN(a:bQ):(aW a).length=5:=by obtain⟨⟨b,d,e,f⟩,g⟩:=a;rfl
def dF(b:bQ):∀a∈aW b,Cl a:=λa d=>by
 rcases cg.1 d with h|h
 .exact Core.cl _ a h
 .simp only[bG]at h;subst h;exact O.cI b.ty
def vM(a:bQ):(aW a).all b4=ad:=by obtain⟨⟨b,d,e,f⟩,g⟩:=a;rfl
def nf(b:List bQ):∀a∈b.map aW,a.length=5:=by
 simp only[aG];rintro a⟨d,-,rfl⟩;exact VN d
def nc(d:List bQ):∀a∈d.map aW,∀b∈a,Cl b:=by
 simp only[aG];rintro a⟨e,-,rfl⟩;exact dF e
def Fz.lI(e:ny fd a3 g0):Fz fd (.ag a3) (.ag g0):=.ag _ _ e.len.symm λb h i a d=>by
 induction e generalizing b with
 |n=>simp at a
 |c f _ g=>
  cases b with
  |zero=>simp at a d;subst a;subst d;exact f
  |succ b=>exact g b (by simpa using a) (by simpa using d)
def IU(a:Int):au 192 [I a] (.ag [I 1,I a,ints [],.sl 4 []]):=by
 refine Sp.s [] [.cell 2 81] func192 ntmps192 ?_;exact Fz.lI (.c (.cl _ (aO _)) (.c (.cl _ (aO _)) (.c (.nil 1) (.c (.nil 4) .n))))
def Ra{B:aD}(a:h∉B):gf (g4++h::B) h=B.length:=by
 rw[show g4++h::B=(g4++[h])++B by simp,ti a,xt Zs];simp[gf,sx]
def indexOf(a:aX)(h:Bi)(B:h.id∈ids a)(D:a.length<=1000000):au 193 [cT a,h.d] (I (gf (ids a) h.id:Nat)):=by
 have w:∀b:Nat,b<=1000000->IntKind.i64.wrap ((b:Int)-1)=(b:Int)-1:=λb k=>cW _ Zo;have M:∀b:Nat,b<=a.length->IntKind.i64.wrap ((a.length:Int)-1-((b:Int)-1))=((a.length-b:Nat):Int):=λb k=>by rw[cW _ Zo];omega
 have y:=w a.length D;refine Sp.e [] [.tmp 4] func193 ntmps193 ?_;simp only[cT,y,go_sem];refine mW (λj=>j.nt=24/\j.env 0=.sl 1 (aq Bi.d a)/\j.env 1=h.d/\∃b:Nat,b<=a.length/\j.env 5=I ((b:Int)-1)/\h.id∉ids (a.drop b)) (λj=>match j.env 5 with|.sc (.int _ K)=>(K+1).toNat|_=>0)
  ⟨A,by simp[af,ba],by simp[af,ba],a.length,b_ _,by simp[af],by simp[ids]⟩ ?_
 rintro⟨W,O,Y,Z,Q,P⟩⟨rfl,l,m,b,X,i,o⟩;simp only at l m i;simp only[i,go_sem];refine aT (λk=>?_) λk=>?_
 .have q:0<b:=by simp at k;omega
  obtain⟨g,rfl⟩:∃g,b=g+1:=⟨b-1,Zo⟩;have u:g<a.length:=Zo;have J:((g+1:Nat):Int)-1=(g:Int):=Zo;have p:=hX (f:=Bi.d) u;obtain⟨R,S,U,V,r⟩:=Bi.r9 h;obtain⟨d0,d1,d2,d3,F⟩:=Bi.r9 a[g];rw[F]at p;have x:=M (g+1) Zo;have L:=w g Zo;rw[J]at x i;simp only[l,m,i,p,r,go_sem];have t:ids (a.drop g)=a[g].id::ids (a.drop (g+1)):=by unfold ids;rw[ph u];rfl
  cases s:a[g].id==h.id
  .have G:a[g].id≠h.id:=by simpa using s
   simp only[i,L,go_sem];unfold Am;refine⟨⟨A,by simp[af,l],by simp[af,m,r],g,Zo,by simp[af],?_⟩,by simp[af]⟩;rw[t,cJ,jT];exact⟨λz=>G z.symm,o⟩
  .have C:a[g].id=h.id:=by simpa using s
   simp only[l,i,y,x,go_sem];refine Fz.int ?_;have:ids a=ids (a.take g)++h.id::ids (a.drop (g+1)):=by
    rw[<-C,<-t];unfold ids;rw[<-bC,lb]
   rw[this,Ra o];simp[ids]
 .have q:b=0:=by simp at k;omega
  subst q;exact absurd B o
def PB(a:Int):au 133 [I a] (I (if 2<=a/\a<=7 then a else 8)):=by
 refine Sp.s [] [.tmp 2] func133 ntmps133 ?_;by_cases e:2<=a/\a<=7
 .rw[aM e];have:a=2\/a=3\/a=4\/a=5\/a=6\/a=7:=Zo;rcases this with rfl|rfl|rfl|rfl|rfl|rfl<;>simp only[go_sem]<;>exact Fz.int A
 .rw[av e];have b:∀d:Int,2<=d->d<=7->(a==d)=al:=λd f g=>by simp;omega
  simp only[b 2 Zd Zd,b 3 Zd Zd,b 4 Zd Zd,b 5 Zd Zd,b 6 Zd Zd,b 7 Zd Zd,go_sem];exact Fz.int A
def made(J v:Int)(t:IL)(i:O)(kids:List bQ)(aC:dp i)(aD:∀K∈kids,K.ty≠[])(aX:kids.length<=1000)(hs:(kids.map λK=>K.ty.length).sum<=2000000000000){p:D}(az:p=a'\/(p=.sl 4 []/\kids=[])):
 au 130 [.ag [I J,I v,ints t,p],.ag i.ds,.sl 5 (kids.map aW)] (.ag (aW ⟨.mk J v t (kids.map bQ.c),cf i::(kids.map bQ.ty).flatten⟩)):=by
 have jL:cy aB 38=E (81,4,64):=Zk;have ay:cy aB 72=E (87,3,48):=Zk;have Z:=I7 i aC;have aA:=O.cl i;generalize cf i=g at*;have aU:(g.ds).all b4=ad:=by rw[b6];exact O.one _
 obtain⟨a3,a5,a4⟩:=i;simp only[O.ds]at Z aA;refine Sp.s [3,1000024,1000029] [.cell 6 125] func130 ntmps130 ?_;refine bw Z ?_;simp only[O.b1 g,go_sem];refine bq 15 kids.length (λq=>Fw.cK 34 [(3,.rf 3 0 0),(6,.rf 6 0 0),(13,.sl 5 (kids.map aW)),(14,I kids.length)] λw j aL ap=>(∃c,j 6=E ⟨0,125,5,c,aa⟩/\c.length=5)/\(∃m,j 3=E ⟨0,81,4,[I J,I v,ints t,m],aa⟩/\((aH [24] j 81 4 (Core.ae ((kids.take q).map bQ.c)) m)\/(m=.sl 4 []/\kids=[])))/\aH [12,29] j 87 3 (O.ae (g::((kids.take q).map bQ.ty).flatten)) (w 7)) A
  ⟨A,by simp[af,ba],⟨_,by simp only[aj];rfl,A⟩,⟨p,by simp[aj,ints],by rcases az with rfl|h;exact .inl (.inl ⟨A,A⟩);exact .inr h⟩,.inr ⟨12,_,Zs,by simp[af];exact⟨A,A⟩,by simp[aj,O.ae]⟩⟩ ?_
 rintro q w j aL ap aQ aY⟨⟨c6,U,C5⟩,⟨m,G,f⟩,l⟩;obtain⟨a_,u⟩:=Zx (w 7);rw[u]at l;simp only[go_sem];refine aT (λh=>?_) λh=>?_
 .have k:=bh h;have f:aH [24] j 81 4 (Core.ae ((kids.take q).map bQ.c)) m:=by
   rcases f with f|⟨-,y⟩
   .exact f
   .subst y;simp at k
  have x:(kids.map aW)[q]?=E (aW kids[q]):=by simp[k]
  have C:=aD _ (ax k);have F:(kids.take (q+1)).map bQ.c=(kids.take q).map bQ.c++[kids[q].c]:=by rw[ch k,bC];rfl
  have rU:((kids.take (q+1)).map bQ.ty).flatten=((kids.take q).map bQ.ty).flatten++kids[q].ty:=by rw[ch k,bC,fN];simp only[bp,cB,dN,fX,c_]
  have ah:((kids.take q).map bQ.ty).flatten.length+kids[q].ty.length<=2000000000000:=by
   exact GM
  rcases aE:kids[q]with⟨⟨ar,aw,aq,av⟩,r⟩
  rw[aE]at x C F rU ah;simp only[aW,Core.ds,bf,a8]at x C F rU ah;have Y:(Core.ae ((kids.take q).map bQ.c)).length=q:=by rw[Core.bb];simp;omega
  simp only[h,x,G,go_sem];refine GK.intro (dS.eF (S:=[24]) (rows:=Core.ae ((kids.take q).map bQ.c)) (bx:=[(Core.mk ar aw aq av).ds]) jL (by simp only[af,aI,aV,aP,bT,bU,reduceCtorEq];exact f.congr bJ) (Core.ea _) (by simp[af,cF,aj,Core.ds,ints]) Zs (by rfl) (by rw[Y];show(q+1)*64<=_;omega) (by rw[Y];show q+1<=ao;unfold ao;omega) λaN a0 a7 ai o=>?_);obtain⟨aR,rfl,-⟩:=fG ai Zs;have Q:=o 3 Zd Zd;have V:=o 6 Zd Zd;have X:=o 9 Zd Zd;have L:=o 12 Zd Zd;have P:=o 29 Zd Zd;simp only[bV,bH,dP,aP,dz,U,G]at Q V X L P;simp only[u,Q,X,go_sem];have am:(O.ae (g::((kids.take q).map bQ.ty).flatten)).length=((kids.take q).map bQ.ty).flatten.length+1:=by rw[O.bb];rfl
  refine GK.intro (dS.eF (S:=[12,29]) (rows:=O.ae (g::((kids.take q).map bQ.ty).flatten)) (bx:=O.ae r) ay (by simp only[af,aI,aV,aP,bT,bU,reduceCtorEq];exact l.congr (by simp[aj,L,P])) (O.ea _) (by simp[af,cF]) (by rw[O.bb];exact q0.2 C) (by rw[b6];intro d B;obtain⟨a2,ab,B⟩:=ft.1 B;rw[O.bZ]at ab;obtain⟨aM,-,rfl⟩:=aG.1 ab;exact O.one aM d B)
   (by rw[am,O.bb];omega) (by rw[am,O.bb];unfold ao;omega) λan a1 a9 aJ z=>?_)
  have R:=z 3 Zd Zd;have W:=z 6 Zd Zd;have M:=z 24 Zd Zd;simp only[bV,bH,dP,aP,dz,V]at R W M;simp only[go_sem];refine bg k ⟨A,by simp[af],⟨c6,by simp[W],C5⟩,⟨_,by simp only[R];rfl,.inl ?_⟩,?_⟩
  .rw[F];simpa[Core.bZ]using ai.congr (H':=an) (by simp[M])
  .rw[rU,<-bf];have:O.ae ((g::((kids.take q).map bQ.ty).flatten)++r)=O.ae (g::((kids.take q).map bQ.ty).flatten)++O.ae r:=by simp[O.bZ]
   rw[this];simpa[af]using aJ.sub (S':=[12,29]) Zs
 .have aF:=bS h;subst aF;rw[b9]at f l;obtain⟨bc,bd,be,bi,bj,rfl⟩:∃a b c d e,c6=[a,b,c,d,e]:=by
   exact By
  have aK:b4 m=ad:=by
   rcases f with f|⟨rfl,-⟩
   .exact n3 f
   .rfl
  have aZ:=n3 l;have ak:=l;rcases l with⟨y,-⟩|⟨a6,aS,-,rfl,-⟩
  .simp[O.ae]at y
  simp only[h,u,U,G,aW,go_sem];refine⟨?_,Fz.lI (.c (.cl _ (aO _)) (.c (.cl _ (aO _)) (.c (.cl _ (lk _)) (.c ?_ (.c ?_ .n)))))⟩
  .exact aK
  .rcases f with f|⟨rfl,rfl⟩
   .exact aH.fz (aH.congr f bJ) Zd (Core.ea _) (Core.bA _)
   .exact .cl _ (Cl.fH Zs)
  .rw[O.bb,di]at ak;exact aH.fz (aH.congr ak bJ) Zd (O.ea _) (O.bA _)
structure fl (c:Core) (n:Nat) (t:bQ):Prop where
 c:t.c=c
 ne:t.ty≠[]
 len:t.ty.length<=n
 fn:∀x∈t.ty.head?,dp x
def po(c:Core)(n:Nat)(d:D):Prop:=∃t,d=.ag (aW t)/\fl c n t
def Qd(a:dp go)(b:dp lw):dp (kH go lw):=by
 rw[dp,sX];exact⟨Zs,Zs,by simp[a,b]⟩
def sY{l:cz}(b:∀a∈l,dp a)(e:dp go):dp (gK l go):=by
 induction l with
 |nil=>exact e
 |cons d l g=>exact Qd (b d Zs) (g λa f=>b a (by simp[f]))
def Bi.vw(a:Bi):∃b f g h i,a.e.t=.mk b f g/\a.d=.pa a.id [h,I b,S f,.sl 3 (O.ae g),i]:=by
 obtain⟨j,f,⟨b,l,m⟩,k⟩:=a;exact⟨_,_,_,_,_,A,A⟩
def Nd.LG(a:Nd):∃b f e g h i j k m o p q r s,a.ty=.mk b f e/\a.d=.pa a.id [g,h,i,j,k,m,o,p,I b,S f,.sl 3 (O.ae e),I a.l,q,r,s]:=by
 obtain⟨u,⟨b,v,f,⟨y,B,z⟩,x,C⟩,⟨D,G,F⟩,w,e,bs,t⟩:=a;exact⟨_,_,_,_,_,_,_,_,_,_,_,_,_,_,A,A⟩
def Fz.tk{v:Int}:Fz fd (.ag [I a0,I v,a',a']) (.ag [I a0,I v,ints [],a']):=
 Fz.lI (.c (.cl _ (aO _)) (.c (.cl _ (aO _)) (.c (.nil 1) (.c (.cl _ (aO _)) .n))))
def Fz.az{g a:Nat}{kids:List bQ}(b:fd h=E ⟨g,125,5,(kids.map aW).flatten,aa⟩)(d:a=(kids.map aW).length):Fz fd (.ms h g a) (.sl 5 (kids.map aW)):=
 Fz.rows b A A Zd d (nf kids) A (nc kids)
def Ni(b:aX)(a:Bi)(k:a.id∈ids b)(p:b.length<=1000000)(o:dp a.e.t):au 129 [cT b,a.d] (.ag (aW ⟨dw (gf (ids b) a.id:Nat),[cf a.e.t]⟩)):=by
 have g:=indexOf b a k p;have l:=Bi.cl a;obtain⟨h,j,i,r,u,q,m⟩:=Bi.vw a;have f:=made 1 (gf (ids b) a.id:Nat) [] a.e.t [] o Zs Zs Zs (.inr ⟨A,A⟩);rw[q]at f⊢;rw[m]at g l⊢;simp only[O.ds]at f;refine Sp.s [] [.cell 4 125] func129 ntmps129 ?_;refine mc [0,1,4,5,6,7,2,3,8,9] [] [] ?_;simp only[go_sem];refine bO g ?_;refine bO (IU _) ?_;refine fm [] f (.c (.cl _ (Cl.bu cu)) (.c (.cl _ (Cl.bu (O.cl (.mk h j i)))) (.c (.nil 5) .n))) (Cl.bu (dF _)) ?_;simp only[aW,aN,fX,go_sem];exact .cl _ (Cl.bu (dF ⟨dw (gf (ids b) a.id:Nat),[cf (.mk h j i)]⟩))
variable {UV:cz}
def WW(f:bQ)(h:f.ty=go::UV):au 197 [.ag (aW f)] (.ag go.ds):=by
 obtain⟨⟨k,m,j,l⟩,i⟩:=f;obtain rfl:i=go::UV:=h;obtain⟨a,d,b⟩:=go;have g:(O.ae (.mk a d b::UV))[0]?=E [I a,S d,.sl 3 (O.ae b)]:=A;refine Sp.e [] [.cell 2 87] func197 ntmps197 ?_;simp only[aW,g,go_sem];exact .cl _ (Cl.bu (O.cl (.mk a d b)))
variable {z5 YP:Core}{s1:bM}
def fl.step{a b:bQ}(e:fl (lj z5 s1) (h+3*V) a)(d:fl YP 2 b)(f:dp go):fl (lj z5 (s1++[YP])) (h+3*(V+1)) ⟨.mk 5 0 [] [a.c,b.c],go::(a.ty++b.ty)⟩:=by
 refine⟨?_,Zs,?_,by simp[f]⟩
 .rw[e.c,d.c];simp[lj]
 .have g:=e.len;have i:=d.len;simp;omega
def N0(aR:D)(aK:Nat)(h:Nd)(aL:aD)(ah:bQ)(k:aX)(aw:∀b∈h.cap,b.id∈ids k/\dp b.e.t)(a_:dp h.ty)(aY:0<=h.l)(bx:h.l<=1000)(bA:h.cap.length<=1000000)(bc:k.length<=1000000){c:Core}{S:Nat}(a8:fl c S ah)(bB:S<=1000000000000){H0:bt}:
 i' aB [] H0 132 [aR,dJ (aK,h,aL),.ag (aW ah),cT k] (po (lj c (h.cap.map (mJ h.l (ids k)))) (S+3*h.cap.length)):=by
 obtain⟨z,C,B,b0,bk,bl,bm,bn,bo,bp,bq,br,bs,bv,bf,o⟩:=Nd.LG h;have a1:=Nd.cl h;have au:=λb=>Dq h b aY Zo;have aA:=λan=>CT (h.cap.drop an) h.ty (by rw[List.length_drop];omega);have ay:=λan=>sY (l:=(h.cap.drop an).map λb=>b.e.t) (λbG be=>by obtain⟨b,K,rfl⟩:=aG.1 be;exact(aw b (ra K)).2) a_;rw[bf]at aA ay;rw[o]at a1 au;obtain⟨⟨a3,bb,a2,a4⟩,a'⟩:=ah;refine i'.eo [6] [.cell 8 125] func132 A Zk ntmps132 A Zs ?_ λU aQ aP=>?_
 .simp
 simp only[dJ,cT,aW,o,go_sem];refine hC 17 h.cap.length (λi=>kq 59 aP aQ [(1,dJ (aK,h,aL)),(3,cT k),(6,.rf 6 (U 6) 0),(8,.rf 8 (U 8) 0),(15,cT h.cap),(16,I h.cap.length)] λaS V=>(∃M,V 6=E ⟨U 6,125,5,aW M,aa⟩/\fl (lj c ((h.cap.take i).map (mJ h.l (ids k)))) (S+3*i) M)/\∃c8,V 8=E ⟨U 8,125,5,c8,aa⟩/\c8.length=5) A
  ⟨A,A,A,by simp[af,ba,dJ,o],⟨⟨.mk a3 bb a2 a4,a'⟩,by simp[aj,aW,Core.ds,ints],by simpa[lj]using a8⟩,_,by simp only[aj];rfl,A⟩ ?_
 rintro i⟨aS,V,ap,bF,bj,bh⟩bD J⟨rfl,rfl,rfl,aE,⟨M,y,w⟩,c8,Q,u4⟩;simp only[a7]at J aE y Q;obtain⟨F,Y,x,Z,W,X,-⟩:=aE;simp only[J,X,go_sem];refine aT (λG=>?_) λG=>?_
 .have L:i<h.cap.length:=by simpa using G
  have aV:=hX (f:=Bi.d) L;have a6:=ax L;obtain⟨a0,ar⟩:=aw _ a6;have aI:(h.cap.take (i+1)).map (mJ h.l (ids k))=(h.cap.take i).map (mJ h.l (ids k))++[mJ h.l (ids k) h.cap[i]]:=by rw[ch L,bC];rfl
  have aZ:=au h.cap[i];have bd:=Ni k h.cap[i] a0 bc ar;have aC:=aA (i+1);have R:=ay (i+1);have bz:=Bi.cl h.cap[i];have aH:(aq Bi.d h.cap).drop (i+1)=aq Bi.d (h.cap.drop (i+1)):=vC _ _;have aJ:(aq Bi.d h.cap).take h.cap.length=aq Bi.d h.cap:=cU Zs;have f1:((i:Int)+1<=(h.cap.length:Int))=True:=bP Zo;have f0:((0:Int)<=(i:Int)+1)=True:=bP Zo;have aO:IntKind.i64.wrap ((i:Int)+1)=(i:Int)+1:=cW _ Zo;have t1:Int.toNat ((i:Int)+1)=i+1:=A;simp only[G,J,Y,W,aV,dJ,o,cT,go_sem];refine bw bd ?_;generalize aF:gf (ids k) h.cap[i].id=m at*;have ai:=ig _ ar;generalize cf h.cap[i].e.t=j at*;simp only[F,dJ,o,cT,aW,dw,go_sem];refine bO aZ ?_;rcases M with⟨⟨q,u,p,r⟩,s⟩
  refine aT (λK=>?_) λK=>?_
  .simp only[go_sem];refine me (.bE [0,1,3] 2 (.fin [4,5,6]) 4 (.fin [2,5,6])) [11] [] ?_;simp only[go_sem];have a5:=made 6 0 [] j [⟨dw (m:Nat),[j]⟩] ai Zs Zs Zs (.inl A);have am:fl (mJ h.l (ids k) h.cap[i]) 2 ⟨.mk 6 0 [] [dw (m:Nat)],[cf j,j]⟩:=⟨by rw[mJ,aM (by simpa using K),aF],Zs,Zs,by simp;exact ig _ ai⟩;refine⟨?_,?_⟩
   all_goals
    refine bO (WW ⟨dw (m:Nat),[j]⟩ A) ?_;refine fm [35] a5 (.c Fz.tk (.c (.cl _ (Cl.bu (O.cl _))) (.c (Fz.az (g:=ap 35) (kids:=[⟨dw (m:Nat),[j]⟩]) (by simp[bi,aj,aW,dw,Core.ds,ints]) A) .n))) (Cl.bu (dF _)) ?_;generalize cf j=P at*;simp only[aN,aW,dw,dN,fX,go_sem];refine me (.bE [0,1,2,3,4,5,6,7,8,9,10,11,12,13,14,16,17] 15 (.fin [18,19,20]) 18 (.fin [15,19,20])) [6,11] [] ?_;simp only[F,x,y,dJ,o,cT,aO,f0,f1,t1,aH,aJ,aN,aW,go_sem];have ak:=made 5 0 [] (gK ((h.cap.drop (i+1)).map λb=>b.e.t) (.mk z C B)) [⟨.mk q u p r,s⟩,⟨.mk 6 0 [] [dw (m:Nat)],[P,j]⟩] R (by simp;exact w.ne) Zs (by simp;have:=w.len;simp at this;omega) (.inl A);refine⟨?_,?_⟩
    all_goals
     refine bw aC ?_;have ae:=fl.step w am (ig _ R);generalize cf (gK ((h.cap.drop (i+1)).map λb=>b.e.t) (.mk z C B))=ab at*;generalize gK ((h.cap.drop (i+1)).map λb=>b.e.t) (.mk z C B)=aU at*;simp only[go_sem];refine fm [55] ak (.c Fz.tk (.c (.cl _ (Cl.bu (O.cl _))) (.c (Fz.az (g:=ap 55) (kids:=[⟨.mk q u p r,s⟩,⟨.mk 6 0 [] [dw (m:Nat)],[P,j]⟩]) (by simp[bi,aj,aW,dw,Core.ds,ints]) A) .n))) (Cl.bu (dF _)) ?_;simp only[J,x,y,aN,aW,dw,dN,fX,go_sem];refine bg L ⟨A,A,A,by simp[af,F,Y,x,Z,W,X,dJ,o],⟨⟨.mk 5 0 [] [.mk q u p r,(⟨.mk 6 0 [] [dw (m:Nat)],[P,j]⟩:bQ).c],ab::(s++(⟨.mk 6 0 [] [dw (m:Nat)],[P,j]⟩:bQ).ty)⟩,by simp[aj,Core.ds,dw,ints],?_⟩,c8,by simp[aj,aN,Q],u4⟩;rw[aI];exact ae
  .have am:fl (mJ h.l (ids k) h.cap[i]) 2 ⟨dw (m:Nat),[j]⟩:=⟨by rw[mJ,av (by simpa using K),aF],Zs,Zs,by simp;exact ai⟩;simp only[go_sem];refine me (.bE [0,1,2,3,4,5,6,7,8,9,10,11,12,13,14,16,17] 15 (.fin [18,19,20]) 18 (.fin [15,19,20])) [6,11] [] ?_;simp only[F,x,y,dJ,o,cT,aO,f0,f1,t1,aH,aJ,aW,go_sem];have ak:=made 5 0 [] (gK ((h.cap.drop (i+1)).map λb=>b.e.t) (.mk z C B)) [⟨.mk q u p r,s⟩,⟨dw (m:Nat),[j]⟩] R (by simp;exact w.ne) Zs (by simp;have:=w.len;simp at this;omega) (.inl A);refine⟨?_,?_⟩
   all_goals
    refine bw aC ?_;have ae:=fl.step w am (ig _ R);generalize cf (gK ((h.cap.drop (i+1)).map λb=>b.e.t) (.mk z C B))=ab at*;generalize gK ((h.cap.drop (i+1)).map λb=>b.e.t) (.mk z C B)=aU at*;simp only[go_sem];refine fm [55] ak (.c Fz.tk (.c (.cl _ (Cl.bu (O.cl _))) (.c (Fz.az (g:=ap 55) (kids:=[⟨.mk q u p r,s⟩,⟨dw (m:Nat),[j]⟩]) (by simp[bi,aj,aW,dw,Core.ds,ints]) A) .n))) (Cl.bu (dF _)) ?_;simp only[J,x,y,aN,aW,dw,dN,fX,go_sem];refine bg L ⟨A,A,A,by simp[af,F,Y,x,Z,W,X,dJ,o],⟨⟨.mk 5 0 [] [.mk q u p r,(⟨dw (m:Nat),[j]⟩:bQ).c],ab::(s++(⟨dw (m:Nat),[j]⟩:bQ).ty)⟩,by simp[aj,Core.ds,dw,ints],?_⟩,c8,by simp[aj,aN,Q],u4⟩;rw[aI];exact ae
 .have a9:i=h.cap.length:=by simp at G;omega
  subst a9;rw[b9]at w;rcases M with⟨⟨q,u,p,r⟩,s⟩
  obtain⟨bH,bI,bJ,bK,bL,rfl⟩:∃a b c d e,c8=[a,b,c,d,e]:=by
   exact Bz
  simp only[G,x,Z,y,Q,aW,go_sem];exact⟨Cl.bu (dF ⟨.mk q u p r,s⟩),⟨.mk q u p r,s⟩,A,w⟩
end
end
end Go.Fw
