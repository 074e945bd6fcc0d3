/- A part of the proof about CompileMain. No condition. -/
import Derived.RangeFuncRecord
import Derived.RangeFuncCalls
import Derived.OrdersIn
import Derived.TacticsIn
import Derived.Maps.RangeWalk
import Derived.Test.YtblbcplhbjkkjaaGreatProg
import Derived.Test.YtblbcplhbjkkjaaGreatM01
set_option maxRecDepth 100000
set_option maxHeartbeats 8000000
set_option linter.unusedSimpArgs false
set_option linter.unusedVariables false
set_option linter.defProp false
open Go.Proofs.Tryz
open List
open Bool renaming false->af,true->W
open Decidable renaming decide->ah
open Go renaming Act->dF,Code->dJ,Exit->iG,Func->hC,FuncId->bI,Op->gC,Oper->dU,Operand->gK,Program->aH,ResultVar->lC,TypeId->a6,Value->aN,World->a8,execOp->eI,maxLen->aE,undef->eX,wpList->lF
open Go.IntKind renaming i64->cb
open Go.IntWalk renaming i64_in->dE
open Go.Proofs.Tryz renaming prog->aB
open List renaming flatten->ao,length->A,range->cz,replicate->fu,take->Y
open Nat renaming reduceEqDiff->bj
open Option renaming none->Q,some->E
open Or renaming inl->aG,inr->aj
namespace Go.Fw
noncomputable section
open Go.RowKit
structure gE (P:aH) (f:bI) (eF:List D) (e:a6) (sz:Nat) (aq:List (List D)):Prop where
 ok:pU P f
 Jt:∀d∈ao aq,Cl d
 run:∀(w:a8)(M:Nat->Prop)(vs:List aN),MB M w->A eF=A vs->
  (∀(i:Nat)(d:D)(v:aN),eF[i]?=E d->vs[i]?=E v->Rd (aR w M (λ_=>Q) dY) d v)->
  Calls P f vs.toArray w λz w'=>∃v y,z=.returned v/\pK w.heap.size w w'/\sD w' M e sz aq v y/\∀b,y=E b->w.heap.size<=b
variable {g3:aH}{g5:bI}{c2:aU}{a9 g6:DL}{g4:a6}{am a0 a2:Nat}{g7:ON}{ip qr:cB}{bv:St}{m7:a8}{n6:cG}{fd hO:a'}{eq:D}{gc ih m4:Prop}{gt i4:ax}{n7 z0:dJ}{z5:gg}{ajc:Nat → D → Prop}{v9:Bs}{ajh:dF}{s2:Ob}{g2:Type}{g8 m6:bi}{ws:gK}{i3:cf}{a3:Int}{gs:BA}{hH:aX}
def Yd{s:St}{t:Nat}{args:DL}{g:a6}{sz:Nat}{j:cB}(x:gE g3 g5 args g sz j)
 (M:∀d∈args,Cl d) (J:j=[]->c2 (s.put (E t)<|.sc<|.slice Q 0 0))
 (K:c2<|(k9 s t g sz<|ao j).put (E t)<|.ms t (s.n t)<|A j):er g3 s g5 args (E t) c2:=by
 refine λau i k an w ar l al P Y=>⟨x.ok,?_⟩;have V:∀{d:D}{v:aN},Cl d->Rd (aR w i k s.n) d v->Rd (aR w (λb=>i b\/∃t h e,k t=E (h,b,e)) (λ_=>Q) dY) d v:=λo a=>a.closed (λb ae u F=>by
  refine⟨?_,ku⟩;have⟨m,r⟩:=dQ F;refine fD (eW F) ?_ Zs;rintro(a|⟨t,h,e,a⟩)
  .exact m a
  exact r _ _ _ a) o
 refine(x.run w (λb=>i b\/∃t h e,k t=E (h,b,e)) al (λb a=>?_) P λab d v m r=>V (M d<|fE m)<|Y ab d v m r).mono ?_
 .obtain a|⟨t,h,e,a⟩:=a
  .exact(l.m0 b a).1
  exact(l.base _ _ _ _ a).2
 rintro av w'⟨v,am,rfl,f,B,aa⟩;refine⟨v,?_⟩;obtain _|b:=am
 .obtain⟨S,rfl⟩:=B;exact⟨_,s.H,s.n,s.T,k,i,C,l.grow f.toBelow f.dr,.sc _,J S⟩
 obtain⟨e,ak,rfl,z,X,y,R,L⟩:=B;have U:=l.Vk (w':=w') t t b e ak {gen:=s.n t,elem:=g,sz,cells:=ao j} C (λa O _=>f.block a O) (aG<|aa b C) (KO z) (.of z C) (λ_=>X) y.1 R
  (λad d o=>by
   have⟨u,G,I⟩:=L ad d o;refine⟨u,G,I.mono ⟨λap ae u g=>⟨?_,ku⟩,λ_=>kT _,λs h b e Z g=>absurd Z<|x_ _⟩⟩;have⟨q,_⟩:=dQ g;refine fD (eW g) (λa=>q<|aG<|aG a) λah h aq a=>?_;by_cases p:ah=t
   .subst p;rw[bN]at a;cases a;exact q (aj C)
   rw[a_ _ _ p,a_ _ _ p]at a;exact q<|aG<|aj ⟨_,_,_,a⟩) f.os f.tape f.output f.size f.dr
 exact⟨_,_,_,s.T,_,i,C,U,uq rr y.2<|bN _ _ _,K⟩
def tS{b:St}{aW aV args:DL}{a:Nat}(f:a6)(j:Nat)(i:cB)(l:gE g3 g5 (aW++args++aV) f j i)
 (o:∀d∈aW++args++aV,Cl d) (h:∀H n k,aL [a] H f j i k->(∀e,e≠a->H e=b.H e)->c2 ({b with H:=H,n:=n}.put (E a) k)):jU g3 b (.fn g5 aW aV) args (E a) c2:=
 aj (aj<|Yd l o (λm=>h b.H b.n _ (aG ⟨m,C⟩) λ_ _=>C) (h _ _ _ (aj ⟨a,b.n a,Zs,C,by simp[bN]⟩) λe g=>by show ai (ai b.H a Q) a _ e=_;rw[a_ _ _ g,a_ _ _ g]))
theorem gE.ey{e:hC}{h:dJ}{k:cB}(al:ax)(z:hV)(x:g3.funcs[g5]?=E e)(u:e.body=E h)(o:(e.name== "runtime.NumGoroutine")=af)
 (X:e.ntmps=a0) (Z:e.results.toList=z) (V:A a9<=a0) (w:∀d∈ao k,Cl d) (L:vc g3 al h (Vv g3 z g4 am k)<|mU a9 a0):gE g3 g5 a9 g4 am k:=by
 subst Z;refine⟨⟨e,x,o,Yf u⟩,w,λq I aK M U ab=>?_⟩;subst X;refine calls_of_wp x u (wp_mono (pG h _ (ba.start (Ts:=[]) Q C M U V (λah d v a ad=>(ab ah d v a ad).mono (oU λb=>cq)) Zs Zs) L) λK r l⟨B,aC,aA,j,f⟩=>?_);have t:∀d,d_ g3 B e.results.toList=E d->tT g4 am k B d->r.defers=[]/\∃v,(results e r.tmps).run g3 l=.ok v l/\∃D G,Ending.returned v=.returned D/\pK q.heap.size q l/\sD l I g4 am k D G/\∀b,G=E b->q.heap.size<=b:=by
  rintro d a m;have⟨v,F,az⟩:=vS f a;refine⟨f.defers,v,az,v,?_⟩;obtain⟨o,rfl⟩|⟨ar,an,rfl,Y,rfl,rfl,⟨aJ,aD⟩,y⟩:=m
  .cases F;exact⟨Q,C,tQ f.below Zs,⟨o,C⟩,Zs⟩
  have⟨_,b,h,us,i,S,aa,m,aF,P⟩:=f.obj ar an Y;have i:=i;cases F with|ms _ _ _ aB J R ae=>
  obtain⟨rfl,rfl⟩:=ae b h i;refine⟨E b,C,tQ f.below Zs,⟨J,us,C,S.cells y,aa y,⟨m,R.2⟩,Zg,λak d a=>?_⟩,λs O=>?_⟩
  .have⟨au,av,ay⟩:=P ak d Zg;refine⟨au,av,ay.closed (λs aI aL g=>⟨?_,ku⟩)<|w d<|fE a⟩;have⟨j,aq⟩:=dQ g;refine fD (eW g) ?_ Zs;rintro(ap|rfl)
   .exact j<|(f.mm s).2<|aG ap
   exact aq _ _ _ i
  cases O;obtain g|⟨_,g,_⟩:=(f.base _ _ _ _ i).1
  .exact g
  cases g
 cases K
 case normal=>obtain⟨d,a,p⟩:=j;exact t d a p
 case ret=>obtain⟨d,a,p⟩:=j;exact t d a p
 all_goals exact j.elim
def GK.empty{f:aU}{e:St}(b o:Nat)(w:e.env b=.sl o [])(x:f {e with env:=aw e.env b (.sc<|.slice Q 0 0)})(k:∀g s,f {e with env:=aw e.env b (.sc<|.slice (E g) 0 s)}):GK f e:=by
 intro G q t g F a;have h:=a.env b;rw[w]at h;generalize B:g.tmps.getD b eX=v at h;have j p (A:v=p) (y:f {e with env:=aw e.env b (.sc p)}):∃m u r,f m/\ba G r u m g F:=by
  refine⟨_,t,q,y,a.defers,a.size,λi=>?_,a.obj,a.base,a.inj,a.below,a.m0,a.mm,a.zm,a.tree,a.nd,a.og,a.wm⟩;show Rd _ (if i=b then _ else _) _;by_cases l:i=b
  .subst l;rw[aM C,B,A];exact .sc _
  rw[aC l];exact a.env i
 generalize z:D.sl o []=d at h;cases h<;>cases z
 .exact j _ C x
 .exact j _ C (k _ _)
 exact j _ C (k _ _)
def M2(y:D):Prop:=y=bp\/∃t g l,y=.ms t g l
structure AD (P:aH) (f:bI) (post:List D) (e:a6) (sz:Nat) (aq a:List (List D)) (r:D->D):Prop where
 ok:pU P f
 len:A a=A aq
 cl:∀d∈ao aq,Cl d
 Jt:∀d∈ao a,Cl d
 run:∀(w:a8)(M:Nat->Prop)(vs:List aN)(u:aN)(x:Option Nat),MB M w->(∀b,x=E b->¬M b)->A post=A vs->
  (∀(i:Nat)(d:D)(v:aN),post[i]?=E d->vs[i]?=E v->Rd (aR w (λb=>M b\/x=E b) (λ_=>Q) dY) d v)->
  sD w M e sz aq u x->
  Calls P f (u::vs).toArray w λz w'=>∃v,z=.returned v/\(p5 w M λb=>x=E b).Ok w'/\sD w' M e sz a u x/\∀ay y,M2 y->Rd ay y u->Rd ay (r y) v
def Yk{s:St}{post:DL}{e:D}{g:a6}{sz:Nat}{r:D->D}{S:ax}(z:AD g3 g5 post g sz ip qr r)(I:aL S s.H g sz ip e)
 (ap:∀d∈post,Cl d) (al:∀H,aL S H g sz qr e->(∀h,h∉S->H h=s.H h)->c2 ({s with H:=H}.put g7<|r e)):er g3 s g5 (e::post) g7 c2:=by
 intro a0 i j av l env a a7 aK G;obtain⟨us,y,au,rfl,ay,ah,R,a4,ak⟩:=afN (pre:=[]) aK G;obtain rfl:us=[]:=by cases us with|nil=>rfl|cons=>simp at ay
 refine⟨z.ok,?_⟩;have az:=R;obtain⟨rfl,rfl⟩|⟨t0,P,an,rfl,aP⟩:=I
 .cases R;have L:∀{d:D}{v:aN},Cl d->Rd (aR l i j s.n) d v->Rd (aR l (λb=>(i b\/∃h e f,j h=E (e,b,f))\/(Q:ON)=E b) (λ_=>Q) dY) d v:=λA k=>k.closed (λb ar y q=>by
   refine⟨?_,ku⟩;have⟨p,w⟩:=dQ q;refine fD (eW q) ?_ Zs;rintro((k|⟨h,e,f,k⟩)|k)
   .exact p k
   .exact w _ _ _ k
   cases k) A
  refine(z.run l (λb=>i b\/∃h e f,j h=E (e,b,f)) au _ Q (λb k=>?_) Zs ah (λJ d v p w=>L (ap d<|fE p)<|ak J d v p w) ⟨C,C⟩).mono ?_
  .obtain k|⟨h,e,f,k⟩:=k
   .exact(a.m0 b k).1
   exact(a.base _ _ _ _ k).2
  rintro a1 K⟨v,rfl,m,a5,G⟩;have t:pK l.heap.size l K:=tQ m Zs;refine⟨v,_,s.H,s.n,s.T,j,i,C,a.grow t.toBelow t.dr,G _ _ (aG C)<|.sc _,al s.H (aG ⟨?_,C⟩) λ_ _=>C⟩;have ab:=z.len;simpa using ab
 have⟨aX,b0,ae,aZ,o,aJ,aT,aB,aO,aD⟩:=a.obj t0 _ aP;have o:j t0=E (P,b0,ae):=o;cases R with|ms _ _ _ a2 O aF I=>
 obtain⟨rfl,rfl⟩:=I b0 ae o;have am:¬i b0:=λk=>(a.m0 b0 k).2 _ _ _ o;have L:∀{d:D}{v:aN},Cl d->Rd (aR l i j s.n) d v->Rd (aR l (λb=>(i b\/∃h e f,j h=E (e,b,f)/\b≠b0)\/E b0=E b) (λ_=>Q) dY) d v:=λA k=>k.closed (λb ar y q=>by
  refine⟨?_,ku⟩;have⟨p,w⟩:=dQ q;refine fD (eW q) ?_ Zs;rintro((k|⟨h,e,f,k,_⟩)|k)
  .exact p k
  .exact w _ _ _ k
  cases k;exact w _ _ _ o) A
 refine(z.run l (λb=>i b\/∃h e f,j h=E (e,b,f)/\b≠b0) au _ (E b0) (λb k=>?_) ?_ ah (λJ d v p w=>L (ap d<|fE p)<|ak J d v p w) ⟨O,aZ,C,aJ.cells C,aT C,⟨aB,aF.2⟩,aO,λX d aq=>?_⟩).mono ?_
 .obtain k|⟨h,e,f,k,_⟩:=k
  .exact(a.m0 b k).1
  exact(a.base _ _ _ _ k).2
 .rintro b t(k|⟨h,e,f,k,F⟩)
  .cases t;exact am k
  cases t;exact F C
 .have⟨y,Y,Z⟩:=aD X d aq;have ab:=L (z.cl d<|fE aq) Z;exact⟨y,Y,ab.mono (oU λb k=>k.elim aG λk=>aj<|Yw k)⟩
 rintro a1 K⟨v,rfl,m,⟨f,aY,aW,aI,aS,aA,aM,aC⟩,G⟩;obtain rfl:O=f:=by injection aW
 have M k (B:k<l.heap.size) (F:k≠b0):K.heap[k]?=l.heap[k]?:=m.block k λq=>by
  obtain q|q:=q
  .exact absurd q wF
  cases q;exact F C
 have V:(aR l i j s.n).Ext<|aR K i j s.n:=v_ (b':=b0) (λ_=>bJ _) (λk B F=>M k B F) (aj ⟨_,_,_,o⟩) λ_ _ _ _ g=>aG g;have aQ:ba a0 i j {s with env:=env,H:=ai s.H t0 (E {gen:=P,elem:=g,sz,cells:=ao qr})} av K:=by
  refine⟨a.defers,a.size,λJ=>(a.env J).mono V,λx aa u=>?_,λx e b f g=>⟨(a.base _ _ _ _ g).1,iR (a.base _ _ _ _ g).2 m.size⟩,a.inj,a.below.step m.os m.tape m.output m.size (λk B=>M k (iR (Bs.vL B) a.below.size) λq=>B (q▸((a.base _ _ _ _ o)).1)) m.dr,
   λb k=>⟨iR (a.m0 b k).1 m.size,(a.m0 b k).2⟩,a.mm,a.zm,CM (s:={s with env:=env}) a λb k=>M b (a.m0 b k).1 λq=>am (q▸k),a.nd,a.og,a.wm⟩
  by_cases U:x=t0
  .subst U;have u:ai s.H x _ x=E aa:=u;rw[bN]at u;cases u;refine⟨aX,b0,O,aY,o,.of aI C,λ_=>aS,aA.1,aM,λX d A=>?_⟩;have⟨y,Y,Z⟩:=aC X d A;refine⟨y,Y,Z.mono ⟨λb' ar y g=>⟨?_,ku⟩,λ_=>kT _,λs e b f I g=>absurd I<|x_ _⟩⟩;have⟨ad,_⟩:=dQ g;refine fD (eW g) (λk=>ad<|aG<|aG k) λx e a3 k=>?_;by_cases t:b'=b0
   .exact ad<|aj t
   exact ad<|aG<|aj ⟨_,_,_,k,t⟩
  have u:ai s.H t0 _ x=E aa:=u;rw[a_ _ _ U]at u;refine(a.obj x aa u).mono V λe b f g=>⟨g,M b (a.base _ _ _ _ g).2 λq=>?_⟩;subst q;exact U<|a.inj _ _ _ _ _ _ _ g o
 refine⟨v,_,_,s.n,s.T,j,i,C,aQ,G _ _ (aj ⟨_,_,_,C⟩)<|az.mono V,al _ (aj ⟨t0,P,an,Yw z.len,bN _ _ _⟩) λh aV=>a_ _ _ λq=>aV (q▸an)⟩
def Jg{a:St}{aW aV args:DL}(S:ax)(post:DL)(b:D)(e:a6)(f:Nat)(i h:cB)(r:D->D)(j:AD g3 g5 post e f i h r)
 (l:aW++args++aV=b::post) (o:aL S a.H e f i b) (m:∀d∈post,Cl d)
 (k:∀H,aL S H e f h b->(∀g,g∉S->H g=a.H g)->c2 ({a with H:=H}.put g7<|r b)):jU g3 a (.fn g5 aW aV) args g7 c2:=by
 refine aj<|aj ?_;rw[l];exact Yk j o m k
def Vq:d_ g3 bv []=E (.tp []):=cQ C C
variable{P:aH}{mu:ax}{s:St}{t i j:Nat}{ty e:a6}{sz wP:Nat}{K:aU}{S:ax}{aq bD:cB}
def UI{b:D}{d:Nat×DL}(a:dS s e sz b=E d)(g:0<d.1):(∃k r,b=.sl k r)\/∃t f h,b=.ms t f h:=by
 unfold dS at a;split at a
 .exact aG ⟨_,_,C⟩
 .exact aj ⟨_,_,_,C⟩
 .cases a;exact absurd g Zs
 cases a
def eC.eS(o:cE P ty=E (e,sz,wP))(u:aL S s.H e sz aq<|s.env i)(y:∀r∈aq,A r=sz)(b:dS s e sz (s.env j)=E (A bD,ao bD))(f:0<A bD)(k:bD.flatten.all cO=W)
 (m:(A aq+A bD)*wP<=140737488355328) (p:A aq+A bD<=aE)
 (l:∀H n w,aL [t] H e sz (aq++bD) w->(∀d,d≠t->d∉S->H d=s.H d)->K ({s with H:=H,n:=n}.put (E t) w)):
 eC P mu (.call ⟨.builtin .append,#[.tmp i,.tmp j],#[ty,ty]⟩) (E t) K s:=by
 show n_ t K<|hA P mu s t<|.call ⟨.builtin .append,#[.tmp i,.tmp j],#[ty,ty]⟩;have F:=u;obtain⟨rfl,h⟩|⟨t0,D,hS,h,z⟩:=u
 .have g:hA P mu s t (.call ⟨.builtin .append,#[.tmp i,.tmp j],#[ty,ty]⟩)=E (bD.flatten.all cO=W/\0<A bD/\A bD*wP<=140737488355328/\A bD<=aE,k9 s t e sz (ao bD),.ms t (s.n t)<|A bD):=by
   obtain⟨C,r,a⟩|⟨t1,x,B,a⟩:=UI b f<;>rw[a]at b<;>simp only[hA,St.ev,h,a,o,bx]<;>rw[b]
  rw[g];refine⟨⟨k,f,by simpa using m,by simpa using p⟩,l (k9 s t e sz<|ao bD).H _ _ (aj ⟨t,s.n t,Zs,Zs,?_⟩) λd k1 k2=>?_⟩
  .simp[k9,bN]
  simp only[k9];rw[a_ _ _ k1,a_ _ _ k1]
 have g:hA P mu s t (.call ⟨.builtin .append,#[.tmp i,.tmp j],#[ty,ty]⟩)=E (bD.flatten.all cO=W/\(A aq+A bD)*wP<=140737488355328/\A aq+A bD<=aE,r2 s t0 t e sz (ao aq++ao bD),.ms t (s.n t)<|A aq+A bD):=by
  obtain⟨C,r,a⟩|⟨t1,x,B,a⟩:=UI b f<;>rw[a]at b<;>simp only[hA,St.ev,h,a,o,bx]<;>rw[z,b]<;>simp only[iY y,kV,bx]
 rw[g];refine⟨⟨k,m,p⟩,l (r2 s t0 t e sz<|ao aq++ao bD).H _ _ (aj ⟨t,s.n t,Zs,Zs,?_⟩) λd k1 k2=>?_⟩
 .simp[r2,bN]
 exact Ns
def GK.u5(D:i≠j)(hi:cE P ty=E (e,sz,wP))(w:aL S s.H e sz aq<|s.env i)(p:∀r∈aq,A r=sz)(I:dS s e sz (s.env j)=E (A bD,ao bD))(J:bD=[]->s.env j=.sl sz [])(g:bD.flatten.all cO=W)
 (o:(A aq+A bD)*wP<=140737488355328) (u:A aq+A bD<=aE)
 (h:∀H n f m,(∀d,d≠j->m d=s.env d)->aL [t] H e sz (aq++bD) f->(∀b,b≠t->b∉S->H b=s.H b)->K ({s with env:=m,H:=H,n:=n}.put (E t) f)):
 GK (eC P mu (.call ⟨.builtin .append,#[.tmp i,.tmp j],#[ty,ty]⟩) (E t) K) s:=by
 by_cases y:bD=[]
 .subst y;have x:=J C;obtain⟨rfl,l⟩|⟨t0,L,hS,l,F⟩:=w
  .have z:∀v,(v=.slice Q 0 0\/∃a c,v=.slice (E a) 0 c)->eC P mu (.call ⟨.builtin .append,#[.tmp i,.tmp j],#[ty,ty]⟩) (E t) K {s with env:=aw s.env j (.sc v)}:=λv hv=>by
    show n_ t K<|hA P mu _ t<|.call ⟨.builtin .append,#[.tmp i,.tmp j],#[ty,ty]⟩;have e1:aw s.env j (.sc v) i=bp:=by simp only[aw];rw[aC D];exact l
    have e2:aw s.env j (.sc v) j=.sc v:=bU;have k:hA P mu {s with env:=aw s.env j (.sc v)} t (.call ⟨.builtin .append,#[.tmp i,.tmp j],#[ty,ty]⟩)=E (True,{s with env:=aw s.env j (.sc v)},.sc<|.slice Q 0 0):=No;rw[k];exact⟨trivial,h s.H s.n _ _ (λd G=>by simp[aw,G]) .nil λ_ _ _=>C⟩
   exact GK.empty j sz x (z _<|aG C) λa c=>z _<|aj ⟨a,c,C⟩
  refine GK.cM ?_;show n_ t K<|hA P mu s t<|.call ⟨.builtin .append,#[.tmp i,.tmp j],#[ty,ty]⟩;have k:hA P mu s t (.call ⟨.builtin .append,#[.tmp i,.tmp j],#[ty,ty]⟩)=E (([]:DL).all cO=W/\(A aq+0)*wP<=140737488355328/\A aq+0<=aE,r2 s t0 t e sz (ao aq++[]),.ms t (s.n t)<|A aq+0):=by
   simp only[hA,St.ev,l,x,hi,bx,dS,gR,fX,F,iY p,kV]
  rw[k];refine⟨⟨C,by simpa using o,by simpa using u⟩,h (r2 s t0 t e sz<|ao aq++[]).H _ _ s.env (λ_ _=>C) (aj ⟨t,s.n t,Zs,Zs,?_⟩) λb k1 k2=>?_⟩
  .simp[r2,bN]
  exact Ns
 exact GK.cM (eC.eS hi w p I (uJ.2 y) g o u λH n f g B=>h H n f s.env (λ_ _=>C) g B)
theorem gi.nil{sz:Nat}:gi (.sc<|.slice Q 0 0)<|.sl sz []:=λb v a=>by cases a;exact .nil sz
def sD.rd{a:Nat}{v:aN}(k:sD m7 n6 g4 a ip v g7)(j:∀r∈ip,A r=a)(t:∀b,g7=E b->¬n6 b):
 Rd (aR m7 n6 (λ_=>Q) dY) (.sl a ip) v:=by
 cases g7 with
 |none=>obtain⟨rfl,rfl⟩:=k;exact .nil a
 |some b=>
  obtain⟨q,us,rfl,s,z,m,y,o⟩:=k;refine .sl a ip b 0 q (λf h=>us.getD (f*a+h) eX) m.2 m.1 (λf r e=>j r<|fE e) (λf r h d e i=>?_) λf r h d e i=>?_
  .obtain⟨p,g,l⟩:=o _ _<|mJ j e i;refine fD ?_ (t b C) Zs;rw[pW s,ew,g];simp[g]
  obtain⟨p,g,l⟩:=o _ _<|mJ j e i;have w:us.getD (f*a+h) eX=p:=by simp[g]
  rw[w];exact l.mono (oU λx u=>aG u)
def gE.sp(a:gE g3 g5 a9 g4 am ip)(h:∀r∈ip,A r=am):Sp g3 g5 a9<|.sl am ip:=
 ⟨a.ok,λq e p d i k=>(a.run q e p d i k).mono λu s⟨v,t,m,f,j,l⟩=>⟨v,m,f,j.rd h λb g o=>by have:=d b o;have:=l b g;omega⟩⟩
def eG(d:aL [am] fd g4 a0 ip eq)(g:ip≠[]):∃a,eq=.ms am a (A ip)/\fd am=E ⟨a,g4,a0,ao ip,Q⟩:=by
 obtain⟨e,-⟩|⟨t1,a,b,rfl,f⟩:=d
 .exact absurd e g
 simp only[dg]at b;subst b;exact⟨a,C,f⟩
def n9{S:ax}(a:aL S fd g4 am ip eq):cO eq=W:=by
 obtain⟨-,rfl⟩|⟨t1,b,e,rfl,d⟩:=a<;>rfl
inductive fw (b:Nat):D->Prop
 |here (ds:List D):fw b (.pa b ds)
 |pa (b':Nat) {ds:List D} {d:D} (hd:d∈ds) (h:fw b d):fw b (.pa b' ds)
 |cp {ds:List D} {d:D} (hd:d∈ds) (h:fw b d):fw b (.cp ds)
 |ag {ds:List D} {d:D} (hd:d∈ds) (h:fw b d):fw b (.ag ds)
 |tp {ds:List D} {d:D} (hd:d∈ds) (h:fw b d):fw b (.tp ds)
 |sl {sz:Nat} {aq:List (List D)} {r:List D} {d:D} (hr:r∈aq) (hd:d∈r) (h:fw b d):fw b (.sl sz aq)
 |cs {sz:Nat} {aq:List (List D)} (h:fw b (.sl sz aq)):fw b (.cs sz aq)
 |fn (f:bI) {eF bs:List D} {d:D} (hd:d∈eF\/d∈bs) (h:fw b d):fw b (.fn f eF bs)
def fw.cell{y:View}{b:Nat}{d:D}(u:fw b d):∀{v:aN},Rd y d v->∃A q,y.dD b A=E q:=by
 have k:∀{t:DL}{d:D},d∈t->∃j,t[j]?=E d:=λe=>jg.1 e
 induction u with
 |here t=>
  intro v f;cases f with|pa _ _ us z G r m=>exact⟨0,us 0,r 0 _<|bL z⟩
 |pa K e _ h=>
  intro v f;have⟨j,i⟩:=k e;cases f with|pa _ _ us z G r m=>exact h (m j _ i)
 |cp e _ h=>
  intro v f;have⟨j,i⟩:=k e;cases f with|cp _ _ _ us r m=>exact h (m j _ i)
 |ag e _ h=>
  intro v f;have⟨j,i⟩:=k e;cases f with|ag _ B o p=>
  have⟨q,_,l⟩:=Rd.wM o p i;exact h l
 |tp e _ h=>
  intro v f;have⟨j,i⟩:=k e;cases f with|tp _ B o p=>
  have⟨q,_,l⟩:=Rd.wM o p i;exact h l
 |sl x e _ h=>
  intro v f;have⟨j,i⟩:=jg.1 x;have⟨J,F⟩:=k e;cases f with
  |nil=>cases x
  |gv=>cases x
  |sl _ _ b A L us R S o r m=>exact h (m j _ J _ i F)
 |cs _ h=>
  intro v f;cases f with|cs _ _ _ u _=>exact h u
 |fn O e _ h=>
  intro v f;cases f with|fn _ _ _ B us o I p C=>
  obtain e|e:=e
  .have⟨j,i⟩:=k e;have⟨q,_,l⟩:=Rd.wM o p i;exact h l
  have⟨j,i⟩:=k e;have⟨q,_,l⟩:=Rd.wM I C i;exact h l
def Hx(s:St)(b:Nat):Prop:=(∀j,¬fw b (s.env j))/\(∀t ob,s.H t=E ob->∀d∈ob.cells,¬fw b d)/\s.N<=b
variable{P:aH}{w0:Bs}{M:cG}{g:dZ}{s:St}{a:dF}{w:a8}
theorem ba.UG(e:ba w0 M g s a w){q t b i:Nat}(h:g q=E (t,b,i)):Hx s b:=by
 have o:∀{d:D}{v:aN},Rd (aR w M g s.n) d v->¬fw b d:=λf j=>by
  have⟨B,C,m⟩:=j.cell f;exact(dQ m).2 _ _ _ h
 refine⟨λl=>o<|e.env l,λr p k d f=>?_,e.wm b (e.base _ _ _ _ h).1⟩;have⟨_,u,x,F,_,_,_,_,_,y⟩:=e.obj r p k;have⟨A,z⟩:=jg.1 f;exact Zg
theorem GK.ptr{x:aU}{s:St}(l i y:Nat)(h:Ob)(G:s.env l=.rf i y 0)(L:s.H i=E h)(X:h.gen=y)(K:h.keys=Q)(I:0<A h.cells)(V:∀d∈h.cells,Cl d)
 (J:∀b,Hx s b->x {s with env:=aw s.env l (.pa b h.cells),H:=aT [i] s.H}):GK x s:=by
 intro w0 M g a w hr;have⟨Z,b,F,r,s5,vy,ab,U,aa,pj⟩:=hr.obj i h L;have vy:=vy.cells K;have f:=hr.aT [i];have SP:∀q t m,aT [i] g q≠E (t,b,m):=λq t m e=>HR;have SO:¬M b:=λk=>(hr.m0 b k).2 _ _ _ s5;refine⟨_,aT [i] g,M,J b<|hr.UG s5,f.defers,f.size,λj=>?_,f.obj,f.base,f.inj,f.below,f.m0,f.mm,f.zm,f.tree,f.nd,f.og,f.wm⟩;show Rd _ (if j=l then _ else _) _;by_cases z:j=l
 .subst z;rw[aM C];have o:=hr.env j;rw[G]at o;generalize a.tmps.getD j eX=v at o;cases o with|rf _ _ _ R Y O=>
  have B:=O b F Zg;subst B;have ad:∀{d:D}{u:aN},Cl d->Rd (aR w M g s.n) d u->Rd (aR w M (aT [i] g) s.n) d u:=λhd k=>k.closed (λS ae t p=>⟨fD (eW p) (dQ p).1 λq ah m e=>(dQ p).2 _ _ _ (kK e).2,ku⟩) hd;refine .pa b h.cells (λk=>r.getD k eX) I ⟨r,h.elem,vy⟩ (λk d hd=>Nb) λk d hd=>?_;have⟨u,u1,u2⟩:=pj k d hd;have B:r.getD k eX=u:=Yr u1;exact Zg
 rw[aC z];exact f.env j
def Rd.nY(m:ba w0 M g s a w)(b:ax){d e:D}(l:Fz (b5 b s.H) d e)(k:Cl e){v:aN}(j:Rd (aR w M g s.n) d v):Rd (aR w M (Fw.aT b g) s.n) e v:=
 (Rd.JZ m b l j).closed (λ_ _ _ h=>⟨fD (eW h) (λf=>(dQ h).1<|aG f) λo p i f=>(dQ h).1<|aj ⟨o,p,i,f⟩,ku⟩) k
def GK.nY{j:aU}{s:St}(d:ax)(e:Nat)(h:D)(o:Fz (b5 d s.H) (s.env e) h)(m:Cl h)(l:j {s with env:=aw s.env e h,H:=aT d s.H}):GK j s:=by
 intro w0 M g a w i;have b:=i.aT d;refine⟨_,aT d g,M,l,b.defers,b.size,λf=>?_,b.obj,b.base,b.inj,b.below,b.m0,b.mm,b.zm,b.tree,b.nd,b.og,b.wm⟩;show Rd _ (if f=e then _ else _) _;by_cases k:f=e
 .subst k;rw[aM C];exact Rd.nY i d o m<|i.env f
 rw[aC k];exact b.env f
def GK.uf{B:aU}{s:St}(h:ax)(o r:Nat)(f:Ob)(d p:D)(G:s.H o=E f)(ak:o∉h)(u:f.cells[r]?=E d)(ab:Fz (b5 h s.H) d p)(aa:Cl p)
 (Z:B {s with H:=ai (aT h s.H) o (E {f with cells:=f.cells.set r p})}):GK B s:=by
 intro w0 M g a w z;have e:=z.aT h;refine⟨_,aT h g,M,Z,e.defers,e.size,e.env,λi K l=>?_,e.base,e.inj,e.below,e.m0,e.mm,e.zm,e.tree,e.nd,e.og,e.wm⟩;have l:ai (aT h s.H) o (E {f with cells:=f.cells.set r p}) i=E K:=l;by_cases I:i=o
 .subst I;rw[bN]at l;cases l;have ae:aT h s.H i=E f:=by unfold aT;rw[aC ak];exact G
  have⟨al,b,F,A,L,m,am,an,ao,q6⟩:=e.obj i f ae;refine⟨al,b,F,A,L,m,am,an,Yq ao,λj x hx=>?_⟩;have ad:=(dX.1 u).1;by_cases hj:j=r
  .subst hj;rw[C4 ad]at hx;cases hx;have⟨_,X,Y,R,t,ap,_,_,_,aq⟩:=z.obj i f G;have ah:g i=E (f.gen,b,F):=(kK L).2;have t:g i=E (f.gen,X,Y):=t;rw[ah]at t;cases t;have⟨aJ,av,ay⟩:=aq j d u;have⟨au,O,aK⟩:=q6 j d u;exact⟨au,O,by
    have k:=ap;have J:R[j]?=A[j]?:=by
     unfold jh at m k;split at m
     .rename_i y;rw[y]at k;rw[m]at k;cases k;rfl
     rename_i aI y;rw[y]at k;obtain⟨aF,aB,S,az,U,-⟩:=m;obtain⟨aH,aD,C,aA,V,-⟩:=k;rw[S]at C;cases C;have ar:A.toList=R.toList:=U.symm.trans V;rw[<-CT,<-CT,ar]
    rw[av,O]at J;cases J;exact Rd.nY z h ab aa ay⟩
  exact HV
 rw[a_ _ _ I]at l;exact e.obj i K l
def hD.cp(a:hD a9):Cl<|.cp a9:=Cl.eT a.all
def hD.ag(a:hD a9):Cl<|.ag a9:=Cl.bC a.all
def iT(b:hD a9:=by(repeat' (first|exact hD.n|refine hD.c ?_ ?_|assumption|exact bc _|exact mE _|exact kY _|exact J.db _|exact ae.db _|exact aa.db _|exact L.db _|exact O.db _|exact aJ.db _|exact Nd.cl _|exact Bi.cl _|exact pc _|exact nq _|exact rC _|exact Cl.bC kj|exact Cl.eT kj|exact Cl.bC (J.cl _)|exact Cl.eT (L.cl _)|exact Cl.bC (O.cl _)|exact Cl.bC (L.cl _)|exact Cl.eT (O.cl _)|exact Cl.jd (ae.dl _)|exact Cl.jd (aa.dl _)|exact Cl.jd (J.dl _)|exact Cl.jd (L.dl _)|exact Cl.jd (O.dl _)|exact Cl.jd (aJ.dl _)|exact Cl.jd kj|refine hD.ag ?_|refine hD.cp ?_|exact ff λa _=>Bi.cl a|exact ff λa _=>Nd.cl a|exact Cl.ue kj kj|refine Cl.ue (hD.all ?_) (hD.all ?_)|simp));done):hD a9:=b
def da(a:hD a9:=by exact iT):∀d∈a9,Cl d:=a.all
def hW{s:St}{aW aV args:DL}{r:D}(a:Sp g3 g5 (aW++args++aV) r)(d:hD<|aW++args++aV)(b:c2<|s.put g7 r):
 jU g3 s (.fn g5 aW aV) args g7 c2:=bR r a d.all b
def sR{s:St}{aW aV args:DL}{r:D}(a:Sp g3 g5 (aW++args++aV) r)(d:hD<|aW++args++aV)(b:c2<|s.put g7 r):
 wR g3 s (.fn g5 aW aV) args g7 c2:=fS r a d.all C b
structure Hid (q:Prop):Prop where
 h:q
def JJ{b:Prop}(a:gc)(d:b):gc/\b:=⟨a,d⟩
def ZN(a:Hid ih->gc:=by intro d;simp only[go_sem];exact d.h)(b:ih):gc:=a ⟨b⟩
def ad(b:gc)(a:gc->Hid m4->ih:=by intro d f;simp only[d,go_sem];exact f.h)(e:m4):ih:=a b ⟨e⟩
def ZC(a:Hid ih->gc:=by intro d;(repeat(first|simp only[go_sem]|refine hW kj iT ?_|refine sR kj iT ?_));exact d.h)(b:ih):gc:=a ⟨b⟩
def bQ(b:gc)(a:gc->Hid m4->ih:=by intro d f;(repeat(first|simp only[d,go_sem]|refine hW kj iT ?_|refine sR kj iT ?_));exact f.h)(e:m4):ih:=a b ⟨e⟩
def ZI(a:Hid ih->gc:=by intro d;(repeat(first|simp only[go_sem]|refine hW kj iT ?_|refine sR kj iT ?_|refine JI fb Zk ?_));exact d.h)(b:ih):gc:=a ⟨b⟩
def fQ(b:gc)(a:gc->Hid m4->ih:=by intro d f;(repeat(first|simp only[d,go_sem]|refine hW kj iT ?_|refine sR kj iT ?_|refine JI fb Zk ?_));exact f.h)(e:m4):ih:=a b ⟨e⟩
def ZK(a:Hid ih->gc:=by intro d;(repeat(first|simp only[go_sem]|refine hW kj iT ?_|refine sR kj iT ?_|refine sX [] [] fb Zk ?_));exact d.h)(b:ih):gc:=a ⟨b⟩
def IP(b:gc)(a:gc->Hid m4->ih:=by intro d f;(repeat(first|simp only[d,go_sem]|refine hW kj iT ?_|refine sR kj iT ?_|refine sX [] [] fb Zk ?_));exact f.h)(e:m4):ih:=a b ⟨e⟩
def ZD(a:Hid ih->gc:=by intro d;(repeat(first|simp only[go_sem]|refine hW kj iT ?_|refine sR kj iT ?_|refine EK [] [] fb Zk ?_));exact d.h)(b:ih):gc:=a ⟨b⟩
def uZ(b:gc)(a:gc->Hid m4->ih:=by intro d f;(repeat(first|simp only[d,go_sem]|refine hW kj iT ?_|refine sR kj iT ?_|refine EK [] [] fb Zk ?_));exact f.h)(e:m4):ih:=a b ⟨e⟩
def Yu(b:gc)(a:gc->ih:=by intro d;simp[ai,d]):ih:=a b
def Ye(b:gc)(a:gc->ih:=by intro d;simp[aw,d]):ih:=a b
def Pa(a:uT gc->ih:=by intro d;simp only[aw,bx,bT,bj,e7,eQ,reduceCtorEq];exact d.h)(b:gc):ih:=a ⟨b⟩
def Pe(a:uT gc->ih:=by intro d;rw[ic];exact d.h)(b:gc):ih:=a ⟨b⟩
def ZS{b:Prop}(d:ih)(f:b)(a:Hid ih->Hid b->gc:=by intro e g;simp only[go_sem];exact fx e.h g.h):gc:=a ⟨d⟩ ⟨f⟩
def lm{b:Prop}(d:gc)(f:m4)(i:b)(a:gc->Hid m4->Hid b->ih:=by intro e g j;simp only[e,go_sem];exact fx g.h j.h):ih:=a d ⟨f⟩ ⟨i⟩
def ZL{b:Prop}(d:ih)(f:b)(a:Hid ih->Hid b->gc:=by intro e g;simp only[go_sem];exact cL e.h g.h):gc:=a ⟨d⟩ ⟨f⟩
def dN{b:Prop}(d:gc)(f:m4)(i:b)(a:gc->Hid m4->Hid b->ih:=by intro e g j;simp only[e,go_sem];exact cL g.h j.h):ih:=a d ⟨f⟩ ⟨i⟩
inductive qo (H:Nat->Option Ob):List D->List D->Prop
 |n:qo H [] []
 |c {d e:D} {l m:List D} (h:Fz H d e) (t:qo H l m):qo H (d::l) (e::m)
def qo.len(a:qo fd a9 g6):A g6=A a9:=by induction a with|n=>rfl|c _ _ b=>simp[b]
def qo.zip(b:qo fd a9 g6):∀a∈a9.zip g6,Fz fd a.1 a.2:=by
 induction b with
 |n=>simp
 |c b _ e=>intro a d;obtain rfl|d:=cF.1 d;exact b;exact e a d
def A2{s:St}{aW aV args bs:DL}{r:D}(b:Sp g3 g5 bs r)(a:qo s.H (aW++args++aV) bs)(e:(sW r).isSome=W)(d:c2<|s.put g7 r):
 jU g3 s (.fn g5 aW aV) args g7 c2:=yO bs r b a.len a.zip e d
def ir{a:St}{aW aV args bs:DL}{r:D}(b:ax)(e:Sp g3 g5 bs r)(d:qo (b5 b a.H) (aW++args++aV) bs)(g:Cl r)(f:c2<|{a with H:=aT b a.H}.put g7 r):
 jU g3 a (.fn g5 aW aV) args g7 c2:=Q9 b bs r e d.len d.zip g f
def nD(P:aH)(a:List lC)(K:D->(Nat->Option Ob)->(Nat->Nat)->List TE->Prop):iG->St->Prop
 |.ret,s=>∃d,d_ P s a=E d/\K d s.H s.n s.T
 |.normal,s=>∃d,d_ P s a=E d/\K d s.H s.n s.T
 |_,_=>False
def Wk(P:aH)(c:dJ)(aI:gg)(s:St):Prop:=∀(b:Bs)(M:cG)(g:dZ)(a:dF)(w:a8),ba b M g s a w->c.wp P (LQ b aI) a w
def Wk.of(a:vc g3 gt n7 z5 bv):Wk g3 n7 z5 bv:=λ_ _ _ _ _ b=>pG n7 _ b a
def Wk.mono{d:gg}{a:St}(j:∀b a,z5 b a->d b a)(g:Wk g3 n7 z5 a):Wk g3 n7 d a:=λ_ _ _ _ _ k=>wp_mono (g _ _ _ _ _ k) λb _ _⟨a,f,e,h,i⟩=>⟨a,f,e,j b a h,i⟩
def GR(s:St)(dst:ON)(K:aU)(d:D)(H:a')(n:bi)(T:cf):Prop:=
 ∀(i:Bs)(M:cG)(g:dZ)(a:dF)(w:a8)(env:fL)(v:aN),ba i M g {s with env:=env,H:=H,n:=n,T:=T} a w->Rd (aR w M g n) d v->
  ∃f H' b e h M',ba i M' h {s with env:=env,H:=H',n:=b,T:=e} a w/\Rd (aR w M' h b) f v/\K ({s with H:=H',n:=b,T:=e}.put dst f)
theorem Q7{f:St}{fn:hC}{c:dJ}{nt:Nat}{args:DL}{o:ON}(J:hV)(B:g3.funcs[g5]?=E fn)(hb:fn.body=E c)(Y:(fn.name== "runtime.NumGoroutine")=af)
 (Z:fn.ntmps=nt) (ab:fn.results.toList=J) (ao:A args<=nt)
 (U:Wk g3 c (nD g3 J<|GR f o c2) {env:=ej args,H:=f.H,n:=f.n,nt:=nt,T:=f.T,N:=f.N}):er g3 f g5 args o c2:=by
 subst ab;subst Z;refine λr w p y q env hr vs an hv=>⟨⟨fn,B,Y,Yf hb⟩,?_⟩
 let u:Bs:=⟨q,r.M,λb=>(∃t x c,p t=E (x,b,c))\/∃e∈f.T,b∈e.F,p,f.n,[]⟩
 have ux b (k:u.own b):r.own b:=PM;have aa:ba u w p {env:=ej args,H:=f.H,n:=f.n,nt:=fn.ntmps,T:=f.T,N:=f.N} {tmps:=vs.toArray++Array.replicate (fn.ntmps-vs.toArray.size) eX,defers:=[]} q:=Ng;refine calls_of_wp B hb (wp_mono (U _ _ _ _ _ aa) λe z h⟨m,l,j,q1,a⟩=>?_);have core:∀d,d_ g3 m fn.results.toList=E d->GR f o c2 d m.H m.n m.T->z.defers=[]/\∃v,(results fn z.tmps).run g3 h=.ok v h/\∃(K:aN)(d:D)(H:a')(n:bi)(T:cf)(l:dZ)(j:cG),Ending.returned v=.returned K/\
  ba r j l {f with env:=env,H:=H,n:=n,T:=T} y h/\Rd (aR h j l n) d K/\c2 ({f with H:=H,n:=n,T:=T}.put o d):=by
  intro d hd V;have⟨v,al,am⟩:=vS a hd;have I:(aR q w p f.n).Ext<|aR h j l m.n:=by
   refine⟨λb aq ar g=>?_,a.og.1,a.og.2⟩;have ap:b<q.heap.size:=by
    have:=eW g;simp only[World.cell?]at this;exact Zg
   have s:¬u.own b:=by
    rintro(k|⟨t,x,c,k⟩|⟨e,he,hb⟩)
    .exact Zg
    .exact(dQ g).2 _ _ _ k
    exact(dQ g).1<|(hr.mm b).2<|aj ⟨e,he,hb⟩
   have G:=a.below.block b s;refine⟨fD ?_ (λk=>?_) λt x c k=>s (a.base _ _ _ _ k).1,λ⟨us,e,k⟩=>⟨us,e,G.trans k⟩⟩
   .have:=eW g;simp only[World.cell?]at this⊢;rw[G];exact this
   obtain k|⟨e,he,hb⟩:=(a.mm b).1 k
   .exact(dQ g).1<|(hr.mm b).2<|aG k
   exact s<|(a.tree e he).2 b hb
  have⟨R,L,ad,P,S,O,ae,ah,ak⟩:=V r j l y h env v ⟨hr.defers,hr.size,λi=>(hr.env i).mono I,a.obj,λt x b c e=>⟨ux b (a.base _ _ _ _ e).1,(a.base _ _ _ _ e).2⟩,a.inj,hr.below.step a.below.os a.below.tape a.below.output a.below.size (λk X=>a.below.block k λg=>X<|ux k g) a.below.dr,a.m0,a.mm,hr.zm,λe he=>⟨(a.tree e he).1,λb hb=>ux b<|(a.tree e he).2 b hb⟩,a.nd,hr.og.ext I,hr.wm⟩ al;exact⟨a.defers,v,am,v,R,L,ad,P,S,O,C,ae,ah,ak⟩
 exact PL
def Q8{a:St}{b:hC}{nt:Nat}{args:DL}(j:hV)(o:g3.funcs[g5]?=E b)(m:b.body=E n7)(q:(b.name== "runtime.NumGoroutine")=af)
 (r:b.ntmps=nt) (s:b.results.toList=j) (p:A args<=nt)
 (l:Wk g3 n7 (nD g3 j λd H n T=>c2<|{a with H:=H,n:=n,T:=T}.put g7 d) {env:=ej args,H:=a.H,n:=a.n,nt:=nt,T:=a.T,N:=a.N}):er g3 a g5 args g7 c2:=
 Q7 j o m q r s p (l.mono λk t i=>by
  cases k
  case normal=>exact let⟨d,e,f⟩:=i;⟨d,e,λ_ _ _ _ _ _ _ g h=>⟨_,_,_,_,_,_,g,h,f⟩⟩
  case ret=>exact let⟨d,e,f⟩:=i;⟨d,e,λ_ _ _ _ _ _ _ g h=>⟨_,_,_,_,_,_,g,h,f⟩⟩
  all_goals exact i)
def sQ{a:St}{b:hC}{nt:Nat}{args:DL}(m:ax)(e:hV)(h:g3.funcs[g5]?=E b)(g:b.body=E n7)(j:(b.name== "runtime.NumGoroutine")=af)
 (k:b.ntmps=nt) (l:b.results.toList=e) (i:A args<=nt)
 (f:vc g3 m n7 (nD g3 e λd H n T=>c2<|{a with H:=H,n:=n,T:=T}.put g7 d) {env:=ej args,H:=a.H,n:=a.n,nt:=nt,T:=a.T,N:=a.N}):er g3 a g5 args g7 c2:=Q8 e h g j k l i<|.of f
structure kW (P:aH) (f:bI) (eF:List D) (aI:Nat->D->Prop):Prop where
 ok:pU P f
 run:∀(w:a8)(M:Nat->Prop)(vs:List aN),MB M w->A eF=A vs->
  (∀(i:Nat)(d:D)(v:aN),eF[i]?=E d->vs[i]?=E v->Rd (aR w M (λ_=>Q) dY) d v)->
  Calls P f vs.toArray w λe w'=>∃v r,e=.returned v/\pK w.heap.size w w'/\Rd (aR w' M (λ_=>Q) dY) r v/\Cl r/\aI w.heap.size r
def Vu(P:aH)(a:List lC)(aI:Nat->D->Prop):iG->St->Prop
 |.ret,s=>∃d r,d_ P s a=E d/\Fz s.H d r/\Cl r/\aI s.N r
 |.normal,s=>∃d r,d_ P s a=E d/\Fz s.H d r/\Cl r/\aI s.N r
 |_,_=>False
def qV(eF:DL)(nt N:Nat):St:={env:=ej eF,H:=ma,n:=dY,nt,N:=N}
theorem kW.ey{e:hC}{j:DL}(aa:ax)(B:hV)(z:g3.funcs[g5]?=E e)(y:e.body=E n7)(P:(e.name== "runtime.NumGoroutine")=af)
 (R:e.ntmps=am) (U:e.results.toList=B) (O:A j<=am) (h:∀t,vc g3 aa n7 (Vu g3 B λ_=>ajc t)<|qV j am t):kW g3 g5 j ajc:=by
 subst U;refine⟨⟨e,z,P,Yf y⟩,λf I ak J M V=>?_⟩;subst R;have a:=ba.start (Ts:=[]) Q C J M O (λZ d v s X=>(V Z d v s X).mono (oU λb=>cq)) Zs Zs;have a:ba _ _ _ (qV j e.ntmps f.heap.size) _ f:=⟨a.defers,a.size,a.env,a.obj,a.base,a.inj,a.below,a.m0,a.mm,a.zm,a.tree,a.nd,a.og,λb i=>by
  obtain i|⟨w,L,_⟩:=i
  .exact i
  cases L⟩
 refine calls_of_wp z y (wp_mono (pG n7 _ a<|h f.heap.size) λw u k⟨F,ah,ae,l,g⟩=>?_);have x:∀d r,d_ g3 F e.results.toList=E d->Fz F.H d r->Cl r->ajc f.heap.size r->u.defers=[]/\∃v,(results e u.tmps).run g3 k=.ok v k/\∃G r,Ending.returned v=.returned G/\pK f.heap.size f k/\Rd (aR k I (λ_=>Q) dY) r G/\Cl r/\ajc f.heap.size r:=by
  intro d r s Y K S;have⟨v,ab,ad⟩:=vS g s;exact⟨g.defers,v,ad,v,r,C,tQ g.below Zs,(Rd.freeze g Y ab).mono (oU λb i=>(g.mm b).2<|aG i),K,S⟩
 cases w
 case normal=>obtain⟨d,r,m,o,p,q⟩:=l;exact x d r m o p q
 case ret=>obtain⟨d,r,m,o,p,q⟩:=l;exact x d r m o p q
 all_goals exact l.elim
def Hw(s:St)(bs:DL)(b:Nat):Prop:=s.N<=b/\(∀t ob,s.H t=E ob->∀d∈ob.cells,¬fw b d)/\∀d∈bs,¬fw b d
theorem ba.ad1{k:dZ}(i:ba v9 n6 k bv ajh m7){bs:DL}{ay:View}(m:∀b e a,ay.dD b e=E a->b<m7.heap.size)
 (p:∀d∈bs,∃v,Rd ay d v) {b:Nat} (o:m7.heap.size<=b):Hw bv bs b:=by
 have u:∀{e a},(aR m7 n6 k bv.n).dD b e=E a->False:=λf=>by
  have l:=eW f;simp only[World.cell?]at l;exact Zg
 refine⟨i.wm b<|aG<|gS i.below.size o,λx w s d g h=>?_,λd g h=>?_⟩
 .have⟨_,_,_,y,_,_,_,_,_,q⟩:=i.obj x w s;have⟨t,r⟩:=jg.1 g;have⟨a,_,j⟩:=q t d r;have⟨e,a,f⟩:=h.cell j;exact u f
 have⟨v,j⟩:=p d g;have⟨e,a,f⟩:=h.cell j;have l:=m _ _ _ f;omega
def u'{f:St}{aW aV args bs:DL}(a:ax)(u:kW g3 g5 bs ajc)(C:qo (b5 a f.H) (aW++args++aV) bs)
 (F:∀s r,ajc s r->Cl r->(∀b,s<=b->Hw f bs b)->c2 ({f with H:=aT a f.H}.put g7 r)):jU g3 f (.fn g5 aW aV) args g7 c2:=by
 refine aj (aj λZ h i S l U hr p X L=>⟨u.ok,?_⟩);have V:=C.len;have B (e:Nat) (m:D) (v:aN) (z:bs[e]?=E m) (M:p[e]?=E v):Rd (aR l (λb=>h b\/∃t x c,aT a i t=E (x,b,c)) (λ_=>Q) dY) m v:=by
  have g:e<A (aW++args++aV):=Yo<|(dX.1 z).1;refine Rd.JZ hr a (C.zip ((aW++args++aV)[e],m)<|jg.2 ⟨e,?_⟩)<|L e _ v (bL g) M;rw[ML];exact⟨bL g,z⟩
 refine(u.run l (λb=>h b\/∃t x c,aT a i t=E (x,b,c)) p M9 Zo B).mono λx Y⟨v,r,O,w,G,y,j⟩=>⟨v,r,aT a f.H,f.n,f.T,aT a i,h,O,(hr.aT a).grow w.toBelow w.dr,?_,F _ r j y λb I=>?_⟩
 .refine G.closed (λb P R k=>⟨?_,ku⟩) y;exact P8
 refine(hr.ad1 (bs:=bs) (ay:=aR l (λb=>h b\/∃t x c,aT a i t=E (x,b,c)) (λ_=>Q) dY) (λb P R q=>?_) (λd J=>?_) I:Hw _ _ _)
 .have o:=eW q;simp only[World.cell?]at o;rcases j:l.heap[b]? with _|_
  .rw[j]at o;cases o
  exact(nO.1 j).1
 have⟨e,g⟩:=jg.1 J;have K:e<A p:=Yo<|(dX.1 g).1;exact⟨_,B e d _ g<|bL K⟩
def gE.none{f q:Nat}{e:cB}(i:gE g3 g5 [bp] g4 f e)(l:∀u w,gE g3 g5 [.sc<|.slice (E u) 0 w] g4 f e):gE g3 g5 [.sl q []] g4 f e:=by
 refine⟨i.ok,i.Jt,λg k r x y A=>?_⟩;obtain⟨v,rfl⟩:∃v,r=[v]:=by
  match r,y with
  |[v],_=>exact⟨v,C⟩
 have o:=A 0 _ v C C;generalize a:D.sl q []=d at o;have j:∀h,gE g3 g5 [.sc h] g4 f e->v=h->Calls g3 g5 #[v] g λB s=>∃v t,B=.returned v/\pK g.heap.size g s/\sD s k g4 f e v t/\∀b,t=E b->g.heap.size<=b:=by
  rintro h z rfl;refine z.run g k [v] x C λp d h a m=>?_;cases p with
  |zero=>simp at a m;subst a;subst m;exact .sc _
  |succ p=>simp at a
 cases o<;>cases a
 .exact j _ i C
 .exact j _ (l _ _) C
 exact j _ (l _ _) C
theorem jh.same{b:Nat}{g h:ky}(d:jh m7 b s2 g)(a:jh m7 b s2 h)(f:Nat):h[f]?=g[f]?:=by
 unfold jh at d a;split at d
 .exact Zg
 rename_i u l;rw[l]at a;obtain⟨s,q,i,o,j,-⟩:=d;obtain⟨t,r,e,p,k,-⟩:=a;rw[i]at e;cases e;have m:=j.symm.trans k;rw[<-CT,<-CT,m]
def GK.F6{a:St}(t0 t1 i m u:Nat)(g e:Ob)(V:a.H t0=E g)(A:g.keys=Q)(G:a.H i=E e)(B:i≠t0)(D:i≠t1)(w:e.cells[m]?=E (.ms t0 g.gen u))
 (X:c2 {a with H:=ai (ai (ai a.H t0 Q) t1<|some {g with gen:=a.n t1}) i (E {e with cells:=e.cells.set m (.ms t1 (a.n t1) u)}),n:=eP a.n t1}):GK c2 a:=by
 intro aL L j aF aC t;have⟨aI,b,r,aA,x,y,al,Z,ad,Y⟩:=t.obj t0 g V;have⟨d,aJ⟩:=t.rebind (w':=aC) t0 t1 b r aA {g with gen:=a.n t1} C (λ_ _ _=>C) (aj ⟨_,_,x⟩) y.lt (.of (y.cells A) A) al Z ad Y C C C (bJ _);refine⟨_,_,L,X,d.defers,d.size,d.env,λf I h=>?_,d.base,d.inj,d.below,d.m0,d.mm,d.zm,d.tree,d.nd,d.og,d.wm⟩;have h:ai (ai (ai a.H t0 Q) t1<|some {g with gen:=a.n t1}) i (E {e with cells:=e.cells.set m (.ms t1 (a.n t1) u)}) f=E I:=h;by_cases F:f=i
 .subst F;rw[bN]at h;cases h;have ae:ai (ai a.H t0 Q) t1 (E {g with gen:=a.n t1}) f=E e:=by rw[a_ _ _ D,a_ _ _ B];exact G
  have⟨ap,q,s,aB,J,K,aq,ar,au,av⟩:=d.obj f e ae;refine⟨ap,q,s,aB,J,K,aq,ar,Yq au,λl aD k=>?_⟩;have ab:=(dX.1 w).1;by_cases z:l=m
  .subst z;rw[C4 ab]at k;cases k;have⟨_,O,R,aK,o,am,_,_,_,an⟩:=t.obj f e G;have ah:j f=E (e.gen,q,s):=by
    have p:ai (ai j t0 Q) t1 (E (a.n t1,b,r)) f=E (e.gen,q,s):=J;rwa[a_ _ _ D,a_ _ _ B]at p
   have o:j f=E (e.gen,O,R):=o;rw[ah]at o;cases o;have⟨ax,ay,az⟩:=an l _ w;refine⟨ax,by rw[<-K.same am l];exact ay,?_⟩;cases az with|ms _ _ _ aH S aa ak=>
   obtain⟨rfl,rfl⟩:=ak b r x;refine .ms _ _ _ _ _ ⟨by show a.n t1<eP a.n t1 t1;rw[wO];omega,aa.2⟩ λM P U=>?_;have p:ai (ai j t0 Q) t1 (E (a.n t1,b,S)) t1=E (a.n t1,M,P):=U;rw[bN]at p;cases p;exact⟨C,C⟩
  rw[MK λao=>z ao.symm]at k;exact av l aD k
 rw[a_ _ _ F]at h;exact d.obj f I h
def GK.Vf{h:St}(t0 o k:Nat)(g f:Ob)(R:h.H t0=E g)(V:g.keys=Q)(Y:0<A g.cells)(U:∀d∈g.cells,Cl d)(G:h.H o=E f)(Z:o≠t0)(C:f.cells[k]?=E (.rf t0 g.gen 0))
 (S:∀b,Hx h b->c2 {h with H:=ai (aT [t0] h.H) o (E {f with cells:=f.cells.set k (.pa b g.cells)})}):GK c2 h:=by
 intro aD p l ap L hr;have⟨ax,b,O,y,s5,vy,az,au,ay,pj⟩:=hr.obj t0 g R;have vy:=vy.cells V;have a:=hr.aT [t0];have SP:∀t x s,aT [t0] l t≠E (x,b,s):=λt x s e=>HR;have SO:¬p b:=λk=>(hr.m0 b k).2 _ _ _ s5;refine⟨_,aT [t0] l,p,S b<|hr.UG s5,a.defers,a.size,a.env,λi I m=>?_,a.base,a.inj,a.below,a.m0,a.mm,a.zm,a.tree,a.nd,a.og,a.wm⟩;have m:ai (aT [t0] h.H) o (E {f with cells:=f.cells.set k (.pa b g.cells)}) i=E I:=m;by_cases F:i=o
 .subst F;rw[bN]at m;cases m;have aa:aT [t0] h.H i=E f:=by unfold aT;rw[aC<|Yq Z];exact G
  have⟨ak,z,B,ao,J,K,al,am,an,q6⟩:=a.obj i f aa;refine⟨ak,z,B,ao,J,K,al,am,Yq an,λj x hx=>?_⟩;have X:=(dX.1 C).1;by_cases hj:j=k
  .subst hj;rw[C4 X]at hx;cases hx;have⟨_,M,P,aB,r,ae,_,_,_,ah⟩:=hr.obj i f G;have ab:l i=E (f.gen,z,B):=(kK J).2;have r:l i=E (f.gen,M,P):=r;rw[ab]at r;cases r;have⟨u,u1,u2⟩:=ah j _ C;refine⟨u,by rw[<-K.same ae j];exact u1,?_⟩;cases u2 with|rf _ _ _ aq av hx=>
   have w:=hx b O s5;subst w;have ad:∀{d:D}{u:aN},Cl d->Rd (aR L p l h.n) d u->Rd (aR L p (aT [t0] l) h.n) d u:=λhd k=>k.closed (λar aA x q=>⟨fD (eW q) (dQ q).1 λt aF s e=>(dQ q).2 _ _ _ (kK e).2,ku⟩) hd;refine .pa b g.cells (λk=>y.getD k eX) Y ⟨y,g.elem,vy⟩ (λk d hd=>Nb) λk d hd=>?_;have⟨u,u1,u2⟩:=pj k d hd;have w:y.getD k eX=u:=Yr u1;rw[w];exact ad (U d<|fE hd) u2
  exact HV
 rw[a_ _ _ F]at m;exact a.obj i I m
def oM{a:Nat->Option g2}:aT [] a=a:=by funext b;simp[aT]
def Ly{P:aH}{rs:hV}{a:D->(a')->(bi)->List TE->Prop}{s:St}:nD P rs a .ret s=r8 (d_ P s rs) λd=>a d s.H s.n s.T:=by
 apply propext;show(∃d,d_ P s rs=E d/\a d s.H s.n s.T)↔_;exact DA
def afi{e:hV}{b:D->(a')->(bi)->List TE->Prop}{a:St}:nD g3 e b .normal a=r8 (d_ g3 a e) λd=>b d a.H a.n a.T:=Ly
def aff{P:aH}{rs:hV}{s:St}:Vu P rs ajc .ret s=r8 (d_ P s rs) λd=>∃r,Fz s.H d r/\Cl r/\ajc s.N r:=by
 apply propext;show(∃d r,d_ P s rs=E d/\Fz s.H d r/\Cl r/\ajc s.N r)↔_;exact DA
attribute [go_sem] Ly aff
mutual
def D.aS(p:Nat->Nat):D->D
 |.sc v=>.sc v
 |.any=>.any
 |.sl sz aq=>.sl sz (D.pA p aq)
 |.cs sz aq=>.cs sz (D.pA p aq)
 |.ag ds=>.ag (D.hP p ds)
 |.tp ds=>.tp (D.hP p ds)
 |.cp ds=>.cp (D.hP p ds)
 |.pa b ds=>.pa b (D.hP p ds)
 |.rf s g o=>.rf (p s) g o
 |.ms s g l=>.ms (p s) g l
 |.mp s g=>.mp (p s) g
 |.fn f a b=>.fn f (D.hP p a) (D.hP p b)
def D.hP(p:Nat->Nat):List D->List D
 |[]=>[]
 |d::l=>d.aS p::D.hP p l
def D.pA(p:Nat->Nat):List (List D)->List (List D)
 |[]=>[]
 |r::l=>D.hP p r::D.pA p l
end
def D.Cr(b:bi):∀a,D.hP b a=a.map (D.aS b)
 |[]=>rfl
 |d::a=>by rw[D.hP,D.Cr b a];rfl
def D.Gr(b:bi):∀a,D.pA b a=a.map (D.hP b)
 |[]=>rfl
 |d::a=>by rw[D.pA,D.Gr b a];rfl
mutual
def D.me{p:Nat->Nat}(e:∀x,p (p x)=x):∀d:D,(d.aS p).aS p=d
 |.sc v=>rfl
 |.any=>rfl
 |.sl sz aq=>by rw[D.aS,D.aS,D.Lu e aq]
 |.cs sz aq=>by rw[D.aS,D.aS,D.Lu e aq]
 |.ag ds=>by rw[D.aS,D.aS,D.vQ e ds]
 |.tp ds=>by rw[D.aS,D.aS,D.vQ e ds]
 |.cp ds=>by rw[D.aS,D.aS,D.vQ e ds]
 |.pa b ds=>by rw[D.aS,D.aS,D.vQ e ds]
 |.rf s g o=>by rw[D.aS,D.aS,e]
 |.ms s g l=>by rw[D.aS,D.aS,e]
 |.mp s g=>by rw[D.aS,D.aS,e]
 |.fn f a b=>by rw[D.aS,D.aS,D.vQ e a,D.vQ e b]
def D.vQ{p:Nat->Nat}(e:∀x,p (p x)=x):∀l:List D,D.hP p (D.hP p l)=l
 |[]=>rfl
 |d::l=>by rw[D.hP,D.hP,D.me e d,D.vQ e l]
def D.Lu{p:Nat->Nat}(e:∀x,p (p x)=x):∀l:List (List D),D.pA p (D.pA p l)=l
 |[]=>rfl
 |r::l=>by rw[D.pA,D.pA,D.vQ e r,D.Lu e l]
end
theorem qU{d:D}(b:(D.hP g8 a9)[am]?=E d):∃a,a9[am]?=E a/\d=a.aS g8:=by
 rw[D.Cr,fP]at b;exact Zg
def Gt(b:bi)(a:DL):A (D.hP b a)=A a:=by rw[D.Cr];simp
def Vo(b:bi)(a:cB):A (D.pA b a)=A a:=by rw[D.Gr];simp
theorem Gs{d:DL}(b:(D.pA g8 ip)[am]?=E d):∃a,ip[am]?=E a/\d=D.hP g8 a:=by
 rw[D.Gr,fP]at b;exact Zg
theorem D.iE{h:bi}{d:D}(f:Cl d):d.aS h=d:=by
 have g (e:DL) (q:(∀(k:Nat)(d:D),e[k]?=E d->d.aS h=d)):D.hP h e=e:=by
  rw[D.Cr];exact CY λk=>Zg
 induction f with
 |sc v=>rfl
 |any=>rfl
 |sl j i f a=>
  rw[D.aS];congr 1;rw[D.Gr];exact CY λk=>Zg
 |cs j i f a=>
  have a:D.sl j (D.pA h i)=.sl j i:=a;rw[D.sl.injEq]at a;show D.cs j (D.pA h i)=_;rw[a.2]
 |ag e f a=>rw[D.aS,g e a]
 |tp e f a=>rw[D.aS,g e a]
 |cp e f a=>rw[D.aS,g e a]
 |pa b e f a=>rw[D.aS,g e a]
 |fn o e l f p a m=>rw[D.aS,g e a,g l m]
theorem Rd.aS{s:a8}{p:cG}{k:dZ}{o:bi}{a:bi}(R:∀P,a (a P)=P){d:D}{v:aN}(t:Rd (aR s p k o) d v):Rd (aR s p (λf=>k<|a f) λf=>o<|a f) (d.aS a) v:=by
 have I b u S (M:(aR s p k o).dD b u=E S):(aR s p (λf=>k<|a f) λf=>o<|a f).dD b u=E S:=
  fD (eW M) (dQ M).1 λj P x e=>(dQ M).2 _ _ _ e
 have ab:∀j,(aR s p (λf=>k<|a f) λf=>o<|a f).g (a j)=(aR s p k o).g j:=λj=>by show k (a<|a j)=k j;rw[R]
 have L j:(aR s p (λf=>k<|a f) λf=>o<|a f).n (a j)=(aR s p k o).n j:=by show o (a<|a j)=o j;rw[R]
 induction t with
 |sc v=>exact .sc v
 |any v=>exact .any v
 |nil w=>exact .nil w
 |gv w F B K=>exact .gv w F B K
 |sl w O b u B us J K hl h1 aa ih=>
  rw[D.aS,<-Vo a O];refine .sl w _ b u B us (by rw[Vo];exact J) K (λi r hi=>?_) (λi r m d hi l=>?_) λi r m d hi l=>?_
  .obtain⟨z,y,rfl⟩:=Gs hi;rw[Gt];exact hl i z y
  .obtain⟨z,y,rfl⟩:=Gs hi;obtain⟨d',G,rfl⟩:=qU l;exact I _ _ _<|h1 i z m d' y G
  obtain⟨z,y,rfl⟩:=Gs hi;obtain⟨d',G,rfl⟩:=qU l;exact ih i z m d' y G
 |cs w O v _ J ih=>exact .cs w (D.pA a O) v ih J
 |ag C A hl _ ih=>rw[D.aS];exact .ag _ A DZ λi d v hi hv=>Iz
 |tp C A hl _ ih=>rw[D.aS];exact .tp _ A DZ λi d v hi hv=>Iz
 |cp C b u us h1 _ ih=>rw[D.aS];exact .cp _ b u us (λm d l=>by obtain⟨d',e,rfl⟩:=qU l;exact I _ _ _<|h1 m d' e) λm d l=>by obtain⟨d',e,rfl⟩:=qU l;exact ih m d' e
 |pa b C us q V h1 _ ih=>rw[D.aS];exact .pa b _ us (by rw[Gt];exact q) V (λm d l=>by obtain⟨d',e,rfl⟩:=qU l;exact I _ _ _<|h1 m d' e) λm d l=>by obtain⟨d',e,rfl⟩:=qU l;exact ih m d' e
 |rf j k u F q t=>rw[D.aS];exact .rf _ _ _ _ ((Yy L) q) λb x e=>t b x Zg
 |ms j k ad F B q t=>rw[D.aS];exact .ms _ _ _ _ _ ⟨(Yy L) q.1,q.2⟩ λb x e=>t b x Zg
 |mp j k b q t=>rw[D.aS];exact .mp _ _ _ ((Yy L) q) λb x e=>t b x Zg
 |fn U C Z A us hl X _ _ ih Y=>
  rw[D.aS];exact .fn U _ _ A us DZ (by rw[Gt];exact X) (λi d v hi hv=>Iz) λi d v hi hv=>by obtain⟨d',e,rfl⟩:=qU hi;exact Y i d' v e hv
def Ob.aS(p:bi)(ob:Ob):Ob:={ob with cells:=ob.cells.map (D.aS p)}
def St.aS(p:bi)(s:St):St:={s with env:=λi=>(s.env i).aS p,H:=λt=>(s.H<|p t).map (Ob.aS p),n:=λt=>s.n (p t)}
def Bs.aS(p:bi)(z:Bs):Bs:={z with G:=λt=>z.G (p t),N:=λt=>z.N (p t)}
theorem ba.aS{m:dZ}{l:dF}{e:bi}(o:∀g,e (e g)=g)(a:ba v9 n6 m bv l m7):ba (v9.aS e) n6 (λf=>m<|e f) (bv.aS e) l m7:=by
 refine⟨a.defers,a.size,λw=>(a.env w).aS o,λf x u=>?_,λf g b h i=>a.base _ _ _ _ i,λf P g b h R O i r=>?_,⟨a.below.os,a.below.tape,a.below.output,a.below.size,a.below.block,a.below.dr⟩,λb k=>⟨(a.m0 b k).1,λf g h=>(a.m0 b k).2 _ _ _⟩,a.mm,a.zm,a.tree,a.nd,⟨λf=>a.og.1 _,λf g b h k i=>a.og.2 _ _ _ _ k i⟩,a.wm⟩
 .obtain⟨y,s,rfl⟩:=jP.1 (show(bv.H<|e f).map (Ob.aS e)=E x from u);have⟨z,b,h,M,A,B,C,F,G,I⟩:=a.obj _ _ s;refine⟨z,b,h,M,A,B,C,F,by simpa[Ob.aS]using G,λp d j=>?_⟩;have j:(y.cells.map<|D.aS e)[p]?=E d:=j;rw[fP]at j;obtain⟨q,t,rfl⟩:=jP.1 j;have⟨J,K,L⟩:=I p q t;exact⟨J,K,L.aS o⟩
 have:=a.inj _ _ _ _ _ _ _ i r;exact Zg
def St.me{a:bi}(b:∀g,a (a g)=g)(e:St):(e.aS a).aS a=e:=by
 have⟨p,h,t,u,l,k⟩:=e;simp only[St.aS,St.mk.injEq,i'];refine⟨funext λr=>D.me b _,funext λf=>?_,funext λf=>Yw b⟩;rw[b];obtain _|i:=h f
 .rfl
 have⟨q,o,w,m,s⟩:=i;simp only[eE,Ob.aS,eu];congr 2;have j:(D.aS a∘D.aS a)=id:=funext λd=>D.me b d;rw[j,map_id]
def St.vR{a:bi}(b:St)(f:ON)(d:D):(b.put f d).aS a=(b.aS a).put f (d.aS a):=by
 obtain _|t:=f
 .rfl
 simp only[St.put];by_cases e:t<b.nt
 .rw[aM e,aM (show t<(b.aS a).nt from e)];simp only[St.aS,St.mk.injEq,i'];funext g;unfold aw;split<;>rfl
 rw[aC e,aC (show¬t<(b.aS a).nt from e)]
def A5{g:St}{args:DL}(a:bi)(e:∀l,a (a l)=l)(x:er g3 (g.aS a) g5 (D.hP a args) g7 λs1=>c2<|s1.aS a):er g3 g g5 args g7 c2:=by
 intro k o u q J env A I hl C;obtain⟨y,z⟩:=x (k.aS a) o (λb=>u<|a b) q J (λf=>(env f).aS a) (A.aS e) I DZ λf d v i F=>by
  obtain⟨r,s,rfl⟩:=qU i;exact(C f r v s F).aS e
 refine⟨y,z.mono λl K⟨v,d,H,n,T,w,p,G,B,i,h⟩=>?_⟩;have m:=B.aS e;have h:c2<|St.aS a<|St.put {g.aS a with H:=H,n:=n,T:=T} g7 d:=h;rw[St.vR]at h;have t:(k.aS a).aS a=k:=by simp only[Bs.aS];congr 1<;>funext b<;>rw[e]
 rw[t]at m;refine⟨v,d.aS a,λb=>(H<|a b).map<|Ob.aS a,λb=>n<|a b,T,λb=>w<|a b,p,G,?_,i.aS e,?_⟩
 .have j:({g.aS a with env:=λf=>(env f).aS a,H:=H,n:=n,T:=T}:St).aS a={g with env:=env,H:=λb=>(H<|a b).map (Ob.aS a),n:=λb=>n (a b),T:=T}:=by
   simp only[St.aS,St.mk.injEq,i'];funext f;exact D.me e _
  rw[<-j];exact m
 have j:({g.aS a with H:=H,n:=n,T:=T}:St).aS a={g with H:=λb=>(H<|a b).map (Ob.aS a),n:=λb=>n (a b),T:=T}:=by
  simp only[St.aS,St.mk.injEq,i'];funext f;exact D.me e _
 rw[<-j];exact h
inductive In (bK:List Nat):D->Prop
 |sc (v:aN):In bK (.sc v)
 |any:In bK .any
 |sl (sz:Nat) {aq:List (List D)} (h:∀(i:Nat)(r:List D)(j:Nat)(d:D),aq[i]?=E r->r[j]?=E d->In bK d):In bK (.sl sz aq)
 |cs (sz:Nat) {aq:List (List D)} (h:In bK (.sl sz aq)):In bK (.cs sz aq)
 |ag {ds:List D} (h:∀(i:Nat)(d:D),ds[i]?=E d->In bK d):In bK (.ag ds)
 |tp {ds:List D} (h:∀(i:Nat)(d:D),ds[i]?=E d->In bK d):In bK (.tp ds)
 |cp {ds:List D} (h:∀(i:Nat)(d:D),ds[i]?=E d->In bK d):In bK (.cp ds)
 |pa (b:Nat) {ds:List D} (h:∀(i:Nat)(d:D),ds[i]?=E d->In bK d):In bK (.pa b ds)
 |rf {s:Nat} (g o:Nat) (h:s∈bK):In bK (.rf s g o)
 |ms {s:Nat} (g l:Nat) (h:s∈bK):In bK (.ms s g l)
 |mp {s:Nat} (g:Nat) (h:s∈bK):In bK (.mp s g)
 |fn (f:bI) {ds es:List D} (h:∀(i:Nat)(d:D),ds[i]?=E d->In bK d) (a:∀(i:Nat)(d:D),es[i]?=E d->In bK d):In bK (.fn f ds es)
def Cl.bB{d:D}(g:Cl d):In gt d:=by
 induction g with
 |sc v=>exact .sc v
 |any=>exact .any
 |sl e _ _ a=>exact .sl e a
 |cs e _ _ a=>exact .cs e a
 |ag _ _ a=>exact .ag a
 |tp _ _ a=>exact .tp a
 |cp _ _ a=>exact .cp a
 |pa b _ _ a=>exact .pa b a
 |fn f _ _ _ _ a h=>exact .fn f a h
theorem Rd.bB{x w:View}(u:∀b o L,x.dD b o=E L->w.dD b o=E L/\(x.K b->w.K b))(G:∀i,x.n i<=w.n i)(Y:∀i∈gt,w.g i=x.g i){d:D}{v:aN}(p:Rd x d v)(k:In gt d):Rd w d v:=by
 induction p with
 |sc v=>exact .sc v
 |any v=>exact .any v
 |nil t=>exact .nil t
 |gv t y A F=>exact .gv t y A F
 |sl t I b o A us P F q h1 _ j=>
  cases k with|sl _ k=>
  exact .sl t I b o A us P F q (λe r h d a f=>(u _ _ _<|h1 e r h d a f).1) λe r h d a f=>j e r h d a f<|k e r h d a f
 |cs t I v _ u j=>cases k with|cs _ k=>exact .cs t I v (j k) u
 |ag l C q _ j=>cases k with|ag k=>exact .ag l C q λe d v a s=>j e d v a s (k e d a)
 |tp l C q _ j=>cases k with|tp k=>exact .tp l C q λe d v a s=>j e d v a s (k e d a)
 |cp l b o us h1 _ j=>cases k with|cp k=>exact .cp l b o us (λh d f=>(u _ _ _<|h1 h d f).1) λh d f=>j h d f (k h d f)
 |pa b l us m R h1 _ j=>cases k with|pa _ k=>exact .pa b l us m ((u _ _ _<|h1 0 _<|bL m).2 R) (λh d f=>(u _ _ _<|h1 h d f).1) λh d f=>j h d f (k h d f)
 |rf i B o y m p=>cases k with|rf _ _ k=>exact .rf i B o y (iR m<|G i) λb z J=>p b z Zg
 |ms i B X y A m p=>cases k with|ms _ _ k=>exact .ms i B X y A ⟨iR m.1<|G i,m.2⟩ λb z J=>p b z Zg
 |mp i B b m p=>cases k with|mp _ k=>exact .mp i B b (iR m<|G i) λb z J=>p b z Zg
 |fn O l M C us q S _ _ j U=>
  cases k with|fn _ k V=>
  exact .fn O l M C us q S (λe d v a s=>j e d v a s<|k e d a) λe d v a s=>U e d v a s<|V e d a
def iD(bK b:ax)(H a:a'):Nat->sC:=λt=>if t∈b then a t else aT bK H t
theorem vH(a:am∈i4):iD gt i4 fd hO am=hO am:=by simp[iD,a]
def xw(a:am∉i4)(b:am∉gt):iD gt i4 fd hO am=fd am:=by simp[iD,a,aT,b]
def Jh{j:St}{args:DL}{R:ON}(l r:ax)
 (aO:er g3 {j with H:=b5 l j.H} g5 args R λae=>(∀t∈r,∀s,ae.H t=E s->∀d∈s.cells,In r d)/\(∀t,R=E t->t<j.nt->In r (ae.env t))/\c2 {ae with H:=iD l r j.H ae.H}):er g3 j g5 args R c2:=by
 intro Y O p Z u env hr az aX aZ
 let G:Nat->Option (Hv):=λt=>if t∈l then p t else Q
 have s3:∀{t D},G t=E D->t∈l/\p t=E D:=λ{t D}e=>by
  simp only[G]at e;split at e
  .exact⟨‹_›,e⟩
  cases e
 let L:Bs:=⟨u,λb=>Y.M b\/∃t f a,aT l p t=E (f,b,a),λb=>(∃t f a,G t=E (f,b,a))\/∃e∈j.T,b∈e.F,G,j.n,Z.defers⟩
 have X b (k:L.own b):Y.own b:=by
  obtain k|⟨t,f,a,k⟩|⟨e,m,q⟩:=k
  .exact aG<|gS hr.below.size k
  .exact(hr.base _ _ _ _ (s3 k).2).1
  exact(hr.tree e m).2 b q
 let ah:Nat->Prop:=λb=>O b\/∃t f a,aT l p t=E (f,b,a)
 have aV:∀t f b a,p t=E (f,b,a)->¬O b:=λt f b a e k=>(hr.m0 b k).2 _ _ _ e;have au:(aR u O p j.n).Ext<|aR u ah G j.n:=by
  refine⟨λb ad J h=>⟨fD (eW h) ?_ λt f a e=>(dQ h).2 _ _ _ (s3 e).2,ku⟩,λ_=>bJ _,λt f b a _ e=>(s3 e).2⟩;rintro(k|⟨t,f,a,k⟩)
  .exact(dQ h).1 k
  exact(dQ h).2 _ _ _ (kK k).2
 have aY:ba L ah G {j with H:=b5 l j.H,env:=env} Z u:=by
  refine⟨C,hr.size,λV=>(hr.env V).mono au,λt s i=>?_,λt f b a e=>⟨aj<|aG ⟨t,f,a,e⟩,(hr.base _ _ _ _ (s3 e).2).2⟩,λt ay f b a aA ak e o=>hr.inj _ _ _ _ _ _ _ (s3 e).2 (s3 o).2,⟨C,C,C,bJ _,λ_ _=>C,bJ _⟩,λb k=>?_,λb=>?_,λb k ab=>?_,λe m=>⟨(hr.tree e m).1,λb q=>aj<|aj ⟨e,m,q⟩⟩,hr.nd,⟨λ_=>bJ _,λ_ _ _ _ _ e=>e⟩,λb k=>hr.wm b<|X b k⟩
  .have i:(if t∈l then j.H t else Q)=E s:=i;split at i
   .rename_i I;refine(hr.obj t s i).mono au λf b a e=>⟨?_,C⟩;show(if t∈l then p t else Q)=_;rw[aM I];exact e
   cases i
  .obtain k|⟨t,f,a,k⟩:=k
   .exact⟨(hr.m0 b k).1,λt f a e=>(hr.m0 b k).2 _ _ _ (s3 e).2⟩
   have⟨k1,k2⟩:=kK k;refine⟨(hr.base _ _ _ _ k2).2,λay aA ak e=>?_⟩;exact Nr
  .show O b\/_↔(Y.M b\/_)\/_;rw[hr.mm b];constructor
   .rintro((k|k)|k)
    .exact aG<|aG k
    .exact aj k
    exact aG<|aj k
   rintro((k|k)|k)
   .exact aG<|aG k
   .exact aj k
   exact aG<|aj k
  obtain k|⟨t,f,a,k⟩:=k
  .exact hr.zm b k<|X b ab
  have⟨k1,k2⟩:=kK k;obtain ab|⟨ay,aA,ak,e⟩|⟨e,m,q⟩:=ab
  .have:=(hr.base _ _ _ _ k2).2;have:u.heap.size<=b:=ab;omega
  .exact Nr
  exact aV _ _ _ _ k2<|(hr.mm b).2<|aj ⟨e,m,q⟩
 have⟨aQ,aS⟩:=aO L ah G Z u env aY az aX λV d v an a0=>(aZ V d v an a0).mono au;refine⟨aQ,aS.mono λf x⟨v,d,H,n,T,z,P,aL,k2,an,aD,aP,S⟩=>?_⟩;simp only[qT]at aD S
 let w:Nat->Option (Hv):=λt=>if t∈r then z t else aT l p t
 have A:∀{t D},w t=E D->(t∈r/\z t=E D)\/(t∉r/\t∉l/\p t=E D):=λ{t D}e=>by
  simp only[w]at e;split at e
  .exact aG ⟨‹_›,e⟩
  exact aj ⟨‹_›,kK e⟩
 let y:Nat->Prop:=λb=>Y.M b\/∃e∈T,b∈e.F
 have am b (k:y b):P b:=(k2.mm b).2 (by
  obtain k|k:=k
  .exact aG<|aG k
  exact aj k)
 have U t f b a (i:t∉l) (e:p t=E (f,b,a)):P b/\¬L.own b/\x.heap[b]?=u.heap[b]?:=by
  have av:L.M b:=aj ⟨t,f,a,by show aT l p t=_;unfold aT;rw[aC i];exact e⟩;exact⟨(k2.mm b).2<|aG av,k2.zm b av,k2.below.block b<|k2.zm b av⟩
 have ar:(aR u O p j.n).Ext<|aR x y w n:=by
  refine⟨λb ad J h=>?_,k2.og.1,λt f b a B e=>?_⟩
  .have B:b<u.heap.size:=tb<|eW h;have ap:¬L.own b:=by
    rintro(k|⟨t,f,a,k⟩|⟨e,m,q⟩)
    .have:u.heap.size<=b:=k;omega
    .exact(dQ h).2 _ _ _ (s3 k).2
    exact(dQ h).1<|(hr.mm b).2<|aj ⟨e,m,q⟩
   have aK:=k2.below.block b ap;refine⟨fD ((vg aK).trans<|eW h) ?_ λt f a k=>?_,λ⟨us,e,k⟩=>⟨us,e,aK.trans k⟩⟩
   .rintro(k|⟨e,m,q⟩)
    .exact(dQ h).1<|(hr.mm b).2<|aG k
    exact ap<|(k2.tree e m).2 b q
   obtain⟨_,k⟩|⟨_,_,k⟩:=A k
   .exact ap (k2.base _ _ _ _ k).1
   exact(dQ h).2 _ _ _ k
  obtain⟨_,e⟩|⟨_,_,e⟩:=A e
  .exact(s3<|k2.og.2 _ _ _ _ B e).2
  exact e
 have aN b ad J (h:(aR x P z n).dD b ad=E J):(aR x y w n).dD b ad=E J/\((aR x P z n).K b->(aR x y w n).K b):=by
  refine⟨fD (eW h) (λk=>(dQ h).1<|am b k) λt f a k=>?_,ku⟩;obtain⟨_,k⟩|⟨_,aa,k⟩:=A k
  .exact(dQ h).2 _ _ _ k
  exact(dQ h).1 (U _ _ _ _ aa k).1
 have ao t (i:t∈r):(aR x y w n).g t=(aR x P z n).g t:=by
  show(if t∈r then z t else aT l p t)=z t;rw[aM i]
 have aJ:ba Y y w {j with env:=env,H:=iD l r j.H H,n:=n,T:=T} Z x:=by
  refine⟨hr.defers,hr.size,λV=>(hr.env V).mono ar,λt s i=>?_,λt f b a e=>?_,λt ay f b a aA ak e o=>?_,hr.below.step k2.below.os k2.below.tape k2.below.output k2.below.size (λk aW=>k2.below.block k λh=>aW<|X k h) k2.below.dr,λb k=>⟨(k2.m0 b<|am b k).1,λt f a e=>?_⟩,λb=>sj,hr.zm,λe m=>⟨(k2.tree e m).1,λb q=>X b<|(k2.tree e m).2 b q⟩,k2.nd,hr.og.ext ar,hr.wm⟩
  .have i:(if t∈r then H t else aT l j.H t)=E s:=i;split at i
   .rename_i I;have⟨a2,b,a,az,a3,a4,a5,a6,a7,a8⟩:=k2.obj t s i;refine⟨a2,b,a,az,(ao t I).trans a3,a4,a5,a6,a7,λa1 d aI=>?_⟩;have⟨J,a9,a'⟩:=a8 a1 d aI;exact⟨J,a9,a'.bB aN (λ_=>bJ _) ao<|aD t I s i d<|fE aI⟩
   rename_i I;have aq:t∉l/\j.H t=E s:=by
    unfold aT at i;split at i
    .cases i
    exact⟨‹_›,i⟩
   refine(hr.obj t s aq.2).mono ar λf b a e=>⟨?_,(U t f b a aq.1 e).2.2⟩;show(if t∈r then z t else aT l p t)=_;rw[aC I];unfold aT;rw[aC aq.1];exact e
  .obtain⟨_,e⟩|⟨_,_,e⟩:=A e
   .exact⟨X b (k2.base _ _ _ _ e).1,(k2.base _ _ _ _ e).2⟩
   exact⟨(hr.base _ _ _ _ e).1,iR (hr.base _ _ _ _ e).2 k2.below.size⟩
  .obtain⟨_,e⟩|⟨_,al,e⟩:=A e
   .obtain⟨_,o⟩|⟨_,aa,o⟩:=A o
    .exact k2.inj _ _ _ _ _ _ _ e o
    exact absurd (k2.base _ _ _ _ e).1 (U _ _ _ _ aa o).2.1
   obtain⟨_,o⟩|⟨_,aa,o⟩:=A o
   .exact absurd (k2.base _ _ _ _ o).1 (U _ _ _ _ al e).2.1
   exact hr.inj _ _ _ _ _ _ _ e o
  obtain⟨_,e⟩|⟨_,al,e⟩:=A e
  .exact(k2.m0 b<|am b k).2 _ _ _ e
  obtain k|⟨o,m,q⟩:=k
  .exact(hr.m0 b<|(hr.mm b).2<|aG k).2 _ _ _ e
  exact(U _ _ _ _ al e).2.1<|(k2.tree o m).2 b q
 by_cases aF:∃t,R=E t/\t<j.nt
 .obtain⟨t,rfl,B⟩:=aF;have aB:=aP t C B;simp only[St.put,B,bx,aw]at aB;refine⟨v,d,_,n,T,w,y,aL,aJ,an.bB aN (λ_=>bJ _) ao aB,?_⟩;simpa only[St.put,B,bx]using S
 refine⟨v,.any,_,n,T,w,y,aL,aJ,.any v,?_⟩;obtain _|t:=R
 .exact S
 have B:¬t<j.nt:=λh=>aF ⟨t,C,h⟩;simp only[St.put,aC B]at S⊢;exact S
variable{P:aH}{i n:Nat}{ops:io}{aI:iG->dF->a8->Prop}
def UZ{b:dU}{f:dF}{e:a8}{next:dF->a8->Prop}(p:∀g,b.op≠.defer g)(a:b.wp P f e next aI):b.wpIn (Fence.wide.inRound i) n P f e next aI:=by
 unfold Oper.wpIn;refine⟨λ_ _=>trivial,?_⟩;rw[Oper.semAt_eq _ _ _ p];unfold Oper.wp at a;generalize (eI f.eval b).run P e=r at a⊢;have l:(Fence.wide.inRound i).depth.isSome=W->1<=n:=λh=>by cases h
 cases r with
 |ok k j=>
  cases k with
  |value v=>exact a
  |skip=>exact a
  |defer d=>exact a
  |enter t args=>exact⟨l,(CallsIn.inRound i<|callsIn_wide.2 a).mono λo e q=>by cases o<;>exact q⟩
  |row r args=>exact⟨l,λg m _=>let⟨v,j,h,s⟩:=a g m;⟨v,j,h,stepsIn_wide.2 s⟩⟩
  |_=>exact a.elim
 |halt k j=>cases k<;>exact a
def vK(o:dU):Bool:=match o.op with|.defer _=>af|_=>W
def UM{b:dU}(e:vK b=W):∀a,b.op≠.defer a:=λa d=>by simp[vK,d]at e
def Mp(f:¬LetsOut aI):∀(b:kB)(_:∀e∈b,vK e=W)(a:dF)(d:a8),lF P ops aI b a d->wpListIn (Fence.wide.inRound i) n P ops aI b a d
 |[],_,a,d,h=>h
 |e::b,j,a,d,h=>by
  unfold lF at h;unfold wpListIn;have k:=λe l=>j e<|mo _ l;split at h
  .rename_i g;rw[aM g];obtain h|h:=h
   .exact Oper.wpIn_mono (λa d h=>Mp f b k a d h)<|UZ (UM<|j e Zs) h
   exact absurd h.2 f
  rename_i g;rw[aC g];exact⟨λ_ _=>trivial,Mp f b k _ _ h⟩
theorem aiu(j:¬LetsOut aI)(m:(ops.all vK)=W){f:Nat}{d:dF->a8->Prop}{e:dF}{g:a8}(h:wpOp P ops aI f d e g):wpOpIn (Fence.wide.inRound i) n P ops aI f d e g:=by
 unfold wpOp at h;unfold wpOpIn;split
 .rename_i a;rw[a]at h;exact h
 rename_i l a;rw[a]at h;simp only at h;have k:vK l=W:=Zg;split at h
 .rename_i b;rw[aM b];obtain h|h:=h
  .exact UZ (UM k) h
  exact absurd h.2 j
 rename_i b;rw[aC b];exact⟨λ_ _=>trivial,h⟩
def W1(e:¬LetsOut aI)(f:(ops.all vK)=W){j:Region.Mode}:∀(b:Nat)(g:ql)(a:dF)(d:a8),wpAny P j ops aI b g a d->wpAnyIn (Fence.wide.inRound i) n P j ops aI b g a d
 |0,_,_,_,h=>h
 |b+1,_,_,_,h=>⟨h.1,λl k=>wpOpIn_mono (λa d h=>W1 e f b _ a d h)<|aiu e f<|h.2 l k⟩
def flat:dJ->Bool
 |.skip=>W
 |.exit _=>W
 |.ret=>W
 |.region _ ops _=>ops.all vK
 |.seq x y=>flat x&&flat y
 |.cond _ x y=>flat x&&flat y
 |.block _ c=>flat c
 |_=>af
def xO{P:aH}{r:Bs}{x:ax}{i n:Nat}:∀(l:dJ)(aI:gg){M:cG}{g:dZ}{s:St}{d:dF}{f:a8},flat l=W->(∀s,¬aI .outgrown s)->ba r M g s d f->vc P x l aI s->l.wpIn (Fence.wide.inRound i) n P (LQ r aI) d f
 |.skip,aI,M,g,s,d,f,_,_,a,h=>wpIn_skip ⟨s,g,M,h,a⟩
 |.region id ops y,aI,M,g,s,d,f,j,k,a,h=>by
  have u:¬LetsOut (LQ r aI):=λ⟨d,f,s,g,M,m,_⟩=>k s m;have q:ops.all vK=W:=j;cases y with
  |false=>
   refine wpIn_region_list<|Mp u ops.toList (λF A=>?_) _ _<|G5 (K:=aI .normal) (λd f⟨s,g,M,h1,h2⟩=>⟨s,g,M,h1,h2⟩) ops.toList a h;rw[<-Array.all_toList,en]at q;exact q F A
  |true=>
   exact wpIn_region_any h.1<|W1 u q _ _ _ _<|h.2 _ _ _ _ _ _ (λd f⟨s,g,M,B,D⟩=>⟨s,g,M,B,D⟩)<|a.grow OG
 |.seq t o,aI,M,g,s,d,f,j,k,a,h=>by
  simp only[flat,cy]at j;refine wpIn_seq (wpIn_mono (xO t (je (vc P x o aI) aI) j.1 (λs m=>k s m) a h) λe d f⟨s,g,M,h1,h2⟩=>?_);cases e
  case normal=>exact xO o aI j.2 k h2 h1
  all_goals exact⟨s,g,M,h1,h2⟩
 |.cond l t o,aI,M,g,s,d,f,j,k,a,h=>by
  simp only[flat,cy]at j;have p:=a.ev l;simp only[vc,qD]at h;split at h
  .rename_i b z;rw[z]at p;generalize w:d.eval l=v at p;cases p;cases b
   .exact wpIn_cond_false w<|xO o aI j.2 k a<|h.2 C
   exact wpIn_cond_true w<|xO t aI j.1 k a<|h.1 C
  exact h.elim
 |.block id l,aI,M,g,s,d,f,j,k,a,h=>by
  refine wpIn_block (wpIn_mono (xO l (qz id aI) (by simpa[flat]using j) (λs m=>k s m) a h) λe d f⟨s,g,M,h1,h2⟩=>?_);exact OK
 |.exit id,aI,M,g,s,d,f,_,_,a,h=>wpIn_exit ⟨s,g,M,h,a⟩
 |.ret,aI,M,g,s,d,f,_,_,a,h=>wpIn_ret ⟨s,g,M,h,a⟩
 |.loop _,_,_,_,_,_,_,h,_,_,_=>On
 |.rangeFunc ..,_,_,_,_,_,_,h,_,_,_=>On
 |.scope _,_,_,_,_,_,_,h,_,_,_=>On
 |.label _,_,_,_,_,_,_,h,_,_,_=>On
 |.goto _,_,_,_,_,_,_,h,_,_,_=>On
 |.refuse _,_,_,_,_,_,_,h,_,_,_=>On
def vI(b:Nat):Deferred:={target:=.collected b,args:=#[]}
structure Bx (z d:Bs):Prop where
 dq:∃l:List Nat,l.Nodup/\d.dq=l.map vI++z.dq/\∀b∈l,d.M b/\d.w.heap[b]?=E (.deferred (E []))/\z.own b
 own:∀b,d.own b->z.own b
 ok:z.Ok d.w
 m:∀b,z.M b->d.M b
 zm:∀b,d.M b->¬d.own b
 W_:ZM z
 n:∀t,z.N t<=d.N t
 g:∀t x b c,x<z.N t->d.G t=E (x,b,c)->z.G t=E (x,b,c)
def Bx.refl{d:Bs}(e:ZM d):Bx d d:=
 ⟨⟨[],Zs,C,Zs⟩,λ_ b=>b,⟨C,C,C,bJ _,λ_ _=>C,bJ _⟩,λ_ b=>b,e,e,λ_=>bJ _,λ_ _ _ _ _ f=>f⟩
def Bx.trans{p q r:Bs}(h:Bx p q)(k:Bx q r):Bx p r:=by
 have⟨C,t,u,f⟩:=h.dq;have⟨D,z,A,j⟩:=k.dq;refine⟨⟨D++C,?_,by rw[A,u];simp,λb d=>?_⟩,λb i=>h.own b<|k.own b i,h.ok.step k.ok.os k.ok.tape k.ok.output k.ok.size (λb i=>k.ok.block b λF=>i<|h.own b F) k.ok.dr,λb i=>k.m b<|h.m b i,k.zm,h.W_,λe=>gS (h.n e)<|k.n e,λe x b c l o=>h.g e x b c l<|k.g e x b c (iR l<|h.n e) o⟩
 .rw[iQ];exact⟨z,t,λx l y B o=>by subst o;exact h.zm x (f x B).1 (j x l).2.2⟩
 obtain d|d:=ca.1 d
 .exact⟨(j b d).1,(j b d).2.1,h.own b (j b d).2.2⟩
 exact⟨k.m b (f b d).1,(k.ok.block b<|h.zm b (f b d).1).trans (f b d).2.1,(f b d).2.2⟩
def oN:List Nat->a8->a8
 |[],w=>w
 |b::l,w=>oN l<|w.putObj b<|.deferred Q
def UU:∀(d:ax)(w:a8),(oN d w).os=w.os/\(oN d w).tape=w.tape/\(oN d w).output=w.output/\(oN d w).heap.size=w.heap.size/\∀b,b∉d->(oN d w).heap[b]?=w.heap[b]?
 |[],w=>⟨C,C,C,C,λ_ _=>C⟩
 |b::d,w=>by
  have⟨f,h,i,j,k⟩:=UU d<|w.putObj b<|.deferred Q;refine⟨f,h,i,by rw[oN,j];simp,λl e=>?_⟩;simp only[cF,lh]at e;rw[oN,k l e.2,World.putObj_heap_other e.1]
def UT:∀(d:ax)(w:a8),(oN d w).drawn=w.drawn
 |[],_=>rfl
 |b::d,w=>UT d<|w.putObj b<|.deferred Q
def TX{P:aH}{m:Nat}{h:hC}{k:ky}{R:Ending->a8->Prop}:∀(d:ax)(w:a8),d.Nodup->(∀b∈d,w.heap[b]?=E (.deferred<|some []))->(∃v,(results h k).run P (oN d w)=.ok v (oN d w)/\R (.returned v) (oN d w))->
 LeavesInM Fence.wide m P h k R (d.map vI) .returning w
 |[],w,_,_,e=>e
 |b::d,w,f,hm,e=>by
  rw[lg]at f;refine⟨Zs,aG ⟨b,w.putObj b<|.deferred Q,C,run_takeDeferred<|hm b Zs,TX d _ f.2 (λj i=>?_) e⟩⟩;rw[World.putObj_heap_other λl:j=b=>f.1 (l▸i)];exact hm j<|Yr i
theorem Bx.out{p G:Bs}(j:Bx p G)(d:ba G M g s a w):∃i:ax,a.defers=i.map vI++p.dq/\i.Nodup/\(∀b∈i,w.heap[b]?=E (.deferred<|some []))/\
 ba p (λb=>p.M b\/∃e∈s.T,b∈e.F) g {s with N:=0} {a with defers:=p.dq} (oN i w):=by
 have⟨i,O,R,q⟩:=j.dq;have⟨S,U,V,D,A⟩:=UU i w;have J b (o:b∈i):M b:=(d.mm b).2<|aG (q b o).1;have z b (I:¬M b):(oN i w).heap[b]?=w.heap[b]?:=A b λf=>I<|J b f;have r b (k:(p.M b\/∃e∈s.T,b∈e.F)):M b:=(d.mm b).2<|k.imp (j.m b) id;have B:(aR w M g s.n).Ext<|aR (oN i w) (λb=>p.M b\/∃e∈s.T,b∈e.F) g s.n:=
  ⟨λb Y Z f=>⟨fD ((vg<|z b (dQ f).1).trans<|eW f) (λk=>(dQ f).1<|r b k) (dQ f).2,λ⟨us,e,k⟩=>⟨us,e,(z b (dQ f).1).trans k⟩⟩,λ_=>bJ _,λ_ _ _ _ _ e=>e⟩
 refine⟨i,d.defers.trans R,O,λb o=>(d.below.block b<|d.zm b (q b o).1).trans (q b o).2.1,C,d.size,λL=>(d.env L).mono B,λl X K=>(d.obj l X K).mono B λx b c e=>⟨e,z b λf=>(d.m0 b f).2 _ _ _ e⟩,λl x b c e=>⟨j.own b (d.base _ _ _ _ e).1,(Yy D)<|(d.base _ _ _ _ e).2⟩,d.inj,?_,λb k=>⟨(Yy D)<|(d.m0 b<|r b k).1,(d.m0 b<|r b k).2⟩,λb=>sj,j.W_,λe t=>⟨(d.tree e t).1.mono λb o=>?_,λb o=>j.own b<|(d.tree e t).2 b o⟩,d.nd,⟨λl=>gS (j.n l)<|d.og.1 l,λl x b c k e=>j.g l x b c k<|d.og.2 l x b c (iR k<|j.n l) e⟩,λ_ _=>kT _⟩
 .refine(j.ok.step (xe:=d.below.dr) d.below.os d.below.tape d.below.output d.below.size λk u=>d.below.block k λf=>u<|j.own k f).step (xe:=x9 (UT i w).symm) S U V Zg λk u=>A k λf=>u (q k f).2.2
 exact A b λf=>d.zm b (q b f).1<|(d.tree e t).2 b o
def LD(z:Bs)(aI:gg):iG->dF->a8->Prop:=λe a w=>∃s g M b,Bx z b/\aI e s/\ba b M g s a w
def Cu(P:aH)(e:gK)(ps:Array Tmp)(b d:dJ)(aI:gg)(s:St):Prop:=
 ∀(z:Bs)(M:cG)(g:dZ)(a:dF)(w:a8),ba z M g s a w->(Code.rangeFunc e ps b d).wp P (LD z aI) a w
def lV(P:aH)(mu:List Nat):dJ->(iG->St->Prop)->St->Prop
 |.seq x y,aI,s=>lV P mu x (je (λs=>lV P mu y aI s) aI) s
 |.block id c,aI,s=>lV P mu c (qz id aI) s
 |.rangeFunc e ps b d,aI,s=>Cu P e ps b d aI s
 |c,aI,s=>vc P mu c aI s
def WK(P:aH)(mu:ax)(c:dJ)(aI:gg):St->Prop:=lV P mu c aI
variable{P:aH}{mu:ax}{aI:gg}{s:St}{x y c:dJ}{id:Nat}
def ahV:WK P mu c aI s=lV P mu c aI s:=cQ C C
def ah1:lV P mu (.seq x y) aI s=lV P mu x (je (WK P mu y aI) aI) s:=cQ C C
def ahW:lV P mu (.block id c) aI s=lV P mu c (qz id aI) s:=cQ C C
def ahY{b:gK}{d:Array Tmp}:lV P mu (.rangeFunc b d x y) aI s=Cu P b d x y aI s:=cQ C C
def ahZ{b:io}{d:Bool}:lV P mu (.region id b d) aI s=vc P mu (.region id b d) aI s:=cQ C C
def ahX:lV P mu (.loop x) aI s=vc P mu (.loop x) aI s:=cQ C C
def ah0:lV P mu .ret aI s=vc P mu .ret aI s:=cQ C C
def WM{P:aH}{mu:ax}:∀(c:dJ)(aI:gg){b:Bs}{M:cG}{g:dZ}{s:St}{a:dF}{w:a8},ba b M g s a w->lV P mu c aI s->c.wp P (LD b aI) a w:=by
 have m:∀(c:dJ)(aI:gg){b:Bs}{M:cG}{g:dZ}{s:St}{a:dF}{w:a8},ba b M g s a w->vc P mu c aI s->c.wp P (LD b aI) a w:=
  λc aI b M g s a w e f=>wp_mono (pG c aI e f) λj a w⟨s,g,M,d,h⟩=>⟨s,g,M,b,.refl e.zm,d,h⟩
 intro c
 induction c with
 |seq x y q r=>
  refine λaI b M g s a w e f=>wp_seq (wp_mono (q _ e f) λj a w⟨s,g,M,k,i,d,h⟩=>?_);cases j
  case normal=>exact wp_mono (r aI h d) λj a w⟨s,g,M,z,o,t,u⟩=>⟨s,g,M,z,i.trans o,t,u⟩
  all_goals exact⟨s,g,M,k,i,d,h⟩
 |block id c p=>
  refine λaI b M g s a w e f=>wp_block (wp_mono (p _ e f) λj a w⟨s,g,M,k,i,d,h⟩=>?_);cases j
  case exit B=>
   simp only[qz]at d;simp only[Exit.inBlock];split
   .rename_i l;rw[aM l]at d;exact⟨s,g,M,k,i,d,h⟩
   rename_i l;rw[aC l]at d;exact⟨s,g,M,k,i,d,h⟩
  all_goals exact⟨s,g,M,k,i,d,h⟩
 |rangeFunc A C x y=>exact λaI b M g s a w e f=>f b M g a w e
 |_=>exact λaI b M g s a w e f=>m _ aI e f
def ae7{P:aH}{s:St}{b:Nat}{d:hV}:d_ P {s with N:=b} d=d_ P s d:=by
 have e:iF P {s with N:=b}=iF P s:=by
  funext x;cases x<;>simp only[iF];exact T6 C
 simp only[d_,e]
def LD.TW{P:aH}{f:Bs}{i:hC}{R:Ending->a8->Prop}{z:Nat}{M:cG}{g:dZ}{s:St}{a:dF}{w:a8}{k:Bs}{d:D}(p:Bx f k)(r:ba k M g s a w)(t:f.dq=[])(q:d_ P s i.results.toList=E d)
 (l:∀v e h,ba f h g {s with N:=0} {a with defers:=[]} e->Rd (aR e h g s.n) d v->R (.returned v) e):LeavesInM Fence.wide z P i a.tmps R a.defers .returning w:=by
 have⟨u,j,m,o,b⟩:=p.out r;rw[t]at j b;rw[j,de];obtain⟨v,A,B⟩:=vS b (by rw[ae7];exact q);exact TX u w m o ⟨v,B,l v _ _ b A⟩
theorem Sp.Gg{P:aH}{l:bI}{f:hC}{c:dJ}{i:DL}{r:D}{k:Nat}(mu:ax)(p:hV)(o:P.funcs[l]?=E f)(m:f.body=E c)(J:(f.name== "runtime.NumGoroutine")=af)
 (K:f.ntmps=k) (L:f.results.toList=p) (I:A i<=k) (u:lV P mu c (nF P p r)<|mU i k):Sp P l i r:=by
 subst L;refine⟨⟨f,o,J,Yf m⟩,λw M aa B G O=>?_⟩;subst K;refine(callsIn_wide (n:=0)).1<|callsIn_of_wp_marks o m trivial (wpIn_wide.2 (wp_mono (WM c _ (ba.start (Ts:=[]) Q C B G I (λS d v hd R=>(O S d v hd R).mono (oU λb=>cq)) Zs Zs) u) λe a h⟨q,Z,X,ad,F,h1,z⟩=>?_));have fin:∀d,d_ P q f.results.toList=E d->Fz q.H d r->LeavesInM Fence.wide 0 P f a.tmps (λe h=>∃t,e=.returned t/\pK w.heap.size w h/\Rd (aR h M (λ_=>Q) dY) r t) a.defers .returning h:=by
  refine λd hd hz=>LD.TW F z C hd λv ab Y j V=>⟨v,C,tQ j.below Zs,(Rd.freeze j hz V).mono (oU λb U=>(j.mm b).2<|aG U)⟩
 exact IM
def th(w:a8)(M:cG)(g:dZ)(n:bi)(d:List Deferred):Bs:=⟨w,M,λb=>∃t x c,g t=E (x,b,c),g,n,d⟩
variable{P:aH}{z:Bs}{M:cG}{g:dZ}{s:St}{a:dF}{w:a8}
theorem ba.xM(e:ba z M g s a w)(r:s.T=[]){w':a8}{M':cG}(q:List Deferred)(l:w.heap.size<=w'.heap.size)(A:∀b,b<w.heap.size->¬M b->w'.heap[b]?=w.heap[b]?)
 (B:∀b,M' b↔M b\/(w.heap.size<=b/\b<w'.heap.size)):ba (th w' M' g s.n q) M' g s {a with defers:=q} w'/\(aR w M g s.n).Ext (aR w' M' g s.n):=by
 have F:∀b,b<w.heap.size->¬M b->¬M' b:=λb K L k=>Zg;have D:∀f i b h,g f=E (i,b,h)->¬M b:=λf i b h d k=>(e.m0 b k).2 _ _ _ d;have m:(aR w M g s.n).Ext<|aR w' M' g s.n:=by
  refine⟨λb O R j=>?_,λ_=>bJ _,λ_ _ _ _ _ d=>d⟩;have y:=tb<|eW j;have x:=A b y (dQ j).1;exact⟨fD ((vg x).trans<|eW j) (F b y (dQ j).1) (dQ j).2,λ⟨us,d,k⟩=>⟨us,d,x.trans k⟩⟩
 have t f i b h (d:g f=E (i,b,h)):b<w.heap.size:=(e.base _ _ _ _ d).2;have p b (k:M' b):b<w'.heap.size/\∀f i h,g f≠E (i,b,h):=by
  obtain k|k:=(B b).1 k
  .exact⟨iR (e.m0 b k).1 l,(e.m0 b k).2⟩
  exact Zg
 refine⟨⟨C,e.size,λI=>(e.env I).mono m,λf J G=>(e.obj f J G).mono m λi b h d=>⟨d,A b (t _ _ _ _ d)<|D _ _ _ _ d⟩,λf i b h d=>⟨aj ⟨f,i,h,d⟩,iR (t _ _ _ _ d) l⟩,e.inj,⟨C,C,C,bJ _,λ_ _=>C,bJ _⟩,p,λb=>?_,λb k o=>?_,λd u=>?_,e.nd,⟨λ_=>bJ _,λ_ _ _ _ _ d=>d⟩,λb k=>?_⟩,m⟩
 .rw[r];simp[th]
 .have k:M' b:=k;obtain o|⟨f,i,h,d⟩:=o
  .have:w'.heap.size<=b:=o;have:=(p b k).1;omega
  exact(p b k).2 _ _ _ d
 .rw[r]at u;cases u
 apply e.wm b;obtain k|⟨f,i,h,d⟩:=k
 .exact aG<|gS e.below.size<|gS l k
 exact(e.base _ _ _ _ d).1
def LC{l:List Deferred}{i:bi}{r:a8}{f:cG}{m:dZ}{j:St}{t:dF}(d:ba (th w M g i l) f m j t r)(x:j.T=[]):(aR w M g i).Ext (aR r f m j.n)/\∀b,f b↔M b:=by
 have p b:f b↔M b:=by have k:=d.mm b;rw[x]at k;simpa[th]using k
 refine⟨⟨λb D F h=>?_,d.og.1,d.og.2⟩,p⟩;have C:=tb<|eW h;have q:¬(th w M g i l).own b:=by
  rintro(d|⟨A,B,u,e⟩)
  .have k:w.heap.size<=b:=d;omega
  exact(dQ h).2 _ _ _ e
 have o:=d.below.block b q;exact⟨fD ((vg o).trans<|eW h) (λy=>(dQ h).1<|(p b).1 y) λA B u e=>q (d.base _ _ _ _ e).1,λ⟨us,e,d⟩=>⟨us,e,o.trans d⟩⟩
structure Gb (z:Bs) (ay:View) (d:a8) (M:Nat->Prop) (g:Nat->Option (Nat×Nat×Nat)) (n:Nat->Nat):Prop where
 ext:ay.Ext (aR d M g n)
 ok:z.Ok d
 own:∀t x b c,g t=E (x,b,c)->z.own b
 m:∀b,z.M b->M b
 og:Og z g n
def Gb.walk{z:Bs}{o:View}{f u:a8}{M l:cG}{g q:dZ}{j:bi}{p:List Deferred}{k:St}{x:dF}(h:Gb z o f M g j)(d:ba (th f M g j p) l q k x u)(A:k.T=[]):Gb z o u l q k.n:=by
 have⟨r,B⟩:=LC d A;have t b (e:(th f M g j p).own b):z.own b:=by
  obtain e|⟨D,F,y,i⟩:=e
  .exact aG<|gS h.ok.size e
  exact h.own _ _ _ _ i
 exact⟨h.ext.trans r,h.ok.step d.below.os d.below.tape d.below.output d.below.size (λb e=>d.below.block b λC=>e<|t b C) d.below.dr,λD F b y i=>t b (d.base _ _ _ _ i).1,λb e=>(B b).2<|h.m b e,h.og.ext r⟩
def Gb.xM{z:Bs}{i:View}{e d:a8}{M M':cG}{g:dZ}{f:bi}(h:Gb z i e M g f)(r:(aR e M g f).Ext<|aR d M' g f)(l:d.os=e.os)(q:d.tape=e.tape)(o:d.output=e.output)(p:e.heap.size<=d.heap.size)(k:∀b,¬z.own b->d.heap[b]?=e.heap[b]?)(j:∀b,M b->M' b)(xe:e.drawn<=d.drawn:=by first|exact bJ _|exact oq _|assumption):Gb z i d M' g f:=
 ⟨h.ext.trans r,h.ok.step l q o p k,h.own,λb t=>j b<|h.m b t,h.og⟩
def Dp(P:aH)(m:bI)(sz:Nat)(el:(Nat->aN)->aN):Prop:=
 (∀args w,(callFunc m args).run P w=.ok (.enter m args) w)/\∀(l q r:Nat)(p:Option Addr)(len t:Nat)(b off:Nat)(us:Nat->Nat->aN)(f:Nat->a8->Prop)(o:a8->Prop)(d:a8),len<=aE->(0<len->p=E ⟨b,off,Q⟩)->
  (∀j d,f j d->d.cell? ⟨q,r,Q⟩=E (.slice p len t)/\∀i k,i<len->k<sz->d.cell? ⟨b,off+i*sz+k,Q⟩=E (us i k))->
  (∀j d,j<len->f j d->YieldAt Fence.wide 0 P l #[.int .i64 ((len-1-j:Nat):Int),el<|us<|len-1-j] d λe h=>(e=.returned (.bool W)/\f (j+1) h)\/(e=.returned (.bool af)/\o h))->
  f 0 d->CallsIn Fence.wide 1 P m #[.func (.yield l) #[] #[],.pointer<|some ⟨q,r,Q⟩] d λe h=>(∃v,e=.returned v)/\(f len h\/o h)
def LA(s:St)(I:(Nat->Option Ob)->(Nat->Nat)->Prop)(aI:iG->St->Prop):iG->St->Prop
 |.normal,b=>b.T=[]/\b.N=s.N/\I b.H b.n
 |.ret,b=>b.T=[]/\b.N=s.N/\aI .ret {s with H:=b.H,n:=b.n}
 |_,_=>False
def QH(X:St->Prop):iG->St->Prop
 |.normal,b=>b.T=[]/\X b
 |_,_=>False
def afn{s b:St}{I:(a')->(bi)->Prop}{d:gg}:LA s I d .normal b=(b.T=[]/\b.N=s.N/\I b.H b.n):=cQ C C
def afo{s b:St}{I:(a')->(bi)->Prop}{d:gg}:LA s I d .ret b=(b.T=[]/\b.N=s.N/\d .ret {s with H:=b.H,n:=b.n}):=cQ C C
def XD{b:St}{d:aU}:QH d .normal b=(b.T=[]/\d b):=cQ C C
def LB{P:aH}{a6:gK}{aL aM:Nat}{assign body:dJ}{aT:bI}{ao:gg}{s:St}{al:Nat}{aq:cB}{el:(Nat->aN)->aN}{eD:List D->D}(bH:ax)
 (bf:Dp P aT al el) (b':∀(bo:View)(us:Nat->aN)(r:DL),A r=al->(∀(f:Nat)(d:D),r[f]?=E d->Rd bo d (us f))->Rd bo (eD r) (el us)) (cc:s.ev a6=.fn aT [] [.cp [.sl al aq]]) (aF:s.T=[]) (cg:A aq<=aE) (bF:∀r∈aq,A r=al)
 (ca:flat assign=W) (cb:flat body=W)
 (I:Nat->(a')->(bi)->Prop) (bU:I 0 s.H s.n)
 (ck:∀(j:Nat)(H:a')(n:bi)(r:DL),j<A aq->aq[A aq-1-j]?=E r->I j H n->vc P bH assign (QH λa3=>vc P bH body (LA s (I<|j+1) ao) a3) ((({s with H:=H,n:=n}).put (E aL)<|.sc<|.int .i64 ((A aq-1-j:Nat):Int)).put (E aM)<|eD r))
 (b_:∀(H:a')(n:bi),I (A aq) H n->ao .normal {s with H:=H,n:=n}):Cu P a6 #[aL,aM] assign body ao s:=by
 refine λz M g a w y=>(wpIn_wide (n:=2)).1 (wpIn_rangeFunc λfn _=>?_);obtain⟨e,a7⟩:∃e,e=w.heap.size:=⟨_,C⟩;obtain⟨rec,t⟩:∃rec:LoopState->Option dJ->Loop,rec=λL K=>{state:=L,pending:=K,fn,tmps:=a.tmps,params:=#[aL,aM],assign,body,defers:=e}:=⟨_,C⟩;generalize X:(w.alloc<|.deferred<|some []).alloc (.loop<|rec .ready Q)=J;have cD:J.heap.size=w.heap.size+2:=by rw[<-X];simp
 have bY:J.heap[e+1]?=E (.loop<|rec .ready Q):=by
  rw[<-X,a7];have aO:=World.alloc_heap_new (w.alloc<|.deferred<|some []) (.loop<|rec .ready Q);rwa[World.size_alloc]at aO
 have bX:J.heap[e]?=E (.deferred<|some []):=by
  rw[<-X,a7];exact(Below.heap_alloc _ _ _ Zs).trans (World.alloc_heap_new w _)
 have bw b (k:b<w.heap.size):J.heap[b]?=w.heap[b]?:=by
  rw[<-X];exact(Below.heap_alloc _ _ _ ch).trans (Below.heap_alloc _ _ _ k)
 have bB:=y.ev a6;rw[cc]at bB;obtain⟨cv,bN,cd,aV,bg,-,b5⟩:=E7 bB;obtain rfl:cv=[]:=Yq aV.symm;obtain⟨a2,rfl⟩:∃a2,bN=[a2]:=by
  match bN,bg with
  |[ay],_=>exact⟨ay,C⟩
 have cj:=b5 0 _ a2 C C;obtain⟨aa,ab,aS,rfl,b2,b3⟩:∃aa ab aS,a2=.pointer (E ⟨aa,ab,Q⟩)/\(aR w M g s.n).dD aa ab=E aS/\Rd (aR w M g s.n) (.sl al aq) aS:=by
  cases cj with|cp _ aa ab us R S=>exact⟨aa,ab,us 0,C,R 0 _ C,S 0 _ C⟩
 obtain⟨a1,ap,b,a0,us,rfl,ci,bz⟩:∃(a1:Option Addr)(ap b a0:Nat)(us:Nat->Nat->aN),aS=.slice a1 (A aq) ap/\(0<A aq->a1=E ⟨b,a0,Q⟩)/\∀(o:Nat)(r:DL)(f:Nat)(d:D),aq[o]?=E r->r[f]?=E d->(aR w M g s.n).dD b (a0+o*al+f)=E (us o f)/\Rd (aR w M g s.n) d (us o f):=by
  cases b3 with
  |nil=>exact⟨Q,0,0,0,λ_ _=>eX,C,Zs,Zs⟩
  |gv _ bP ap=>exact⟨E bP,ap,0,0,λ_ _=>eX,C,Zs,Zs⟩
  |sl _ _ b bK ap us cy cC cA bu bv=>exact⟨E ⟨b,bK,Q⟩,ap,b,bK,us,C,λ_=>C,λo r f d ad ae=>⟨bu o r f d ad ae,bv o r f d ad ae⟩⟩
 have aW f (ae:f=e\/f=e+1):z.own f:=aG<|Yo y.below.size;obtain⟨an,a_⟩:∃an:Nat->Prop,an=λf=>M f\/(w.heap.size<=f/\f<J.heap.size):=⟨_,C⟩;have bD:an e/\an (e+1):=by rw[a_];exact⟨aj ⟨Zo,Zo⟩,aj ⟨Zo,Zo⟩⟩
 have⟨cm,cr⟩:=y.xM aF (w':=J) (M':=an) [] Zo (λb k _=>bw b k) λb=>Yw a_;have bV:Gb z (aR w M g s.n) J an g s.n:=⟨cr,y.below.step (xe:=by rw[<-X];exact bJ _) (by rw[<-X];rfl) (by rw[<-X];rfl) (by rw[<-X];rfl) Zo λf ae=>bw f (by
  have bu:=Bs.vL ae;have bv:=y.below.size;omega),λbn ay b bQ i=>(y.base _ _ _ _ i).1,λb q=>by
  rw[a_];refine aG ?_;have aO:=y.mm b;exact aO.2<|aG q,y.og⟩
 let aQ (L:LoopState) (K:Option dJ) (U:(a')->(bi)->Prop) (l:a8):Prop:=∃H n V M',ba (th l M' V n []) M' V {s with H:=H,n:=n} {a with defers:=[]} l/\U H n/\Gb z (aR w M g s.n) l M' V n/\l.heap[e+1]?=E (.loop<|rec L K)/\l.heap[e]?=E (.deferred<|some [])/\M' e/\M' (e+1)
 have bs:∀L K U l(p:Option dJ)(a4:iG),rec L K=rec L K->aQ L K U l->(∀H n,U H n->ao a4 {s with H:=H,n:=n})->LD z ao a4 {a with defers:=[vI e]++a.defers} (l.putObj (e+1)<|.loop {rec L K with state:=.exhausted}):=by
  rintro L K U l p a4-⟨H,n,V,M',aX,aY,B,ak,aZ,aJ,aK⟩ be;obtain⟨bM,cH⟩:=aX.xM aF (w':=l.putObj (e+1)<|.loop {rec L K with state:=.exhausted}) (M':=M') ([vI e]++a.defers) Zs (λb _ k=>World.putObj_heap_other λi=>k (i▸aK)) λb=>co;refine⟨_,V,M',_,⟨⟨[e],Zs,?_,λb k=>?_⟩,λb q=>?_,?_,B.m,bM.zm,y.zm,B.og.1,B.og.2⟩,be H n aY,bM⟩
  .show[vI e]++a.defers=[vI e]++z.dq;rw[y.defers]
  .simp at k;subst k;exact⟨aJ,(World.putObj_heap_other Zo).trans aZ,aW b<|aG C⟩
  .obtain q|⟨bn,ay,bQ,i⟩:=q
   .refine aG<|gS B.ok.size ?_;have aO:(l.putObj (e+1)<|.loop {rec L K with state:=.exhausted}).heap.size<=b:=q;simpa using aO
   exact B.own _ _ _ _ i
  exact B.ok.step C C C (by simp[th]) λf ae=>World.putObj_heap_other λi=>ae<|aW f<|aj i
 obtain⟨b4,bf⟩:=bf;refine⟨e+1,[vI e],J,{target:=.fn (.func aT) #[.pointer<|some ⟨aa,ab,Q⟩],args:=#[.func (.yield<|e+1) #[] #[]]},J,aT,#[.func (.yield<|e+1) #[] #[]]++#[.pointer<|some ⟨aa,ab,Q⟩],J,?_,?_,λ_ _=>trivial,?_,λ_=>by omega,?_⟩
 .rw[<-X,t,a7];exact run_enterLoop_outer _ _ _ _ _
 .simp only[resolve,cd];simp[go_sem]
 .simp[invoke,go_sem,b4]
 refine(bf (e+1) aa ab a1 (A aq) ap b a0 us (λj=>aQ .ready Q<|I j) (aQ .done (E .ret) λH n=>ao .ret {s with H:=H,n:=n}) J cg ci ?_ ?_ ⟨s.H,s.n,g,an,cm,bU,bV,bY,bX,bD.1,bD.2⟩).mono ?_
 .rintro j l⟨H,n,V,M',aX,aY,B,ak,aZ,aJ,aK⟩;refine⟨eW (B.ext.c _ _ _ b2).1,λo f ad ae=>?_⟩;have ce:aq[o]?=E aq[o]:=bL ad;have cz:A aq[o]=al:=bF _<|aD ad;exact eW (B.ext.c _ _ _ (bz o _ f _ ce<|bL Zo).1).1
 .
   rintro j l cf⟨H,n,V,M',aX,aY,B,ak,aZ,aJ,aK⟩;have ad:A aq-1-j<A aq:=Zo;have bh:aq[A aq-1-j]?=E aq[A aq-1-j]:=bL ad;obtain⟨r,bE⟩:∃r,r=aq[A aq-1-j]:=⟨_,C⟩;rw[<-bE]at bh;have cn:A r=al:=(Yy bE)<|bF _<|aD ad;have b0:Rd (aR l M' V n) (eD r)<|el<|us<|A aq-1-j:=b' _ _ _ cn λf d b6=>((bz _ r f d bh b6).2).mono B.ext;have cu:=(aX.put (d:=.sc<|.int .i64 ((A aq-1-j:Nat):Int)) (.sc _)<|some aL).put (by simpa only[Cp]using b0)<|some aM;have cq:=ck j H n r cf bh aY;have ct:=run_yield (P:=P) (args:=#[.int .i64 ((A aq-1-j:Nat):Int),el<|us<|A aq-1-j]) ak<|Yf t;refine⟨_,_,_,_,ct,roundIn_of_wpIn trivial ?_⟩;have b1:({tmps:=(((rec .ready Q).params.zip #[.int .i64 ((A aq-1-j:Nat):Int),el<|us<|A aq-1-j]).foldl (λtmps ay=>tmps.setIfInBounds ay.1 ay.2) (rec .ready Q).tmps),defers:=[]}:dF)=((({a with defers:=[]}:dF).put (E aL)<|.int .i64 ((A aq-1-j:Nat):Int)).put (E aM)<|el<|us<|A aq-1-j):=by
    rw[t];simp[Act.put]
   rw[show(rec .ready Q).assign=assign by rw[t],show(rec .ready Q).body=body by rw[t]];refine b1▸wpIn_mono (xO assign _ ca (λs q=>q.elim) cu cq) ?_;rintro i bO aP⟨a3,bt,az,R,S⟩;cases i with
   |normal=>
    obtain⟨bc,R⟩:=R;obtain⟨cI,bT⟩:=bO;obtain rfl:bT=[]:=S.defers;have bq:=LC S bc;have aV:aP.heap[e+1]?=E (.loop<|rec .ready Q):=(S.below.block _ λq=>(S.zm _ aK) q).trans ak;have b7:aP.heap[e]?=E (.deferred<|some []):=(S.below.block _ λq=>(S.zm _ aJ) q).trans aZ;refine⟨_,run_beginRound aV<|Yw t,?_⟩;obtain⟨Z,ah⟩:∃Z,Z=aP.putObj (e+1) (.loop {rec .ready Q with state:=.busy}):=⟨_,C⟩;rw[<-ah];have aC:az e/\az (e+1):=⟨(bq.2 _).2 aJ,(bq.2 _).2 aK⟩;have bj:∀b,b≠e+1->Z.heap[b]?=aP.heap[b]?:=λb k=>(Yy ah)<|World.putObj_heap_other k;have cE:Z.heap.size=aP.heap.size:=Yx ah;obtain⟨t1,t2⟩:=S.xM bc (w':=Z) (M':=az) [] Zo (λb _ k=>bj b λi=>k (i▸aC.2)) λb=>OH;have bW:Gb z (aR w M g s.n) Z az bt a3.n:=((by simpa only[Cp]using B:Gb z (aR w M g s.n) l M' V _).walk S bc).xM (xe:=(Yy ah)<|bJ _) t2 (Yf ah) (Yf ah) (Yf ah) Zo (λb k=>bj b λi=>k<|aW b<|aj i) λ_ q=>q;have bg:Z.heap[e+1]?=E (.loop {rec .ready Q with state:=.busy}):=(Yy ah)<|World.putObj_heap_same (nO.1 aV).1;have b8:Z.heap[e]?=E (.deferred<|some []):=(bj e Zo).trans b7;refine wpIn_mono (xO body _ cb (λs q=>q.elim) t1 R) ?_;have bG:∀(p:Option dJ)(U:(a')->(bi)->Prop)(G:St)(ar:dZ)(x:cG)(aA:dF)(u:a8),G.T=[]->G.N=s.N->U G.H G.n->ba (th Z az bt a3.n []) x ar G aA u->
     (Instr.endRound (e+1) p).run P u=.ok (.bool p.isNone) (u.putObj (e+1)<|.loop<|rec (if p.isNone then .ready else .done) p)/\aQ (if p.isNone then .ready else .done) p U (u.putObj (e+1)<|.loop<|rec (if p.isNone then .ready else .done) p):=by
     intro p U G ar x aA u bd bZ be f;have br:=LC f bd;have bC:u.heap[e+1]?=E (.loop {rec .ready Q with state:=.busy}):=(f.below.block _ λq=>(f.zm _ aC.2) q).trans bg;have b9:u.heap[e]?=E (.deferred<|some []):=(f.below.block _ λq=>(f.zm _ aC.1) q).trans b8;have bA:=run_endRound (P:=P) p bC;rw[t]at bA⊢;refine⟨bA,?_⟩;obtain⟨av,Y⟩:∃av,av=u.putObj (e+1) (.loop (rec (if p.isNone then .ready else .done) p)):=⟨_,C⟩;rw[t]at Y;rw[<-Y];have bb:x e/\x (e+1):=⟨(br.2 _).2 aC.1,(br.2 _).2 aC.2⟩;have bk:∀b,b≠e+1->av.heap[b]?=u.heap[b]?:=λb k=>(Yy Y)<|World.putObj_heap_other k;have cF:av.heap.size=u.heap.size:=Yx Y;obtain⟨am,cw⟩:=f.xM bd (w':=av) (M':=x) [] Zo (λb _ k=>bk b λi=>k (i▸bb.2)) λb=>OH;have bx:Gb z (aR w M g s.n) av x ar G.n:=(bW.walk f bd).xM (xe:=(Yy Y)<|bJ _) cw (Yf Y) (Yf Y) (Yf Y) Zo (λb k=>bk b λi=>k<|aW b<|aj i) λ_ q=>q;refine⟨G.H,G.n,ar,x,⟨C,y.size,λo=>(y.env o).mono bx.ext,am.obj,am.base,am.inj,am.below,am.m0,λb=>?_,am.zm,λi aU=>?_,Yx aF,am.og,λb q=>by rw[<-bZ];exact am.wm b q⟩,be,bx,by rw[Y,t];exact World.putObj_heap_same (nO.1 bC).1,(bk e Zo).trans b9,bb.1,bb.2⟩
     .show x b↔x b\/∃i∈s.T,b∈i.F;rw[aF];simp
     have aU:i∈s.T:=aU;rw[aF]at aU;cases aU
    rintro i aA u⟨G,ar,x,O,bp⟩;cases i with
    |normal=>
     obtain⟨a5,cN,O⟩:=O;obtain⟨bl,bm⟩:=bG Q (I<|j+1) G ar x aA u a5 cN O bp;exact⟨_,_,bl,aG ⟨C,bm⟩⟩
    |ret=>
     obtain⟨a5,cN,O⟩:=O;obtain⟨bl,bm⟩:=bG (E .ret) (λH n=>ao .ret {s with H:=H,n:=n}) G ar x aA u a5 cN O bp;exact⟨_,_,bl,aj ⟨C,bm⟩⟩
    |exit id=>exact O.elim
    |goto bn=>exact O.elim
    |panic bR=>exact O.elim
    |outgrown=>exact O.elim
   |exit id=>exact R.elim
   |goto bn=>exact R.elim
   |ret=>exact R.elim
   |panic bR=>exact R.elim
   |outgrown=>exact R.elim
 rintro i cx⟨⟨v,rfl⟩,aB|aB⟩
 .have a9:=aB;obtain⟨_,_,_,_,_,_,_,ak,_⟩:=aB;have aI:=run_endLoop (P:=P) ak<|Yx t;have au:=bs _ _ _ _ Q .normal C a9 λH n=>b_ H n;dsimp only at au;rw[show(rec .ready Q).pending=Q by rw[t]]at aI au;exact⟨Q,_,aI,au⟩
 have a9:=aB;obtain⟨_,_,_,_,_,_,_,ak,_⟩:=aB;have aI:=run_endLoop (P:=P) ak<|Yx t;have au:=bs _ _ _ _ Q .ret C a9 λH n q=>q;dsimp only at au;rw[show(rec .done<|some .ret).pending=E .ret by rw[t]]at aI au;exact⟨E .ret,_,aI,wpIn_ret au⟩
def Q5{b:St}{i:hC}{nt:Nat}{args:DL}{f:ON}{h:aU}(a:ax)(o:hV)(w:g3.funcs[g5]?=E i)(t:i.body=E n7)(z:(i.name== "runtime.NumGoroutine")=af)
 (B:i.ntmps=nt) (C:i.results.toList=o) (y:A args<=nt)
 (r:Wk g3 n7 (nD g3 o λd H n T=>In a d/\T=b.T/\(∀e∈a,∀g,H e=E g->∀d∈g.cells,In a d)/\h ({b with H:=iD a a b.H H,n:=n}.put f d)) {env:=ej args,H:=b5 a b.H,n:=b.n,nt:=nt,T:=b.T,N:=b.N}):er g3 b g5 args f h:=by
 refine Jh a a<|Q8 o w t z B C y ?_;have key:∀d H n T,(In a d/\T=b.T/\(∀e∈a,∀g,H e=E g->∀d∈g.cells,In a d)/\h ({b with H:=iD a a b.H H,n:=n}.put f d))->((∀e∈a,∀g,({{b with H:=b5 a b.H}with H:=H,n:=n,T:=T}.put f d:St).H e=E g->∀d∈g.cells,In a d)/\(∀e,f=E e->e<b.nt->In a (({{b with H:=b5 a b.H}with H:=H,n:=n,T:=T}.put f d:St).env e))/\h {({{b with H:=b5 a b.H}with H:=H,n:=n,T:=T}.put f d:St)with H:=iD a a b.H ({{b with H:=b5 a b.H}with H:=H,n:=n,T:=T}.put f d:St).H}):=by
  rintro d H n T⟨u,rfl,s,j⟩;have q:∀(k:St),(k.put f d).H=k.H:=λk=>by cases f with|none=>rfl|some e=>simp only[St.put];split<;>rfl
  refine⟨λe m g p=>?_,λe m l=>?_,?_⟩
  .rw[q]at p;exact s e m g p
  .subst m;simp only[St.put,l,bx,aw];exact u
  rw[q];show h {({{b with H:=b5 a b.H}with H:=H,n:=n,T:=b.T}.put f d:St)with H:=iD a a b.H H};cases f with
  |none=>exact j
  |some e=>
   simp only[St.put]at j⊢;split at j<;>rename_i l<;>simp only[l,bx,bT]<;>exact j
 refine Wk.mono (λx k hx=>?_) r;exact yC
def A1{a:St}{e:hC}{nt:Nat}{args:DL}(b:ax)(p:ax)(f:hV)(j:g3.funcs[g5]?=E e)(i:e.body=E n7)(l:(e.name== "runtime.NumGoroutine")=af)
 (m:e.ntmps=nt) (o:e.results.toList=f) (k:A args<=nt)
 (h:vc g3 p n7 (nD g3 f λd H n T=>In b d/\T=a.T/\(∀q∈b,∀g,H q=E g->∀d∈g.cells,In b d)/\c2 ({a with H:=iD b b a.H H,n:=n}.put g7 d)) {env:=ej args,H:=b5 b a.H,n:=a.n,nt:=nt,T:=a.T,N:=a.N}):er g3 a g5 args g7 c2:=Q5 b f j i l m o k<|.of h
def IZ(P:aH)(mu bz:ax)(ty:a6)(i j t:Nat)(K:aU)(s:St):Prop:=lx P mu bz af af (.call ⟨.builtin .append,#[.tmp i,.tmp j],#[ty,ty]⟩) (E t) K s
def jt{ty:a6}:lx g3 gt i4 af af (.call ⟨.builtin .append,#[.tmp am,.tmp a0],#[ty,ty]⟩) (E a2) c2 bv=IZ g3 gt i4 ty am a0 a2 c2 bv:=cQ C C
def js{s:St}{d l m f e i:Nat}{ty:a6}{S:ax}{aq bD:cB}(j:∀a∈i4,a≠d/\a∉S)(u:cE g3 ty=E (f,e,i))(B:aL S s.H f e aq<|s.env l)(w:∀r∈aq,A r=e)(C:dS s f e (s.env m)=E (A bD,ao bD))(y:0<A bD)(p:bD.flatten.all cO=W)
 (t:(A aq+A bD)*i<=140737488355328) (x:A aq+A bD<=aE) (z:d<s.nt)
 (q:∀H n h,aL [d] H f e (aq++bD) h->(∀g,g≠d->g∉S->H g=s.H g)->c2 ({s with H:=H,n:=n}.put (E d) h)):IZ g3 gt i4 ty l m d c2 s:=by
 unfold IZ;rw[Lh];refine eC.eS u B w C y p t x λH n h o b=>⟨?_,q H n h o b⟩;simp only[St.put,aM z];rw[JY];exact λa k=>b a (j a k).1 (j a k).2
def kz(P:aH)(bK:ax)(H0:a')(f:bI)(eF:DL)(aI:D->Prop):Prop:=
 ∀(s:St)(dst:ON)(K:aU),(∀t∈bK,s.H t=H0 t)->(∀n r,aI r->Cl r->K ({s with n:=n}.put dst r))->er P s f eF dst K
def kz.US{bK:ax}{b:a'}{e:hC}{nt:Nat}{f:D->Prop}(g:hV)(o:g3.funcs[g5]?=E e)(m:e.body=E n7)(r:(e.name== "runtime.NumGoroutine")=af)
 (u:e.ntmps=nt) (y:e.results.toList=g) (q:A a9<=nt) (p:∀t∈bK,∀a,b t=E a->∀d∈a.cells,In bK d)
 (h:∀n T N,Wk g3 n7 (nD g3 g λd H _ j=>Cl d/\f d/\j=T/\∀t∈bK,H t=b t) {env:=ej a9,H:=b5 bK b,n:=n,nt:=nt,T:=T,N:=N}):kz g3 bK b g5 a9 f:=by
 intro s k i hH hK;refine Q5 bK g o m r u y q ?_;have l:b5 bK s.H=b5 bK b:=by
  funext t;simp only[b5];split
  .exact hH t ‹_›
  rfl
 rw[l];have key:∀d H(n:bi)T,(Cl d/\f d/\T=s.T/\∀t∈bK,H t=b t)->(In bK d/\T=s.T/\(∀t∈bK,∀a,H t=E a->∀d∈a.cells,In bK d)/\i ({s with H:=iD bK bK s.H H,n:=n}.put k d)):=by
  rintro d H n T⟨hd,hq,rfl,hL⟩;refine⟨hd.bB,C,λt ht a w=>p t ht a<|(hL t ht).symm.trans w,?_⟩;exact PH
 refine Wk.mono (λx z hx=>?_)<|h s.n s.T s.N;exact yC
def kz.ey{a:ax}{b:hC}{nt:Nat}{g:D->Prop}(s:ax)(f:hV)(l:g3.funcs[g5]?=E b)(k:b.body=E n7)(p:(b.name== "runtime.NumGoroutine")=af)
 (q:b.ntmps=nt) (r:b.results.toList=f) (o:A a9<=nt) (m:∀e∈a,∀i,fd e=E i->∀d∈i.cells,In a d)
 (h:∀n T N,vc g3 s n7 (nD g3 f λd H _ j=>Cl d/\g d/\j=T/\∀e∈a,H e=fd e) {env:=ej a9,H:=b5 a fd,n:=n,nt:=nt,T:=T,N:=N}):kz g3 a fd g5 a9 g:=kz.US f l k p q r o m λn T N=>.of<|h n T N
section
open Go.ChangeMaps (setBlock)
variable{P:aH}{w0:Bs}{M:cG}{g:dZ}{s:St}{a:dF}{w:a8}{ops:io}{aI:iG->dF->a8->Prop}{rest:kB}{o:dU}
def vp(P:aH):List dU->(St->Prop)->St->Prop
 |[],K,s=>K s
 |o::l,K,s=>o.guard=Q/\nC s o.dst (vp P l K) (f_ P s o.op)
def air(l:o.guard=Q)(e:ba w0 M g s a w){d:D}(f:f_ P s o.op=E d)(j:∀b,ba w0 M g (s.put o.dst d) b w->lF P ops aI rest b w):lF P ops aI (o::rest) a w:=by
 refine wpList_plain l λp k=>?_;have⟨v,h,i⟩:=V4 e f;have m:=i w<|Below.refl _ _;simp only[Oper.wp,m,Oper.upon_value];exact k _ _<|j _<|e.put h _
def WQ{k:aU}:∀(e:kB){s:St}{a:dF},ba w0 M g s a w->vp P e k s->(∀l f,ba w0 M g l f w->k l->lF P ops aI rest f w)->lF P ops aI (e++rest) a w
 |[],s,a,i,b,h=>h s a i b
 |o::e,s,a,i,⟨m,b⟩,h=>by
  rcases j:f_ P s o.op with _|d
  .rw[j]at b;exact b.elim
  rw[j]at b;exact air m i j λf p=>WQ e p b h
def aio(F:o.guard=Q)(d:ba w0 M g s a w){b:gK}{args:Array gK}{k:Array a6}(G:o.op=.call ⟨.value b,args,k⟩){i:bI}{aW aV:DL}{r:D}(B:s.ev b=.fn i aW aV)(x:yd P s.H s.T i (aW++args.toList.map s.ev++aV) r)
 (q:∀h e,Below w.heap.size w e->ba w0 M g (s.put o.dst r) h e->lF P ops aI rest h e):lF P ops aI (o::rest) a w:=by
 refine wpList_plain F λY t=>?_;have⟨m,op,ty,pos,l,guard⟩:=o;subst G;have j:=d.ev b;rw[B]at j;have⟨us,aa,p,I,J,R,S⟩:=E7 j;have⟨K,U⟩:=FX d args.toList;have⟨L,V⟩:=Ee I R K U;have⟨O,X⟩:=Ee L V J S;have⟨y,z⟩:=Q_ d x O X;simp only[Oper.wp,Jj (a:=a) (o:=⟨m,.call ⟨.value b,args,k⟩,ty,pos,l,guard⟩) C C p y w,Oper.upon_enter];refine z.mono λZ e⟨v,A,f,u⟩=>?_;subst A;exact t _ _<|q _ _ f.toBelow<|(d.grow f.toBelow f.dr).put u _
def Ab(d:Nat){b:kB}{K:aU}(j:ba w0 M g s a w)(h:vp P (Y d b) K s)(i:∀f e,ba w0 M g f e w->K f->lF P ops aI (b.drop d) e w):lF P ops aI b a w:=by
 have k:=WQ (rest:=b.drop d) (ops:=ops) (aI:=aI) (Y d b) j h i;rwa[qj]at k
def Aa{b:aU}:vp P [] b s=b s:=cQ C C
def z_{b:aU}{f:kB}{d:ON}{op:gC}{ty:a6}{pos:String}{h:Array Edge}{e:Option (Nat×Bool)}:vp P (⟨d,op,ty,pos,h,e⟩::f) b s=(e=Q/\nC s d (vp P f b) (f_ P s op)):=cQ C C
def Lw(e:ba w0 M g s a w){x:gK}{v:aN}(d:s.ev x=.sc v):a.eval x=v:=by
 have b:=e.ev x;rw[d]at b;generalize a.eval x=f at b;cases b;rfl
def nQ(H:a')(n:bi)(nt:Nat)(T:cf)(N:Nat)(b:List<|Nat×D)(s:St):Prop:=s.H=H/\s.n=n/\s.nt=nt/\s.T=T/\s.N=N/\∀x∈b,s.env x.1=x.2
def ba.afM(d:ba w0 M g s a w){w':a8}{r:Nat}{I:ON}{L u:Nat}{K:Array Nat}(D:w.heap[r]?=E (.mapIter I L K u))(C:w0.own r)(B:∀j l k,g j≠E (l,r,k))(A:¬M r)
 (x:w'.os=w.os) (y:w'.tape=w.tape) (z:w'.output=w.output) (m:w'.heap.size=w.heap.size) (hk:∀f,f≠r->w'.heap[f]?=w.heap[f]?) (O:w.drawn<=w'.drawn:=by first|exact bJ _|exact oq _|assumption):ba w0 M g s a w'/\(aR w M g s.n).Ext (aR w' M g s.n):=by
 have p:(aR w M g s.n).Ext<|aR w' M g s.n:=by
  refine⟨λb o R e=>?_,λ_=>bJ _,λ_ _ _ _ _ e=>e⟩;have q:=eW e;have t:b≠r:=by rintro rfl;simp[World.cell?,D]at q
  exact⟨fD ((vg<|hk b t).trans q) (dQ e).1 (dQ e).2,λ⟨us,e,i⟩=>⟨us,e,(hk b t).trans i⟩⟩
 exact⟨⟨d.defers,d.size,λG=>(d.env G).mono p,λj J F=>(d.obj j J F).mono p λl b k e=>⟨e,hk b λi=>B j l k (i▸e)⟩,
  λj l b k e=>⟨(d.base j l b k e).1,(Yy m)<|(d.base j l b k e).2⟩,d.inj,d.below.step x y z (x9 m.symm) λf i=>hk f λe=>i (e▸C),
  λb f=>⟨(Yy m)<|(d.m0 b f).1,(d.m0 b f).2⟩,d.mm,d.zm,CM d λb f=>hk b λi=>A (i▸f),d.nd,d.og,d.wm⟩,p⟩
structure rm (w0:Bs) (M:Nat->Prop) (g:Nat->Option (Nat×Nat×Nat)) (n:Nat->Nat) (w:a8) (r b:Nat) (es:Array MapEntry) (e:Nat) (cs:List D) (seen:Array Nat):Prop where
 hr:w.heap[r]?=E (.mapIter (E b) e seen e)
 hb:w.heap[b]?=E (.map es e)
 own:w0.own r
 ng:∀t x c,g t≠E (x,r,c)
 nM:¬M r
 Lg:∀x∈es.toList,x.born<e
 nd:(es.toList.map (·.born)).Nodup
 Mg:∀(j:Nat)(d:D),cs[j]?=E d->∃u,(es.toList.map (·.val))[j]?=E u/\Rd (aR w M g n) d u
 len:A cs=es.size
def rm.below{k:bi}{r b h:Nat}{j:Array MapEntry}{i:DL}{seen:Array Nat}(e:rm w0 M g k w r b j h i seen){l:a8}(f:Below w.heap.size w l):rm w0 M g k l r b j h i seen:=by
 exact⟨(f.block r (nO.1 e.hr).1).trans e.hr,(f.block b (nO.1 e.hb).1).trans e.hb,e.own,e.ng,e.nM,e.Lg,e.nd,λx d t=>by obtain⟨z,p,q⟩:=e.Mg x d t;exact⟨z,p,q.mono (v_ (b':=w.heap.size) (λ_=>bJ _) (λy u _=>f.block y u) (aG<|bJ _) λ_ _ _ _ m=>aG m)⟩,e.len⟩
theorem ais(L:o.guard=Q)(f:ba w0 M g s a w){q:a6}{i:gK}(ad:o.op=.range q i){p l:a6}(ae:P.underlying q=E (.map p l)){y:Nat}{h:Ob}{C:VL}(aa:s.H y=E h)(U:h.keys=E C)(X:s.ev i=.mp y h.gen)(V:A h.cells=A C)
 (G:∀(B:dF)(z:a8)(r b:Nat)(m:Array MapEntry)(e:Nat),ba w0 M g (s.put o.dst<|.sc<|.pointer<|some ⟨r,0,Q⟩) B z->rm w0 M g s.n z r b m e h.cells #[]->lF P ops aI rest B z):lF P ops aI (o::rest) a w:=by
 refine wpList_plain L λal I=>?_;obtain⟨b,D,ao,O,x,-,-,-,J⟩:=(f.obj y h aa).ex;unfold jh at x;rw[U]at x;have⟨m,e,t,S,an,Z,ab⟩:=x;have Y:a.eval i=.map (E b):=by
  have k:=f.ev i;rw[X]at k;generalize a.eval i=v at k;cases k with
  |mp _ _ b' _ j=>rw[j _ _ O]
 have u:Below w.heap.size w<|w.alloc<|.mapIter (E b) e #[] e:=wN w _;simp[Oper.wp,eI,ad,Y,run_range_map (P:=P) w q p l b m e ae t,Result.andThen];refine I _ _<|G _ _ w.heap.size b m e ((f.grow u).put (.sc _) _) ⟨pk w _,(u.block b (nO.1 t).1).trans t,aG f.below.size,λq ap D j=>?_,λj=>?_,ab,Z,λah d K=>?_,?_⟩
 .have k:=(f.base _ _ _ _ j).2;omega
 .have k:=(f.m0 _ j).1;omega
 .have⟨ak,am,F⟩:=J ah d K;exact⟨ak,cq,F.mono (v_ (b':=w.heap.size) (λ_=>bJ _) (λp R _=>u.block p R) (aG<|bJ _) λ_ _ _ _ l=>aG l)⟩
 rw[V,<-S];simp
def aiq(ab:o.guard=Q)(z:ba w0 M g s a w){r b f:Nat}{j:Array MapEntry}{G:DL}{seen:Array Nat}(e:rm w0 M g s.n w r b j f G seen){u:gK}(R:o.op=.next u af)(ah:s.ev u=.sc (.pointer<|some ⟨r,0,Q⟩))
 (Y:(∀F∈j.toList,F.born∈seen.toList)->∀q,ba w0 M g (s.put o.dst<|.tp [.sc<|.bool af]) q w->lF P ops aI rest q w)
 (Z:∀(p:Nat)(K:p<j.size)(q:dF)(w':a8),ba w0 M g (s.put o.dst<|.tp [.sc<|.bool W,.any,.any]) q w'->rm w0 M g s.n w' r b j f G (seen.push j[p].born)->(leftOf j<|seen.push j[p].born).size<(leftOf j seen).size->lF P ops aI rest q w'):lF P ops aI (o::rest) a w:=by
 refine wpList_plain ab λao I=>?_;have O:a.eval u=.pointer (E ⟨r,0,Q⟩):=by
  have l:=z.ev u;rw[ah]at l;generalize a.eval u=v at l;cases l;rfl
 obtain⟨U,A⟩|⟨t,J,D,Fj,A⟩:=run_next_at (P:=P) w o.type r b f f seen j f e.hr e.hb e.Lg<|bJ _
 .simp[Oper.wp,eI,R,O,A,Result.andThen];refine I _ _<|Y (λF B=>?_) _<|z.put (.tp _ _ Zs λi d v k m=>?_) _
  .have l:=all_seen j seen U F B;simpa using l
  obtain _|i:=i
  .simp at k m;subst k;subst m;exact .sc _
  simp at k
 have⟨aa,ap⟩:=mem_left J;have⟨p,K,ae⟩:=ec aa;have ad:p<j.size:=Yq K;have L:j[p]=t:=by rw[<-ae];simp
 have al:D.heap[r]?=E (.mapIter (E b) f seen f):=by obtain rfl|rfl:=Fj<;>exact e.hr
 have S:=MapKept.heap_set (o':=.mapIter (E b) f (seen.push t.born) f) al;have ak:b≠r:=λC=>by have l:=e.hb;rw[C,e.hr]at l;cases l
 have x y (x:y≠r):(setBlock D r<|.mapIter (E b) f (seen.push t.born) f).heap[y]?=w.heap[y]?:=(S.2 y x).trans D1;have⟨am,B⟩:=z.afM (w':=setBlock D r<|.mapIter (E b) f (seen.push t.born) f) e.hr e.own e.ng e.nM D1 D1 D1 (by obtain rfl|rfl:=Fj<;>simp[setBlock]) x (by obtain rfl|rfl:=Fj;exact bJ _;exact oq _);simp[Oper.wp,eI,R,O,A,Result.andThen];refine I _ _<|Z p ad _ _ (am.put (.tp _ _ Zs λi d v k m=>?_) _) ⟨(Yy L) S.1,(x b ak).trans e.hb,e.own,e.ng,e.nM,e.Lg,e.nd,λC d k=>?_,e.len⟩<|(Yy L)<|left_shrinks j seen t J
 .obtain _|_|_|i:=i
  .simp at k m;subst k;subst m;exact .sc _
  .simp at k m;subst k;exact .any _
  .simp at k m;subst k;exact .any _
  simp at k
 have⟨an,V,X⟩:=e.Mg C d k;exact⟨an,V,X.mono B⟩
def aip(F:o.guard=Q)(y:ba w0 M g s a w){r b l:Nat}{e:Array MapEntry}{u:DL}{seen:Array Nat}{h:Nat}{G:h<e.size}(k:rm w0 M g s.n w r b e l u<|seen.push e[h].born){j:gK}(K:o.op=.entry j)(I:s.ev j=.sc (.pointer<|some ⟨r,0,Q⟩)){t:D}(C:u[h]?=E t)
 (A:∀q,ba w0 M g (s.put o.dst<|.tp [.any,t]) q w->lF P ops aI rest q w):lF P ops aI (o::rest) a w:=by
 refine wpList_plain F λL B=>?_;have J:a.eval j=.pointer (E ⟨r,0,Q⟩):=by
  have p:=y.ev j;rw[I]at p;generalize a.eval j=v at p;cases p;rfl
 simp[Oper.wp,eI,K,J,run_entry_at (P:=P) w r b l seen e l e[h] k.hr k.hb Zs k.nd,Result.andThen];refine B _ _<|A _<|y.put (.tp _ _ Zs λi d v f m=>?_) _;obtain _|_|i:=i
 .simp at f m;subst f;exact .any _
 .simp at f m;subst f;subst m;have⟨O,x,z⟩:=k.Mg h _ C;simp[G]at x;rw[x];exact z
 simp at f
def aiv{m:dJ}{r b k:Nat}{d:Array MapEntry}{l:DL}(j:Array Nat->aU)
 (step:∀(seen:Array Nat)(s:St)(a:dF)(w:a8),ba w0 M g s a w->rm w0 M g s.n w r b d k l seen->j seen s->m.wp P (λe z y=>(e=.normal/\∃h i,ba w0 M g h z y/\rm w0 M g h.n y r b d k l i/\j i h/\(leftOf d i).size<(leftOf d seen).size)\/(e≠.normal/\aI e z y)) a w)
 {seen:Array Nat} (x:ba w0 M g s a w) (u:rm w0 M g s.n w r b d k l seen) (t:j seen s):(Code.loop m).wp P aI a w:=by
 apply wp_loop_rounds<|(leftOf d seen).size+1;have F:∀(f:Nat)(seen:Array Nat)(s:St)(a:dF)(w:a8),(leftOf d seen).size<f->ba w0 M g s a w->rm w0 M g s.n w r b d k l seen->j seen s->Code.rounds P m aI f a w:=by
  intro f
  induction f with
  |zero=>intro seen s a w A;omega
  |succ f D=>
   intro seen s a w I x u t;rw[rounds_succ];refine wp_mono (step seen s a w x u t) λe a w A=>?_;obtain⟨rfl,h,i,p,q,B,G⟩|⟨p,q⟩:=A
   .exact D i h a w Zo p q B
   cases e with
   |normal=>exact absurd C p
   |_=>exact q
 exact F _ _ _ _ _ Zo x u t
end
def afp{h:Array Tmp}{f:gg}{a:St}(o:∀b a,z5 b a->f b a)(j:Cu g3 ws h n7 z0 z5 a):Cu g3 ws h n7 z0 f a:=λq d e g i p=>wp_mono (j q d e g i p) λb g i⟨a,e,d,r,k,l,m⟩=>⟨a,e,d,r,k,o b a l,m⟩
def WL:∀(f:dJ){h g:gg}{d:St},(∀e d,h e d->g e d)->lV g3 gt f h d->lV g3 gt f g d:=by
 intro f
 induction f with
 |seq m o j k=>
  intro h g d b a;refine j (λe d a=>?_) a;cases e
  case normal=>exact k b a
  all_goals exact b _ _ a
 |block id f i=>
  intro h g d b a;refine i (λe d a=>?_) a;cases e
  case exit q=>simp only[qz]at a⊢;split at a<;>rename_i l<;>simp only[l,bx,bT]<;>exact b _ _ a
  all_goals exact b _ _ a
 |rangeFunc p r m o=>exact λb a=>afp b a
 |_=>exact λb a=>lW _ b a
theorem Yh{f:St}{fn:hC}{c:dJ}{nt:Nat}{args:DL}{m:ON}(Y:ax)(I:hV)(z:g3.funcs[g5]?=E fn)(hb:fn.body=E c)(R:(fn.name== "runtime.NumGoroutine")=af)
 (S:fn.ntmps=nt) (V:fn.results.toList=I) (ae:A args<=nt)
 (K:lV g3 Y c (nD g3 I λd H n T=>c2<|{f with H:=H,n:=n,T:=T}.put m d) {env:=ej args,H:=f.H,n:=f.n,nt:=nt,T:=f.T,N:=f.N}):er g3 f g5 args m c2:=by
 subst V;subst S;refine λs w o J p env hr vs ad hv=>⟨⟨fn,z,R,Yf hb⟩,?_⟩
 let u:Bs:=⟨p,s.M,λb=>(∃t x c,o t=E (x,b,c))\/∃e∈f.T,b∈e.F,o,f.n,[]⟩
 have ux b (k:u.own b):s.own b:=PM;have U:ba u w o {env:=ej args,H:=f.H,n:=f.n,nt:=fn.ntmps,T:=f.T,N:=f.N} {tmps:=vs.toArray++Array.replicate (fn.ntmps-vs.toArray.size) eX,defers:=[]} p:=Ng;refine(callsIn_wide (n:=0)).1<|callsIn_of_wp_marks z hb trivial (wpIn_wide.2 (wp_mono (WM c _ U K) λe y aa⟨g,l,ab,am,O,q1,X⟩=>?_));have core:∀d,d_ g3 g fn.results.toList=E d->c2 ({f with H:=g.H,n:=g.n,T:=g.T}.put m d)->LeavesInM Fence.wide 0 g3 fn y.tmps (λe q=>∃(v:aN)(d:D)(H:a')(n:bi)(T:cf)(l:dZ)(j:cG),e=.returned v/\
  ba s j l {f with env:=env,H:=H,n:=n,T:=T} J q/\Rd (aR q j l n) d v/\c2 ({f with H:=H,n:=n,T:=T}.put m d)) y.defers .returning aa:=by
  refine λd hd L=>LD.TW O X C hd λv q j a Z=>?_;have G:(aR p w o f.n).Ext<|aR q j l g.n:=by
   refine⟨λb ak al h=>?_,a.og.1,a.og.2⟩;have ah:b<p.heap.size:=by
    have:=eW h;simp only[World.cell?]at this;exact Zg
   have r:¬u.own b:=by
    rintro(k|⟨t,x,c,k⟩|⟨e,he,hb⟩)
    .exact Zg
    .exact(dQ h).2 _ _ _ k
    exact(dQ h).1<|(hr.mm b).2<|aj ⟨e,he,hb⟩
   have B:=a.below.block b r;refine⟨fD ?_ (λk=>?_) λt x c k=>r (a.base _ _ _ _ k).1,λ⟨us,e,k⟩=>⟨us,e,B.trans k⟩⟩
   .have:=eW h;simp only[World.cell?]at this⊢;rw[B];exact this
   obtain k|⟨e,he,hb⟩:=(a.mm b).1 k
   .exact(dQ h).1<|(hr.mm b).2<|aG k
   exact r<|(a.tree e he).2 b hb
  refine⟨v,d,g.H,g.n,g.T,l,j,C,⟨hr.defers,hr.size,λi=>(hr.env i).mono G,a.obj,λt x b c e=>⟨ux b (a.base _ _ _ _ e).1,(a.base _ _ _ _ e).2⟩,a.inj,hr.below.step a.below.os a.below.tape a.below.output a.below.size (λk P=>a.below.block k λh=>P<|ux k h) a.below.dr,a.m0,a.mm,hr.zm,λe he=>⟨(a.tree e he).1,λb hb=>ux b<|(a.tree e he).2 b hb⟩,a.nd,hr.og.ext G,hr.wm⟩,Z,L⟩
 exact PL
def Yc{a:St}{h:hC}{nt:Nat}{args:DL}{e:ON}{g:aU}(b:ax)(q:ax)(l:hV)(y:g3.funcs[g5]?=E h)(u:h.body=E n7)(B:(h.name== "runtime.NumGoroutine")=af)
 (C:h.ntmps=nt) (D:h.results.toList=l) (z:A args<=nt)
 (r:lV g3 q n7 (nD g3 l λd H n T=>Cl d/\T=a.T/\(∀t∈b,∀f,H t=E f->∀d∈f.cells,In b d)/\g ({a with H:=iD b b a.H H,n:=n}.put e d)) {env:=ej args,H:=b5 b a.H,n:=a.n,nt:=nt,T:=a.T,N:=a.N}):er g3 a g5 args e g:=by
 refine Jh b b<|Yh q l y u B C D z ?_;have key:∀d H n T,(Cl d/\T=a.T/\(∀t∈b,∀f,H t=E f->∀d∈f.cells,In b d)/\g ({a with H:=iD b b a.H H,n:=n}.put e d))->((∀t∈b,∀f,({{a with H:=b5 b a.H}with H:=H,n:=n,T:=T}.put e d:St).H t=E f->∀d∈f.cells,In b d)/\(∀t,e=E t->t<a.nt->In b (({{a with H:=b5 b a.H}with H:=H,n:=n,T:=T}.put e d:St).env t))/\g {({{a with H:=b5 b a.H}with H:=H,n:=n,T:=T}.put e d:St)with H:=iD b b a.H ({{a with H:=b5 b a.H}with H:=H,n:=n,T:=T}.put e d:St).H}):=by
  rintro d H n T⟨w,rfl,s,i⟩;have p (m:St):(m.put e d).H=m.H:=by cases e with|none=>rfl|some t=>simp only[St.put];split<;>rfl
  refine⟨λt k f o=>?_,λt k j=>?_,?_⟩
  .rw[p]at o;exact s t k f o
  .subst k;simp only[St.put,j,bx,aw];exact w.bB
  rw[p];show g {({{a with H:=b5 b a.H}with H:=H,n:=n,T:=a.T}.put e d:St)with H:=iD b b a.H H};obtain _|t:=e
  .exact i
  simp only[St.put]at i⊢;split at i<;>rename_i j<;>simp only[j,bx,bT]<;>exact i
 refine WL n7 (λx m hx=>?_) r;exact yC
def tC(P:aH)(bK:ax)(H0:a')(f:bI)(eF:DL)(aI:D->Prop):Prop:=
 ∀(s:St)(dst:ON)(K:aU),s.T=[]->(∀t∈bK,s.H t=H0 t)->(∀n r,aI r->Cl r->K ({s with n:=n}.put dst r))->er P s f eF dst K
def tC.Gg{bK:ax}{b:a'}{e:hC}{nt:Nat}{f:D->Prop}(i:ax)(g:hV)(q:g3.funcs[g5]?=E e)(p:e.body=E n7)(w:(e.name== "runtime.NumGoroutine")=af)
 (y:e.ntmps=nt) (B:e.results.toList=g) (u:A a9<=nt) (r:∀t∈bK,∀a,b t=E a->∀d∈a.cells,In bK d)
 (h:∀n N,lV g3 i n7 (nD g3 g λd H _ k=>Cl d/\f d/\k=[]/\∀t∈bK,H t=b t) {env:=ej a9,H:=b5 bK b,n:=n,nt:=nt,T:=[],N:=N}):tC g3 bK b g5 a9 f:=by
 intro s l j o hH hK;rw[<-o]at h;apply Yc bK i g q p w y B u;have m:b5 bK s.H=b5 bK b:=by
  funext t;simp only[b5];split
  .exact hH t ‹_›
  rfl
 rw[m];have key:∀d H(n:bi)T,(Cl d/\f d/\T=s.T/\∀t∈bK,H t=b t)->(Cl d/\T=s.T/\(∀t∈bK,∀a,H t=E a->∀d∈a.cells,In bK d)/\j ({s with H:=iD bK bK s.H H,n:=n}.put l d)):=by
  rintro d H n T⟨hd,hq,rfl,hL⟩;refine⟨hd,C,λt ht a z=>r t ht a<|(hL t ht).symm.trans z,?_⟩;exact PH
 refine WL n7 (λx F hx=>?_)<|h s.n s.N;exact yC
inductive Mv (t0 g0 t1 b:Nat):D->D->Prop
 |ms (l:Nat):Mv t0 g0 t1 b (.ms t0 g0 l) (.ms t1 b l)
 |rf (o:Nat):Mv t0 g0 t1 b (.rf t0 g0 o) (.rf t1 b o)
def Mv.rd{t0 m t1 b f:Nat}{e:bi}{d l:D}{v:aN}(y:Mv t0 m t1 (e t1) d l)(p:g t0=E (m,b,f))(r:Rd (aR w M g e) d v):Rd (aR w M (ai (ai g t0 Q) t1<|some (e t1,b,f))<|eP e t1) l v:=by
 have t:∀{h i:Nat},(aR w M (ai (ai g t0 Q) t1<|some (e t1,b,f))<|eP e t1).g t1=E (e t1,h,i)->h=b/\i=f:=λ{h i}j=>by
  have u:ai (ai g t0 Q) t1 (E (e t1,b,f)) t1=E (e t1,h,i):=j;rw[bN]at u;cases u;exact⟨C,C⟩
 have o:e t1<eP e t1 t1:=by rw[wO];omega
 cases y with
 |ms A=>
  cases r with|ms _ _ _ x z q k=>
  obtain⟨rfl,rfl⟩:=k b f p;exact .ms _ _ _ _ _ ⟨o,q.2⟩ λh i j=>by obtain⟨rfl,rfl⟩:=t j;exact⟨C,C⟩
 |rf B=>
  cases r with|rf _ _ _ x q k=>
  obtain rfl:=k b f p;exact .rf _ _ _ _ o λh i j=>by obtain⟨rfl,rfl⟩:=t j;rfl
def ba.mv(j:ba w0 M g s a w){t0 t1:Nat}{d:Ob}(k:s.H t0=E d)(i:d.keys=Q):
 ∃b e,g t0=E (d.gen,b,e)/\ba w0 M (ai (ai g t0 Q) t1<|some (s.n t1,b,e)) {s with H:=ai (ai s.H t0 Q) t1 (E {d with gen:=s.n t1}),n:=eP s.n t1} a w:=by
 have⟨r,b,e,q,f,h,p,m,o,l⟩:=j.obj t0 d k;exact⟨b,e,f,(j.rebind (w':=w) t0 t1 b e q {d with gen:=s.n t1} C (λ_ _ _=>C) (aj ⟨_,_,f⟩) h.lt (.of (h.cells i) i) p m o l C C C (bJ _)).1⟩
def ba.cY{e:Nat}{d:D}(b:ba w0 M g s a w)(h:Rd (aR w M g s.n) d<|a.tmps.getD e eX):ba w0 M g {s with env:=aw s.env e d} a w:=by
 refine⟨b.defers,b.size,λf=>?_,b.obj,b.base,b.inj,b.below,b.m0,b.mm,b.zm,b.tree,b.nd,b.og,b.wm⟩;show Rd _ (if f=e then _ else _) _;split
 .rename_i i;subst i;exact h
 exact b.env f
def ba.YD{l k:Nat}{f:Ob}{d o:D}(e:ba w0 M g s a w)(A:s.H l=E f)(p:f.cells[k]?=E d)(y:∀i,Rd (aR w M g s.n) d i->Rd (aR w M g s.n) o i):ba w0 M g {s with H:=ai s.H l (E {f with cells:=f.cells.set k o})} a w:=by
 refine⟨e.defers,e.size,e.env,λm t h=>?_,e.base,e.inj,e.below,e.m0,e.mm,e.zm,e.tree,e.nd,e.og,e.wm⟩;have h:ai s.H l (E {f with cells:=f.cells.set k o}) m=E t:=h;by_cases r:m=l
 .subst r;rw[bN]at h;cases h;have⟨B,b,u,R,C,F,G,I,J,q6⟩:=e.obj m f A;refine⟨B,b,u,R,C,F,G,I,Yq J,λj x hx=>?_⟩;have z:=(dX.1 p).1;by_cases hj:j=k
  .subst hj;rw[C4 z]at hx;cases hx;have⟨i,L,O⟩:=q6 j d p;exact⟨i,L,y i O⟩
  exact HV
 rw[a_ _ _ r]at h;exact e.obj m t h
def GK.Uw(t0 t1 e:Nat){d:Ob}{f:D}(i:s.H t0=E d)(m:d.keys=Q)(k:Mv t0 d.gen t1 (s.n t1) (s.env e) f)
 (j:K {s with env:=aw s.env e f,H:=ai (ai s.H t0 Q) t1 (E {d with gen:=s.n t1}),n:=eP s.n t1}):GK K s:=λw0 M g a w h=>by
 have⟨b,p,l,o⟩:=h.mv (t1:=t1) i m;exact⟨_,_,_,j,o.cY<|k.rd l<|h.env e⟩
def GK.Ux(t0 t1 h o:Nat){j f:Ob}{d t:D}(R:s.H t0=E j)(X:j.keys=Q)(C:s.H h=E f)(y:h≠t0)(z:h≠t1)(u:f.cells[o]?=E d)(U:Mv t0 j.gen t1 (s.n t1) d t)
 (S:K {s with H:=ai (ai (ai s.H t0 Q) t1<|some {j with gen:=s.n t1}) h (E {f with cells:=f.cells.set o t}),n:=eP s.n t1}):GK K s:=λw0 M g a w A=>by
 have⟨b,L,V,e⟩:=A.mv (t1:=t1) R X;have⟨ax,J,O,aB,p,am,ay,az,aA,an⟩:=A.obj h f C;have Z:ai (ai s.H t0 Q) t1 (E {j with gen:=s.n t1}) h=E f:=by rw[a_ _ _ z,a_ _ _ y];exact C
 have⟨ab,q,r,au,G,I,ad,ae,ah,ak⟩:=e.obj h f Z;refine⟨_,_,_,S,e.defers,e.size,e.env,λk F i=>?_,e.base,e.inj,e.below,e.m0,e.mm,e.zm,e.tree,e.nd,e.og,e.wm⟩;have i:ai (ai (ai s.H t0 Q) t1<|some {j with gen:=s.n t1}) h (E {f with cells:=f.cells.set o t}) k=E F:=i;by_cases B:k=h
 .subst B;rw[bN]at i;cases i;refine⟨ab,q,r,au,G,I,ad,ae,Yq ah,λm av l=>?_⟩;have Y:=(dX.1 u).1;by_cases x:m=o
  .subst x;rw[C4 Y]at l;cases l;have aa:g k=E (f.gen,q,r):=by
    have ao:ai (ai g t0 Q) t1 (E (s.n t1,b,L)) k=E (f.gen,q,r):=G;rwa[a_ _ _ z,a_ _ _ y]at ao
   have p:g k=E (f.gen,J,O):=p;rw[aa]at p;cases p;have⟨ap,aq,ar⟩:=an m _ u;exact⟨ap,by rw[am.same I m];exact aq,U.rd V ar⟩
  rw[MK λal=>x al.symm]at l;exact ak m av l
 rw[a_ _ _ B]at i;exact e.obj k F i
def GK.F7(t0 t1 f h:Nat){g0 e z:Nat}{cs:DL}(j:s.H t0=E ⟨g0,e,z,cs,Q⟩)(l:s.env f=.rf t0 g0 h)
 (k:∀H n i,H t1=E ⟨i,e,z,cs,Q⟩->(∀d,d≠t0->d≠t1->H d=s.H d)->GK K {s with env:=aw s.env f (.rf t1 i h),H:=H,n:=n}):GK K s:=
 GK.n4 (GK.Uw t0 t1 f j C (l▸.rf h) (k _ _ _ (bN _ _ _) λd a b=>by rw[a_ _ _ b,a_ _ _ a]))
def GK.qQ(t0 t1 d h i:Nat){g0 k o:Nat}{j:DL}{f:Ob}(q:s.H t0=E ⟨g0,k,o,j,Q⟩)(x:s.H d=E f)(u:d≠t0)(m:d≠t1)(t:f.cells[h]?=E (.ms t0 g0 i))
 (r:∀H n l,H t1=E ⟨l,k,o,j,Q⟩->H d=E {f with cells:=f.cells.set h (.ms t1 l i)}->(∀e,e≠t0->e≠t1->e≠d->H e=s.H e)->GK K {s with H:=H,n:=n}):GK K s:=
 GK.n4 (GK.Ux t0 t1 d h q C x u m t (.ms i) (r _ _ _ (by rw[a_ _ _<|uM m,bN]) (bN _ _ _) λe a b p=>by rw[a_ _ _ p,a_ _ _ b,a_ _ _ a]))
def GK.Uz(t0 t1 d h i:Nat){l k p:Nat}{j:DL}{f:Ob}(r:s.H t0=E ⟨l,k,p,j,Q⟩)(y:s.H d=E f)(x:d≠t0)(o:d≠t1)(u:f.cells[h]?=E (.rf t0 l i))
 (t:∀H n m,H t1=E ⟨m,k,p,j,Q⟩->H d=E {f with cells:=f.cells.set h (.rf t1 m i)}->(∀e,e≠t0->e≠t1->e≠d->H e=s.H e)->GK K {s with H:=H,n:=n}):GK K s:=
 GK.n4 (GK.Ux t0 t1 d h r C y x o u (.rf i) (t _ _ _ (by rw[a_ _ _<|uM o,bN]) (bN _ _ _) λe a b q=>by rw[a_ _ _ q,a_ _ _ b,a_ _ _ a]))
def Rd.Fc(hr:ba w0 M g s a w){t:Nat}{ob:Ob}{k:cB}(Y:s.H t=E ob)(X:ob.keys=Q)(ae:0<ob.sz)(S:ob.cells=ao k)(B:∀r∈k,A r=ob.sz){v:aN}(I:Rd (aR w M g s.n) (.ms t ob.gen<|A k) v):Rd (aR w M (aT [t] g) s.n) (.sl ob.sz k) v:=by
 have⟨ah,b,y,q,s5,V,al,O,ak,R⟩:=hr.obj t ob Y;have L:∀C u z,aT [t] g C≠E (u,b,z):=λC u z e=>HR;have J:¬M b:=λp=>(hr.m0 b p).2 _ _ _ s5;have aa:(aR w M g s.n).Ext<|aR w M (aT [t] g) s.n:=
  ⟨λb am l e=>⟨fD (eW e) (dQ e).1 λt u y p=>(dQ e).2 _ _ _ (kK p).2,ku⟩,λ_=>bJ _,λ_ _ _ _ _ e=>(kK e).2⟩
 cases I with|ms _ _ _ ad G U Z=>
 obtain⟨rfl,rfl⟩:=Z b y s5;have x:∀{f:Nat}{r:DL}{j:Nat}{d:D},k[f]?=E r->r[j]?=E d->∃l,q[f*ob.sz+j]?=E l/\Rd (aR w M g s.n) d l:=λi m=>R _ _<|(Yy S)<|mJ B i m;refine .sl _ k b 0 G (λf j=>q.getD (f*ob.sz+j) eX) U.2 O (λf r i=>B r<|fE i) (λf r j d i m=>?_) λf r j d i m=>?_
 .have⟨l,o,F⟩:=x i m;refine fD ?_ J L;rw[ew,pW<|V.cells X,o];simp[o]
 have⟨l,o,F⟩:=x i m;have ab:q.getD (f*ob.sz+j) eX=l:=Yr o;rw[ab];exact F.mono aa
def GK.Fc(e:Nat){t:Nat}{ob:Ob}(b:cB)(j:s.env e=.ms t ob.gen (A b))(m:s.H t=E ob)(k:ob.keys=Q)(f:0<ob.sz)(i:ob.cells=ao b)(l:∀r∈b,A r=ob.sz)
 (h:K {s with env:=aw s.env e (.sl ob.sz b),H:=aT [t] s.H}):GK K s:=λw0 M g a w d=>⟨_,_,_,h,(d.aT [t]).cY<|Rd.Fc d m k f i l (j▸d.env e)⟩
def Ra{m:bI}{l:ON}{t:Nat}{ob:Ob}{aq:cB}{pre post:DL}(G:s.H t=E ob)(C:ob.keys=Q)(z:0<ob.sz)(B:ob.cells=ao aq)(D:∀r∈aq,A r=ob.sz)
 (y:er P {s with H:=aT [t] s.H} m (pre++.sl ob.sz aq::post) l K):er P s m (pre++.ms t ob.gen (A aq)::post) l K:=λw0 M g a w x p I F j=>by
 have u:(aR w M g s.n).Ext<|aR w M (aT [t] g) s.n:=
  ⟨λb L O f=>⟨fD (eW f) (dQ f).1 λt R J i=>(dQ f).2 _ _ _ (kK i).2,ku⟩,λ_=>bJ _,λ_ _ _ _ _ f=>(kK f).2⟩
 refine y w0 M (aT [t] g) a w x (p.aT [t]) I (Yq F) λh d v e k=>?_;obtain q|q|q:=Hn h<|A pre
 .rw[lY q]at e;exact(j h d v (by rw[lY q];exact e) k).mono u
 .subst q;simp at e;subst e;exact Rd.Fc p G C z B D<|j (A pre) _ v Zs k
 obtain⟨i,o⟩:∃i,h-(A pre)=i+1:=⟨h-(A pre)-1,Zo⟩;rw[kR Zo,o,xY]at e;exact(j h d v (by rw[kR Zo,o,xY];exact e) k).mono u
def GK.YC(f i:Nat){e:Ob}{d:D}(h:D)(m:s.H f=E e)(l:e.cells[i]?=E d)(j:gi d h)
 (k:∀H,H f=E {e with cells:=e.cells.set i h}->(∀b,b≠f->H b=s.H b)->GK K {s with H:=H}):GK K s:=
 GK.n4 λw0 M g a w o=>⟨_,_,_,k _ (bN _ _ _) λb p=>a_ _ _ p,o.YD m l λb=>j _ b⟩
def GK.off(b:ax)(d:K {s with H:=aT b s.H}):GK K s:=λw0 M g a w e=>⟨_,_,_,d,e.aT b⟩
def ba.cut(d:ba w0 M g s a w)(i m:Nat){e:Ob}(q:s.H i=E e)(k:e.keys=Q):ba w0 M g {s with H:=ai s.H i (E {e with cells:=Y m e.cells})} a w:=by
 refine⟨d.defers,d.size,d.env,λj o f=>?_,d.base,d.inj,d.below,d.m0,d.mm,d.zm,d.tree,d.nd,d.og,d.wm⟩;have f:ai s.H i (E {e with cells:=Y m e.cells}) j=E o:=f;by_cases l:j=i
 .subst l;rw[bN]at f;cases f;have⟨t,b,p,C,u,x,y,z,A,B⟩:=d.obj j e q;exact⟨t,b,p,C,u,.of (x.cells k) k,y,z,gS ch A,λr D h=>B r D (by rw[wl]at h;split at h;exact h;cases h)⟩
 rw[a_ _ _ l]at f;exact d.obj j o f
def GK.cut(d e:Nat){b:Ob}(i:s.H d=E b)(h:b.keys=Q)(f:K {s with H:=ai s.H d (E {b with cells:=Y e b.cells})}):GK K s:=λw0 M g a w j=>⟨_,_,_,f,j.cut d e i h⟩
def jR(P:aH)(f:bI)(pre post:DL)(e:a6)(sz:Nat)(aq g:cB):Prop:=
 ∀(s:St)(t:Nat)(K:aU)(S:ax)(x:D),aL S s.H e sz aq x->(∀d∈pre++post,Cl d)->
  (∀H n b,aL [t] H e sz g b->(∀a,a≠t->a∉S->H a=s.H a)->K ({s with H:=H,n:=n}.put (E t) b))->er P s f (pre++x::post) (E t) K
def va{a:St}{aW aV args:DL}{b:Nat}(S:ax)(pre post:DL)(h:D)(f:a6)(g:Nat)(j i:cB)(l:jR g3 g5 pre post f g j i)
 (o:aW++args++aV=pre++h::post) (q:aL S a.H f g j h) (p:∀d∈pre++post,Cl d)
 (m:∀H n k,aL [b] H f g i k->(∀e,e≠b->e∉S->H e=a.H e)->c2 ({a with H:=H,n:=n}.put (E b) k)):jU g3 a (.fn g5 aW aV) args (E b) c2:=
 aj (aj (o▸l a b c2 S h q p m))
def Vw(P:aH)(a:List lC)(e:a6)(sz:Nat)(aq:List<|List D)(T:List TE):iG->St->Prop
 |.normal,s|.ret,s=>r8 (d_ P s a) λd=>tT e sz aq s d/\s.T=T
 |_,_=>False
def Vs{a:Option D}{b B:D->Prop}(e:r8 a b)(f:∀d,b d->B d):∃d,a=E d/\B d:=by
 obtain _|d:=a
 .exact e.elim
 exact⟨d,C,f d e⟩
def afl{b:hV}{a:St}:Vw g3 b g4 am ip i3 .ret a=r8 (d_ g3 a b) λd=>tT g4 am ip a d/\a.T=i3:=cQ C C
attribute [go_sem] afl
def zF(h:∀d∈a9,Cl d):a9.map (D.aS g8)=a9:=(jn λd a=>D.iE<|h d a).trans<|map_id _
theorem jR.Cc{F:hC}{pre post:DL}{o:a6}{y:Nat}{q:cB}{nt:Nat}(a0:ax)(ad:hV)(aK:g3.funcs[g5]?=E F)(aF:F.body=E n7)(Z:(F.name== "runtime.NumGoroutine")=af)
 (aQ:F.ntmps=nt) (aX:F.results.toList=ad) (a5:A pre+A post+1<=nt) (aI:∀d∈ao ip,Cl d) (ah:∀d∈ao q,Cl d)
 (h:∀B H n T N,aL [A pre] H o y ip B->vc g3 a0 n7 (Vw g3 ad o y q T) {env:=ej (pre++B::post),H:=H,n:=n,nt:=nt,T:=T,N:=N}):jR g3 g5 pre post o y ip q:=by
 intro f e aq S B aZ ak aB;obtain⟨a,i,w,az,aA⟩:∃(a:bi)(i:ax),(∀g,a (a g)=g)/\(∀R,R∉S->a R∉i)/\aL [A pre] (b5 i (f.aS a).H) o y ip (B.aS a):=by
  obtain⟨G,rfl⟩|⟨t0,s,V,rfl,u⟩:=aZ
  .exact⟨id,[],λ_=>C,Zs,aG ⟨G,C⟩⟩
  refine⟨λg=>if g=t0 then A pre else if g=A pre then t0 else g,[A pre],λg=>by grind,λR h t=>?_,aj ⟨A pre,s,Zs,by simp[D.aS],?_⟩⟩
  .have z:R≠t0:=λt=>h (t▸V);simp only[dg]at t
   grind
  simp only[b5,dg,bx,St.aS,u,eE,Ob.aS,zF aI,show(if A pre=t0 then A pre else t0)=t0 by grind]
 apply A5 a w;have aD:D.hP a (pre++B::post)=pre++B.aS a::post:=by
  rw[D.Cr,bX,b4,zF λd I=>ak d<|Yr I,zF λd I=>ak d<|Yr I]
 rw[aD];refine Jh i [a e]<|Q7 ad aK aF Z aQ aX ch<|.mono (λau k aa=>?_)<|.of<|h _ _ (f.aS a).n f.T f.N aA;have ae:∀d,tT o y q k d/\k.T=f.T->GR {f.aS a with H:=b5 i (f.aS a).H} (E e) (λk=>(∀K∈[a e],∀J,k.H K=E J->∀d∈J.cells,In [a e] d)/\(∀K,E e=E K->K<(f.aS a).nt->In [a e] (k.env K))/\aq ({k with H:=iD i [a e] (f.aS a).H k.H}.aS a)) d k.H k.n k.T:=by
  rintro d⟨X,aC⟩a1 a2 a4 ar ap env v al am;obtain⟨l,j,m,P,M,aU,aY,I,u⟩:∃l j m P M,ba a1 M P {{f.aS a with H:=b5 i (f.aS a).H}with env:=env,H:=j,n:=m,T:=k.T} ar ap/\Rd (aR ap M P m) l v/\In [a e] l/\((q=[]/\l=bp/\j (a e)=Q)\/∃s,l=.ms (a e) s (A q)/\j (a e)=E ⟨s,o,y,ao q,Q⟩):=by
   obtain⟨G,rfl⟩|⟨t1,J,rfl,u,rfl,rfl,⟨r,aJ⟩,Y⟩:=X
   .exact⟨_,_,_,_,_,al.aT [a e],by cases am;exact .sc _,.sc _,aG ⟨G,C,by simp[aT]⟩⟩
   have⟨b,a3,aN,aV⟩:=al.mv (t1:=a e) u Y;refine⟨_,_,_,_,_,aV.cut (a e) (A<|ao q) (bN _ _ _) Y,(Mv.ms _).rd aN am,.ms _ _ Zs,aj ⟨_,C,?_⟩⟩;simp only[bN,aJ,take_left',Y]
  refine⟨l,j,m,k.T,P,M,aU,aY,λL x J p n7 X=>?_,λL x aP=>?_,?_⟩
  .rw[dg]at x;subst x;have p:j (a e)=E J:=by
    simp only[St.put]at p;split at p<;>exact p
   obtain⟨-,-,Z⟩|⟨s,-,ab⟩:=u
   .rw[Z]at p;cases p
   rw[ab]at p;cases p;exact(ah n7 X).bB
  .cases x;simp only[St.put];rw[aM (show e<(f.aS a).nt from aP)];simpa[aw]using I
  let U:Nat->sC:=λg=>(iD i [a e] (f.aS a).H j<|a g).map<|Ob.aS a
  have aW g:((f.aS a).H<|a g).map (Ob.aS a)=f.H g:=Ax (eo St.H<|St.me w f) g;have aO:∀{g an},a g=a an->g=an:=λt=>by have z:=eo a t;rwa[w,w]at z
  have a7:=aB U (λg=>m<|a g) (l.aS a) (by
   obtain⟨G,rfl,-⟩|⟨s,rfl,ab⟩:=u
   .exact aG ⟨G,C⟩
   .refine aj ⟨e,s,Zs,by rw[D.aS,w],?_⟩;show(iD i [a e] (f.aS a).H j<|a e).map (Ob.aS a)=_;rw[vH Zs,ab];simp only[eE,Ob.aS,zF ah]) λL x V=>by
   show(iD i [a e] (f.aS a).H j<|a L).map (Ob.aS a)=_;rw[xw (by simp only[dg];exact λt=>x<|aO t)<|az L V];exact aW L
  have o:({({({f.aS a with H:=b5 i (f.aS a).H}:St)with H:=j,n:=m,T:=k.T}:St).put (E e) l with H:=iD i [a e] (f.aS a).H j}:St)=({f.aS a with H:=iD i [a e] (f.aS a).H j,n:=m}:St).put (E e) l:=by
   rw[aC];simp only[St.put];split<;>rfl
  have av (O:St):({O.put (E e) l with H:=iD i [a e] (f.aS a).H (O.put (E e) l).H}:St)={O.put (E e) l with H:=iD i [a e] (f.aS a).H O.H}:=by simp only[St.put];split<;>rfl
  rw[av];rw[o,St.vR];have ay:({f.aS a with H:=iD i [a e] (f.aS a).H j,n:=m}:St).aS a={f with H:=U,n:=λg=>m (a g)}:=by
   have z:=St.me w f;simp only[St.aS,U]at z⊢;rw[St.mk.injEq]at z;simp only[St.mk.injEq,i',rj];exact z.1
  rwa[ay]
 cases au
 case normal=>exact Vs aa ae
 case ret=>exact Vs aa ae
 all_goals exact aa.elim
def A4{b bs:DL}(m:er g3 bv g5 bs g7 c2)(p:A b=A bs)(q:∀(a:Nat)(d e:D),b[a]?=E d->bs[a]?=E e->gi d e):er g3 bv g5 b g7 c2:=by
 refine λw i l j u k r t x o=>m w i l j u k r t Zo λa d v f s=>?_;have g:a<A b:=(Yy p)<|(dX.1 f).1;exact q a _ d (bL g) f _ _<|o a _ v (bL g) s
def jR.FV{e b f g:D}(i:jR g3 g5 [e,b] [] g4 am ip qr)(k:gi f e)(l:gi g b)(m:Cl e/\Cl b):jR g3 g5 [f,g] [] g4 am ip qr:=λq r h S s o t j=>
 A4 (i q r h S s o (Yq m) j) C λp d g4 h1 a=>match p,h1,a with
  |0,h1,a=>by cases h1;cases a;exact k
  |1,h1,a=>by cases h1;cases a;exact l
  |_+2,h1,a=>by rw[show d=g4 from Aw<|h1.symm.trans a];exact .rfl
def Sp.La{r:D}(k:pU g3 g5)(h:er g3 (mU [] 1) g5 a9 (E 0) λe=>Fz e.H (e.env 0) r):Sp g3 g5 a9 r:=by
 refine⟨k,λf g u i m o=>?_⟩;apply(h _ _ _ _ f (ej []) (@ba.start f g [] [] [] 1 Q C i C Zs Zs Zs Zs) u m λs d v l p=>(o s d v l p).mono (oU λb=>by rintro(a|⟨_,a,_⟩);exact a;cases a)).2.mono;rintro z F⟨v,d,w,B,y,A,x,rfl,a,j,q⟩;exact⟨v,C,tQ a.below Zs,(Rd.freeze a (by simpa[St.put,aw,mU]using q) j).mono (oU λb t=>(a.mm b).2<|aG t)⟩
def jR.sp{pre:DL}{a:Nat}(b:jR g3 g5 pre [] g4 a [] ip)(i:∀d∈pre,Cl d)(h:∀r∈ip,A r=a)(g:Cl<|.sl a ip)(f:pU g3 g5)(e:0<a:=by decide):Sp g3 g5 (pre++[bp])<|.sl a ip:=
 .La f (b _ 0 _ [] _ .nil (Yq i) λk l m j _=>by simpa[St.put,aw,mU]using j.fz e h<|db.1 g)
end
end Go.Fw
namespace Go.Fw
noncomputable section
open Classical
def I5(l:List Bool):D:=.sl 1 (l.map λb=>[B b])
@[simp] def wT (e:List Bool):Cl<|I5 e:=by
 simp only[I5,db,aP];rintro r⟨b,_,rfl⟩d a;simp at a;subst a;exact .sc _
def pE(l:aX):Nat:=(l.map ByteArray.size).sum
def zw:∀{b:ax}{d:Nat},d∈b->d<=b.sum
 |[],_,h=>On
 |a::b,d,h=>by
  rw[kS];obtain e|h:=cF.1 h
  .omega
  have:=zw h;omega
def GL(a:ax)(b:Nat):(Y b a).sum<=a.sum:=by
 conv=>rhs;rw[<-qj b a,tx]
 omega
def af8(b:ax)(a:Nat)(d:a<A b):(Y (a+1) b).sum=(Y a b).sum+b[a]:=by
 rw[dm d,tx];simp
def jO(n:Nat)(left:Int):Int:=if(n:Int)<=left then left-n else-1
variable {am:Nat}{g2:Type}{a3:Int}{a9:DL}{g3:aH}{g5:bI}{n7:dJ}{c2:aU}{g8 m6:bi}{fd:a'}{g7:ON}{gs:BA}{eq:D}{hH:aX}{gt:ax}{g4:a6}{n6:cG}
def zS{left:Int}(a:(am:Int)<=left):jO am left=left-am:=aM a
def vX{left:Int}(a:¬(am:Int)<=left):jO am left=-1:=aC a
def af5(b:aX)(a:Nat)(d:a<A b):pE (Y (a+1) b)=pE (Y a b)+(b[a]).size:=by
 simp only[pE,su];rw[af8 _ _ (by simpa using d)];simp
def af4(a:aX)(b:Nat):pE (Y b a)<=pE a:=by
 simp only[pE,su];exact GL _ _
inductive J where|mk (a:Int) (b:ByteArray) (Kids:List J)
abbrev dp:=List J
mutual
def J.ds:J->List D
 |.mk a b d=>[I a,S b,.sl 3 (J.ab d)]
def J.ab:List J->List (List D)
 |[]=>[]
 |c::cs=>c.ds::J.ab cs
end
mutual
def J.sz:J->Nat
 |.mk d b a=>b.size+(A a+J.fr a)
def J.fr:List J->Nat
 |[]=>0
 |c::cs=>c.sz+J.fr cs
end
mutual
def J.ok:J->Prop
 |.mk d b a=>b.size<=aE/\A a<=aE/\J.gZ a
def J.gZ:List J->Prop
 |[]=>True
 |c::cs=>c.ok/\J.gZ cs
end
def J.cu:∀a:dp,J.ab a=a.map J.ds
 |[]=>rfl
 |c::b=>by rw[J.ab,J.cu b];rfl
def J.lS:∀a:dp,J.fr a=(a.map J.sz).sum
 |[]=>rfl
 |c::b=>by rw[J.fr,J.lS b];simp
def J.eJ:∀{e:dp},J.gZ e->∀a∈e,a.ok
 |[],_,a,h=>On
 |d::g,h,a,b=>by
  rw[J.gZ]at h;obtain f|b:=cF.1 b
  .rw[f];exact h.1
  exact J.eJ h.2 a b
def J.sl(l:dp):D:=.sl 3<|J.ab l
def J.bP(a:J):A a.ds=3:=by cases a;simp[J.ds]
def J.b6(a:dp):A (J.ab a)=A a:=by rw[J.cu];simp
def J.bV(b:dp)(a:Nat)(d:a<A b):(J.ab b)[a]?=E (b[a]).ds:=by rw[J.cu];simp[d]
mutual
theorem J.cl:∀(x:J),∀d∈x.ds,Cl d
 |.mk b e a=>by simp only[J.ds,bM,dt,hU,im,i'];(repeat' apply And.intro)<;>first|exact bc _|exact kY _|exact mE _|exact wT _|exact Cl.jd (J.dl a)
theorem J.dl:∀(l:List J),∀r∈J.ab l,∀d∈r,Cl d
 |[]=>by simp[J.ab]
 |c::cs=>by simp only[J.ab,bM];exact⟨J.cl c,J.dl cs⟩
end
def J.gz{x:J}{l:dp}(a:x∈l):x.sz<=J.fr l:=by
 rw[J.lS];exact zw<|aP.2 ⟨x,a,C⟩
theorem J.one(a:J):∀d∈a.ds,cO d=W:=by
 cases a;simp only[J.ds,bM,dt,hU,im,i'];(repeat' apply And.intro)<;>first|rfl
@[simp] theorem J.db (a:dp):Cl<|J.sl a:=Cl.jd<|J.dl a
def J.hQ(b:dp):∀r∈J.ab b,A r=3:=by
 intro r a;rw[J.cu,aP]at a;obtain⟨d,_,rfl⟩:=a;exact J.bP d
inductive aJ where|mk (b:ByteArray) (a:List J)
abbrev li:=List aJ
def aJ.ds:aJ->List D
 |.mk a b=>[S a,J.sl b]
def aJ.ab(l:li):cB:=l.map aJ.ds
def aJ.sz:aJ->Nat
 |.mk b a=>b.size+(A a+J.fr a)
def aJ.fr(l:li):Nat:=(l.map aJ.sz).sum
def aJ.ok:aJ->Prop
 |.mk b a=>b.size<=aE/\A a<=aE/\J.gZ a
def aJ.gZ(l:li):Prop:=∀c∈l,c.ok
def aJ.cu(a:li):aJ.ab a=a.map aJ.ds:=rfl
def aJ.lS(a:li):aJ.fr a=(a.map aJ.sz).sum:=rfl
def aJ.eJ{a:li}(d:aJ.gZ a):∀b∈a,b.ok:=d
def aJ.sl(l:li):D:=.sl 2<|aJ.ab l
def aJ.bP(a:aJ):A a.ds=2:=by cases a;simp[aJ.ds]
def aJ.b6(a:li):A (aJ.ab a)=A a:=by rw[aJ.cu];simp
def aJ.bV(b:li)(a:Nat)(d:a<A b):(aJ.ab b)[a]?=E (b[a]).ds:=by rw[aJ.cu];simp[d]
theorem aJ.cl(a:aJ):∀d∈a.ds,Cl d:=by
 cases a;simp only[aJ.ds,bM,dt,hU,im,i'];(repeat' apply And.intro)<;>first|exact bc _|exact kY _|exact mE _|exact wT _|exact J.db _
theorem aJ.dl(e:li):∀r∈aJ.ab e,∀d∈r,Cl d:=by
 intro r a d b;rw[aJ.cu,aP]at a;obtain⟨f,_,rfl⟩:=a;exact aJ.cl f d b
def aJ.gz{x:aJ}{l:li}(a:x∈l):x.sz<=aJ.fr l:=by
 rw[aJ.lS];exact zw<|aP.2 ⟨x,a,C⟩
theorem aJ.one(a:aJ):∀d∈a.ds,cO d=W:=by
 cases a;simp only[aJ.ds,bM,dt,hU,im,i'];(repeat' apply And.intro)<;>first|rfl
@[simp] theorem aJ.db (a:li):Cl<|aJ.sl a:=Cl.jd<|aJ.dl a
inductive O where|mk (a:Int) (aN:Int) (ae:List Int) (Kids:List O)
abbrev cm:=List O
mutual
def O.ds:O->List D
 |.mk a b d e=>[I a,I b,bm d,.sl 4 (O.ab e)]
def O.ab:List O->List (List D)
 |[]=>[]
 |c::cs=>c.ds::O.ab cs
end
mutual
def O.ok:O->Prop
 |.mk d e b a=>A b<=aE/\A a<=aE/\O.gZ a
def O.gZ:List O->Prop
 |[]=>True
 |c::cs=>c.ok/\O.gZ cs
end
def O.cu:∀a:cm,O.ab a=a.map O.ds
 |[]=>rfl
 |c::b=>by rw[O.ab,O.cu b];rfl
def O.eJ:∀{e:cm},O.gZ e->∀a∈e,a.ok
 |[],_,a,h=>On
 |d::g,h,a,b=>by
  rw[O.gZ]at h;obtain f|b:=cF.1 b
  .rw[f];exact h.1
  exact O.eJ h.2 a b
def O.sl(l:cm):D:=.sl 4<|O.ab l
def O.bP(a:O):A a.ds=4:=by cases a;simp[O.ds]
def O.b6(a:cm):A (O.ab a)=A a:=by rw[O.cu];simp
def O.bV(b:cm)(a:Nat)(d:a<A b):(O.ab b)[a]?=E (b[a]).ds:=by rw[O.cu];simp[d]
mutual
theorem O.cl:∀(x:O),∀d∈x.ds,Cl d
 |.mk b e f a=>by simp only[O.ds,bM,dt,hU,im,i'];(repeat' apply And.intro)<;>first|exact bc _|exact kY _|exact mE _|exact wT _|exact Cl.jd (O.dl a)
theorem O.dl:∀(l:List O),∀r∈O.ab l,∀d∈r,Cl d
 |[]=>by simp[O.ab]
 |c::cs=>by simp only[O.ab,bM];exact⟨O.cl c,O.dl cs⟩
end
theorem O.one(a:O):∀d∈a.ds,cO d=W:=by
 cases a;simp only[O.ds,bM,dt,hU,im,i'];(repeat' apply And.intro)<;>first|rfl
@[simp] theorem O.db (a:cm):Cl<|O.sl a:=Cl.jd<|O.dl a
def O.hQ(b:cm):∀r∈O.ab b,A r=4:=by
 intro r a;rw[O.cu,aP]at a;obtain⟨d,_,rfl⟩:=a;exact O.bP d
inductive ae where|mk (b:ByteArray) (a:List aJ)
abbrev aF:=List ae
def ae.ds:ae->List D
 |.mk a b=>[S a,aJ.sl b]
def ae.ab(l:aF):cB:=l.map ae.ds
def ae.sz:ae->Nat
 |.mk b a=>b.size+(A a+aJ.fr a)
def ae.fr(l:aF):Nat:=(l.map ae.sz).sum
def ae.ok:ae->Prop
 |.mk b a=>b.size<=aE/\A a<=aE/\aJ.gZ a
def ae.gZ(l:aF):Prop:=∀c∈l,c.ok
def ae.cu(a:aF):ae.ab a=a.map ae.ds:=rfl
def ae.lS(a:aF):ae.fr a=(a.map ae.sz).sum:=rfl
variable {a5:aF}
def ae.eJ(b:ae.gZ a5):∀a∈a5,a.ok:=b
def ae.sl(l:aF):D:=.sl 2<|ae.ab l
def ae.bP(a:ae):A a.ds=2:=by cases a;simp[ae.ds]
def ae.b6(a:aF):A (ae.ab a)=A a:=by rw[ae.cu];simp
def ae.bV(b:aF)(a:Nat)(d:a<A b):(ae.ab b)[a]?=E (b[a]).ds:=by rw[ae.cu];simp[d]
def ae.agi(a:aF)(b:Nat):ae.fr (Y b a)<=ae.fr a:=by
 simp only[ae.lS,su];exact GL _ _
theorem ae.cl(a:ae):∀d∈a.ds,Cl d:=by
 cases a;simp only[ae.ds,bM,dt,hU,im,i'];(repeat' apply And.intro)<;>first|exact bc _|exact kY _|exact mE _|exact wT _|exact aJ.db _
theorem ae.dl(e:aF):∀r∈ae.ab e,∀d∈r,Cl d:=by
 intro r a d b;rw[ae.cu,aP]at a;obtain⟨f,_,rfl⟩:=a;exact ae.cl f d b
def ae.gz{x:ae}{l:aF}(a:x∈l):x.sz<=ae.fr l:=by
 rw[ae.lS];exact zw<|aP.2 ⟨x,a,C⟩
theorem ae.one(a:ae):∀d∈a.ds,cO d=W:=by
 cases a;simp only[ae.ds,bM,dt,hU,im,i'];(repeat' apply And.intro)<;>first|rfl
@[simp] theorem ae.db (a:aF):Cl<|ae.sl a:=Cl.jd<|ae.dl a
inductive L where|mk (a:Int) (e:Int) (b:ByteArray) (J:J) (d:List ByteArray) (Kids:List L)
abbrev bu:=List L
mutual
def L.ds:L->List D
 |.mk a b d e f g=>[I a,I b,S d]++e.ds++[bG f,.sl 8 (L.ab g)]
def L.ab:List L->List (List D)
 |[]=>[]
 |c::cs=>c.ds::L.ab cs
end
mutual
def L.sz:L->Nat
 |.mk f g d e a b=>d.size+e.sz+(A a+pE a)+(A b+L.fr b)
def L.fr:List L->Nat
 |[]=>0
 |c::cs=>c.sz+L.fr cs
end
mutual
def L.ok:L->Prop
 |.mk f g d e a b=>d.size<=aE/\e.ok/\A a<=aE/\(∀s∈a,ByteArray.size s<=aE)/\A b<=aE/\L.gZ b
def L.gZ:List L->Prop
 |[]=>True
 |c::cs=>c.ok/\L.gZ cs
end
def L.cu:∀a:bu,L.ab a=a.map L.ds
 |[]=>rfl
 |c::b=>by rw[L.ab,L.cu b];rfl
def L.lS:∀a:bu,L.fr a=(a.map L.sz).sum
 |[]=>rfl
 |c::b=>by rw[L.fr,L.lS b];simp
def L.eJ:∀{e:bu},L.gZ e->∀a∈e,a.ok
 |[],_,a,h=>On
 |d::g,h,a,b=>by
  rw[L.gZ]at h;obtain f|b:=cF.1 b
  .rw[f];exact h.1
  exact L.eJ h.2 a b
def L.sl(l:bu):D:=.sl 8<|L.ab l
def L.bP(a:L):A a.ds=8:=by cases a;simp[L.ds,J.bP]
def L.b6(a:bu):A (L.ab a)=A a:=by rw[L.cu];simp
def L.bV(b:bu)(a:Nat)(d:a<A b):(L.ab b)[a]?=E (b[a]).ds:=by rw[L.cu];simp[d]
mutual
theorem L.cl:∀(x:L),∀d∈x.ds,Cl d
 |.mk b e f g h a=>by simp only[L.ds,pH,bM,dt,hU,im,i'];(repeat' apply And.intro)<;>first|exact bc _|exact kY _|exact mE _|exact wT _|exact J.cl _|exact Cl.jd (L.dl a)
theorem L.dl:∀(l:List L),∀r∈L.ab l,∀d∈r,Cl d
 |[]=>by simp[L.ab]
 |c::cs=>by simp only[L.ab,bM];exact⟨L.cl c,L.dl cs⟩
end
def L.gz{x:L}{l:bu}(a:x∈l):x.sz<=L.fr l:=by
 rw[L.lS];exact zw<|aP.2 ⟨x,a,C⟩
theorem L.one(a:L):∀d∈a.ds,cO d=W:=by
 cases a;simp only[L.ds,pH,bM,dt,hU,im,i'];(repeat' apply And.intro)<;>first|rfl|exact J.one _
@[simp] theorem L.db (a:bu):Cl<|L.sl a:=Cl.jd<|L.dl a
inductive aa where|mk (a:ByteArray) (J:J) (Body:L)
abbrev aO:=List aa
def aa.ds:aa->List D
 |.mk a b d=>[S a]++b.ds++d.ds
def aa.ab(l:aO):cB:=l.map aa.ds
def aa.sz:aa->Nat
 |.mk a b d=>a.size+b.sz+d.sz
def aa.fr(l:aO):Nat:=(l.map aa.sz).sum
def aa.ok:aa->Prop
 |.mk a b d=>a.size<=aE/\b.ok/\d.ok
def aa.gZ(l:aO):Prop:=∀c∈l,c.ok
def aa.cu(a:aO):aa.ab a=a.map aa.ds:=rfl
def aa.lS(a:aO):aa.fr a=(a.map aa.sz).sum:=rfl
variable {be:aO}
def aa.eJ(b:aa.gZ be):∀a∈be,a.ok:=b
def aa.sl(l:aO):D:=.sl 12<|aa.ab l
def aa.bP(a:aa):A a.ds=12:=by cases a;simp[aa.ds,J.bP,L.bP]
def aa.b6(a:aO):A (aa.ab a)=A a:=by rw[aa.cu];simp
def aa.bV(b:aO)(a:Nat)(d:a<A b):(aa.ab b)[a]?=E (b[a]).ds:=by rw[aa.cu];simp[d]
theorem aa.cl(a:aa):∀d∈a.ds,Cl d:=by
 cases a;simp only[aa.ds,pH,bM,dt,hU,im,i'];(repeat' apply And.intro)<;>first|exact bc _|exact kY _|exact mE _|exact wT _|exact L.cl _|exact J.cl _
theorem aa.dl(e:aO):∀r∈aa.ab e,∀d∈r,Cl d:=by
 intro r a d b;rw[aa.cu,aP]at a;obtain⟨f,_,rfl⟩:=a;exact aa.cl f d b
def aa.gz{x:aa}{l:aO}(a:x∈l):x.sz<=aa.fr l:=by
 rw[aa.lS];exact zw<|aP.2 ⟨x,a,C⟩
theorem aa.one(a:aa):∀d∈a.ds,cO d=W:=by
 cases a;simp only[aa.ds,pH,bM,dt,hU,im,i'];(repeat' apply And.intro)<;>first|rfl|exact L.one _|exact J.one _
@[simp] theorem aa.db (a:aO):Cl<|aa.sl a:=Cl.jd<|aa.dl a
inductive bH where|mk (a:List ae) (b:List aa)
def bH.ds:bH->List D
 |.mk a b=>[ae.sl a,aa.sl b]
def bH.ab(l:List bH):cB:=l.map bH.ds
def bH.sz:bH->Nat
 |.mk a b=>(A a+ae.fr a)+(A b+aa.fr b)
def bH.ok:bH->Prop
 |.mk a b=>A a<=aE/\ae.gZ a/\A b<=aE/\aa.gZ b
def bH.cu(a:List bH):bH.ab a=a.map bH.ds:=rfl
def bH.sl(l:List bH):D:=.sl 2<|bH.ab l
def bH.bP(a:bH):A a.ds=2:=by cases a;simp[bH.ds]
theorem bH.cl(a:bH):∀d∈a.ds,Cl d:=by
 cases a;simp only[bH.ds,bM,dt,hU,im,i'];(repeat' apply And.intro)<;>first|exact bc _|exact kY _|exact mE _|exact wT _|exact ae.db _|exact aa.db _
theorem bH.dl(e:List bH):∀r∈bH.ab e,∀d∈r,Cl d:=by
 intro r a d b;rw[bH.cu,aP]at a;obtain⟨f,_,rfl⟩:=a;exact bH.cl f d b
@[simp] theorem bH.db (a:List bH):Cl<|bH.sl a:=Cl.jd<|bH.dl a
def nv(a b:Int):(a==b)=ah (a=b):=by by_cases d:a=b<;>simp[d]
def B8(b:g2->Bool)(a:List g2):(!a.any λf=>!b f)=a.all b:=by induction a with
 |nil=>rfl
 |cons e a d=>simp only[xV,Aj,<-d];cases b e<;>simp
def wrap_add(a b:Nat)(e:a+b<9223372036854775808):cb.wrap ((a:Int)+(b:Int))=((a+b:Nat):Int):=by
 have d:=dE ((a:Int)+b) Zo;rw[d];omega
mutual
def J.num:J->Nat
 |.mk _ _ ks=>1+J.aZ ks
def J.aZ:List J->Nat
 |[]=>0
 |c::cs=>c.num+J.aZ cs
end
mutual
def J.cC:J->Nat
 |.mk _ _ ks=>1+J.cX ks
def J.cX:List J->Nat
 |[]=>0
 |c::cs=>max c.cC (J.cX cs)
end
def J.jY:∀(b:dp)(a:Nat)(h:a<A b),J.aZ (Y (a+1) b)=J.aZ (Y a b)+(b[a]).num
 |[],a,h=>jr
 |c::d,0,_=>by simp[J.aZ]
 |c::d,a+1,h=>by
  have e:=J.jY d a<|Yq h;simp only[jz,J.aZ,e,jm];omega
def J.mH:∀(b:dp)(a:Nat)(h:a<A b),J.cX (Y (a+1) b)=max (J.cX<|Y a b) (b[a]).cC
 |[],a,h=>jr
 |c::d,0,_=>by simp[J.cX]
 |c::d,a+1,h=>by
  have e:=J.mH d a<|Yq h;simp only[jz,J.cX,e,jm];omega
def J.p6:∀(d:dp)(a:Nat),J.aZ (Y a d)<=J.aZ d
 |[],a=>by simp
 |c::b,0=>by simp[J.aZ]
 |c::b,a+1=>by have:=J.p6 b a;simp only[jz,J.aZ];omega
def J.t_:∀(d:dp)(a:Nat),J.cX (Y a d)<=J.cX d
 |[],a=>by simp
 |c::b,0=>by simp[J.cX]
 |c::b,a+1=>by have:=J.t_ b a;simp only[jz,J.cX];omega
mutual
def J.yY:∀c:J,c.cC<=c.num
 |.mk _ _ ks=>by have:=J.wW ks;simp only[J.cC,J.num];omega
def J.wW:∀l:List J,J.cX l<=J.aZ l
 |[]=>by simp[J.cX]
 |c::cs=>by have:=J.yY c;have:=J.wW cs;simp only[J.cX,J.aZ];omega
end
mutual
def J.xC:∀c:J,c.num<=1+c.sz
 |.mk a b ks=>by have:=J.vM ks;simp only[J.num,J.sz];omega
def J.vM:∀l:List J,J.aZ l<=A l+J.fr l
 |[]=>by simp[J.aZ]
 |c::cs=>by have:=J.xC c;have:=J.vM cs;simp only[J.aZ,J.fr,dC];omega
end
def J.B':∀a:J,1<=a.num
 |.mk _ _ b=>by simp only[J.num];omega
mutual
def J.bh(p:J->Bool):J->Bool
 |.mk a b ks=>p (.mk a b ks)&&J.l7 p ks
def J.l7(p:J->Bool):List J->Bool
 |[]=>W
 |c::cs=>c.bh p&&J.l7 p cs
end
theorem J.i1{b:J->Bool}:∀a:dp,J.l7 b a=a.all (J.bh b)
 |[]=>by simp[J.l7]
 |c::d=>by rw[J.l7,J.i1 d];simp
mutual
def L.num:L->Nat
 |.mk _ _ _ _ _ ks=>1+L.aZ ks
def L.aZ:List L->Nat
 |[]=>0
 |c::cs=>c.num+L.aZ cs
end
mutual
def L.cC:L->Nat
 |.mk _ _ _ _ _ ks=>1+L.cX ks
def L.cX:List L->Nat
 |[]=>0
 |c::cs=>max c.cC (L.cX cs)
end
def L.jY:∀(b:bu)(a:Nat)(h:a<A b),L.aZ (Y (a+1) b)=L.aZ (Y a b)+(b[a]).num
 |[],a,h=>jr
 |c::d,0,_=>yt
 |c::d,a+1,h=>by
  have e:=L.jY d a<|Yq h;simp only[jz,L.aZ,e,jm];omega
def L.mH:∀(b:bu)(a:Nat)(h:a<A b),L.cX (Y (a+1) b)=max (L.cX<|Y a b) (b[a]).cC
 |[],a,h=>jr
 |c::d,0,_=>by simp[L.cX]
 |c::d,a+1,h=>by
  have e:=L.mH d a<|Yq h;simp only[jz,L.cX,e,jm];omega
def L.p6:∀(d:bu)(a:Nat),L.aZ (Y a d)<=L.aZ d
 |[],a=>by simp
 |c::b,0=>yt
 |c::b,a+1=>by have:=L.p6 b a;simp only[jz,L.aZ];omega
def L.t_:∀(d:bu)(a:Nat),L.cX (Y a d)<=L.cX d
 |[],a=>by simp
 |c::b,0=>by simp[L.cX]
 |c::b,a+1=>by have:=L.t_ b a;simp only[jz,L.cX];omega
def L.jw:∀{l:bu}{c:L},c∈l->c.num<=L.aZ l
 |[],_,h=>On
 |d::b,c,h=>by
  simp only[L.aZ];obtain a|h:=cF.1 h
  .subst a;omega
  have:=L.jw h;omega
mutual
def L.yY:∀c:L,c.cC<=c.num
 |.mk _ _ _ _ _ ks=>by have:=L.wW ks;simp only[L.cC,L.num];omega
def L.wW:∀l:List L,L.cX l<=L.aZ l
 |[]=>by simp[L.cX]
 |c::cs=>by have:=L.yY c;have:=L.wW cs;simp only[L.cX,L.aZ];omega
end
mutual
def L.xC:∀c:L,c.num<=1+c.sz
 |.mk a b d e f ks=>by have:=L.vM ks;simp only[L.num,L.sz];omega
def L.vM:∀l:List L,L.aZ l<=A l+L.fr l
 |[]=>yt
 |c::cs=>by have:=L.xC c;have:=L.vM cs;simp only[L.aZ,L.fr,dC];omega
end
def L.B':∀a:L,1<=a.num
 |.mk _ _ _ _ _ b=>by simp only[L.num];omega
mutual
def L.bh(p:L->Bool):L->Bool
 |.mk a b d e f ks=>p (.mk a b d e f ks)&&L.l7 p ks
def L.l7(p:L->Bool):List L->Bool
 |[]=>W
 |c::cs=>c.bh p&&L.l7 p cs
end
theorem L.i1{b:L->Bool}:∀a:bu,L.l7 b a=a.all (L.bh b)
 |[]=>by simp[L.l7]
 |c::d=>by rw[L.l7,L.i1 d];simp
def ez(k:Int)(i:Nat):Int:=if k=4\/(k=7/\i=1)then 1 else 0
def j'(k:Int):Int×Int×Int×Int:=
 if k=1\/k=2\/k=11 then(0,0,0,0)else if k=3\/k=5\/k=7 then(2,2,0,0)else if k=4\/k=6 then(1,1,0,0)
 else if k=8 then(0,3,0,0)else if k=9 then(1,1,1,4)else if k=10 then(1,1,2,2)else(0,-1,0,0)
def xN(k v:Int):Bool:=
 if k=1 then bY v 0 255 else if k=2 then bY v (-2147483648) 2147483647 else if k=3 then bY v 1 6 else if k=8 then bY v 0 3 else if k=11 then bY v 0 23 else ah (v=0)
def mb:O->Bool
 |.mk k v d ks=>bY (A ks) (j' k).1 (j' k).2.1&&bY (A d) (j' k).2.2.1 (j' k).2.2.2&&xN k v&&d.all λz=>bY z 0 23
def UD(a:Nat):((a:Int)=1)↔a=1:=Zo
mutual
def O.b7:O->Nat
 |.mk _ _ _ ks=>1+O.dd ks
def O.dd:List O->Nat
 |[]=>0
 |c::cs=>c.b7+O.dd cs
end
mutual
def O.cC:O->Nat
 |.mk _ _ _ ks=>1+O.cX ks
def O.cX:List O->Nat
 |[]=>0
 |c::cs=>max c.cC (O.cX cs)
end
mutual
def O.bh:O->Bool
 |.mk k v d ks=>mb (.mk k v d ks)&&O.l7 ks
def O.l7:List O->Bool
 |[]=>W
 |c::cs=>c.bh&&O.l7 cs
end
mutual
def O.ji:O->Int->Bool
 |.mk k v _ ks,n=>if k=1 then ah (v>=n)else O.sL k ks 0 n
def O.sL(k:Int):List O->Nat->Int->Bool
 |[],_,_=>af
 |c::cs,i,n=>c.ji (n+ez k i)||O.sL k cs (i+1) n
end
mutual
def O.under:O->Int->Bool
 |.mk k v _ ks,n=>!(ah (k=1)&&ah (v>=n))&&O.nI k ks 0 n
def O.nI(k:Int):List O->Nat->Int->Bool
 |[],_,_=>W
 |c::cs,i,n=>c.under (n+ez k i)&&O.nI k cs (i+1) n
end
mutual
def O.ry(p:O->Bool):O->Bool
 |.mk k v d ks=>p (.mk k v d ks)||O.AX p ks
def O.AX(p:O->Bool):List O->Bool
 |[]=>af
 |c::cs=>c.ry p||O.AX p cs
end
def O.IV{b:O->Bool}:∀a:cm,O.AX b a=a.any (O.ry b)
 |[]=>by simp[O.AX]
 |c::d=>by rw[O.AX,O.IV d];simp
theorem O.i1:∀a:cm,O.l7 a=a.all O.bh
 |[]=>by simp[O.l7]
 |c::b=>by rw[O.l7,O.i1 b];simp
def O.tY:∀(b:cm)(a:Nat)(h:a<A b),O.dd (Y (a+1) b)=O.dd (Y a b)+(b[a]).b7
 |[],a,h=>jr
 |c::d,0,_=>by simp[O.dd]
 |c::d,a+1,h=>by
  have e:=O.tY d a<|Yq h;simp only[jz,O.dd,e,jm];omega
def O.mH:∀(b:cm)(a:Nat)(h:a<A b),O.cX (Y (a+1) b)=max (O.cX<|Y a b) (b[a]).cC
 |[],a,h=>jr
 |c::d,0,_=>by simp[O.cX]
 |c::d,a+1,h=>by
  have e:=O.mH d a<|Yq h;simp only[jz,O.cX,e,jm];omega
def O.yU:∀(d:cm)(a:Nat),O.dd (Y a d)<=O.dd d
 |[],a=>by simp
 |c::b,0=>by simp[O.dd]
 |c::b,a+1=>by have:=O.yU b a;simp only[jz,O.dd];omega
def O.t_:∀(d:cm)(a:Nat),O.cX (Y a d)<=O.cX d
 |[],a=>by simp
 |c::b,0=>by simp[O.cX]
 |c::b,a+1=>by have:=O.t_ b a;simp only[jz,O.cX];omega
def O.yZ:∀{b:cm}{a:O},a∈b->a.cC<=O.cX b
 |[],_,h=>On
 |d::f,a,h=>by
  simp only[O.cX];obtain e|h:=cF.1 h
  .subst e;omega
  have:=O.yZ h;omega
def O.nr:∀{b:cm}{a:O},a∈b->a.b7<=O.dd b
 |[],_,h=>On
 |d::f,a,h=>by
  simp only[O.dd];obtain e|h:=cF.1 h
  .subst e;omega
  have:=O.nr h;omega
mutual
def O.ua:∀c:O,c.cC<=c.b7
 |.mk _ _ _ ks=>by have:=O.RX ks;simp only[O.cC,O.b7];omega
def O.RX:∀l:List O,O.cX l<=O.dd l
 |[]=>by simp[O.cX]
 |c::cs=>by have:=O.ua c;have:=O.RX cs;simp only[O.cX,O.dd];omega
end
def O.Y':∀a:O,1<=a.b7
 |.mk _ _ _ b=>by simp only[O.b7];omega
def O.Ww(d f:Int):∀(e:cm)(b a:Nat)(h:a<A e),O.nI d (Y (a+1) e) b f=(O.nI d (Y a e) b f&&(e[a]).under (f+ez d (b+a)))
 |[],b,a,h=>jr
 |c::g,b,0,_=>by simp[O.nI]
 |c::g,b,a+1,h=>by
  have i:=O.Ww d f g (b+1) a<|Yq h;rw[show b+1+a=b+(a+1)by omega]at i;simp only[jz,O.nI,i,jm,Bool.and_assoc]
theorem O.Wv(d f:Int):∀(h:cm)(b e:Nat),O.nI d (Y e h) b f=af->O.nI d h b f=af
 |[],b,e,a=>Yq a
 |c::g,b,0,a=>by simp[O.nI]at a
 |c::g,b,e+1,a=>by
  simp only[jz,O.nI]at a⊢;cases i:c.under (f+ez d b)
  .exact Zg
  rw[i]at a
  first|(simp only[kf]at a⊢;exact O.Wv d f g (b+1) e a)|simp
variable {v1:cm}{n5:O}{h1:bu}
def acn{v:Int}{d:IL}(a:mb (.mk 1 v d v1)=W):v1=[]:=by
 simp only[mb,cy,bY,ee]at a;have e:=a.1.1.1.2;have b:(j' 1).2.1=0:=by simp[j']
 rw[b]at e;exact pI.1 Zo
mutual
def O.Wx:∀(c:O)(n:Int),c.bh=W->c.under n=!c.ji n
 |.mk k v d ks,n,h=>by
  simp only[O.bh,cy]at h;by_cases a:k=1
  .subst a;have:=acn h.1;subst this;simp[O.under,O.ji,O.nI]
  simp[O.under,O.ji,a,O.Wu k ks 0 n h.2]
def O.Wu:∀(k:Int)(l:List O)(i:Nat)(n:Int),O.l7 l=W->O.nI k l i n=!O.sL k l i n
 |k,[],i,n,_=>by simp[O.nI,O.sL]
 |k,c::cs,i,n,h=>by
  simp only[O.l7,cy]at h;simp[O.nI,O.sL,O.Wx c _ h.1,O.Wu k cs (i+1) n h.2]
end
def O.valid(c:O):Bool:=c.bh&&ah (c.cC<=80/\c.b7<=400)
def oJ(c:O)(d l:Int):Int:=if c.bh=W/\(c.cC:Int)<=d/\(c.b7:Int)<=l then c.b7 else-1
theorem aef(a:O):ah (oJ a 80 400>0)=a.valid:=by
 have:=O.Y' a;unfold oJ O.valid;exact Zg
attribute [local irreducible] St.put
abbrev Pt:=Int×Int
structure Ag where
 k:Int
 l:Int
 v:Int
 d:List Int
 p:List Pt
def dV(n:List Ag)(k l v:Int)(d:IL)(m:Nat):List Ag:=n++[⟨k,l,v,d,fu m (0,0)⟩]
def la(n:List Ag)(p q:Pt):List Ag:=n.modify p.1.toNat λa=>{a with p:=a.p.set p.2.toNat q}
def gF(n:List Ag)(p q:Pt):List Ag:=la (la n p q) q p
def ko:Nat->List Ag->Pt->Int->List Pt×List Ag×Pt
 |0,n,s,_=>([],n,s)
 |c+1,n,s,l=>let r:=ko c (gF (dV n 4 l 0 [] 3) (A n,0) s) (A n,2) l;((A n,1)::r.1,r.2)
def iX(n:List Ag)(s:Pt)(l:Int)(c:Nat):List Pt×List Ag:=
 if c=0 then([],gF (dV n 5 0 0 [] 1) (A n,0) s)else let r:=ko (c-1) n s l;(r.1++[r.2.2],r.2.1)
mutual
def O.c_:O->Int->Nat
 |.mk k v _ ks,i=>if k=1 then(if v=i then 1 else 0)else O.ke k ks 0 i
def O.ke(k:Int):List O->Nat->Int->Nat
 |[],_,_=>0
 |c::cs,j,i=>c.c_ (i+ez k j)+O.ke k cs (j+1) i
end
mutual
def O.gO:O->Int->Int->List Int
 |.mk k v _ ks,i,l=>if k=1 then(if v=i then[l]else[])else O.fZ k ks 0 i (l+if k=6 then 1 else 0)
def O.fZ(k:Int):List O->Nat->Int->Int->List Int
 |[],_,_,_=>[]
 |c::cs,j,i,l=>c.gO (i+ez k j) l++O.fZ k cs (j+1) i l
end
mutual
theorem O.BY:∀(c:O)(i l:Int),A (c.gO i l)=c.c_ i
 |.mk k v d ks,i,l=>by
  rw[O.gO,O.c_];split
  .split<;>rfl
  exact O.KP k ks 0 i _
theorem O.KP(k:Int):∀(cs:List O)(j:Nat)(i l:Int),A (O.fZ k cs j i l)=O.ke k cs j i
 |[],_,_,_=>rfl
 |c::cs,j,i,l=>by rw[O.fZ,O.ke,b9,O.BY c,O.KP k cs]
end
mutual
def O.uG:∀(c:O)(i:Int),c.c_ i<=c.b7
 |.mk k v d ks,i=>by
  rw[O.c_,O.b7];split
  .split<;>omega
  have:=O.G6 k ks 0 i;omega
def O.G6(k:Int):∀(cs:List O)(j:Nat)(i:Int),O.ke k cs j i<=O.dd cs
 |[],_,_=>by simp[O.ke,O.dd]
 |c::cs,j,i=>by
  rw[O.ke,O.dd];have:=O.uG c (i+ez k j);have:=O.G6 k cs (j+1) i;omega
end
def km(l:IL)(n:Int):Bool:=l.all λx=>ah<|x=n
mutual
def O.fW:O->Int->Bool
 |.mk k v d ks,l=>ah (l<=8)&&(if k=4 then ah (A (O.fZ 0 (Y 1 ks) 0 0 l)<=1)&&km (O.fZ 0 (Y 1 ks) 0 0 l) l else if k=7 then km (O.fZ 0 (ks.drop 1) 0 0 l) l||km (O.fZ 0 (ks.drop 1) 0 0 l) (l+1)else W)&&O.CD ks (l+if k=6 then 1 else 0)
def O.CD:List O->Int->Bool
 |[],_=>W
 |c::cs,l=>c.fW l&&O.CD cs l
end
theorem XL(a:Nat):ez 0 a=0:=by simp[ez]
def kq(k v l:Int):Int×Int×Int×Int×Int:=
 if k=2 then(6,0,v,0,0)else if k=11 then(12,l,v,0,0)else if k=3 then(7,l,v,0,2)else if k=5 then(3,l,0,0,2)else if k=8 then(9,l,v,1,0)else if k=9 then(10,l,0,0,1)else(11,l,0,0,1)
mutual
def O.cmp:O->Int->List Ag->List (List Pt)->Pt×List Ag×List (List Pt)
 |.mk k v d ks,l,n,ay=>
  if k=1 then((ay.getD (ay.length-1-v.toNat) []).headD (0,0),n,ay.modify (ay.length-1-v.toNat) List.tail)
  else if k=6 then(match ks with
   |[c]=>c.cmp (l+1) n ay
   |_=>((0,0),n,ay))
  else if k=4 then(match ks with
   |[c]=>
    let o:=iX (dV n 2 l 0 [] 3) (A n,1) l (c.c_ 0)
    let r:=c.cmp l o.2 (ay++[o.1])
    ((A n,0),gF r.2.1 (A n,2) r.1,r.2.2.dropLast)
   |_=>((0,0),n,ay))
  else if k=7 then(match ks with
   |[a,b]=>
    let r:=a.cmp l n ay
    let o:=iX r.2.1 r.1 l (b.c_ 0)
    let q:=b.cmp l o.2 (r.2.2++[o.1])
    (q.1,q.2.1,q.2.2.dropLast)
   |_=>((0,0),n,ay))
  else
   let r:=O.mG ks l (A n) (kq k v l).2.2.2.1 (dV n (kq k v l).1 (kq k v l).2.1 (kq k v l).2.2.1 d (A ks+1)) ay
   ((A n,(kq k v l).2.2.2.2),r)
def O.mG:List O->Int->Int->Int->List Ag->List (List Pt)->List Ag×List (List Pt)
 |[],_,_,_,n,ay=>(n,ay)
 |c::cs,l,a,j,n,ay=>let r:=c.cmp l n ay;O.mG cs l a (j+1) (gF r.2.1 (a,j) r.1) r.2.2
end
variable {g0:List Ag}{up:List (List Pt)}
theorem O.RD{v b:Int}{d:IL}(a:a3=1):(O.mk a3 v d v1).cmp b g0 up=((up.getD (up.length-1-v.toNat) []).headD (0,0),g0,up.modify (up.length-1-v.toNat) List.tail):=by
 rw[O.cmp.eq_def];simp only[aM a]
theorem O.EC{v a:Int}{d:IL}(b:a3=6):(O.mk a3 v d [n5]).cmp a g0 up=n5.cmp (a+1) g0 up:=by(grind [O.cmp])
theorem O.EB{v a:Int}{d:IL}{b:List Pt×List Ag}{r:Pt×List Ag×List (List Pt)}(e:a3=4)(f:iX (dV g0 2 a 0 [] 3) (A g0,1) a (n5.c_ 0)=b)(g:n5.cmp a b.2 (up++[b.1])=r):(O.mk a3 v d [n5]).cmp a g0 up=(((A g0:Int),0),gF r.2.1 (A g0,2) r.1,r.2.2.dropLast):=by(grind [O.cmp])
theorem O.ED{v l:Int}{d:IL}{b:O}{n:List Ag}{ay:List (List Pt)}{e:List Pt×List Ag}{r a:Pt×List Ag×List (List Pt)}(f:a3=7)(i:n5.cmp l n ay=r)(g:iX r.2.1 r.1 l (b.c_ 0)=e)(h:b.cmp l e.2 (r.2.2++[e.1])=a):(O.mk a3 v d [n5,b]).cmp l n ay=(a.1,a.2.1,a.2.2.dropLast):=by(grind [O.cmp])
def O.EE{k v l:Int}{d:IL}{ks:cm}{n:List Ag}{ay:List (List Pt)}(a:k≠1)(e:k≠6)(b:k≠4)(f:k≠7):(O.mk k v d ks).cmp l n ay=(((A n:Int),(kq k v l).2.2.2.2),O.mG ks l (A n) (kq k v l).2.2.2.1 (dV n (kq k v l).1 (kq k v l).2.1 (kq k v l).2.2.1 d<|A ks+1) ay):=by
 rw[O.cmp.eq_def];simp only[aC a,aC e,aC b,aC f]
def O.hN(c:O):List Ag:=let r:=c.cmp 0 (dV [] 1 0 0 [] 1) [];gF r.2.1 (0,0) r.1
theorem Ck(a:List Ag)(b d:Pt):A (la a b d)=A a:=by simp[la]
theorem pu(a:List Ag)(b d:Pt):A (gF a b d)=A a:=by simp[gF,Ck]
theorem na(a:List Ag)(b e v:Int)(d:IL)(f:Nat):A (dV a b e v d f)=A a+1:=by simp[dV]
theorem Sa(d:Int):∀(c:Nat)(a:List Ag)(b:Pt),A (ko c a b d).2.1=A a+c/\A (ko c a b d).1=c
 |0,a,b=>⟨C,C⟩
 |c+1,a,b=>by
  have:=Sa d c (gF (dV a 4 d 0 [] 3) (A a,0) b) (A a,2)
  grind [ko,pu,na]
theorem Sc(b:List Ag)(e:Pt)(d:Int)(a:Nat):A b<=A (iX b e d a).2/\A (iX b e d a).2<=A b+a+1/\A (iX b e d a).1=a:=by
 grind [iX,pu,na,Sa,List.length_singleton]
structure TI where
 sz:Option Nat
 ag:Option Bool
 kd:Nat
 ik:Option IntKind
 un:Bool
 X9:Bool
 es:Option Nat
 ei:Option (a6×Nat×Nat)
 mi:Option (TypeDesc×aN)
 pt:Bool
 fs:List (a6×Nat)
 ol:List (Option Nat)
 pl:Option (List (Nat×Nat))
 z:Option (List D)
def JU(P:aH)(t:a6):List (a6×Nat):=match P.underlying t with
 |some (.struct a)=>a.toList.map λx=>(x.type,x.offset)
 |_=>[]
def Le(P:aH)(t:a6):List (Option Nat):=match P.underlying t with
 |some (.struct a)=>a.toList.map λx=>match od P x.type with|some 0|none=>Q|_=>E x.offset
 |_=>[]
noncomputable def av(t:a6):TI:=⟨od aB t,yH aB t,jl aB t,xl aB t,(aB.underlying t).isSome,sP aB t,rI aB t,cE aB t,xv aB t,oc aB t,JU aB t,Le aB t,EW aB t,sg aB t⟩
def zc(n:Nat):aN:=match n with
 |0=>.int .i64 0
 |1=>.string ByteArray.empty
 |2=>.slice Q 0 0
 |3=>.bool af
 |4=>.pointer Q
 |5=>.nilFunc
 |6=>.int .u8 0
 |7=>.map Q
 |8=>.int .u64 0
 |9=>.nilIface
 |10=>.int .u32 0
 |_=>.int .i32 0
def Lp(n:Nat):List (a6×Nat)->List (Nat×Nat)
 |[]=>[]
 |[x]=>[(x.2,n-x.2)]
 |x::y::r=>(x.2,y.2-x.2)::Lp n (y::r)
def TI.s(k z:Nat):TI:=⟨E 1,E af,k,Q,W,af,Q,Q,Q,af,[],[],Q,E [.sc (zc z)]⟩
def TI.i(k:IntKind):TI:=⟨E 1,E af,3,E k,W,af,Q,Q,Q,af,[],[],Q,E [.sc (.int k 0)]⟩
def TI.p:TI:=⟨E 1,E af,4,Q,W,af,Q,Q,Q,W,[],[],Q,E [.sc (.pointer Q)]⟩
def TI.l(e s b:Nat)(y:Bool):TI:=⟨E 1,E af,1,Q,W,y,E s,E (e,s,b),Q,af,[],[],Q,E [.sc (.slice Q 0 0)]⟩
def TI.m(d:TypeDesc)(v:aN):TI:=⟨E 1,E af,4,Q,W,af,Q,Q,E (d,v),af,[],[],Q,E [.sc (.map Q)]⟩
def TI.t(n:Nat)(a:List (a6×Nat))(b:List Nat):TI:=⟨E n,E W,4,Q,W,af,Q,Q,Q,af,a,a.map λx=>E x.2,E (Lp n a),E (b.map λx=>.sc (zc x))⟩
def ahu(a:a6):od aB a=(av a).sz:=cQ C C
def ahj(a:a6):yH aB a=(av a).ag:=cQ C C
def ahp(a:a6):jl aB a=(av a).kd:=cQ C C
def aho(a:a6):xl aB a=(av a).ik:=cQ C C
def ahv(a:a6):(aB.underlying a).isSome=(av a).un:=cQ C C
def ahk(a:a6):sP aB a=(av a).X9:=cQ C C
def ahm(a:a6):rI aB a=(av a).es:=cQ C C
def ahl(a:a6):cE aB a=(av a).ei:=cQ C C
def ahq(a:a6):xv aB a=(av a).mi:=cQ C C
def aht(a:a6):oc aB a=(av a).pt:=cQ C C
def ahs(a:a6):EW aB a=(av a).pl:=cQ C C
def ahw(a:a6):sg aB a=(av a).z:=cQ C C
def ahn(b:a6)(a:Nat):EX aB b a=(av b).fs[a]?:=by
 show _=(JU _ _)[a]?;unfold EX JU;generalize aB.underlying b=u;obtain _|u:=u
 .simp
 cases u<;>simp
def ahr(b:a6)(a:Nat):w2 aB b a=((av b).ol[a]?).getD Q:=by
 show _=((Le _ _)[a]?).getD Q;unfold w2 Le;generalize aB.underlying b=u;obtain _|u:=u
 .simp
 cases u with
 |struct d=>
  simp only[fP,CT];cases d[a]?<;>rfl
 |_=>simp
def agu:av 1=TI.s 4 5/\
 av 2=TI.i .i64/\
 av 3=TI.i .i64/\
 av 4=TI.s 2 3/\
 av 5=TI.i .u8/\
 av 6=TI.i .u8/\
 av 7=TI.t 4 [(2,0),(3,1),(4,2),(6,3)] [0,0,3,6]/\
 av 8=TI.t 4 [(2,0),(3,1),(4,2),(6,3)] [0,0,3,6]/\
 av 9=TI.s 0 1/\
 av 10=TI.s 0 1/\
 av 11=TI.s 0 1/\
 av 12=TI.i .u64/\
 av 13=TI.t 2 [(9,0),(12,1)] [1,8]/\
 av 14=TI.t 2 [(9,0),(12,1)] [1,8]/\
 av 15=TI.p/\
 av 16=TI.s 4 4:=by
 and_intros<;>kernel_rfl
def agv:av 17=TI.p/\
 av 18=TI.t 1 [(17,0)] [4]/\
 av 19=TI.t 1 [(17,0)] [4]/\
 av 21=TI.i .i32/\
 av 22=TI.l 70 2 40 af/\
 av 23=TI.l 80 12 192 af/\
 av 24=TI.t 2 [(22,0),(23,1)] [2,2]/\
 av 25=TI.t 2 [(22,0),(23,1)] [2,2]/\
 av 26=TI.s 4 5/\
 av 27=TI.l 30 1 24 af/\
 av 28=TI.l 125 5 72 af/\
 av 29=TI.t 1 [(28,0)] [2]/\
 av 30=TI.t 1 [(28,0)] [2]/\
 av 32=TI.s 4 5/\
 av 33=TI.l 96 2 40 af/\
 av 34=TI.l 104 12 192 af:=by
 and_intros<;>kernel_rfl
def agG:av 35=TI.t 2 [(33,0),(34,1)] [2,2]/\
 av 36=TI.t 2 [(33,0),(34,1)] [2,2]/\
 av 37=TI.s 4 5/\
 av 38=TI.s 4 5/\
 av 39=TI.s 4 5/\
 av 40=TI.s 4 5/\
 av 41=TI.s 4 5/\
 av 42=TI.s 4 5/\
 av 43=TI.s 4 5/\
 av 44=TI.s 4 5/\
 av 45=TI.s 4 5/\
 av 46=TI.s 4 5/\
 av 47=TI.s 4 5/\
 av 48=TI.p/\
 av 49=TI.s 4 5/\
 av 50=TI.s 4 5:=by
 and_intros<;>kernel_rfl
def agM:av 51=TI.l 112 4 64 af/\
 av 52=TI.t 1 [(51,0)] [2]/\
 av 53=TI.t 1 [(51,0)] [2]/\
 av 55=TI.s 4 5/\
 av 57=TI.s 4 5/\
 av 59=TI.s 4 5/\
 av 60=TI.s 4 5/\
 av 61=TI.s 4 5/\
 av 62=TI.s 4 5/\
 av 63=TI.s 4 5/\
 av 64=TI.s 4 5/\
 av 65=TI.s 4 5/\
 av 66=TI.s 4 5/\
 av 67=TI.s 4 5/\
 av 68=TI.l 188 2 40 af/\
 av 69=TI.t 2 [(9,0),(68,1)] [1,2]:=by
 and_intros<;>kernel_rfl
def agN:av 70=TI.t 2 [(9,0),(68,1)] [1,2]/\
 av 71=TI.s 4 5/\
 av 72=TI.l 74 3 48 af/\
 av 73=TI.t 3 [(2,0),(9,1),(72,2)] [0,1,2]/\
 av 74=TI.t 3 [(2,0),(9,1),(72,2)] [0,1,2]/\
 av 75=TI.l 9 1 16 af/\
 av 76=TI.l 78 8 128 af/\
 av 77=TI.t 8 [(2,0),(2,1),(9,2),(74,3),(75,6),(76,7)] [0,0,1,0,1,2,2,2]/\
 av 78=TI.t 8 [(2,0),(2,1),(9,2),(74,3),(75,6),(76,7)] [0,0,1,0,1,2,2,2]/\
 av 79=TI.t 12 [(9,0),(74,1),(78,4)] [1,0,1,2,0,0,1,0,1,2,2,2]/\
 av 80=TI.t 12 [(9,0),(74,1),(78,4)] [1,0,1,2,0,0,1,0,1,2,2,2]/\
 av 81=TI.p/\
 av 83=TI.s 4 5/\
 av 84=TI.s 4 5/\
 av 85=TI.s 4 5/\
 av 86=TI.p:=by
 and_intros<;>kernel_rfl
def agO:av 87=TI.l 88 1 24 af/\
 av 88=TI.l 99 3 48 af/\
 av 89=TI.l 294 4 80 af/\
 av 90=TI.t 6 [(48,0),(2,1),(51,2),(87,3),(88,4),(89,5)] [4,0,2,2,2,2]/\
 av 91=TI.t 6 [(48,0),(2,1),(51,2),(87,3),(88,4),(89,5)] [4,0,2,2,2,2]/\
 av 92=TI.s 4 5/\
 av 93=TI.p/\
 av 94=TI.l 185 2 40 af/\
 av 95=TI.t 2 [(9,0),(94,1)] [1,2]/\
 av 96=TI.t 2 [(9,0),(94,1)] [1,2]/\
 av 97=TI.s 4 5/\
 av 98=TI.t 3 [(2,0),(9,1),(88,2)] [0,1,2]/\
 av 99=TI.t 3 [(2,0),(9,1),(88,2)] [0,1,2]/\
 av 100=TI.l 102 8 128 af/\
 av 101=TI.t 8 [(2,0),(2,1),(9,2),(99,3),(75,6),(100,7)] [0,0,1,0,1,2,2,2]/\
 av 102=TI.t 8 [(2,0),(2,1),(9,2),(99,3),(75,6),(100,7)] [0,0,1,0,1,2,2,2]:=by
 and_intros<;>kernel_rfl
def agP:av 103=TI.t 12 [(9,0),(99,1),(102,4)] [1,0,1,2,0,0,1,0,1,2,2,2]/\
 av 104=TI.t 12 [(9,0),(99,1),(102,4)] [1,0,1,2,0,0,1,0,1,2,2,2]/\
 av 105=TI.s 4 5/\
 av 106=TI.p/\
 av 107=TI.l 114 5 88 af/\
 av 109=TI.s 4 5/\
 av 110=TI.l 2 1 8 af/\
 av 111=TI.t 4 [(2,0),(2,1),(110,2),(51,3)] [0,0,2,2]/\
 av 112=TI.t 4 [(2,0),(2,1),(110,2),(51,3)] [0,0,2,2]/\
 av 113=TI.t 5 [(112,0),(88,4)] [0,0,2,2,2]/\
 av 114=TI.t 5 [(112,0),(88,4)] [0,0,2,2,2]/\
 av 115=TI.s 4 5/\
 av 116=TI.s 4 5/\
 av 117=TI.s 4 5/\
 av 118=TI.s 4 5/\
 av 119=TI.s 4 5:=by
 and_intros<;>kernel_rfl
def agQ:av 120=TI.s 4 5/\
 av 122=TI.s 4 5/\
 av 123=TI.l 177 2 16 af/\
 av 124=TI.t 5 [(2,0),(2,1),(2,2),(110,3),(123,4)] [0,0,0,2,2]/\
 av 125=TI.t 5 [(2,0),(2,1),(2,2),(110,3),(123,4)] [0,0,0,2,2]/\
 av 126=TI.s 4 5/\
 av 127=TI.s 4 5/\
 av 128=TI.s 4 5/\
 av 129=TI.s 4 5/\
 av 130=TI.s 4 5/\
 av 131=TI.s 4 5/\
 av 132=TI.s 4 5/\
 av 133=TI.s 4 5/\
 av 134=TI.s 4 5/\
 av 135=TI.s 4 5/\
 av 136=TI.s 4 5:=by
 and_intros<;>kernel_rfl
def agR:av 137=TI.s 4 5/\
 av 138=TI.s 4 5/\
 av 139=TI.s 4 5/\
 av 140=TI.s 4 5/\
 av 141=TI.p/\
 av 142=TI.s 4 5/\
 av 143=TI.s 4 5/\
 av 144=TI.s 4 5/\
 av 145=TI.p/\
 av 146=TI.s 4 5/\
 av 147=TI.s 4 5/\
 av 148=TI.s 4 5/\
 av 149=TI.l 156 1 8 af/\
 av 151=TI.s 4 5/\
 av 152=TI.l 210 1 24 af/\
 av 153=TI.m (.pointer 213) (.pointer Q):=by
 and_intros<;>kernel_rfl
def agS:av 154=TI.t 6 [(36,0),(89,2),(149,3),(152,4),(153,5)] [2,2,2,2,2,7]/\
 av 155=TI.t 6 [(36,0),(89,2),(149,3),(152,4),(153,5)] [2,2,2,2,2,7]/\
 av 156=TI.p/\
 av 157=TI.s 4 5/\
 av 158=TI.s 4 5/\
 av 159=TI.s 4 5/\
 av 160=TI.s 4 5/\
 av 161=TI.s 4 5/\
 av 162=TI.s 4 5/\
 av 163=TI.s 4 5/\
 av 164=TI.s 4 5/\
 av 165=TI.s 4 5/\
 av 166=TI.s 4 5/\
 av 167=TI.s 4 5/\
 av 168=TI.s 4 5/\
 av 169=TI.s 4 5:=by
 and_intros<;>kernel_rfl
def agw:av 170=TI.s 4 5/\
 av 172=TI.t 3 [(30,0),(88,1),(171,2)] [2,2,7]/\
 av 173=TI.t 3 [(30,0),(88,1),(171,2)] [2,2,7]/\
 av 174=TI.s 4 5/\
 av 175=TI.s 4 5/\
 av 176=TI.t 2 [(2,0),(2,1)] [0,0]/\
 av 177=TI.t 2 [(2,0),(2,1)] [0,0]/\
 av 178=TI.s 4 5/\
 av 179=TI.s 4 5/\
 av 180=TI.s 4 5/\
 av 181=TI.s 4 5/\
 av 182=TI.s 4 5/\
 av 183=TI.l 5 1 1 W/\
 av 184=TI.t 2 [(9,0),(88,1)] [1,2]/\
 av 185=TI.t 2 [(9,0),(88,1)] [1,2]/\
 av 186=TI.s 4 5:=by
 and_intros<;>kernel_rfl
def agx:av 187=TI.t 2 [(9,0),(72,1)] [1,2]/\
 av 188=TI.t 2 [(9,0),(72,1)] [1,2]/\
 av 189=TI.s 4 5/\
 av 190=TI.s 4 5/\
 av 191=TI.s 4 5/\
 av 192=TI.s 4 5/\
 av 193=TI.t 5 [(112,0),(88,4)] [0,0,2,2,2]/\
 av 194=TI.t 5 [(112,0),(88,4)] [0,0,2,2,2]/\
 av 195=TI.s 4 5/\
 av 196=TI.p/\
 av 197=TI.t 3 [(75,0),(88,1),(110,2)] [2,2,2]/\
 av 198=TI.t 3 [(75,0),(88,1),(110,2)] [2,2,2]/\
 av 199=TI.s 4 5/\
 av 200=TI.s 4 5/\
 av 201=TI.s 4 5/\
 av 202=TI.s 4 5:=by
 and_intros<;>kernel_rfl
def agy:av 203=TI.s 4 5/\
 av 204=TI.s 4 5/\
 av 205=TI.s 4 5/\
 av 206=TI.s 4 5/\
 av 208=TI.s 4 5/\
 av 209=TI.s 4 5/\
 av 210=TI.l 211 1 8 af/\
 av 211=TI.p/\
 av 212=TI.t 15 [(102,0),(99,8),(2,11),(149,12),(210,13),(211,14)] [0,0,1,0,1,2,2,2,0,1,2,0,2,2,4]/\
 av 213=TI.t 15 [(102,0),(99,8),(2,11),(149,12),(210,13),(211,14)] [0,0,1,0,1,2,2,2,0,1,2,0,2,2,4]/\
 av 214=TI.s 4 5/\
 av 215=TI.s 4 5/\
 av 216=TI.p/\
 av 217=TI.l 3 1 8 af/\
 av 218=TI.t 3 [(156,0),(210,1),(217,2)] [4,2,2]/\
 av 219=TI.t 3 [(156,0),(210,1),(217,2)] [4,2,2]:=by
 and_intros<;>kernel_rfl
def agz:av 220=TI.s 4 5/\
 av 221=TI.s 4 5/\
 av 222=TI.s 4 5/\
 av 224=TI.s 4 5/\
 av 225=TI.s 4 5/\
 av 226=TI.s 4 5/\
 av 227=TI.s 4 5/\
 av 228=TI.s 4 5/\
 av 229=TI.t 5 [(9,0),(99,1),(2,4)] [1,0,1,2,0]/\
 av 230=TI.t 5 [(9,0),(99,1),(2,4)] [1,0,1,2,0]/\
 av 231=TI.s 4 5/\
 av 232=TI.s 4 5/\
 av 233=TI.s 4 5/\
 av 234=TI.s 4 5/\
 av 236=TI.s 4 5/\
 av 237=TI.m (.string) (.bool af):=by
 and_intros<;>kernel_rfl
def agA:av 238=TI.s 4 5/\
 av 239=TI.s 4 5/\
 av 240=TI.s 4 5/\
 av 241=TI.s 4 5/\
 av 242=TI.s 4 5/\
 av 243=TI.s 4 5/\
 av 244=TI.s 4 5/\
 av 245=TI.s 4 5/\
 av 246=TI.s 4 5/\
 av 247=TI.s 4 5/\
 av 248=TI.p/\
 av 249=TI.s 4 5/\
 av 250=TI.s 4 5/\
 av 251=TI.t 5 [(177,0),(99,2)] [0,0,0,1,2]/\
 av 252=TI.t 5 [(177,0),(99,2)] [0,0,0,1,2]/\
 av 253=TI.s 4 5:=by
 and_intros<;>kernel_rfl
def agB:av 254=TI.s 4 5/\
 av 255=TI.s 4 5/\
 av 256=TI.s 4 5/\
 av 257=TI.s 4 5/\
 av 258=TI.s 4 5/\
 av 259=TI.s 4 5/\
 av 260=TI.s 4 5/\
 av 261=TI.s 4 5/\
 av 262=TI.s 4 5/\
 av 264=TI.s 4 5/\
 av 265=TI.s 4 5/\
 av 266=TI.s 4 5/\
 av 267=TI.l 194 5 88 af/\
 av 268=TI.s 4 5/\
 av 269=TI.s 4 5/\
 av 271=TI.s 4 5:=by
 and_intros<;>kernel_rfl
def agC:av 272=TI.s 4 5/\
 av 273=TI.s 4 5/\
 av 274=TI.p/\
 av 275=TI.l 342 1 8 af/\
 av 276=TI.t 2 [(30,0),(275,1)] [2,2]/\
 av 277=TI.t 2 [(30,0),(275,1)] [2,2]/\
 av 278=TI.s 4 5/\
 av 279=TI.s 4 5/\
 av 280=TI.s 4 5/\
 av 281=TI.s 4 5/\
 av 282=TI.s 4 5/\
 av 283=TI.s 4 5/\
 av 284=TI.s 4 5/\
 av 285=TI.s 4 5/\
 av 286=TI.s 4 5/\
 av 287=TI.s 4 5:=by
 and_intros<;>kernel_rfl
def agD:av 288=TI.l 4 1 1 af/\
 av 290=TI.s 4 5/\
 av 291=TI.s 4 5/\
 av 292=TI.s 4 5/\
 av 293=TI.t 4 [(2,0),(75,1),(75,2),(288,3)] [0,2,2,2]/\
 av 294=TI.t 4 [(2,0),(75,1),(75,2),(288,3)] [0,2,2,2]/\
 av 295=TI.s 4 5/\
 av 296=TI.s 4 5/\
 av 297=TI.s 4 5/\
 av 298=TI.s 4 5/\
 av 299=TI.s 4 5/\
 av 300=TI.s 4 5/\
 av 301=TI.s 4 5/\
 av 302=TI.s 4 5/\
 av 303=TI.s 4 5/\
 av 304=TI.s 4 5:=by
 and_intros<;>kernel_rfl
def agE:av 305=TI.s 4 5/\
 av 306=TI.s 4 5/\
 av 307=TI.s 4 5/\
 av 308=TI.s 4 5/\
 av 309=TI.s 4 5/\
 av 310=TI.s 4 5/\
 av 311=TI.s 4 5/\
 av 312=TI.l 314 1 8 af/\
 av 313=TI.s 4 5/\
 av 314=TI.p/\
 av 315=TI.s 4 5/\
 av 316=TI.s 4 5/\
 av 317=TI.s 4 5/\
 av 318=TI.s 4 5/\
 av 319=TI.m (.int .i64) (.int .i64 0)/\
 av 320=TI.s 4 5:=by
 and_intros<;>kernel_rfl
def agF:av 321=TI.l 325 3 56 af/\
 av 322=TI.l 110 1 24 af/\
 av 323=TI.s 4 5/\
 av 324=TI.t 3 [(110,0),(110,1),(2,2)] [2,2,0]/\
 av 325=TI.t 3 [(110,0),(110,1),(2,2)] [2,2,0]/\
 av 326=TI.s 4 5/\
 av 327=TI.s 4 5/\
 av 328=TI.s 4 5/\
 av 329=TI.s 4 5/\
 av 330=TI.s 4 5/\
 av 331=TI.s 4 5/\
 av 332=TI.s 4 5/\
 av 333=TI.s 4 5/\
 av 334=TI.s 4 5/\
 av 335=TI.s 4 5/\
 av 336=TI.s 4 5:=by
 and_intros<;>kernel_rfl
def agH:av 337=TI.s 4 5/\
 av 338=TI.s 4 5/\
 av 339=TI.s 4 5/\
 av 340=TI.s 4 5/\
 av 341=TI.s 4 5/\
 av 342=TI.p/\
 av 343=TI.t 2 [(123,0),(3,1)] [2,0]/\
 av 344=TI.t 2 [(123,0),(3,1)] [2,0]/\
 av 345=TI.s 4 5/\
 av 347=TI.s 4 5/\
 av 348=TI.s 4 5/\
 av 349=TI.s 4 5/\
 av 350=TI.s 4 5/\
 av 351=TI.s 4 5/\
 av 352=TI.s 4 5/\
 av 353=TI.s 4 5:=by
 and_intros<;>kernel_rfl
def agI:av 354=TI.s 4 5/\
 av 355=TI.s 4 5/\
 av 356=TI.s 4 5/\
 av 357=TI.s 4 5/\
 av 358=TI.s 4 5/\
 av 359=TI.s 4 5/\
 av 360=TI.s 4 5/\
 av 361=TI.s 4 5/\
 av 362=TI.s 4 5/\
 av 363=TI.l 252 5 64 af/\
 av 364=TI.t 1 [(363,0)] [2]/\
 av 365=TI.t 1 [(363,0)] [2]/\
 av 366=TI.m (.int .i64) (.bool af)/\
 av 367=TI.s 4 5/\
 av 368=TI.s 4 5/\
 av 369=TI.s 4 5:=by
 and_intros<;>kernel_rfl
def agJ:av 370=TI.i .u64/\
 av 371=TI.s 4 5/\
 av 372=TI.s 4 5/\
 av 373=TI.s 4 5/\
 av 374=TI.s 4 5/\
 av 375=TI.s 4 5/\
 av 376=TI.s 4 5/\
 av 378=TI.t 2 [(36,0)] [2,2]/\
 av 379=TI.t 2 [(36,0)] [2,2]/\
 av 380=TI.s 4 5/\
 av 381=TI.s 4 5/\
 av 382=TI.s 4 5/\
 av 383=TI.s 4 5/\
 av 384=TI.s 4 5/\
 av 385=TI.s 4 5/\
 av 386=TI.s 4 5:=by
 and_intros<;>kernel_rfl
def agK:av 405=TI.l 211 1 8 af/\
 av 406=TI.s 4 5/\
 av 407=TI.s 4 5/\
 av 408=TI.s 4 5/\
 av 409=TI.s 4 5/\
 av 410=TI.s 4 5/\
 av 411=TI.s 4 5/\
 av 412=TI.s 4 5/\
 av 413=TI.s 4 5/\
 av 414=TI.s 4 5/\
 av 415=TI.s 4 5/\
 av 416=TI.i .u64/\
 av 417=TI.s 4 5/\
 av 418=TI.s 4 5/\
 av 419=TI.s 4 5/\
 av 420=TI.p:=by
 and_intros<;>kernel_rfl
def agL:av 437=TI.s 4 5/\
 av 438=TI.s 4 5/\
 av 439=TI.s 4 5/\
 av 440=TI.s 4 5/\
 av 441=TI.s 4 5/\
 av 442=TI.s 4 5/\
 av 443=TI.s 4 5/\
 av 444=TI.s 4 5/\
 av 445=TI.s 4 5/\
 av 446=TI.l 75 1 24 af/\
 av 447=TI.s 4 5/\
 av 448=TI.s 4 5/\
 av 449=TI.t 4 [(17,0),(17,1),(17,2),(9,3)] [4,4,4,1]/\
 av 450=TI.t 4 [(17,0),(17,1),(17,2),(9,3)] [4,4,4,1]/\
 av 454=TI.s 4 5/\
 av 455=TI.i .u8:=by
 and_intros<;>kernel_rfl
def aiB(a:aH)(b:a6):si a b=(sg a b).getD []:=cQ C C
def fb:aB.follows .mixedOrders=W:=Zk
section
def ki{f:bI}{a:hC}{g:dJ}{b:List D}{r:D}{d:Nat}(h:List Nat)(e:List lC)(k:aB.funcs[f]?=E a:=by exact C)(o:a.ntmps=d:=by conv=>lhs;whnf)(j:a.body=E g:=by rfl)(m:(a.name== "runtime.NumGoroutine")=af:=by kernel_rfl)(p:a.results.toList=e:=by rfl)(l:A b<=d:=by simp)(i:vc aB h g (nF aB e r)<|mU b d):Sp aB f b r:=Sp.ey h e k j m o p l i
def ia{f:bI}{a:hC}{i:dJ}{b:List D}{r:D}{e:Nat}{q:Prop}(j:List Nat)(g:List lC)(m:aB.funcs[f]?=E a:=by exact C)(u:a.ntmps=e:=by conv=>lhs;whnf)(l:a.body=E i:=by rfl)(p:(a.name== "runtime.NumGoroutine")=af:=by kernel_rfl)(w:a.results.toList=g:=by rfl)(o:A b<=e:=by simp)(h:q->vc aB j i (nF aB g r) (mU b e):=by intro d;simp only[go_sem];exact d)(d:q):Sp aB f b r:=Sp.ey j g m l p u w o<|h d
def wB{f:bI}{a:hC}{g:dJ}{b:List D}{r:D}{d:Nat}{j q:Prop}(l:j)(i:List Nat)(e:List lC)(o:aB.funcs[f]?=E a:=by exact C)(w:a.ntmps=d:=by conv=>lhs;whnf)(m:a.body=E g:=by rfl)(u:(a.name== "runtime.NumGoroutine")=af:=by kernel_rfl)(x:a.results.toList=e:=by rfl)(p:A b<=d:=by simp)(h:j->Hid q->vc aB i g (nF aB e r) (mU b d):=by intro k z;simp only[k,go_sem];exact z.h)(y:q):Sp aB f b r:=Sp.ey i e o m u w x p<|h l ⟨y⟩
def cR{g:Nat}{f:bI}{a:hC}{e:dJ}{b:List D}{r:D}{d:Nat}(j:aB.funcs[f]?=E a:=by exact C)(m:a.ntmps=d:=by conv=>lhs;whnf)(i:a.body=E e:=by rfl)(l:(a.name== "runtime.NumGoroutine")=af:=by kernel_rfl)(o:a.results.toList=[.tmp g]:=by rfl)(k:A b<=d:=by simp)(h:vc aB [] e (nF aB [.tmp g] r)<|mU b d):Sp aB f b r:=Sp.ey [] _ j i l m o k h
def dH{i:Nat}{f:bI}{a:hC}{g:dJ}{b:List D}{r:D}{e:Nat}{q:Prop}(l:aB.funcs[f]?=E a:=by exact C)(p:a.ntmps=e:=by conv=>lhs;whnf)(j:a.body=E g:=by rfl)(o:(a.name== "runtime.NumGoroutine")=af:=by kernel_rfl)(u:a.results.toList=[.tmp i]:=by rfl)(m:A b<=e:=by simp)(h:q->vc aB [] g (nF aB [.tmp i] r) (mU b e):=by intro d;simp only[go_sem];exact d)(d:q):Sp aB f b r:=Sp.ey [] _ l j o p u m<|h d
def lj{g:Nat}{f:bI}{a:hC}{e:dJ}{b:List D}{r:D}{d:Nat}{i q:Prop}(k:i)(m:aB.funcs[f]?=E a:=by exact C)(u:a.ntmps=d:=by conv=>lhs;whnf)(l:a.body=E e:=by rfl)(p:(a.name== "runtime.NumGoroutine")=af:=by kernel_rfl)(w:a.results.toList=[.tmp g]:=by rfl)(o:A b<=d:=by simp)(h:i->Hid q->vc aB [] e (nF aB [.tmp g] r) (mU b d):=by intro j y;simp only[j,go_sem];exact y.h)(x:q):Sp aB f b r:=Sp.ey [] _ m l p u w o<|h k ⟨x⟩
section
variable{P:aH}{R:Nat->Bool×D}{s:St}{f:bI}{aW aV args:List D}{dst:Option Nat}{K:St->Prop}{r:D}{t:Nat}{q:Prop}
def mB(a:Sp P f (aW++args++aV) r)(d:K<|s.put dst r)(b:hD<|aW++args++aV:=by exact iT):jU P s (.fn f aW aV) args dst K:=hW a b d
def nl(b:Sp P f (aW++args++aV) r)(d:hD<|aW++args++aV:=by exact iT)(e:q->K (s.put dst r):=by intro a;simp only[go_sem];exact a)(a:q):jU P s (.fn f aW aV) args dst K:=hW b d<|e a
def nV(a:Sp P f (aW++args++aV) r)(d:K<|s.put dst r)(b:hD<|aW++args++aV:=by exact iT):wR P s (.fn f aW aV) args dst K:=sR a b d
def rD(b:Sp P f (aW++args++aV) r)(d:hD<|aW++args++aV:=by exact iT)(e:q->K (s.put dst r):=by intro a;simp only[go_sem];exact a)(a:q):wR P s (.fn f aW aV) args dst K:=sR b d<|e a
def A3(a:Sp P f (aW++args++aV) r)(d:K<|s.put dst r)(b:hD<|aW++args++aV:=by exact iT):yP P s (.fn f aW aV) args dst K:=l6 r a b.all d
def ve(b:Sp P f (aW++args++aV) r)(d:hD<|aW++args++aV:=by exact iT)(e:q->K (s.put dst r):=by intro a;simp only[go_sem];exact a)(a:q):yP P s (.fn f aW aV) args dst K:=l6 r b d.all<|e a
end
def fB{a:Array dU}{b:Prop}{K:St->Prop}{s:St}(d:b)(e:oR (λ_=>1) a (.fin<|cz a.size)=W:=by kernel_rfl):Ba aB a b K s:=JI fb e d
def dP{e:List Nat}{a:Array dU}{K:St->Prop}{s:St}(d b:List Nat)(g:lQ aB e d b (hJ a.toList) a.toList K s)(h:oR (k7 d b) a (.fin<|cz a.size)=W:=by kernel_rfl):ub aB e a K s:=EK d b fb h g
def lq{g:List Nat}{a:Array dU}{K:St->Prop}{s:St}(d e b:List Nat)(h:lQ aB g e b (hJ a.toList) (iO a.toList d) K s)(i:oR (k7 e b) a (.fin d)=W:=by kernel_rfl):ub aB g a K s:=RY d e b fb i h
def p3{mu:List Nat}{d:Array dU}{K:St->Prop}{s:St}(b:Ord)(e a:List Nat)(g:sf aB mu e a d.toList b K s)(h:oR (k7 e a) d b=W:=by kernel_rfl):ub aB mu d K s:=rH b e a fb h g
attribute [go_sem] ahR aeF aeG aey aez aeP aaO aaP aaR aaS aaQ aeE aeC aeD aew aev Lh aeu aet Y2 tU ah2 ah3 ah4 s9 contains_cons contains_nil FT JY aaB xF vP rF iO Eu MG filterMap_nil aie aib ah7 ah8 F5 Tc hU im oI eP dY Option.isNone_none Option.isNone_some Operand.tmp.injEq not_true_eq_false Mx Bool.or_true Bool.true_or uI Bool.or_self dv aid ah6 ah5 aia ah9 aic aeM aeK aeL aeJ aeH aeI GN agT agU XU XV XT afR afS ae2 adQ af3 afF e_ v' aa0 aaW aaZ aaX aa1 Zq Zp f_ sd hA mV Em GZ um uy xn FE EV FF GF Ez JD wL rA mC cO k9 r2 KZ xq u9 bytesOf yL U3 xu Cj BP qW ai lc dS ud Value.cells Value.oneCell' mU St.ev aw ej ma nZ hJ b4 eO xY MJ getElem?_nil bx bT Af Bool.true_eq_false wi CV C0 MI MF ra drop_nil jz ww C8 dC gR aY bg de ew oX eE Di eH i' rj kV toList_toArray Nat.zero_mul Aj Ak xT kf Bool.and_self cF dt gD Dm or_self bJ rh mw lE nn q_ bE CX sm agu agv agG agM agN agO agP agQ agR agS agw agx agy agz agA agB agC agD agE agF agH agI agJ agK agL ahu ahj ahp aho ahv ahk ahm ahl ahq aht ahs ahw ahn ahr TI.s TI.i TI.p TI.l TI.m TI.t Lp zc kx MV aiB
attribute [go_sem_proc] reduceCtorEq Nat.reduceLT bj Nat.reduceBEq Nat.reduceAdd Nat.reduceMul Nat.reduceSub Nat.reduceLeDiff List.reduceReplicate
attribute [go_sem_proc ↓] reduceIte
attribute [go_sem] bm bG I5 J.sl aJ.sl O.sl ae.sl L.sl aa.sl bH.sl afk afh afj Vq afc afd ae9 afb afa ae8 iF
attribute [go_sem] kg ri Ay or_true J.ds L.ds O.ds r8 J.b6 O.b6 L.b6 aa.b6 ae.b6 aJ.b6
attribute [go_sem_proc] Int.reduceBEq Int.reduceBNe Int.reduceLE Int.reduceToNat Int.reduceNeg
abbrev az:=Sp aB
end
def QN:∃b:ax,∀a,a∈b↔1000<=a/\a<1000+999999000:=⟨range' 1000 999999000,λ_=>mem_range'_1⟩
def BL:ax:=QN.choose
theorem i6:am∈BL↔1000<=am/\am<1000000000:=QN.choose_spec am
abbrev sB(H:a'):Prop:=∀t∈BL,∀ob,H t=E ob->∀d∈ob.cells,In BL d
theorem S5(a:∀d∈a9,Cl d):∀d∈a9,In BL d:=λd b=>(a d b).bB
structure lG (s:St) (dst:Option Nat) (K:St->Prop) (d:D) (H:Nat->Option Ob) (n:Nat->Nat) (T:List TE):Prop where
 et:T=s.T
 ed:In BL d
 ei:sB H
 ek:∀H2:Nat->Option Ob,(∀t∈BL,H2 t=H t)->(∀t,t∉BL->H2 t=s.H t)->K ({s with H:=H2,n:=n}.put dst d)
def nj{a:St}{e:hC}{nt:Nat}{args:DL}{g:ON}(j:ax)(h:hV)(p:g3.funcs[g5]?=E e)(o:e.body=E n7)(r:(e.name== "runtime.NumGoroutine")=af)
 (s:e.ntmps=nt) (t:e.results.toList=h) (q:A args<=nt) (k:∀i,(∀f∈BL,i f=a.H f)->vc g3 j n7 (nD g3 h<|lG a g c2) {env:=ej args,H:=i,n:=a.n,nt:=nt,T:=a.T,N:=a.N}):er g3 a g5 args g c2:=by
 have key:∀d H(n:bi)T,lG a g c2 d H n T->(In BL d/\T=a.T/\sB H/\c2 ({a with H:=iD BL BL a.H H,n:=n}.put g d)):=λd H n T⟨h1,h2,l,m⟩=>
  ⟨h2,h1,l,m _ (λf b=>vH b) λf b=>xw b b⟩
 refine A1 BL j h p o r s t q<|lW n7 (λx u hx=>?_) (k _ λf b=>by simp[b5,b]);exact yC
def b3(p:List Pt):cB:=p.map λx=>[I x.1,I x.2]
def kX(g:Nat)(i:Nat)(a:Ag):DL:=[I a.k,I a.l,I a.v,bm a.d,.ms (2000+i) g<|A a.p]
def eM(g:bi)(n:List Ag):cB:=n.mapIdx λi a=>kX (g i) i a
theorem lJ(b:bi)(a:List Ag):A (eM b a)=A a:=by simp[eM]
def u3(a:bi)(d:List Ag):∀r∈eM a d,A r=5:=λr b=>by
 obtain⟨f,e,rfl⟩:=ec b;simp[eM,kX]
def Qq(b:bi)(a:List Ag)(d:Ag):eM b (a++[d])=eM b a++[kX (b<|A a) (A a) d]:=by simp[eM,mapIdx_append]
variable {i5:List Ag}{v0 aig:Pt}
theorem IU(d:A i5=A g0)(b:∀a(b:a<A g0)(e:a<A i5),kX (m6 a) a i5[a]=kX (g8 a) a g0[a]):eM m6 i5=eM g8 g0:=by
 refine lX (by simp[eM,d]) λa f g=>?_
 grind [eM]
def Xs(e:bi)(b:List Ag)(h:A b<=100000000):∀d∈ao (eM e b),In BL d:=λd a=>by
 have⟨r,g,a⟩:=eL.1 a;obtain⟨i,f,rfl⟩:=ec g;rw[lJ]at f;simp only[eM,wo,kX,cF,dt,gD]at a;obtain rfl|rfl|rfl|rfl|rfl:=a
 .exact .sc _
 .exact .sc _
 .exact .sc _
 .exact(kY _).bB
 exact .ms _ _<|i6.2 Zo
theorem py(e:List Pt):∀d∈ao (b3 e),Cl d:=λd a=>by
 have⟨r,b,a⟩:=eL.1 a;obtain⟨f,-,rfl⟩:=aP.1 b
 grind [bc]
structure BS (ty sz b:Nat) (rest:List D) (H:Nat->Option Ob) (n:List Ag):Prop where
 ob:∃a g,H 1000=E ⟨b,ty,sz,a::rest,Q⟩/\aL [1001] H 125 5 (eM g n) a/\∀i(h:i<A n),H (2000+i)=E ⟨g i,177,2,ao (b3 n[i].p),Q⟩
 bB:sB H
 len:A n<=100000000
theorem BS.keep{ty g f:Nat}{H':a'}(a:BS ty g f a9 fd g0)(m:∀t∈BL,t<1002\/2000<=t->H' t=fd t)(r:∀t∈BL,1002<=t->t<2000->∀e,H' t=E e->∀d∈e.cells,In BL d):BS ty g f a9 H' g0:=by
 have⟨⟨q,i,j,k,l⟩,s,o⟩:=a;have b:∀{t},1000<=t->t<1000000000->t<1002\/2000<=t->H' t=fd t:=λh b=>m _<|i6.2 ⟨h,b⟩;refine⟨⟨q,i,(b Zo Zo Zo).trans j,k.aA cq,λp a=>(b Zo Zo Zo).trans<|l p a⟩,λt w e u=>Zg,o⟩
def BS.aA{ty g d:Nat}{H H':a'}(e:BS ty g d a9 H g0)(f:∀a∈BL,H' a=H a):BS ty g d a9 H' g0:=
 e.keep (λa b _=>f a b) λa b _ _ i h=>e.bB a b i<|(f a b).symm.trans h
def hZ(n:List Ag)(p:Pt):Prop:=0<=p.1/\0<=p.2/\∃a,n[p.1.toNat]?=E a/\p.2<A a.p
theorem p8{r:Pt}(a:hZ g0 r):hZ (la g0 v0 aig) r:=by
 have⟨b,d,e,f,g⟩:=a;refine⟨b,d,?_⟩
 grind [la]
def oQ(a:List Pt):∀r∈b3 a,A r=2:=λr hr=>yB
theorem VQ{a:List Pt}{b:Nat}(d:Pt)(e:b<A a):lc (ao<|b3 a) (b*2) [I d.1,I d.2]=ao (b3<|a.set b d):=by
 have g:b3 a=Y b (b3 a)++[I a[b].1,I a[b].2]::(b3 a).drop (b+1):=by
  have j:b<A (b3 a):=by simpa[b3]using e
  have i:[I a[b].1,I a[b].2]=(b3 a)[b]:=by simp[b3]
  rw[i,<-ml,qj]
 have h:b3 (a.set b d)=Y b (b3 a)++[I d.1,I d.2]::(b3 a).drop (b+1):=by
  rw[b3,map_set,<-b3,Xc,aM (by simpa[b3]using e)]
 conv=>lhs;rw[g]
 rw[h];exact afB (λr f=>oQ a r<|tv f) (by simp[b3];omega) C C
def aeZ(a:List Pt):A (ao<|b3 a)=A a*2:=by rw[iY<|oQ a,b3,bE]
def aav{a:cB}{d i b:Nat}(f:∀r∈a,A r=d)(g:i<A a)(l:b<=d):a.flatten.drop (i*d+b)=a[i].drop b++ao (a.drop<|i+1):=by
 induction a generalizing i with
 |nil=>simp at g
 |cons e a j=>
  have m:=f e Zs;cases i with
  |zero=>simp[drop_append,show b-(A e)=0 by omega]
  |succ i=>
   have k:=j (λr h=>f r<|Yr h)<|Yq g;rw[dT,show(i+1)*d+b=A e+(i*d+b)by rw[sv];omega,<-drop_drop,drop_left,k];simp
theorem BS.at{ty q j:Nat}{e:a'}{d:List Ag}(w:BS ty q j a9 e d){a:Pt}(G:hZ d a)(g:Pt):∃f b m t r o,(a.1.toNat<A d/\a.2.toNat<m)/\
 e 1000=E ⟨j,ty,q,.ms 1001 f (A d)::a9,Q⟩/\e 1001=E ⟨f,125,5,t,Q⟩/\t.drop (a.1.toNat*5+4)=.ms (2000+a.1.toNat) b m::r/\
 e (2000+a.1.toNat)=E ⟨b,177,2,o,Q⟩/\A o=m*2/\
 ∀h,h (2000+a.1.toNat)=E ⟨b,177,2,lc o (a.2.toNat*2) [I g.1,I g.2],Q⟩->(∀i,i≠2000+a.1.toNat->h i=e i)->BS ty q j a9 h (la d a g):=by
 have⟨⟨aa,b,k,B,D⟩,P,F⟩:=w;have⟨X,Y,s,z,Z⟩:=G;have l:=(dX.1 z).1;have y:=(dX.1 z).2;have K:a.2.toNat<A s.p:=Zo;obtain⟨f,rfl,x⟩:=eG B (by(grind [List.length_eq_zero_iff,lJ]));rw[lJ]at k;refine⟨f,b a.1.toNat,A s.p,_,ao<|(eM b d).drop<|a.1.toNat+1,_,⟨l,K⟩,k,x,?_,by rw[D _ l,y],aeZ _,λh M u=>⟨⟨_,b,(u _ Zo).trans k,?_,λJ R=>?_⟩,λi U V S=>?_,by rw[Ck];exact F⟩⟩
 .rw[aav (u3 b d) (by rw[lJ];exact l) Zo];simp[eM,kX,y]
 .have L:eM b (la d a g)=eM b d:=IU (Ck d a g) λJ w O=>by
   grind [la,kX]
  rw[L,<-lJ b d];exact aj ⟨1001,f,Zs,C,(u _ Zo).trans x⟩
 .grind [Ck,VQ,la]
 grind [VQ,S5,py]
abbrev Fr(H' H:a'):Prop:=∀t,t≠1000->t≠1001->t<2000\/1000000000<=t->H' t=H t
theorem link(e:bI)(k:e=209\/e=174){ty j f:Nat}{n:List Ag}{p q:Pt}{d:St}(h:BS ty j f a9 d.H n)(i:hZ n p)(hq:hZ n q)
 (hK:∀H l,BS ty j f a9 H (gF n p q)->Fr H d.H->c2 ({d with H:=H,n:=l}.put g7<|.tp [])):er aB d e [.rf 1000 f 0,.ag [I p.1,I p.2],.ag [I q.1,I q.2]] g7 c2:=by
 have w (H1:a') (hH:∀t∈BL,H1 t=d.H t):=(h.aA hH).at i q;have⟨p1,p2⟩:=p;have⟨q1,q2⟩:=q;have z1:=i.1;have z2:=i.2.1;have z3:=hq.1;have z4:=hq.2.1;obtain rfl|rfl:=k
 .exact Z7
 exact Z7
section
def zq{p:aH}{r:ax}{code:dJ}{q:gg}{nt len:Nat}{l:fL}{w:a'}{K:bi}{y:cf}{x:Nat}(k:D)(h:fL)(j:cG)(U:len<=1000000000000)(F:l 5=I 0)(z:l 0=k)(A:l 1=h 0)(m:j 0)
 (u:∀(a:Nat)(G:a<len)(e:fL)(b:a')(g:bi)(d:cf)(N:Nat),j a->cb.wrap ((a:Int)+1)=((a+1:Nat):Int)->(ah ((a:Int)<(len:Int))=W/\((a:Int)<(len:Int))=True)->
  vc p r code (je (λo=>o.nt=nt/\o.env 5=I ((a+1:Nat))/\o.env 0=k/\o.env 1=h (a+1)/\j (a+1)) q) ⟨ov [(5,I a),(0,k),(1,h a)] e,b,g,nt,d,N⟩)
 (B:∀(e:fL)(b:a')(g:bi)(d:cf)(N:Nat),j len->vc p r code (je (λ_=>False) q) ⟨ov [(5,I len),(0,k),(1,h len)] e,b,g,nt,d,N⟩):oG p r code q ⟨l,w,K,nt,y,x⟩:=by
 refine fG 5 len (λa=>fF nt [(0,k),(1,h a)] λ_ _ _ _=>j a) F ⟨C,by simp[z,A],m⟩ λa e b g d N G m=>?_;by_cases t:a<len
 .refine lW code (λs S i=>?_)<|u a t e b g d N m (gJ a Zo) ch;cases s with
  |normal=>
   have⟨L,M,O,P,R⟩:=i;rw[GN];exact jW M t ⟨L,by simp[O,P],R⟩
  |_=>exact i
 have J:a=len:=Zo;subst J;refine lW code (λs S i=>?_)<|B e b g d N m;cases s with
 |normal=>exact i.elim
 |_=>exact i
def Dq{a b:Int}(d:a=b):D.sc (.int .i64 a)=I b:=Yw d
def af6{d:Type}{z:d->Nat}{a:List d}{b:Nat}(e:b<A a):((Y (b+1) a).map z).sum=((Y b a).map z).sum+z a[b]/\((Y (b+1) a).map z).sum<=(a.map z).sum:=by
 refine⟨?_,?_⟩
 .rw[dm e,bX,tx];simp
 rw[su];exact GL _ _
def JF{b:DL}{d:Nat}(e:A b=d):(∀r,Y d (b++r)=b)/\(∀r,(b++r).drop d=r)/\(∀r a,Y (d+a) (b++r)=b++Y a r)/\∀r a,(b++r).drop (d+a)=r.drop a:=by
 subst e;exact⟨λr=>take_left,λr=>drop_left,λr a=>take_length_add_append a,λr a=>by rw[<-drop_drop,drop_left]⟩
def CG{g:Type}{b:g->DL}{z:g->Nat}{h nt:Nat}{f q:bI}{fn:hC}{code:dJ}(G:aB.funcs[f]?=E fn)(L:fn.ntmps=nt)(hlen:∀a,A (b a)=h)(j:∀a,∀d∈b a,Cl d)(l:List g)(left:Int)(r:0<=left)(s:left<=1048576)(m:A l<=aE)
 (k:∀a∈l,∀left,0<=left->left<=1048576->az q [.ag<|b a,I left] (I<|jO (z a) left)) (F:fn.body=E code:=by rfl) (K:(fn.name== "runtime.NumGoroutine")=af:=by kernel_rfl) (M:fn.results.toList=[.tmp 4]:=by rfl) (t:2<=nt:=by decide)
 (P:∀(b:g->DL)(z:g->Nat)(l:List g)(left:Int),(∀a,A (b a)=h)->(∀a,∀d∈b a,Cl d)->0<=left->left<=1048576->A l<=aE->(∀a∈l,∀left,0<=left->left<=1048576->az q [.ag<|b a,I left] (I<|jO (z a) left))->vc aB [] code (nF aB [.tmp 4]<|I<|jO (A l+(l.map z).sum) left) (mU [.sl h<|l.map b,I left] nt):=by
  intro b z l left hlen j r s m k;have D:cb.wrap (left-(A l:Int))=left-(A l):=dE _ (by unfold aE at m;omega);have O:=λa=>dj<|x9<|hlen a;simp only[bE,D,go_sem];refine fx (λi=>?_) λi=>?_
  .simp only[i,go_sem];apply Fz.di;simp at i;rw[vX Zo]
  have t:(A l:Int)<=left:=Ys i;simp only[i,go_sem];refine zq (len:=A l) _ (λe=>I<|left-(A l)-((Y e l).map z).sum) (λe=>(A l:Int)+((Y e l).map z).sum<=left) Zo C C (by simp;rfl) ch (λe o B x h y N u w J=>?_) λB x h y N u=>?_
  .have⟨R,S⟩:=af6 (z:=z) o;simp only[J,w,bE,fP,bL o,eE,hlen,O,go_sem];refine bR _ (k _ (aD o) (left-(A l)-((Y e l).map z).sum) Zo Zo) (by simp;exact j _) ?_;by_cases p:(z l[e]:Int)<=left-(A l)-((Y e l).map z).sum
   .have f1:ah (left-(A l)-((Y e l).map z).sum-(z l[e]:Int)<0)=af:=bW Zo;simp only[zS p,f1,w,go_sem];exact⟨Dq Zo,Zo⟩
   simp only[vX p,Int.reduceLT,go_sem];apply Fz.di;rw[vX Zo]
  simp only[bE,sn,mw,go_sem];apply Fz.di;rw[cc]at u⊢;rw[zS Zo];omega):az f [.sl h<|l.map b,I left]<|I<|jO (A l+(l.map z).sum) left:=Sp.ey [] [.tmp 4] G F K L M t<|P b z l left hlen j r s m k
def vq{e:Type}{ds:e->DL}{b nt:Nat}{f j:bI}{fn:hC}{code:dJ}(t:aB.funcs[f]?=E fn)(x:fn.ntmps=nt)(hlen:∀a,A (ds a)=b)(g:∀a,∀d∈ds a,Cl d)(l:List e)(i:A l<=1000000000000)
 (h:∀a∈l,az j [.ag<|ds a,.ag<|ds a]<|B W) (s:fn.body=E code:=by rfl) (w:(fn.name== "runtime.NumGoroutine")=af:=by kernel_rfl) (z:fn.results.toList=[.tmp 4]:=by rfl) (u:2<=nt:=by decide)
 (F:∀(ds:e->DL)(l:List e),(∀a,A (ds a)=b)->(∀a,∀d∈ds a,Cl d)->A l<=1000000000000->(∀a∈l,az j [.ag<|ds a,.ag<|ds a]<|B W)->vc aB [] code (nF aB [.tmp 4]<|B W) (mU [.sl b<|l.map ds,.sl b<|l.map ds] nt):=by
  intro ds l hlen g i h;have D:=λa=>dj<|x9<|hlen a;simp only[bE,uN,go_sem];refine zq (len:=A l) _ (λ_=>_) (λ_=>True) i C C C trivial (λG m r p b q N y o k=>?_) λr p b q N y=>?_
  .simp only[k,o,bE,fP,bL m,eE,hlen,D,go_sem];refine fB<|fS _ (h _<|aD m) (by simp;exact g _) C ?_;simp only[k,o,go_sem]
  simp only[bE,sn,mw,go_sem];exact Fz.aK C):az f [.sl b<|l.map ds,.sl b<|l.map ds]<|B W:=Sp.ey [] [.tmp 4] t s w x z u<|F ds l hlen g i h
def Wh{x:Type}{p:aH}{t:ax}{code:dJ}{q:gg}{nt n:Nat}{g:a6}{l:List x}{ds:x->DL}{o:DL}{i:fL}(ae:A o=n)(M:∀u,A (ds u)=n)(ad:A l<=1000000000000)(J:i 4=I 0)(F:i 0=.sl n (l.map ds))(G:i 3=.ms 7 0 (A l))
 (D:∀(a:Nat)(y:a<A l)(env:fL)(H:a')(d:cf)(N:Nat)(b r:DL),H 7=E ⟨0,g,n,b++(o++r),Q⟩->A b=a*n->cb.wrap ((a:Int)+1)=((a+1:Nat):Int)->(ah ((a:Int)<(A l:Int))=W/\((a:Int)<(A l:Int))=True)->
  vc p t code (je (λe=>e.nt=nt/\e.env 4=I ((a+1:Nat))/\e.env 0=.sl n (l.map ds)/\e.env 3=.ms 7 0 (A l)/\e.n=eP dY 7/\∃j T2,e.H 7=E ⟨0,g,n,b++(j++r),Q⟩/\e.T=d++T2/\OL O1 (ds l[a]) j T2) q) ⟨ov [(4,I a),(0,.sl n<|l.map ds),(3,.ms 7 0<|A l)] env,H,eP dY 7,nt,d,N⟩)
 (B:∀(env:fL)(H:a')(d:cf)(N:Nat)(b:DL),H 7=E ⟨0,g,n,b,Q⟩->OL O1 (ao<|l.map ds) b d->vc p t code (je (λ_=>False) q) ⟨ov [(4,I<|A l),(0,.sl n<|l.map ds),(3,.ms 7 0<|A l)] env,H,eP dY 7,nt,d,N⟩):
 oG p t code q {env:=i,H:=ai (ai ma 7 Q) 7 (E {gen:=0,elem:=g,sz:=n,cells:=ao (fu (A l) o)}),n:=eP dY 7,nt}:=by
 refine fG 4 (A l) (λa=>fF nt [(0,.sl n<|l.map ds),(3,.ms 7 0<|A l)] λenv H z d=>z=eP dY 7/\∃b,OL O1 (ao<|(Y a l).map ds) b d/\H 7=E ⟨0,g,n,b++ao (fu (A l-a) o),Q⟩) J ⟨C,by simp[F,G],C,[],.nil,ep⟩ ?_;rintro a env H z d N y⟨rfl,b,m,k⟩;have K:A b=a*n:=by
  rw[m.len,iY λr O=>by obtain⟨u,-,rfl⟩:=aP.1 O;exact M u,bE,ij,wx y]
 by_cases s:a<A l
 .rw[show A l-a=(A l-(a+1))+1 by omega,As,dT]at k;refine lW code (λw ab h=>?_)<|D a s env H d N b _ k K (gJ a Zo) ch;cases w with
  |normal=>
   have⟨P,R,S,U,V,j,T2,X,Z,aa⟩:=h;rw[GN];refine jW R s ⟨P,by simp[S,U],V,b++j,?_,by rw[dy];exact X⟩;rw[Z,dm s,bX,eR];exact m.eS<|Yq aa
  |_=>exact h
 have L:a=A l:=Zo;subst L;rw[pJ,replicate_zero,fX,de]at k;rw[cc]at m;refine lW code (λw ab h=>?_)<|B env H d N b k m;cases w with
 |normal=>exact h.elim
 |_=>exact h
def CH{g:Type}{b:g->DL}{e nt:Nat}{f p:bI}{fn:hC}{code:dJ}(K:aB.funcs[f]?=E fn)(O:fn.ntmps=nt)(hlen:∀a,A (b a)=e)(j:∀a,∀d∈b a,Cl d)(o:∀a,∀d∈b a,cO d=W)(l:List g)(s:A l<=1048576)
 (k:∀a∈l,dR aB p [.ag<|b a] [] []<|.ag<|b a) (G:fn.body=E code:=by rfl) (M:(fn.name== "runtime.NumGoroutine")=af:=by kernel_rfl) (R:fn.results.toList=[.tmp 2]:=by rfl) (L:1<=nt:=by decide)
 (U:∀(b:g->DL)(l:List g),(∀a,A (b a)=e)->(∀a,∀d∈b a,Cl d)->(∀a,∀d∈b a,cO d=W)->A l<=1048576->(∀a∈l,dR aB p [.ag<|b a] [] []<|.ag<|b a)->vc aB [] code (xI aB [.tmp 2] [] []<|.sl e<|l.map b) (qW [.sl e<|l.map b] nt []):=by
  intro b l hlen j o s k;have S:=λa=>dj<|x9<|hlen a;simp only[bE,go_sem];refine⟨⟨Zo,Zo⟩,Wh C hlen Zo C C C (λX t B w x N z r i I u q=>?_) λB w x N z i J=>?_⟩
  .simp only[q,u,bE,fP,bL t,eE,hlen,S,go_sem];refine vb _ (k _<|aD t) (by simp;exact j _) λV y F=>?_;obtain⟨D,rfl,m⟩:=xD F;have⟨f1,f2,f3,f4⟩:=JF I;simp only[m.len.trans<|hlen _,i,q,u,f1,f3,f4,go_sem];refine⟨⟨co,(Pf)<|m.one<|o _⟩,D,y,by rw[dy],C,m⟩
  simp only[bE,sn,mw,go_sem];exact Rx i C C Zd Zs (λr P=>by obtain⟨a,-,rfl⟩:=aP.1 P;exact hlen a) J):dR aB f [.sl e<|l.map b] [] []<|.sl e<|l.map b:=dR.ey [] [.tmp 2] K G M O R L C (U b l hlen j o s k)
def A_{a:Int}(b:0<=a):ah (a<0)=af:=bW Zo
def W3{a:Int}{b:Nat}(e:0<=a)(g:a<=1048576)(d:b<=aE):cb.wrap (a-b)=a-b:=dE _ (by unfold aE at d;omega)
def Yi{i:St}{f:bI}{j:D}{left:Int}{a:Nat}{h:ON}{e:aU}(m:∀left,0<=left->left<=1048576->az f [j,I left] (I<|jO a left))(o:0<=left)(p:left<=1048576)(k:hD [j,I left])(l:(a:Int)<=left->e (i.put h<|I<|left-a))(b:left<a->e (i.put h<|I<|-1)):jU aB i (.fn f [] []) [j,I left] h e:=by
 have d:=m left o p;by_cases g:(a:Int)<=left
 .rw[zS g]at d;exact hW d k (l g)
 rw[vX g]at d;exact hW d k<|b Zo
section
variable{f:bI}{fn:hC}{code:dJ}{row:DL}{nt N:Nat}
def zT(g:aB.funcs[f]?=E fn)(j:fn.ntmps=nt)(e:fn.body=E code:=by rfl)(i:(fn.name== "runtime.NumGoroutine")=af:=by kernel_rfl)(k:fn.results.toList=[.tmp 4]:=by rfl)(h:2<=nt:=by decide)
 (l:∀left,0<=left->left<=1048576->vc aB [] code (nF aB [.tmp 4]<|I<|jO N left) (mU [.ag row,I left] nt):=by
  intro left b d;simp(disch:=omega) only[A_,W3,go_sem]
  repeat' first
   |simp(disch:=omega) only[A_,W3,Int.reduceLT,go_sem]
   |(with_reducible refine fx (λa=>?_) λa=>?_)<;>simp only[ee,jo]at a
   |refine Yi kj Zo Zo iT (λa=>?_) λa=>?_
   |(refine Fz.di ?_;first|(rw[vX Zo];done)|(rw[zS Zo];omega))):∀left,0<=left->left<=1048576->az f [.ag row,I left] (I<|jO N left):=λleft b d=>Sp.ey [] [.tmp 4] g e i j k h<|l left b d
def uc(b:aB.funcs[f]?=E fn)(g:fn.ntmps=nt)(a:fn.body=E code:=by rfl)(e:(fn.name== "runtime.NumGoroutine")=af:=by kernel_rfl)(h:fn.results.toList=[.tmp 4]:=by rfl)(d:2<=nt:=by decide)
 (i:vc aB [] code (nF aB [.tmp 4]<|B W)<|mU [.ag row,.ag row] nt:=by
  simp only[uN,tB,wi,go_sem]
  repeat first
   |simp only[uN,tB,wi,go_sem]
   |refine mB kj ?_
  exact Fz.aK C):az f [.ag row,.ag row]<|B W:=Sp.ey [] [.tmp 4] b a e g h d i
def zV(h:a6)(k:aB.funcs[f]?=E fn)(o:fn.ntmps=nt)(j:fn.body=E code:=by rfl)(m:(fn.name== "runtime.NumGoroutine")=af:=by kernel_rfl)(p:fn.results.toList=[.cell 2 h]:=by rfl)(l:1<=nt:=by decide)
 (q:vc aB [] code (xI aB [.cell 2 h] [] []<|.ag row)<|qW [.ag row] nt []:=by
  simp only[go_sem]
  repeat first
   |simp only[go_sem]
   |(refine vb _ kj da ?_
     intro u r i
     first
      |obtain⟨s,y,t,F,rfl,rfl⟩:=aeo i
      |(obtain⟨w,rfl,e⟩:=xD i
        simp only[go_sem,r5,oP,mc]at e
        first
         |obtain⟨_,rfl,⟨_,rfl,⟨_,rfl,⟨_,rfl,⟨_,rfl,⟨b,g,d,a,_,_,rfl,rfl,⟨b,g,d,a,_,_,rfl,rfl,⟨b,g,d,a,_,_,rfl,rfl,⟨rfl,rfl⟩⟩⟩⟩⟩⟩⟩⟩⟩:=e
         |obtain⟨_,rfl,⟨_,rfl,⟨b,g,d,a,_,_,rfl,rfl,⟨rfl,rfl⟩⟩⟩⟩:=e))
  apply Rw;simp only[go_sem]
  repeat first|exact OL.nil|apply OL.jZ|apply OL.qf):dR aB f [.ag row] [] []<|.ag row:=dR.ey [] [.cell 2 h] k j m o p l C q
end
def agj(a:aX)(p:A a<=aE)(q:∀u∈a,ByteArray.size u<=aE):∀left,0<=left->left<=1048576->az 101 [bG a,I left] (I<|jO (A a+pE a) left):=λleft w x=>by
 have l:cb.wrap (left-(A a:Int))=left-(A a):=dE _ (by unfold aE at p;omega);refine(cR) ?_;simp only[go_sem,l];refine fx (λb=>?_) λb=>?_
 .simp only[b,go_sem];apply Fz.di;simp at b;rw[vX Zo]
 have y:(A a:Int)<=left:=Ys b;simp only[b,go_sem];refine zq (len:=A a) _ (λk=>I<|left-(A a)-pE (Y k a)) (λk=>(A a:Int)+pE (Y k a)<=left) Zo C C (by simp[pE];rfl) (by simp[pE];omega) (λk e j h t i N g s o=>?_) λj h t i N g=>?_
 .have r:=q a[k]<|aD e;unfold aE at r;have m:cb.wrap (left-(A a:Int)-pE (Y k a)-(a[k].size:Int))=left-(A a:Int)-pE (Y k a)-a[k].size:=dE _ Zo;have B:=af5 a k e;have z:=af4 a<|k+1;simp only[o,m,fP,bL e,eE,go_sem];refine fx (λd=>?_) λd=>?_
  .simp only[d,go_sem];apply Fz.di;simp at d;rw[vX Zo]
  simp only[d,s,go_sem];simp at d;exact⟨Dq Zo,Zo⟩
 simp only[sn,mw,go_sem];apply Fz.di;rw[cc]at g⊢;rw[zS Zo];omega
def aad(a:aX)(h:A a<=1000000000000):az 157 [bG a,bG a]<|B W:=by
 refine(cR) ?_;simp only[uN,go_sem];refine zq (len:=A a) _ (λ_=>_) (λ_=>True) h C C C trivial (λm i e b l d N j k g=>?_) λe b l d N j=>?_
 .simp only[g,fP,bL i,eE,go_sem];refine fB ?_;simp only[k,eE,tB,wi,go_sem]
 simp only[sn,mw,go_sem];exact Fz.aK C
def ag5(b:aX)(p:A b<=1048576):dR aB 114 [bG b] [] []<|bG b:=by
 refine dR.ey [] [.tmp 2] C C Zk Zt C Zs C ?_;simp only[go_sem];refine⟨⟨Zo,Zo⟩,Wh (ds:=λo=>[S o]) C (λ_=>C) Zo C C C (λq l h d e N g r a i m k=>?_) λh d e N g a j=>?_⟩
 .have⟨f1,f2,f3,f4⟩:=JF i;simp only[a,k,m,fP,bL l,eE,f1,f4,go_sem];exact⟨co,_,[],by rw[dy],by rw[de],.jZ .nil⟩
 simp only[sn,mw,go_sem];exact Rx a C C Zd Zs (λr hr=>yB) j
def V9(a:dp)(h:A a<=aE)(d:∀b∈a,∀left,0<=left->left<=1048576->az 63 [.ag b.ds,I left] (I<|jO b.sz left)):∀left,0<=left->left<=1048576->az 100 [J.sl a,I left] (I<|jO (A a+J.fr a) left):=λleft e g=>by
 rw[J.sl,J.cu,J.lS];exact CG func100 ntmps100 J.bP J.cl a left e g h d
def R6(a:dp)(e:A a<=1000000000000)(d:∀b∈a,az 97 [.ag b.ds,.ag b.ds]<|B W):az 156 [J.sl a,J.sl a]<|B W:=by
 rw[J.sl,J.cu];exact vq func156 ntmps156 J.bP J.cl a e d
def Wg(a:dp)(e:A a<=1048576)(d:∀b∈a,dR aB 71 [.ag b.ds] [] []<|.ag b.ds):dR aB 113 [J.sl a] [] []<|J.sl a:=by
 rw[J.sl,J.cu];exact CH func113 ntmps113 J.bP J.cl J.one a e d
def GM(a:J)(b:a.ok):∀left,0<=left->left<=1048576->az 63 [.ag a.ds,I left] (I<|jO a.sz left):=by
 match a,b with
 |.mk v k i,b=>
 simp only[J.ok]at b;have⟨l,g,h⟩:=b;rw[J.sz];have j:=V9 i g λd e=>GM d<|J.eJ h d e;exact zT func63 ntmps63
def ER(a:J)(b:a.sz<=1048576):az 97 [.ag a.ds,.ag a.ds]<|B W:=by
 match a,b with
 |.mk v i e,b=>
 rw[J.sz]at b;have h:=R6 e Zo λg d=>ER g<|Yo<|J.gz d;exact uc func97 ntmps97
def GO(a:J)(b:a.sz<=1048576):dR aB 71 [.ag a.ds] [] []<|.ag a.ds:=by
 match a,b with
 |.mk v i e,b=>
 rw[J.sz]at b;have h:=Wg e Zo λg d=>GO g<|Yo<|J.gz d;exact zV 99 func71 ntmps71
def agb(a:li)(h:A a<=aE)(d:∀b∈a,∀left,0<=left->left<=1048576->az 99 [.ag b.ds,I left] (I<|jO b.sz left)):∀left,0<=left->left<=1048576->az 62 [aJ.sl a,I left] (I<|jO (A a+aJ.fr a) left):=λleft e g=>by
 rw[aJ.sl,aJ.cu,aJ.lS];exact CG func62 ntmps62 aJ.bP aJ.cl a left e g h d
def ZX(a:li)(e:A a<=1000000000000)(d:∀b∈a,az 155 [.ag b.ds,.ag b.ds]<|B W):az 96 [aJ.sl a,aJ.sl a]<|B W:=by
 rw[aJ.sl,aJ.cu];exact vq func96 ntmps96 aJ.bP aJ.cl a e d
def agZ(a:li)(e:A a<=1048576)(d:∀b∈a,dR aB 112 [.ag b.ds] [] []<|.ag b.ds):dR aB 70 [aJ.sl a] [] []<|aJ.sl a:=by
 rw[aJ.sl,aJ.cu];exact CH func70 ntmps70 aJ.bP aJ.cl aJ.one a e d
def aga(a:aJ)(b:a.ok):∀left,0<=left->left<=1048576->az 99 [.ag a.ds,I left] (I<|jO a.sz left):=by
 match a,b with
 |.mk k i,b=>
 simp only[aJ.ok]at b;have⟨l,g,h⟩:=b;rw[aJ.sz];have j:=V9 i g λd e=>GM d<|J.eJ h d e;simp only[aJ.ds];exact zT func99 ntmps99
def ZW(a:aJ)(b:a.sz<=1048576):az 155 [.ag a.ds,.ag a.ds]<|B W:=by
 match a,b with
 |.mk i e,b=>
 rw[aJ.sz]at b;have h:=R6 e Zo λg d=>ER g<|Yo<|J.gz d;simp only[aJ.ds];exact uc func155 ntmps155
def agY(a:aJ)(b:a.sz<=1048576):dR aB 112 [.ag a.ds] [] []<|.ag a.ds:=by
 match a,b with
 |.mk i e,b=>
 rw[aJ.sz]at b;have h:=Wg e Zo λg d=>GO g<|Yo<|J.gz d;simp only[aJ.ds];exact zV 185 func112 ntmps112
def agd(a:aF)(h:A a<=aE)(d:∀b∈a,∀left,0<=left->left<=1048576->az 32 [.ag b.ds,I left] (I<|jO b.sz left)):∀left,0<=left->left<=1048576->az 16 [ae.sl a,I left] (I<|jO (A a+ae.fr a) left):=λleft e g=>by
 rw[ae.sl,ae.cu,ae.lS];exact CG func16 ntmps16 ae.bP ae.cl a left e g h d
def ZZ(a:aF)(e:A a<=1000000000000)(d:∀b∈a,az 51 [.ag b.ds,.ag b.ds]<|B W):az 26 [ae.sl a,ae.sl a]<|B W:=by
 rw[ae.sl,ae.cu];exact vq func26 ntmps26 ae.bP ae.cl a e d
def ag1(a:aF)(e:A a<=1048576)(d:∀b∈a,dR aB 38 [.ag b.ds] [] []<|.ag b.ds):dR aB 19 [ae.sl a] [] []<|ae.sl a:=by
 rw[ae.sl,ae.cu];exact CH func19 ntmps19 ae.bP ae.cl ae.one a e d
def agc(a:ae)(b:a.ok):∀left,0<=left->left<=1048576->az 32 [.ag a.ds,I left] (I<|jO a.sz left):=by
 match a,b with
 |.mk k i,b=>
 simp only[ae.ok]at b;have⟨l,g,h⟩:=b;rw[ae.sz];have j:=agb i g λd e=>aga d<|aJ.eJ h d e;simp only[ae.ds];exact zT func32 ntmps32
def ZY(a:ae)(b:a.sz<=1048576):az 51 [.ag a.ds,.ag a.ds]<|B W:=by
 match a,b with
 |.mk i e,b=>
 rw[ae.sz]at b;have h:=ZX e Zo λg d=>ZW g<|Yo<|aJ.gz d;simp only[ae.ds];exact uc func51 ntmps51
def ag0(a:ae)(b:a.sz<=1048576):dR aB 38 [.ag a.ds] [] []<|.ag a.ds:=by
 match a,b with
 |.mk i e,b=>
 rw[ae.sz]at b;have h:=agZ e Zo λg d=>agY g<|Yo<|aJ.gz d;simp only[ae.ds];exact zV 96 func38 ntmps38
def agk(a:bu)(h:A a<=aE)(d:∀b∈a,∀left,0<=left->left<=1048576->az 64 [.ag b.ds,I left] (I<|jO b.sz left)):∀left,0<=left->left<=1048576->az 102 [L.sl a,I left] (I<|jO (A a+L.fr a) left):=λleft e g=>by
 rw[L.sl,L.cu,L.lS];exact CG func102 ntmps102 L.bP L.cl a left e g h d
def aae(a:bu)(e:A a<=1000000000000)(d:∀b∈a,az 98 [.ag b.ds,.ag b.ds]<|B W):az 158 [L.sl a,L.sl a]<|B W:=by
 rw[L.sl,L.cu];exact vq func158 ntmps158 L.bP L.cl a e d
def ag6(a:bu)(e:A a<=1048576)(d:∀b∈a,dR aB 72 [.ag b.ds] [] []<|.ag b.ds):dR aB 115 [L.sl a] [] []<|L.sl a:=by
 rw[L.sl,L.cu];exact CH func115 ntmps115 L.bP L.cl L.one a e d
def V8(a:L)(b:a.ok):∀left,0<=left->left<=1048576->az 64 [.ag a.ds,I left] (I<|jO a.sz left):=by
 match a,b with
 |.mk v y s d i h,b=>
 simp only[L.ok]at b;have⟨t,j,k,m,l,o⟩:=b;rw[L.sz];have q:=agk h l λe g=>V8 e<|L.eJ o e g;have p:=GM d j;have r:=agj i k m;have⟨u,w,x⟩:=d;exact zT func64 ntmps64
def R5(a:L)(b:a.sz<=1048576):az 98 [.ag a.ds,.ag a.ds]<|B W:=by
 match a,b with
 |.mk v r m d h g,b=>
 rw[L.sz]at b;have k:=aae g Zo λi e=>R5 i<|Yo<|L.gz e;have j:=ER d Zo;have l:=aad h Zo;have⟨o,p,q⟩:=d;exact uc func98 ntmps98
def We(a:L)(b:a.sz<=1048576):dR aB 72 [.ag a.ds] [] []<|.ag a.ds:=by
 match a,b with
 |.mk v r m d h g,b=>
 rw[L.sz]at b;have k:=ag6 g Zo λi e=>We i<|Yo<|L.gz e;have j:=GO d Zo;have l:=ag5 h Zo;have⟨o,p,q⟩:=d;exact zV 102 func72 ntmps72
def agf(a:aO)(h:A a<=aE)(d:∀b∈a,∀left,0<=left->left<=1048576->az 33 [.ag b.ds,I left] (I<|jO b.sz left)):∀left,0<=left->left<=1048576->az 17 [aa.sl a,I left] (I<|jO (A a+aa.fr a) left):=λleft e g=>by
 rw[aa.sl,aa.cu,aa.lS];exact CG func17 ntmps17 aa.bP aa.cl a left e g h d
def Z'(a:aO)(e:A a<=1000000000000)(d:∀b∈a,az 52 [.ag b.ds,.ag b.ds]<|B W):az 27 [aa.sl a,aa.sl a]<|B W:=by
 rw[aa.sl,aa.cu];exact vq func27 ntmps27 aa.bP aa.cl a e d
def ag3(a:aO)(e:A a<=1048576)(d:∀b∈a,dR aB 39 [.ag b.ds] [] []<|.ag b.ds):dR aB 20 [aa.sl a] [] []<|aa.sl a:=by
 rw[aa.sl,aa.cu];exact CH func20 ntmps20 aa.bP aa.cl aa.one a e d
def age(a:aa)(b:a.ok):∀left,0<=left->left<=1048576->az 33 [.ag a.ds,I left] (I<|jO a.sz left):=by
 match a,b with
 |.mk g e d,b=>
 simp only[aa.ok]at b;have⟨o,h,i⟩:=b;rw[aa.sz];have k:=V8 d i;have j:=GM e h;have⟨p,q,r⟩:=e;have⟨v,w,g,⟨s,t,u⟩,m,l⟩:=d;simp only[aa.ds];exact zT func33 ntmps33
def Z0(a:aa)(b:a.sz<=1048576):az 52 [.ag a.ds,.ag a.ds]<|B W:=by
 match a,b with
 |.mk g e d,b=>
 rw[aa.sz]at b;have i:=R5 d Zo;have h:=ER e Zo;have⟨l,m,o⟩:=e;have⟨v,s,g,⟨p,q,r⟩,k,j⟩:=d;simp only[aa.ds];exact uc func52 ntmps52
def ag2(a:aa)(b:a.sz<=1048576):dR aB 39 [.ag a.ds] [] []<|.ag a.ds:=by
 match a,b with
 |.mk g e d,b=>
 rw[aa.sz]at b;have i:=We d Zo;have h:=GO e Zo;have⟨l,m,o⟩:=e;have⟨v,s,g,⟨p,q,r⟩,k,j⟩:=d;simp only[aa.ds];exact zV 104 func39 ntmps39
def agh(a:bH)(e:a.ok):∀left,0<=left->left<=1048576->az 4 [.ag a.ds,I left] (I<|jO a.sz left):=by
 match a,e with
 |.mk a b,e=>
 simp only[bH.ok]at e;have⟨h,j,i,k⟩:=e;rw[bH.sz];have m:=agd a h λd g=>agc d<|ae.eJ j d g;have l:=agf b i λd g=>age d<|aa.eJ k d g;simp only[bH.ds];exact zT func4 ntmps4
def aac(a:bH)(d:a.sz<=1048576):az 10 [.ag a.ds,.ag a.ds]<|B W:=by
 match a,d with
 |.mk a b,d=>
 rw[bH.sz]at d;have i:=ZZ a Zo λg e=>ZY g<|Yo<|ae.gz e;have h:=Z' b Zo λg e=>Z0 g<|Yo<|aa.gz e;simp only[bH.ds];exact uc func10 ntmps10
def ag4(a:bH)(d:a.sz<=1048576):dR aB 6 [.ag a.ds] [] []<|.ag a.ds:=by
 match a,d with
 |.mk a b,d=>
 rw[bH.sz]at d;have i:=ag1 a Zo λg e=>ag0 g<|Yo<|ae.gz e;have h:=ag3 b Zo λg e=>ag2 g<|Yo<|aa.gz e;simp only[bH.ds];exact zV 36 func6 ntmps6
end
abbrev U(n:Int):D:=.sc<|.int .u8 n
def qb(n:Int):Bool:=ah (97<=n)&&ah (n<=122)
def pV(n:Int):Bool:=ah (65<=n)&&ah (n<=90)
def qE(n:Int):Bool:=ah (48<=n)&&ah (n<=57)
def pr(n:Int):Bool:=qb n||pV n
def mj(n:Int):Bool:=qb n||pV n||qE n
def bs(s:BA):IL:=s.data.toList.map λc=>(c.toNat:Int)
def b0(s:BA):Int:=(bs s).headD 0
def yJ(a:BA):A (bs a)=a.size:=by rw[bs,bE,we];rfl
def aa9:∀(b:IL)(h:0<A b),b[0]=b.headD 0
 |[],h=>jr
 |a::b,_=>rfl
def Ja(b:BA)(a:Nat)(d:a<b.size):b[a]?=E b[a]/\((b[a]).toNat:Int)=(bs b)[a]'(by rw[yJ];exact d):=by
 refine⟨getElem?_pos b a d,?_⟩;simp only[bs,fk,Array.getElem_toList];rfl
def yK(a:BA)(b:0<a.size):a[0]?=E a[0]/\((a[0]).toNat:Int)=b0 a:=by
 have⟨d,e⟩:=Ja a 0 b;refine⟨d,?_⟩;rw[e,b0];exact aa9 _ _
def Th(a:Int):az 137 [U a]<|B<|qb a:=by
 refine(dH) ?_;by_cases b:a>=97
 .exact(ad<|b_ b)<|Fz.aK (by simp[qb];omega)
 exact(ad<|bW b)<|Fz.aK (by simp[qb];omega)
def Ta(a:Int):az 196 [U a]<|B<|pV a:=by
 refine(dH) ?_;by_cases b:a>=65
 .exact(ad<|b_ b)<|Fz.aK (by simp[pV];omega)
 exact(ad<|bW b)<|Fz.aK (by simp[pV];omega)
def isDigit(n:Int):az 202 [U n]<|B<|qE n:=Pr
def acr(n:Int):az 375 [U n]<|B<|qE n:=Pr
def Tt(a:Int):az 373 [U a]<|B<|pr a:=by
 refine(dH) ?_;by_cases b:a>=97
 .refine(ad<|b_ b) ?_;by_cases d:a<=122
  .refine(ad<|b_ d) ?_;apply Fz.aK;rw[oi];simp[pr,qb,pV];omega
  refine(ad<|bW d) ?_;by_cases h3:a>=65
  .exact M8
  omega
 refine(ad<|bW b) ?_;by_cases h3:a>=65
 .exact M8
 exact(ad<|bW h3)<|Fz.aK (by simp[pr,qb,pV];omega)
def abS(a:Int):az 204 [U a]<|B<|mj a:=by
 refine(cR) ?_;have:=Th a;refine(ZC) ?_;cases b:qb a
 .have:=Ta a;refine(ZC) ?_;cases d:pV a
  .have:=isDigit a;exact(ZC)<|Fz.aK (by simp[mj,b,d])
  exact(ZN)<|Fz.aK (by simp[mj,b,d])
 exact(ZN)<|Fz.aK (by simp[mj,b])
def l8:aX:=[⟨#[100,97,116,97]⟩,⟨#[100,101,102]⟩,⟨#[108,101,116]⟩,⟨#[105,110]⟩,⟨#[109,97,116,99,104]⟩,⟨#[105,102]⟩,⟨#[116,104,101,110]⟩,⟨#[101,108,115,101]⟩]
def zl(s:BA):Bool:=l8.any λk=>ah<|k=s
def abE(l:aX)(v:BA)(g:A l<=aE):az 295 [bG l,S v]<|I<|fT (λx=>ah<|x=v) l:=by
 unfold aE at g;have f:A (l.map λb=>[S b])=A l:=Zs;refine(lj f)<|lp 8 (A l) [0,1,7] (λk _ _ _ _=>(Y k l).any (λx=>ah<|x=v)=af) Zs ?_;rintro k j i b _ _ m hp;refine ZL (λd=>?_) λh=>?_
 .have e:(l.map λb=>[S b])[k]?=E [S l[k]]:=by simp[d]
  refine(ad e) ?_;by_cases a:l[k]=v
  .have f1:(v.toList==l[k].toList)=W:=by rw[ic];simp[a]
   exact(ad f1)<|Fz.di (n3 d hp<|Yr a).symm
  have f1:(v.toList==l[k].toList)=af:=by rw[ic];simp[uM a]
  refine(ad f1) ?_;refine dI ?_;rw[o6 d,hp];simp[a]
 exact sK
def EI(l:aX)(v:BA)(a:A l<=aE):az 271 [bG l,S v]<|B (l.any λx=>ah<|x=v):=by
 refine(cR) ?_;have:=abE l v a;exact tJ
def abQ(a:BA):az 203 [S a]<|B<|zl a:=by
 refine(dH)<|yO [bG l8,S a] _ (EI l8 a (by simp[l8,aE])) C
  (by simp only[aY,de,rb,re,bM];exact⟨Fz.aq (aq:=l8.map λa=>[S a]) C C C Zd C (by simp[l8]) C Zs,.cl _<|bc _,Zs⟩) C ?_
 exact(ZN)<|Fz.aK C
def Tr:az 380 []<|bG l8:=by
 refine(dH) ?_;exact Fz.aq (aq:=l8.map λa=>[S a]) C C C Zd C (by simp[l8]) C Zs
theorem afL(b:BA):az 374 [S b]<|B<|zl b:=by
 have l:A (l8.map λd=>[S d])=A l8:=Zs;have r:A l8=8:=C;refine(dH)<|lp 3 8 [0] (λa _ _ _ _=>(Y a l8).any (λx=>ah<|x=b)=af) Zs λa p o d _ _ q f=>?_;simp only[go_sem];refine bR _ Tr Zs ?_;simp only[l,go_sem];refine cL (λg=>?_) λj=>?_
 .have i:(l8.map λd=>[S d])[a]?=E [S l8[a]]:=by simp[g]
  simp only[go_sem];refine bR _ Tr Zs ?_;simp only[i,go_sem];by_cases e:l8[a]=b
  .have f1:(l8[a].toList==b.toList)=W:=by rw[ic];simp[e]
   refine(ad f1) ?_;apply Fz.aK;symm;rw[zl,m'];exact Zg
  have f1:(l8[a].toList==b.toList)=af:=by rw[ic];simp[e]
  refine(ad f1) ?_;refine dI ?_;rw[o6 g,f];simp[e]
 have m:a=A l8:=Zo;refine(ad j) ?_;apply Fz.aK;rw[m,cc]at f;exact f.symm
def jX(s:BA):Bool:=ah (1<=s.size)&&ah (s.size<=12)&&!qE (b0 s)&&!zl s&&(bs s).all mj
def kt(s:BA):Bool:=jX s&&pV (b0 s)
def iC(s:BA):Bool:=jX s&&qb (b0 s)
def Tf(a:BA)(s:a.size<=aE):az 136 [S a]<|B<|jX a:=by
 unfold aE at s;refine(dH) ?_;by_cases e:(a.size:Int)<1
 .exact(ad<|b_ e)<|Fz.aK DR
 refine(ad<|bW e) ?_;by_cases f:(a.size:Int)>12
 .exact(ad<|b_ f)<|Fz.aK DR
 have⟨o,p⟩:=yK a Zo;have:=isDigit<|b0 a;refine(bQ<|JJ (bW f)<|JJ o p) ?_;cases g:qE (b0 a)
 case true=>
  exact(ZN)<|Fz.aK (by simp[jX,g])
 have:=abQ a;refine(ZC) ?_;cases i:zl a
 case true=>
  exact(ZN)<|Fz.aK (by simp[jX,i])
 refine(ZN)<|lp 23 a.size [0,22] (λb _ _ _ _=>(Y b<|bs a).all mj=W) Zs ?_;rintro b y w D _ _ z d;refine ZL (λl=>?_) λq=>?_
 .have m:b<A (bs a):=by rw[yJ];exact l
  have⟨t,u⟩:=Ja a b l;refine(ad<|JJ t u)<|bR _ (abS _) Zs ?_;cases j:mj (bs a)[b]
  .exact(ZN)<|Fz.aK (by simp only[jX,u4 m j,CU])
  refine(ZN) ?_;refine dI ?_;rw[lK m,d,j];rfl
 have r:b=a.size:=Zo;refine(ad q) ?_;apply Fz.aK;rw[r,<-yJ,cc]at d;simp[jX,g,i,d];omega
def B6(a:jX gs=W):0<gs.size:=by
 simp only[jX,cy,ee]at a;omega
def ait{a:BA}(g:0<a.size)(b:(bs a).all mj=W):mj (b0 a)=W:=by
 have e:=yJ a;rw[en]at b;unfold b0;rcases d:bs a with _|⟨f,h⟩
 .rw[d]at e;simp at e;omega
 rw[d]at b;exact b f Zs
def KG{a:BA}(d:0<a.size)(b:(bs a).all mj=W):pr (b0 a)=!qE (b0 a):=by
 have:=ait d b;rw[oi];simp only[mj,pr,qb,pV,qE,tm,cy,ee,oV,wg,jo]at*;omega
theorem VV(a:BA)(z:a.size<=aE):az 363 [S a]<|B<|jX a:=by
 unfold aE at z;refine(dH) ?_;by_cases j:(a.size:Int)<1
 .exact(ad<|b_ j)<|Fz.aK DR
 refine(ad<|bW j) ?_;by_cases l:(a.size:Int)>12
 .exact(ad<|b_ l)<|Fz.aK DR
 have⟨t,u⟩:=yK a Zo;have bad:pr (b0 a)=af->af=jX a:=λd=>by
  cases i:(bs a).all mj
  .simp[jX,i]
  have f:=KG Zo i;rw[d]at f;have f:qE (b0 a)=W:=cq;simp[jX,f]
 have f:=Tt<|b0 a;refine(bQ<|JJ (bW l)<|JJ t u) ?_;cases m:pr (b0 a)
 .exact(ZN)<|Fz.aK<|bad m
 have f:=afL a;refine(ZC) ?_;cases o:zl a
 case true=>
  exact(ZN)<|Fz.aK (by simp[jX,o])
 refine(ZN)<|lp 3 a.size [0] (λb _ _ _ _=>(Y b<|bs a).all mj=W) Zs ?_;rintro b F D I _ _ G g;refine ZL (λp=>?_) λw=>?_
 .have q:b<A (bs a):=by rw[yJ];exact p
  have⟨r,s⟩:=Ja a b p;have next:mj (bs a)[b]=W->(Y (b+1)<|bs a).all mj=W:=λd=>by rw[lK q,g,d];rfl
  refine(ad<|JJ r s)<|bR _ (Tt _) Zs ?_;cases d:pr (bs a)[b]
  .refine(ad<|JJ r s)<|bR _ (acr _) Zs ?_;cases e:qE (bs a)[b]
   .refine(ZN) ?_;have i:mj (bs a)[b]=af:=by simp only[pr]at d;simp[mj,d,e]
    exact Fz.aK (by simp only[jX,u4 q i,CU])
   exact(ZN)<|dI<|next (by simp[mj,e])
  exact(ZN)<|dI<|next (by simp only[pr]at d;simp[mj,d])
 have y:b=a.size:=Zo;refine(ad w) ?_;apply Fz.aK;rw[y,<-yJ,cc]at g;have e:=KG Zo g;rw[m]at e;have e:qE (b0 a)=af:=Yq e.symm;simp[jX,e,o,g];omega
def isUpper(a:BA)(f:a.size<=aE):az 133 [S a]<|B<|kt a:=by
 refine(cR) ?_;have:=Tf a f;refine(ZC) ?_;cases b:jX a
 .exact(ZN)<|Fz.aK (by simp[kt,b])
 have⟨d,e⟩:=yK a<|B6 b;exact(ad<|JJ d e)<|bR _ (Ta _) Zs<|(ZN)<|Fz.aK (by simp[kt,b])
def isLower(a:BA)(f:a.size<=aE):az 81 [S a]<|B<|iC a:=by
 refine(cR) ?_;have:=Tf a f;refine(ZC) ?_;cases b:jX a
 .exact(ZN)<|Fz.aK (by simp[iC,b])
 have⟨d,e⟩:=yK a<|B6 b;exact(ad<|JJ d e)<|bR _ (Th _) Zs<|(ZN)<|Fz.aK (by simp[iC,b])
def UL(a:jX gs=W):pr (b0 gs)=W:=by
 have b:=B6 a;simp only[jX,cy]at a;rw[KG b a.2];exact a.1.1.2
def CB(a:BA)(f:a.size<=aE):az 361 [S a]<|B<|kt a:=by
 refine(cR) ?_;have:=VV a f;refine(ZC) ?_;cases b:jX a
 .exact(ZN)<|Fz.aK (by simp[kt,b])
 have⟨d,e⟩:=yK a<|B6 b;refine(ad<|JJ d e) ?_;apply Fz.aK;have:=UL b;rw[oi];simp only[kt,b,kf,pr,qb,pV,tm,cy,ee]at*;omega
def GG(a:BA)(f:a.size<=aE):az 342 [S a]<|B<|iC a:=by
 refine(cR) ?_;have:=VV a f;refine(ZC) ?_;cases b:jX a
 .exact(ZN)<|Fz.aK (by simp[iC,b])
 have⟨d,e⟩:=yK a<|B6 b;refine(ad<|JJ d e) ?_;apply Fz.aK;have:=UL b;rw[oi];simp only[iC,b,kf,pr,qb,pV,tm,cy,ee]at*;omega
def tO{b:Int}(a:a3≠b):(a3 !=b)=W:=Yr a
def nh{b:Int}(a:a3=b):(a3 !=b)=af:=Yr a
def nE:BA:=⟨#[]⟩
def ur:BA:=⟨#[73,110,116]⟩
def ii:J->Bool
 |.mk k n ks=>if k=1 then ah (n=nE)&&ah (A ks=0)else if k=2 then kt n&&!ah (n=ur)&&ah (A ks=0)
  else if k=3 then ah (n=nE)&&ah (A ks=2)else if k=4 then ah (n=nE)&&ah (A ks=1)else af
abbrev fY:J->Bool:=J.bh ii
def h7(t:J):Bool:=fY t&&ah (t.cC<=6/\t.num<=16)
def vE(d a b:Int):az 169 [I d,I a,I b]<|B<|bY d a b:=by
 refine(dH) ?_;by_cases h1:d>=a
 .exact HS
 exact HQ
theorem ahz(d:Int)(nm:BA)(a:dp)(ao:nm.size<=aE)(aq:J.aZ a<9000000000000000000)(an:A a<=aE)
 (M:∀l∈a,∃g b,az 138 [.ag l.ds] (.tp [I g,I b,B<|fY l])/\(fY l=W->g=l.cC/\b=l.num)):
 ∃g b,az 138 [.ag<|J.ds<|.mk d nm a] (.tp [I g,I b,B<|fY<|.mk d nm a])/\(fY (.mk d nm a)=W->g=(J.mk d nm a).cC/\b=(J.mk d nm a).num):=by
 unfold aE at an;have R:fY (.mk d nm a)=(ii (.mk d nm a)&&a.all fY):=by rw[fY,J.bh,J.i1]
 by_cases i:a.all fY=W
 case neg=>
  have i:a.all fY=af:=Yq i;refine⟨0,0,?_,λs=>cq⟩;rw[R,i,CU];refine(ia [] [.tmp 2,.tmp 3,.tmp 4])<|fG 13 (A a) (λk=>Fw.Inv 87 [(11,J.sl a),(12,I<|A a),(2,I ((1+J.cX (Y k a):Nat):Int)),(3,I ((1+J.aZ (Y k a):Nat):Int))]<|(Y k a).all fY=W) C ⟨C,by simp[J.sl,ej,aw,J.cX,J.aZ],Zs⟩ ?_;rintro k ak X ap Z _ am z;refine ZL (λe=>?_) λs=>?_
  .have w:=J.bP a[k];have D:Y 3 a[k].ds=a[k].ds:=dj Zo;have y:(a[k].ds).all cO=W:=(Pf)<|J.one a[k];have⟨g,b,U,t⟩:=M a[k]<|aD e;refine(bQ<|JJ (J.bV a k e)<|JJ w<|JJ D y) ?_;cases j:fY a[k]
   .exact(ZN)<|Fz.lR C Zs
   obtain⟨rfl,rfl⟩:=t j;have al:=J.yY a[k];have u:=J.p6 a<|k+1;rw[J.jY a k e]at u;have ar:=J.wW<|Y k a;refine(ad<|JJ (gJ a[k].cC Zo)<|wrap_add (1+J.aZ (Y k a)) a[k].num Zo) ?_;have m1:(if((a[k].cC+1:Nat):Int)>((1+J.cX (Y k a):Nat):Int)then((a[k].cC+1:Nat):Int)else((1+J.cX (Y k a):Nat):Int))=((1+J.cX (Y (k+1) a):Nat):Int):=by
    rw[J.mH a k e];split<;>omega
   have m2:1+J.aZ (Y k a)+a[k].num=1+J.aZ (Y (k+1) a):=Yv<|J.jY a k e;refine nM ⟨C,?_,by rw[lK e,z,j];rfl⟩;exact II
  obtain rfl:k=A a:=Zo;rw[cc,i]at z;cases z
 refine⟨(J.mk d nm a).cC,(J.mk d nm a).num,?_,λ_=>⟨C,C⟩⟩;rw[R,i,xT,J.cC,J.num];refine(ia [] [.tmp 2,.tmp 3,.tmp 4])<|jH 13 (A a) (λk=>Fw.Inv 87 [(1,.cp [I d,S nm,.sl 3<|J.ab a]),(11,J.sl a),(12,I<|A a),(2,I ((1+J.cX (Y k a):Nat):Int)),(3,I ((1+J.aZ (Y k a):Nat):Int)),(4,B af)] True) C ⟨C,by simp[J.sl,ej,aw,J.cX,J.aZ],trivial⟩ ?_;rintro k⟨ak,X,ap,au,Z⟩am r⟨rfl,P,-⟩;simp only[bM,J.sl]at r P;obtain⟨eb,F,G,e2,e3,K,-⟩:=P;refine dN (JJ r G) (λe=>?_) λs=>?_
 .have V:=aD e;have w:=J.bP a[k];have D:Y 3 a[k].ds=a[k].ds:=dj Zo;have y:(a[k].ds).all cO=W:=(Pf)<|J.one a[k];have j:fY a[k]=W:=en.1 i _ V;have⟨g,b,U,t⟩:=M a[k] V;obtain⟨rfl,rfl⟩:=t j;rw[j]at U;refine(bQ<|JJ r<|JJ F<|JJ (J.bV a k e)<|JJ w<|JJ D y) ?_;have al:=J.yY a[k];have u:=J.p6 a<|k+1;rw[J.jY a k e]at u;simp only[r,e2,e3,gJ a[k].cC Zo,wrap_add (1+J.aZ (Y k a)) a[k].num Zo,go_sem];have m1:(if((a[k].cC+1:Nat):Int)>((1+J.cX (Y k a):Nat):Int)then((a[k].cC+1:Nat):Int)else((1+J.cX (Y k a):Nat):Int))=((1+J.cX (Y (k+1) a):Nat):Int):=by
   rw[J.mH a k e];split<;>omega
  have m2:1+J.aZ (Y k a)+a[k].num=1+J.aZ (Y (k+1) a):=Yv<|J.jY a k e;refine nM ⟨C,?_,trivial⟩;simp only[eb,F,G,K,m1,m2,bM,dt,hU,im,aw,↓reduceIte,bj,kV,lE]
 obtain rfl:k=A a:=Zo;rw[cc]at e2 e3;refine(ad s) ?_;by_cases m:d=1
 .have f1:(d==1)=W:=by simp[m]
  have hL:((A a:Int)==0)=ah (A a=0):=cq;have f:ii (.mk d nm a)=(ah (nm=nE)&&ah (A a=0)):=by simp[ii,m]
  rw[f];exact(ad<|JJ f1 eb)<|Ie
 have f1:(d==1)=af:=Yr m;by_cases o:d=2
 .have f2:(d==2)=W:=by simp[o]
  have hL:((A a:Int)==0)=ah (A a=0):=cq;have f:ii (.mk d nm a)=(kt nm&&!ah (nm=ur)&&ah (A a=0)):=by simp[ii,o]
  rw[f];have:=isUpper nm ao;refine(bQ<|JJ f1<|JJ f2 eb) ?_;cases d0:kt nm
  .exact(ad<|JJ e2 e3)<|Fz.lR Zs Zs
  refine(ad eb) ?_;by_cases d1:nm=ur
  .have g1:(nm.toList==(⟨#[73,110,116]⟩:BA).toList)=W:=by rw[ic];exact b_ d1
   simp only[g1,e2,e3,go_sem];exact Fz.lR (Yr d1) Zs
  have g1:(nm.toList==(⟨#[73,110,116]⟩:BA).toList)=af:=by rw[ic];exact bW d1
  simp only[g1,eb,e2,e3,go_sem];exact Fz.lR Zg Zs
 have f2:(d==2)=af:=Yr o;by_cases p:d=3
 .have f3:(d==3)=W:=by simp[p]
  have hL:((A a:Int)==2)=ah (A a=2):=cq;have f:ii (.mk d nm a)=(ah (nm=nE)&&ah (A a=2)):=by simp[ii,p]
  rw[f];simp only[f1,f2,f3,eb,go_sem];exact Ie
 have f3:(d==3)=af:=Yr p;by_cases q:d=4
 .have f4:(d==4)=W:=by simp[q]
  have hL:((A a:Int)==1)=ah (A a=1):=cq;have f:ii (.mk d nm a)=(ah (nm=nE)&&ah (A a=1)):=by simp[ii,q]
  rw[f];simp only[f1,f2,f3,f4,eb,go_sem];exact Ie
 have f4:(d==4)=af:=Yr q;have f:ii (.mk d nm a)=af:=by simp[ii,m,o,p,q]
 rw[f];simp only[f1,f2,f3,f4,e2,e3,K,eb,go_sem];exact Fz.lR C Zs
def Wp(a:J)(e:a.sz<=1048576)(d:a.ok):∃f b,az 138 [.ag a.ds] (.tp [I f,I b,B<|fY a])/\(fY a=W->f=a.cC/\b=a.num):=by
 match a,e,d with
 |.mk j k h,e,d=>
 simp only[J.ok]at d;simp only[J.sz]at e;have l:=J.vM h;exact ahz j k h d.1 Zo d.2.1 λi g=>Wp i (Yo<|J.gz g)<|J.eJ d.2.2 i g
def Mf(a:J)(j:a.sz<=1048576)(i:a.ok):az 82 [.ag a.ds]<|B<|h7 a:=by
 have g:=J.bP a;have k:Y 3 a.ds=a.ds:=dj Zo;have⟨l,b,m,f⟩:=Wp a j i;refine(cR)<|(bQ<|JJ g k) ?_;cases d:fY a
 .exact(ZN)<|Fz.aK (by simp only[h7,d,wh])
 obtain⟨rfl,rfl⟩:=f d;refine(ZN) ?_;by_cases e:a.cC<=6
 .have f1:ah ((a.cC:Int)<=6)=W:=by simp;omega
  refine(ad f1) ?_;apply Fz.aK;rw[h7,d,kf,lD];omega
 have f1:ah ((a.cC:Int)<=6)=af:=by simp;omega
 exact(ad f1)<|Fz.aK (by simp[h7,e])
def mY(t:J)(d:Int):Int:=if fY t=W/\(t.cC:Int)<=d then t.num else-1
def zZ{b:dp}{d:Int}(e:ii (.mk a3 gs b)=af):-1=mY (.mk a3 gs b) d:=by
 unfold mY;rw[aC];rintro⟨a,_⟩;rw[fY,J.bh,e]at a;cases a
theorem acw(k0:Int)(nm:BA)(ks:dp)(a:Int)(p:0<=a)(o:a<=6)(m:nm.size<=aE)(q:J.aZ ks<9000000000000000000)(l:A ks<=aE)
 (lP:∀i∈ks,∀a:Int,0<=a->a<=6->az 364 [.ag i.ds,I a] (I<|mY i a)):
 az 364 [.ag<|J.ds<|.mk k0 nm ks,I a] (I<|mY (.mk k0 nm ks) a):=by
 unfold aE at l;have s:fY (.mk k0 nm ks)=(ii (.mk k0 nm ks)&&ks.all fY):=by rw[fY,J.bh,J.i1]
 have j:(J.mk k0 nm ks).cC=1+J.cX ks:=by rw[J.cC]
 have r:(J.mk k0 nm ks).num=1+J.aZ ks:=by rw[J.num]
 refine(dH) ?_;by_cases g:a<1
 .refine(ad<|b_ g) ?_;apply Fz.di;unfold mY;rw[aC];rintro⟨_,h⟩;rw[j]at h;omega
 refine(ad<|bW g) ?_;by_cases b:k0=1
 .have f1:(k0==1)=W:=by simp[b]
  have z2:(k0 !=2)=W:=Yr b;have ht:ii (.mk k0 nm ks)=(ah (nm=nE)&&ah (A ks=0)):=by simp[ii,b]
  refine(ad f1) ?_;by_cases d2:A ks=0
  case neg=>
   have g2:((A ks:Int) !=0)=W:=tO Zo;exact HW
  have g2:((A ks:Int) !=0)=af:=nh Zo;refine(ad<|JJ g2 z2) ?_;by_cases d1:nm=nE
  case neg=>
   exact NL
  have g1:(nm.toList==(⟨#[]⟩:BA).toList)=W:=(Pe)<|b_ d1;exact(ad g1)<|Z6
 by_cases d:k0=2
 .have f2:(k0==2)=W:=by simp[d]
  have z2:(k0 !=2)=af:=Yr d;have ht:ii (.mk k0 nm ks)=(kt nm&&!ah (nm=ur)&&ah (A ks=0)):=by simp[ii,d]
  have f1:(k0==1)=af:=Yr b;have:=CB nm m;refine(bQ<|JJ f1 f2) ?_;cases d0:kt nm
  .exact(ZN)<|Fz.di<|zZ (by rw[ht,d0];rfl)
  simp only[go_sem];by_cases d1:nm=ur
  .have g1:(nm.toList==(⟨#[73,110,116]⟩:BA).toList)=W:=by rw[ic];exact b_ d1
   simp only[g1,go_sem];exact Fz.di<|zZ (by rw[ht];simp[d1])
  have g1:(nm.toList==(⟨#[73,110,116]⟩:BA).toList)=af:=(Pe)<|bW d1;simp only[g1,go_sem];by_cases d2:A ks=0
  case neg=>
   have g2:((A ks:Int) !=0)=W:=tO Zo;simp only[g2,go_sem];exact Fz.di<|zZ (by rw[ht];simp[d2])
  have g2:((A ks:Int) !=0)=af:=nh Zo;simp only[g2,z2,go_sem];exact Z6
 by_cases e:k0=3
 .have f3:(k0==3)=W:=by simp[e]
  have z2:(k0 !=2)=W:=Yr e;have ht:ii (.mk k0 nm ks)=(ah (nm=nE)&&ah (A ks=2)):=by simp[ii,e]
  have f1:(k0==1)=af:=Yr b;have f2:(k0==2)=af:=Yr d;simp only[f1,f2,f3,go_sem];by_cases d2:A ks=2
  case neg=>
   have g2:((A ks:Int) !=2)=W:=tO Zo;exact HW
  have g2:((A ks:Int) !=2)=af:=nh Zo;exact Z2
 by_cases f:k0=4
 .have f4:(k0==4)=W:=by simp[f]
  have z2:(k0 !=2)=W:=Yr f;have ht:ii (.mk k0 nm ks)=(ah (nm=nE)&&ah (A ks=1)):=by simp[ii,f]
  have f1:(k0==1)=af:=Yr b;have f2:(k0==2)=af:=Yr d;have f3:(k0==3)=af:=Yr e;simp only[f1,f2,f3,f4,go_sem];by_cases d2:A ks=1
  case neg=>
   have g2:((A ks:Int) !=1)=W:=tO Zo;exact HW
  have g2:((A ks:Int) !=1)=af:=nh Zo;exact Z2
 have f1:(k0==1)=af:=Yr b;have f2:(k0==2)=af:=Yr d;have f3:(k0==3)=af:=Yr e;have f4:(k0==4)=af:=Yr f;simp only[f1,f2,f3,f4,go_sem];exact Fz.di<|zZ (by simp[ii,b,d,e,f])
def TA(d:J)(a:Int)(l:0<=a)(k:a<=6)(e:d.sz<=1048576)(b:d.ok):az 364 [.ag d.ds,I a]<|I<|mY d a:=by
 match d,e,b with
 |.mk m o g,e,b=>
 simp only[J.ok]at b;simp only[J.sz]at e;have p:=J.vM g;exact acw m o g a l k b.1 Zo b.2.1 λh f a i j=>TA h a i j (Yo<|J.gz f)<|J.eJ b.2.2 h f
theorem ahi(b:J):bY (mY b 6) 1 16=h7 b:=by
 have:=J.B' b;unfold mY h7;by_cases a:fY b=W
 .by_cases e:b.cC<=6
  .rw[aM ⟨a,Zo⟩,a,kf,bY,lD];omega
  rw[aC Zg,a,kf,bY,lD];omega
 rw[aC λd=>a d.1];simp[a,bY]
def LM(a:J)(e:a.sz<=1048576)(d:a.ok):az 343 [.ag a.ds]<|B<|h7 a:=by
 have b:=J.bP a;have f:Y 3 a.ds=a.ds:=dj Zo;refine(cR) ?_;have:=TA a 6 Zo Zo e d;exact(bQ<|JJ b f)<|bR _ (vE _ _ _) Zs<|(ZN)<|Fz.aK<|ahi a
theorem R7(a b:dp)(j:bI)(o:A a<=aE)(r:∀x∈a,∀m,az j [.ag x.ds,.ag m.ds]<|B<|ah<|x=m):az 326 [J.sl a,J.sl b,.fn j [] []]<|B<|ah<|a=b:=by
 unfold aE at o;have k:=J.b6 a;refine(cR)<|lm (JJ k<|J.b6 b) (λe=>?_) λe=>?_
 .refine(ad e) ?_;apply Fz.aK;exact Zg
 have K:A a=A b:=by simp at e;omega
 refine(ad<|JJ e k)<|lp 17 (A a) [0,1,2,15,16] (λd _ _ _ _=>Y d a=Y d b) Zs ?_;rintro d F z L D _ G u;refine ZL (λi=>?_) λe=>?_
 .have l:d<A b:=Zo;have p:=J.bP a[d];have q:=J.bP b[d];have w:Y 3 a[d].ds=a[d].ds:=dj Zo;have y:Y 3 b[d].ds=b[d].ds:=dj Zo;have s:(a[d].ds).all cO=W:=(Pf)<|J.one a[d];have t:(b[d].ds).all cO=W:=(Pf)<|J.one b[d];simp only[J.bV a d i,J.bV b d l,q,w,y,s,t,ME,p,go_sem];refine bR _ (r a[d] (aD i) b[d]) (by simp;exact⟨J.cl _,J.cl _⟩) ?_;by_cases g:a[d]=b[d]
  .have f:ah (a[d]=b[d])=W:=by simp[g]
   refine(ad f) ?_;refine dI ?_;rw[dm i,dm l,u,g]
  have f:ah (a[d]=b[d])=af:=by simp[g]
  refine(ad f) ?_;apply Fz.aK;exact Zg
 have I:d=A a:=Zo;refine(ad e) ?_;apply Fz.aK;exact Zg
theorem sameType(a b:J)(j:a.ok):az 289 [.ag a.ds,.ag b.ds]<|B<|ah<|a=b:=by
 match a,b,j with
 |.mk l m e,.mk b0 o f,j=>
 simp only[J.ok]at j;have⟨w,s,t⟩:=j;refine(dH) ?_;by_cases g:l=b0
 case neg=>
  have f0:(l==b0)=af:=Yr g;refine(ad f0) ?_;apply Fz.aK;symm;rw[jo];intro d;apply g;injection d
 have f0:(l==b0)=W:=Yr g;refine(ad f0) ?_;by_cases i:m=o
 case neg=>
  have f1:(m.toList==o.toList)=af:=by simp[ic,i]
  refine(ad f1) ?_;apply Fz.aK;symm;rw[jo];intro d;apply i;injection d
 have f1:(m.toList==o.toList)=W:=Yr i;refine(ad f1)<|mB (R7 e f _ s λq r u=>sameType q u<|J.eJ t q r) ?_;by_cases p:e=f
 case neg=>
  have f2:ah (e=f)=af:=cq;refine(ad f2) ?_;apply Fz.aK;symm;rw[jo];intro d;apply p;injection d
 have f2:ah (e=f)=W:=cq;refine(ad f2) ?_;apply Fz.aK;symm;rw[ee,g,i,p]
def k_(t:J):Bool:=ah<|t=.mk 0 nE []
def abR(a:J)(d:a.ok):az 272 [.ag a.ds]<|B<|k_ a:=by
 have b:=J.bP a;have e:Y 3 a.ds=a.ds:=dj Zo;have f:J.ds (.mk 0 nE [])=[I 0,S nE,.sl 3 []]:=by simp[J.ds,J.ab]
 refine(lj<|JJ b e)<|yO [.ag a.ds,.ag<|J.ds<|.mk 0 nE []] _ (sameType a _ d) C (by
  simp only[aY,de,rb,re,bM];refine⟨.cl _<|Cl.bC<|J.cl a,?_,Zs⟩;rw[f];refine Fz.Xp ?_ C;simp only[rb,re,bM];exact⟨.cl _<|bc _,.cl _<|bc _,.nil 3,Zs⟩) C ?_
 exact(ZN)<|Fz.aK C
def acH(g:J):az 381 [.ag g.ds]<|B<|k_ g:=by
 have⟨d,f,e⟩:=g;have i:((A e:Int)==0)=ah (e=[]):=by rw[nv,lD,<-pI];omega
 refine(dH) ?_;by_cases a:d=0
 case neg=>
  have f1:(d==0)=af:=Yr a;exact(ad f1)<|Fz.aK (by simp[k_,a])
 have f1:(d==0)=W:=Yr a;refine(ad f1) ?_;by_cases b:f=nE
 case neg=>
  have f2:(f.toList==(⟨#[]⟩:BA).toList)=af:=(Pe)<|bW b;exact(ad f2)<|Fz.aK (by simp[k_,b])
 have f2:(f.toList==(⟨#[]⟩:BA).toList)=W:=(Pe)<|b_ b;simp only[f2,J.b6 e,i,go_sem];exact Fz.aK (by simp[k_,a,b])
def qF:List ByteArray->Bool
 |l=>ah (∀(i:Nat)(h:i<A l),iC l[i]=W/\(Y i l).any (λx=>ah<|x=l[i])=af)
def V7(d:aX)(b:Nat):Y b (d.map λa=>[S a])=(Y b d).map λa=>[S a]:=Zs
def ahM(l:aX)(p:A l<=aE)(q:∀r∈l,ByteArray.size r<=aE):az 273 [bG l]<|B<|qF l&&ah ((A l:Int)<=3):=by
 unfold aE at p;have d:A (l.map λa=>[S a])=A l:=Zs;refine(lj d)<|lp 7 (A l) [0,5,6] (λk _ _ _ _=>∀(i:Nat)(f:i<A l),i<k->iC l[i]=W/\(Y i l).any (λx=>ah<|x=l[i])=af) Zs ?_;rintro k u s a t _ w hp;refine ZL (λe=>?_) λf=>?_
 .have g:(l.map λa=>[S a])[k]?=E [S l[k]]:=by simp[e]
  have o:((k:Int)<=(A l:Int))=True:=dM Zo;have bad:¬(iC l[k]=W/\(Y k l).any (λx=>ah<|x=l[k])=af)->af=(qF l&&ah ((A l:Int)<=3)):=λj=>by
   have b:qF l=af:=by rw[qF,jo];intro m;exact j (m k e)
   rw[b];rfl
  refine(ad g)<|bR _ (isLower l[k]<|q _<|aD e) Zs ?_;cases c1:iC l[k]
  .exact(ZN)<|Fz.aK<|bad<|Yr c1
  have b:=EI (Y k l) l[k] m_;exact(bQ<|JJ d<|JJ o @V7)<|Oz
 have y:k=A l:=Zo;refine(ad<|JJ f d) ?_;apply Fz.aK;have b:qF l=W:=by rw[qF,ee];exact λi hi=>hp i hi Zo
 rw[b];rfl
def kD:List ByteArray->ByteArray->Int
 |[],_=>-1
 |x::l,v=>if kD l v>=0 then kD l v+1 else if x=v then 0 else-1
def Ei(d v:BA):∀b:aX,kD (b++[d]) v=if d=v then(A b:Int)else kD b v
 |[]=>by by_cases a:d=v<;>simp[kD,a]
 |y::b=>by
  have e:=Ei d v b;by_cases a:d=v
  .simp only[a,bx]at e;simp only[bg,kD,a,bx,e,dC];rw[aM Zo];omega
  simp only[a,bT]at e;simp only[bg,kD,a,bT,e]
theorem Eh(v:BA):∀a:aX,ah (kD a v>=0)=a.any λb=>ah (b=v)
 |[]=>rfl
 |y::a=>by
  rw[xV,<-Eh v a,kD];exact Zg
theorem qN(b:aX)(v:BA)(r:A b<=aE):az 231 [bG b,S v]<|I<|kD b v:=by
 unfold aE at r;have p:A (b.map λd=>[S d])=A b:=Zs;have s:cb.wrap ((A b:Int)-1)=(A b:Int)-1:=dE _ Zo;refine(lj<|JJ p s)<|l' (λe=>e.nt=20/\∃a:Nat,e.env 5=I ((a:Int)-1)/\e.env 0=bG b/\e.env 1=S v/\a<=A b/\kD b v=kD (Y a b) v) (λe=>match e.env 5 with|.sc (.int _ d)=>(d+1).toNat|_=>0) ⟨C,A b,bU,by simp[aw,ej,bG],ow,bJ _,cq⟩ ?_;rintro⟨x,u,d,y,w⟩⟨rfl,a,f,k,l,q,g⟩;simp only[bG]at f k l;refine(ad f) ?_;cases a with
 |zero=>
  have m:ah ((((0:Nat):Int)-1)>=0)=af:=Zs;exact(ad m)<|Fz.di<|Yf g
 |succ a=>
  have j:((a+1:Nat):Int)-1=(a:Int):=Zo;have m:ah ((a:Int)>=0)=W:=Zs;have o:(b.map λd=>[S d])[a]?=E [S b[a]]:=Zs;rw[dm q,Ei,ij,wx Zo]at g;simp only[j,k,l,f,o,go_sem];by_cases i:b[a]=v
  .have f1:(b[a].toList==v.toList)=W:=by rw[ic];simp[i]
   simp only[f1,f,j,go_sem];exact Fz.di (by rw[g,aM i])
  have f1:(b[a].toList==v.toList)=af:=by rw[ic];simp[i]
  have t:cb.wrap ((a:Int)-1)=(a:Int)-1:=dE _ Zo;rw[aC i]at g;simp only[f1,f,j,t,go_sem];exact⟨⟨C,a,bU,Ye k,Ye l,Zo,g⟩,bU⟩
def Kx(a:aX)(v:BA)(d:A a<=aE):∃b:Int,az 231 [bG a,S v] (I b)/\(ah (b>=0)=a.any λx=>ah<|x=v):=⟨_,qN a v d,Eh v a⟩
def acA(l:aX)(o:A l<=aE)(p:∀r∈l,ByteArray.size r<=aE):az 382 [bG l]<|B<|qF l:=by
 unfold aE at o;have f:A (l.map λa=>[S a])=A l:=Zs;refine(dH)<|lp 3 (A l) [0] (λk _ _ _ _=>∀(i:Nat)(e:i<A l),i<k->iC l[i]=W/\(Y i l).any (λx=>ah<|x=l[i])=af) Zs ?_;rintro k u s a t _ w hp;refine dN f (λb=>?_) λe=>?_
 .have d:(l.map λa=>[S a])[k]?=E [S l[k]]:=by simp[b]
  have m:((k:Int)<=(A l:Int))=True:=dM Zo;have bad:¬(iC l[k]=W/\(Y k l).any (λx=>ah<|x=l[k])=af)->af=qF l:=λg=>by
   symm;rw[qF,jo];intro j;exact g (j k b)
  refine(fQ d)<|fS _ (GG l[k]<|p _<|aD b) Zs C ?_;cases c1:iC l[k]
  .exact(ZN)<|Fz.aK<|bad<|Yr c1
  simp only[f,m,d,V7,go_sem];have⟨D,z,q⟩:=Kx (Y k l) l[k] m_;exact(bQ q)<|Oz
 have y:k=A l:=Zo;refine(ad e) ?_;apply Fz.aK;symm;rw[qF,ee];exact λi hi=>hp i hi Zo
def dw(k:Int):Int×Int:=
 if k=1\/k=2 then(0,0)else if k=4\/k=6\/k=10 then(1,1)else if k=3\/k=5\/k=7 then(2,2)
 else if k=8 then(0,3)else if k=9 then(2,5)else if k=11 then(3,3)else(0,-1)
def l_(k:Int)(n:BA):Bool:=if k=1\/k=4\/k=7 then iC n else if k=8\/k=10 then kt n else ah (n=nE)
def lB(k:Int)(t:J):Bool:=if k=4 then h7 t else k_ t
def jI(k:Int)(ns:aX):Bool:=if k=10 then ah ((A ns:Int)<=3)&&qF ns else ah (A ns=0)
def oK(k v:Int):Bool:=if k=2 then bY v (-2147483648) 2147483647 else if k=3 then bY v 1 6 else ah (v=0)
def gN:L->Bool
 |.mk k v n ty ns _=>l_ k n&&lB k ty&&jI k ns&&oK k v
def hT:L->Bool
 |.mk k v n ty ns ks=>bY (A ks) (dw k).1 (dw k).2&&gN (.mk k v n ty ns ks)
def rW(a:Int):a=1\/a=2\/a=3\/a=4\/a=5\/a=6\/a=7\/a=8\/a=9\/a=10\/a=11\/(a≠1/\a≠2/\a≠3/\a≠4/\a≠5/\a≠6/\a≠7/\a≠8/\a≠9/\a≠10/\a≠11):=Zo
def isInt(a:Int):az 265 [I a]<|B<|bY a (-2147483648) 2147483647:=by
 refine(dH) ?_;by_cases h1:a>=-2147483648
 .exact HS
 exact HQ
def Tg(a:Int):az 266 [I a]<|B<|bY a 1 6:=by
 refine(dH) ?_;by_cases h1:a>=1
 .exact HS
 exact HQ
def acE(a:Int):az 376 [I a]<|.tp [I (dw a).1,I (dw a).2]:=by
 refine(ia [] [.tmp 2,.tmp 3]) ?_;obtain rfl|rfl|rfl|rfl|rfl|rfl|rfl|rfl|rfl|rfl|rfl|⟨b,f,g,h,i,j,l,m,o,d,e⟩:=rW a
 all_goals first
  |(simp only[go_sem];exact Fz.lR C Zs)
  |(have f1:(a==1)=af:=by simp[b]
    have f2:(a==2)=af:=Yr f;have f3:(a==3)=af:=Yr g;have f4:(a==4)=af:=Yr h;have f5:(a==5)=af:=Yr i;have f6:(a==6)=af:=Yr j;have f7:(a==7)=af:=Yr l;have f8:(a==8)=af:=Yr m;have f9:(a==9)=af:=Yr o;have f10:(a==10)=af:=Yr d;have f11:(a==11)=af:=Yr e;simp only[f1,f2,f3,f4,f5,f6,f7,f8,f9,f10,f11,go_sem];exact Fz.lR (by simp[dw,b,f,g,h,i,j,l,m,o,d,e]) Zs)
def acB(a v:Int)(n:BA)(tk:Int)(tn:BA)(aQ:dp)(ns:aX)(t:bu)(hn:n.size<=aE)(M:(J.mk tk tn aQ).sz<=1048576)(K:(J.mk tk tn aQ).ok)(F:A ns<=aE)(G:∀l∈ns,ByteArray.size l<=aE):
 az 377 [.cp<|L.ds<|.mk a v n (.mk tk tn aQ) ns t] (B<|gN<|.mk a v n (.mk tk tn aQ) ns t):=by
 have s:J.ds (.mk tk tn aQ)=[I tk,S tn,.sl 3<|J.ab aQ]:=by rw[J.ds]
 have rQ:A (ns.map λl=>[S l])=A ns:=Zs;have U:=LM (.mk tk tn aQ) M K;have R:=acH<|.mk tk tn aQ;rw[s]at U R;have ah:∀d∈([I tk,S tn,.sl 3<|J.ab aQ]:DL),Cl d:=by rw[<-s];exact J.cl _
 refine(dH) ?_;obtain rfl|rfl|rfl|rfl|rfl|rfl|rfl|rfl|rfl|rfl|rfl|⟨g,q,r,b,X,Y,i,j,Z,f,V⟩:=rW a
 .exact NY
 .exact Nq
 .exact Nq
 .have e:=GG n hn;refine(ZC) ?_;cases c1:iC n
  .exact HX
  refine(ZC) ?_;cases c2:h7 (.mk tk tn aQ)
  .exact HZ
  exact N8
 .exact Dx
 .exact Dx
 .exact NY
 .have e:=CB n hn;refine(ZC) ?_;cases c1:kt n
  .exact HX
  refine(ZC) ?_;cases c2:k_ (.mk tk tn aQ)
  .exact HZ
  exact N8
 .exact Dx
 .have e:=CB n hn;refine(ZC) ?_;cases c1:kt n
  .exact HX
  refine(ZC) ?_;cases c2:k_ (.mk tk tn aQ)
  .exact HZ
  refine(ad rQ) ?_;by_cases c3:(A ns:Int)>3
  .exact(ad<|b_ c3)<|Fz.aK (by simp[gN,jI];omega)
  have e:=acA ns F G;refine(bQ<|bW c3) ?_;cases p:qF ns
  .exact(ZN)<|Fz.aK (by simp[gN,jI,p])
  have c5:jI 10 ns=W:=by simp[jI,p];omega
  exact(ZN)<|Fz.aK (by simp[gN,l_,lB,oK,c1,c2,c5,nv])
 .exact Dx
 have u:(a==1)=af:=by simp[g]
 have w:(a==2)=af:=Yr q;have y:(a==3)=af:=Yr r;have o:(a==4)=af:=Yr b;have P:(a !=4)=W:=Yr b;have z:(a==7)=af:=Yr i;have D:(a==8)=af:=Yr j;have m:(a==10)=af:=Yr f;simp only[u,o,z,D,m,go_sem];by_cases c1:n=nE
 case neg=>
  have g1:(n.toList==(⟨#[]⟩:BA).toList)=af:=(Pe)<|bW c1;exact(ad g1)<|Fz.aK (by simp[gN,l_,c1,g,b,i,j,f])
 have g1:(n.toList==(⟨#[]⟩:BA).toList)=W:=(Pe)<|b_ c1;refine(bQ<|JJ g1<|JJ o P) ?_;cases c2:k_ (.mk tk tn aQ)
 .exact(ZN)<|Fz.aK (by simp[gN,lB,c2,b])
 refine(ad<|JJ m rQ) ?_;by_cases c3:(A ns:Int)>0
 .exact(ad<|b_ c3)<|Fz.aK (by
   have e:A ns≠0:=Zo;simp[gN,jI,e,f])
 simp only[bW c3,w,y,go_sem];have c5:A ns=0:=Zo;exact Fz.aK (by simp[gN,l_,lB,oK,c1,c2,c5,jI,g,q,r,b,i,j,f,nv])
def ahN(a v:Int)(n:BA)(e:Int)(g:BA)(f:dp)(ns:aX)(ks:bu)(b:n.size<=aE)(an:(J.mk e g f).sz<=1048576)(F:(J.mk e g f).ok)(al:A ns<=aE)(am:∀z∈ns,ByteArray.size z<=aE):
 az 205 [.ag<|L.ds<|.mk a v n (.mk e g f) ns ks] (B<|hT<|.mk a v n (.mk e g f) ns ks):=by
 have D:J.ds (.mk e g f)=[I e,S g,.sl 3<|J.ab f]:=by rw[J.ds]
 have j:A (ns.map λz=>[S z])=A ns:=Zs;have i:=L.b6 ks;have av:=Mf (.mk e g f) an F;have au:=abR (.mk e g f) F;rw[D]at av au;have aI:∀d∈([I e,S g,.sl 3<|J.ab f]:DL),Cl d:=by rw[<-D];exact J.cl _
 refine(cR)<|(ZC) ?_;obtain rfl|rfl|rfl|rfl|rfl|rfl|rfl|rfl|rfl|rfl|rfl|⟨q,l,m,o,s,t,u,w,y,k,r⟩:=rW a
 .refine(ad j) ?_;by_cases c3:(A ns:Int)>0
  .exact sJ
  refine(ad<|bW c3) ?_;have c5:A ns=0:=Zo;cases c2:k_ (.mk e g f)
  .exact sF
  refine(ZN) ?_;by_cases c6:v=0
  case neg=>
   exact tH
  refine(fQ<|nh c6)<|fS _ (isLower n b) Zs C<|(ZN)<|fS _ (isUpper n b) Zs C<|(ad i) ?_;cases c1:iC n
  .exact AH
  refine(ZN) ?_;have g7:((A ks:Int)==0)=ah ((A ks:Int)>=0/\(A ks:Int)<=0):=Is;exact IN
 .refine(ad j) ?_;by_cases c3:(A ns:Int)>0
  .exact sJ
  refine(ad<|bW c3) ?_;have c5:A ns=0:=Zo;cases c2:k_ (.mk e g f)
  .exact sF
  refine(ZI)<|fS _ (isLower n b) Zs C<|(ZN)<|fS _ (isUpper n b) Zs C<|(ad i) ?_;by_cases c1:n=nE
  case neg=>
   exact yD
  have g1:(n.toList==(⟨#[]⟩:BA).toList)=W:=(Pe)<|b_ c1;refine(ad g1) ?_;by_cases c7:(A ks:Int)=0
  case neg=>
   have g7:((A ks:Int)==0)=af:=D4;refine(ad g7) ?_;have c8:bY (A ks:Int) 0 0=af:=DS;exact Nh
  have g7:((A ks:Int)==0)=W:=D5;have c8:bY (A ks:Int) 0 0=W:=DT;have p:=isInt v;exact Qb
 .refine(ad j) ?_;by_cases c3:(A ns:Int)>0
  .exact sJ
  refine(ad<|bW c3) ?_;have c5:A ns=0:=Zo;cases c2:k_ (.mk e g f)
  .exact sF
  refine(ZI)<|fS _ (isLower n b) Zs C<|(ZN)<|fS _ (isUpper n b) Zs C<|(ad i) ?_;by_cases c1:n=nE
  case neg=>
   exact yD
  have g1:(n.toList==(⟨#[]⟩:BA).toList)=W:=(Pe)<|b_ c1;refine(ad g1) ?_;by_cases c7:(A ks:Int)=2
  case neg=>
   have g7:((A ks:Int)==2)=af:=D4;refine(ad g7) ?_;have c8:bY (A ks:Int) 2 2=af:=DS;exact Nh
  have g7:((A ks:Int)==2)=W:=D5;have c8:bY (A ks:Int) 2 2=W:=DT;have p:=Tg v;exact Qb
 .refine(ad j) ?_;by_cases c3:(A ns:Int)>0
  .exact sJ
  refine(ad<|bW c3) ?_;have c5:A ns=0:=Zo;by_cases c6:v=0
  case neg=>
   exact tH
  refine(fQ<|nh c6)<|fS _ (isLower n b) Zs C<|(ZN)<|fS _ (isUpper n b) Zs C<|(ad i) ?_;cases c1:iC n
  .exact AH
  refine(ZN) ?_;by_cases c7:(A ks:Int)=1
  case neg=>
   have g7:((A ks:Int)==1)=af:=D4;refine(ad g7) ?_;have c8:bY (A ks:Int) 1 1=af:=DS;exact Ni
  have g7:((A ks:Int)==1)=W:=D5;have c8:bY (A ks:Int) 1 1=W:=DT;exact(bQ g7)<|Ni
 .refine(ad j) ?_;by_cases c3:(A ns:Int)>0
  .exact sJ
  refine(ad<|bW c3) ?_;have c5:A ns=0:=Zo;cases c2:k_ (.mk e g f)
  .exact sF
  refine(ZN) ?_;by_cases c6:v=0
  case neg=>
   exact tH
  refine(fQ<|nh c6)<|fS _ (isLower n b) Zs C<|(ZN)<|fS _ (isUpper n b) Zs C<|(ad i) ?_;by_cases c1:n=nE
  case neg=>
   exact yD
  have g1:(n.toList==(⟨#[]⟩:BA).toList)=W:=(Pe)<|b_ c1;exact(ad g1)<|Ou
 .refine(ad j) ?_;by_cases c3:(A ns:Int)>0
  .exact sJ
  refine(ad<|bW c3) ?_;have c5:A ns=0:=Zo;cases c2:k_ (.mk e g f)
  .exact sF
  refine(ZN) ?_;by_cases c6:v=0
  case neg=>
   exact tH
  refine(fQ<|nh c6)<|fS _ (isLower n b) Zs C<|(ZN)<|fS _ (isUpper n b) Zs C<|(ad i) ?_;by_cases c1:n=nE
  case neg=>
   exact yD
  have g1:(n.toList==(⟨#[]⟩:BA).toList)=W:=(Pe)<|b_ c1;refine(ad g1) ?_;have g7:((A ks:Int)==1)=ah ((A ks:Int)>=1/\(A ks:Int)<=1):=Is;exact IN
 .refine(ad j) ?_;by_cases c3:(A ns:Int)>0
  .exact sJ
  refine(ad<|bW c3) ?_;have c5:A ns=0:=Zo;cases c2:k_ (.mk e g f)
  .exact sF
  refine(ZN) ?_;by_cases c6:v=0
  case neg=>
   exact tH
  refine(fQ<|nh c6)<|fS _ (isLower n b) Zs C<|(ZN)<|fS _ (isUpper n b) Zs C<|(ad i) ?_;cases c1:iC n
  .exact AH
  exact(ZN)<|Ou
 .refine(ad j) ?_;by_cases c3:(A ns:Int)>0
  .exact sJ
  refine(ad<|bW c3) ?_;have c5:A ns=0:=Zo;cases c2:k_ (.mk e g f)
  .exact sF
  refine(ZN) ?_;by_cases c6:v=0
  case neg=>
   exact tH
  refine(fQ<|nh c6)<|fS _ (isLower n b) Zs C<|(ZN)<|fS _ (isUpper n b) Zs C<|(ad i) ?_;cases c1:kt n
  .exact AH
  exact(ZN)<|N2
 .refine(ad j) ?_;by_cases c3:(A ns:Int)>0
  .exact sJ
  refine(ad<|bW c3) ?_;have c5:A ns=0:=Zo;cases c2:k_ (.mk e g f)
  .exact sF
  refine(ZN) ?_;by_cases c6:v=0
  case neg=>
   exact tH
  refine(fQ<|nh c6)<|fS _ (isLower n b) Zs C<|(ZN)<|fS _ (isUpper n b) Zs C<|(ad i) ?_;by_cases c1:n=nE
  case neg=>
   exact yD
  have g1:(n.toList==(⟨#[]⟩:BA).toList)=W:=(Pe)<|b_ c1;refine(ad g1) ?_;by_cases c7:(A ks:Int)>=2
  case neg=>
   exact(ad<|bW c7)<|M_
  exact(ad<|b_ c7)<|M_
 .refine(ZN) ?_;cases c2:k_ (.mk e g f)
  .exact sF
  refine(ZN) ?_;by_cases c6:v=0
  case neg=>
   exact tH
  refine(fQ<|nh c6)<|fS _ (isLower n b) Zs C<|(ZN)<|fS _ (isUpper n b) Zs C<|(ad i) ?_;cases c1:kt n
  .exact AH
  refine(ZN) ?_;by_cases c7:(A ks:Int)=1
  case neg=>
   have g7:((A ks:Int)==1)=af:=D4;refine(ad g7) ?_;have c8:bY (A ks:Int) 1 1=af:=DS;exact Fz.aK (by simp[hT,gN,l_,lB,jI,oK,dw,c1,c2,c6,c8])
  have g7:((A ks:Int)==1)=W:=D5;have c8:bY (A ks:Int) 1 1=W:=DT;have p:=ahM ns al am;exact(bQ g7)<|Fz.aK (by simp[hT,gN,l_,lB,jI,oK,dw,c1,c2,c6,c8,Bool.and_comm])
 .refine(ad j) ?_;by_cases c3:(A ns:Int)>0
  .exact sJ
  refine(ad<|bW c3) ?_;have c5:A ns=0:=Zo;cases c2:k_ (.mk e g f)
  .exact sF
  refine(ZN) ?_;by_cases c6:v=0
  case neg=>
   exact tH
  refine(fQ<|nh c6)<|fS _ (isLower n b) Zs C<|(ZN)<|fS _ (isUpper n b) Zs C<|(ad i) ?_;by_cases c1:n=nE
  case neg=>
   exact yD
  have g1:(n.toList==(⟨#[]⟩:BA).toList)=W:=(Pe)<|b_ c1;refine(ad g1) ?_;have g7:((A ks:Int)==3)=ah ((A ks:Int)>=3/\(A ks:Int)<=3):=Is;exact IN
 have G:(a==1)=af:=by simp[q]
 have ay:(a !=1)=W:=Yr q;have P:(a==2)=af:=Yr l;have ap:(a !=2)=W:=Yr l;have R:(a==3)=af:=Yr m;have aq:(a !=3)=W:=Yr m;have U:(a==4)=af:=Yr o;have ar:(a !=4)=W:=Yr o;have V:(a==5)=af:=Yr s;have aB:(a !=5)=W:=Yr s;have X:(a==6)=af:=Yr t;have aC:(a !=6)=W:=Yr t;have Y:(a==7)=af:=Yr u;have aD:(a !=7)=W:=Yr u;have Z:(a==8)=af:=Yr w;have aF:(a !=8)=W:=Yr w;have ak:(a==9)=af:=Yr y;have aH:(a !=9)=W:=Yr y;have K:(a==10)=af:=Yr k;have ao:(a !=10)=W:=Yr k;have M:(a==11)=af:=Yr r;have aA:(a !=11)=W:=Yr r;refine(ad<|JJ j ao) ?_;by_cases c3:(A ns:Int)>0
 .exact(ad<|b_ c3)<|Fz.aK (by
   have p:A ns≠0:=Zo;simp[hT,gN,jI,p,k])
 simp only[bW c3,ar,go_sem];cases c2:k_ (.mk e g f)
 .exact(ZN)<|Fz.aK (by simp[hT,gN,lB,c2,o])
 refine(ad<|JJ ap aq) ?_;by_cases c6:v=0
 case neg=>
  exact(ad<|tO c6)<|Fz.aK (by simp[hT,gN,oK,c6,l,m])
 refine(fQ<|nh c6)<|fS _ (isLower n b) Zs C<|(ZN)<|fS _ (isUpper n b) Zs C ?_;simp only[i,G,P,R,U,V,X,Y,Z,ak,K,M,go_sem];exact Fz.aK (by simp[hT,dw,bY,q,l,m,o,s,t,u,w,y,k,r];intro ax;omega)
def L.kd:L->Int
 |.mk k _ _ _ _ _=>k
def L.head(a:L):a.ds.head?=E (I<|L.kd a):=by cases a;rfl
def np(k:Int)(ks:bu):Bool:=ah (∀(i:Nat)(h:i<A ks),ah (L.kd ks[i]=10)=(ah (k=9)&&ah (0<i)))
def qe:L->Bool
 |.mk k v n ty ns ks=>hT (.mk k v n ty ns ks)&&np k ks
abbrev eU:L->Bool:=L.bh qe
def lz(t:L):Bool:=eU t&&ah (L.kd t≠10)&&ah (t.cC<=24/\t.num<=160)
theorem agt(a v:Int)(l:BA)(f:Int)(j:BA)(g:dp)(e:aX)(ks:bu)(w:l.size<=aE)(K:(J.mk f j g).sz<=1048576)(G:(J.mk f j g).ok)(z:A e<=aE)(D:∀m∈e,ByteArray.size m<=aE)
 (V:L.aZ ks<9000000000000000000) (u:A ks<=aE)
 (lP:∀o∈ks,az 139 [.ag o.ds]<|.tp [I (if eU o then o.cC else 0),I (if eU o then o.num else 0),B<|eU o]):
 az 139 [.ag<|L.ds<|.mk a v l (.mk f j g) e ks] (.tp [I (if eU (.mk a v l (.mk f j g) e ks)then(L.mk a v l (.mk f j g) e ks).cC else 0),I (if eU (.mk a v l (.mk f j g) e ks)then(L.mk a v l (.mk f j g) e ks).num else 0),B<|eU<|.mk a v l (.mk f j g) e ks]):=by
 unfold aE at u;have r:L.ds (.mk a v l (.mk f j g) e ks)=[I a,I v,S l,I f,S j,.sl 3<|J.ab g,.sl 1 (e.map λm=>[S m]),.sl 8<|L.ab ks]:=by simp[L.ds,J.ds,bG]
 have am:eU (.mk a v l (.mk f j g) e ks)=(hT (.mk a v l (.mk f j g) e ks)&&np a ks&&ks.all eU):=by rw[eU,L.bh,L.i1];rfl
 have al:(L.mk a v l (.mk f j g) e ks).cC=1+L.cX ks:=by rw[L.cC]
 have ak:(L.mk a v l (.mk f j g) e ks).num=1+L.aZ ks:=by rw[L.num]
 have aq:∀d∈([I a,I v,S l,I f,S j,.sl 3<|J.ab g,.sl 1 (e.map λm=>[S m]),.sl 8<|L.ab ks]:DL),Cl d:=by rw[<-r];exact L.cl _
 have M:=ahN a v l f j g e ks w K G z D;rw[r]at M;have bad:hT (.mk a v l (.mk f j g) e ks)=af\/np a ks=af\/ks.all eU=af->eU (.mk a v l (.mk f j g) e ks)=af:=λq=>by exact Zg<;>simp[q]
 rw[r];refine(ki [] [.tmp 2,.tmp 3,.tmp 4])<|(ZC) ?_;cases y:hT (.mk a v l (.mk f j g) e ks)
 .refine(ZN)<|Fz.lR ?_ Zs;simp[bad<|aG y]
 refine(ad<|L.b6 ks)<|jH 16 (A ks) (λk=>Fw.Inv 50 [(1,.cp [I a,I v,S l,I f,S j,.sl 3<|J.ab g,.sl 1 (e.map λm=>[S m]),.sl 8<|L.ab ks]),(14,L.sl ks),(15,I<|A ks),(2,I ((1+L.cX (Y k ks):Nat):Int)),(3,I ((1+L.aZ (Y k ks):Nat):Int))] ((Y k ks).all eU=W/\∀(i:Nat)(q:i<A ks),i<k->ah (L.kd ks[i]=10)=(ah (a=9)&&ah (0<i)))) C ⟨C,by simp[L.sl,ej,aw,L.cX,L.aZ],Zs,Zs⟩ ?_;rintro k⟨U,P,ao,ap,R⟩an h5⟨rfl,s,hp,BD⟩;simp only[bM,L.sl]at h5 s;obtain⟨eb,e0,e1,e2,e3,-⟩:=s;refine dN (JJ h5 e1) (λbw=>?_) λq=>?_
 .have hx:=aD bw;have vw:=L.bP ks[k];have s7:Y 8 ks[k].ds=ks[k].ds:=dj Zo;have F:(ks[k].ds).all cO=W:=(Pf)<|L.one ks[k];simp only[h5,eb,e0,L.bV ks k bw,vw,s7,F,L.head ks[k],go_sem];have X:∀b:Bool,(ah (L.kd ks[k]=10)=(ah (a=9)&&ah (0<k)))=True\/(ah (L.kd ks[k]=10)=(ah (a=9)&&ah (0<k)))=False:=λ_=>by by_cases hh:ah (L.kd ks[k]=10)=(ah (a=9)&&ah (0<k))<;>simp[hh]
  by_cases p:a=9
  .have f9:(a==9)=W:=by simp[p]
   refine(ad f9) ?_;have t:ah ((k:Int)>0)=ah (0<k):=by rw[lD];omega
   by_cases hq:ah (L.kd ks[k]=10)=(ah (a=9)&&ah (0<k))
   case neg=>
    have fq:((L.kd ks[k]==10) !=ah ((k:Int)>0))=W:=by exact Zg<;>cases ah (0<k)<;>simp
    exact PU
   have fq:((L.kd ks[k]==10) !=ah ((k:Int)>0))=af:=by
    rw[t,nv];simp only[p,rh,kf]at hq;rw[hq];simp
   exact M5
  have f9:(a==9)=af:=by simp[p]
  refine(ad f9) ?_;by_cases hq:ah (L.kd ks[k]=10)=(ah (a=9)&&ah (0<k))
  case neg=>
   have fq:((L.kd ks[k]==10) !=af)=W:=by exact Zg<;>simp
   exact PU
  have fq:((L.kd ks[k]==10) !=af)=af:=by
   rw[nv];simp only[p,mw,wh]at hq;rw[hq];simp
  exact M5
 obtain rfl:k=A ks:=Zo;rw[cc]at hp e2 e3;simp only[q,e2,e3,go_sem];refine Fz.lR ?_ Zs;have Z:np a ks=W:=by rw[np,ee];exact λi hi=>BD i hi hi
 exact Zg
def V'(a:L)(d:a.sz<=1048576)(b:a.ok):az 139 [.ag a.ds]<|.tp [I (if eU a then a.cC else 0),I (if eU a then a.num else 0),B<|eU a]:=by
 match a,d,b with
 |.mk h v i ⟨r,t,s⟩ j f,d,b=>
 simp only[L.ok]at b;have⟨k,l,m,o,p,q⟩:=b;simp only[L.sz]at d;have u:=L.vM f;exact agt h v i r t s j f k Zo l m o Zo p λg e=>V' g (Yo<|L.gz e)<|L.eJ q g e
def ahO(a:L)(i:a.sz<=1048576)(g:a.ok):az 83 [.ag a.ds]<|B<|lz a:=by
 have f:=L.bP a;have j:Y 8 a.ds=a.ds:=dj Zo;refine(cR) ?_;have:=V' a i g;refine(bQ<|JJ f j) ?_;cases d:eU a
 .exact(ZN)<|Fz.aK (by simp only[lz,d,wh])
 refine(ad<|L.head a) ?_;by_cases b:L.kd a=10
 .exact(ad<|nh b)<|Fz.aK (by simp[lz,b])
 refine(ad<|tO b) ?_;by_cases e:a.cC<=24
 .have f1:ah ((a.cC:Int)<=24)=W:=by simp;omega
  refine(ad f1) ?_;apply Fz.aK;rw[lz,d,kf,b_ b,kf,lD];omega
 have f1:ah ((a.cC:Int)<=24)=af:=by simp;omega
 exact(ad f1)<|Fz.aK (by simp[lz,e])
def lA(t:L)(d:Int)(a:Bool)(l:Int):Int:=if eU t=W/\ah (L.kd t=10)=a/\(t.cC:Int)<=d/\(t.num:Int)<=l then t.num else-1
theorem acI(b v:Int)(m:BA)(i:Int)(l:BA)(j:dp)(g:aX)(a:bu)(e:Int)(r:Bool)(f:Int)(a4:0<=e)(a3:e<=24)(a8:0<=f)(a9:f<=160)(aO:m.size<=aE)(aT:(J.mk i l j).sz<=1048576)(aS:(J.mk i l j).ok)(aQ:A g<=aE)(aR:∀w∈g,ByteArray.size w<=aE)
 (aN:A a<=aE)
 (ao:∀aB∈a,∀(e:Int)(r:Bool)(f:Int),0<=e->e<=24->0<=f->f<=160->az 365 [.cp aB.ds,I e,B r,I f] (I<|lA aB e r f)):
 az 365 [.cp<|L.ds<|.mk b v m (.mk i l j) g a,I e,B r,I f] (I<|lA (.mk b v m (.mk i l j) g a) e r f):=by
 unfold aE at aN;have an:=L.b6 a;have M:L.ds (.mk b v m (.mk i l j) g a)=[I b,I v,S m,I i,S l,.sl 3<|J.ab j,.sl 1 (g.map λw=>[S w]),.sl 8<|L.ab a]:=by simp[L.ds,J.ds,bG]
 have aq:eU (.mk b v m (.mk i l j) g a)=(hT (.mk b v m (.mk i l j) g a)&&np b a&&a.all eU):=by rw[eU,L.bh,L.i1];rfl
 have aK:(L.mk b v m (.mk i l j) g a).cC=1+L.cX a:=by rw[L.cC]
 have am:(L.mk b v m (.mk i l j) g a).num=1+L.aZ a:=by rw[L.num]
 have bd:∀d∈([I b,I v,S m,I i,S l,.sl 3<|J.ab j,.sl 1 (g.map λw=>[S w]),.sl 8<|L.ab a]:DL),Cl d:=by rw[<-M];exact L.cl _
 have aU:=acB b v m i l j g a aO aT aS aQ aR;rw[M]at aU;have ar:hT (.mk b v m (.mk i l j) g a)=(bY (A a) (dw b).1 (dw b).2&&gN (.mk b v m (.mk i l j) g a)):=C;have bad:hT (.mk b v m (.mk i l j) g a)=af->-1=lA (.mk b v m (.mk i l j) g a) e r f:=λs=>by
  unfold lA;rw[aC];rintro⟨al,_⟩;rw[aq,s]at al;cases al
 rw[M];refine(cR) ?_;have K:=acE b;refine(ZC) ?_;by_cases V:e<1
 .refine(ad<|b_ V) ?_;apply Fz.di;unfold lA;rw[aC];rintro⟨_,_,s,_⟩;omega
 refine(ad<|bW V) ?_;by_cases X:f<1
 .refine(ad<|b_ X) ?_;apply Fz.di;unfold lA;rw[aC];rintro⟨_,_,_,s⟩;omega
 refine(ad<|bW X) ?_;by_cases Z:ah (b=10)=r
 case neg=>
  have f3:((b==10) !=r)=W:=cq;refine(ad f3) ?_;apply Fz.di;unfold lA;rw[aC];rintro⟨_,s,_⟩;exact Z s
 have f3:((b==10) !=r)=af:=cq;refine(ad<|JJ f3 an)<|bR _ (vE _ _ _) Zs ?_;cases ak:bY (A a) (dw b).1 (dw b).2
 .exact(ZN)<|Fz.di<|bad (by rw[ar,ak];rfl)
 refine(ZC) ?_;cases aF:gN (.mk b v m (.mk i l j) g a)
 .exact(ZN)<|Fz.di<|bad Zg
 have aP:hT (.mk b v m (.mk i l j) g a)=W:=by rw[ar,ak,aF];rfl
 refine(ZN)<|jH 12 (A a) (λk=>Fw.Inv 89 [(0,.cp [I b,I v,S m,I i,S l,.sl 3<|J.ab j,.sl 1 (g.map λw=>[S w]),.sl 8<|L.ab a]),(1,I e),(3,I f),(11,I ((1+L.aZ (Y k a):Nat):Int))]<|(Y k a).all eU=W/\(∀(o:Nat)(s:o<A a),o<k->ah (L.kd a[o]=10)=(ah (b=9)&&ah (0<o)))/\((1+L.cX (Y k a):Nat):Int)<=e/\((1+L.aZ (Y k a):Nat):Int)<=f) C ⟨C,by simp[ej,aw,L.aZ],Zs,Zs,?_,?_⟩ ?_
 .simp[L.cX];omega
 .simp[L.aZ];omega
 rintro k⟨a2,a0,a',a_,a1⟩a7 z⟨rfl,ap,R,U,au,av⟩;simp only[bM]at z ap;obtain⟨e0,e1,e2,y,-⟩:=ap;refine dN (JJ z<|JJ e0 an) (λp=>?_) λs=>?_
 .have ax:=aD p;have aW:cb.wrap (e-1)=e-1:=dE _ Zo;have aA:cb.wrap (f-((1+L.aZ (Y k a):Nat):Int))=f-((1+L.aZ (Y k a):Nat):Int):=dE _ Zo;have aI:=L.t_ a<|k+1;have aH:=L.p6 a<|k+1;rw[L.mH a k p]at aI;rw[L.jY a k p]at aH;refine(fQ<|JJ z<|JJ e0<|JJ e1<|JJ (L.bV a k p) aW) ?_;have fin (ay:Bool) (a6:ay=(ah (b=9)&&ah (0<k))) (q:¬(eU a[k]=W/\ah (L.kd a[k]=10)=ay/\(a[k].cC:Int)<=e-1/\(a[k].num:Int)<=f-((1+L.aZ (Y k a):Nat):Int))):-1=lA (.mk b v m (.mk i l j) g a) e r f:=by
   unfold lA;rw[aC];rintro⟨aV,_,ba,bb⟩;rw[aq,aP,kf,cy,en,np,ee]at aV;exact Zg
  by_cases F:b=9
  .have f9:(b==9)=W:=by simp[F]
   have G:ah ((k:Int)>0)=(ah (b=9)&&ah (0<k)):=Yx F;have K:=ao a[k] ax (e-1) (ah (b=9)&&ah (0<k)) (f-((1+L.aZ (Y k a):Nat):Int)) Zo Zo Zo Zo;refine(bQ<|JJ f9<|JJ G<|JJ z<|JJ e2<|JJ y aA) ?_;by_cases q:eU a[k]=W/\ah (L.kd a[k]=10)=(ah (b=9)&&ah (0<k))/\(a[k].cC:Int)<=e-1/\(a[k].num:Int)<=f-((1+L.aZ (Y k a):Nat):Int)
   .have t:lA a[k] (e-1) (ah (b=9)&&ah (0<k)) (f-((1+L.aZ (Y k a):Nat):Int))=a[k].num:=by unfold lA;rw[aM q]
    have u:ah ((a[k].num:Int)<0)=af:=Zs;have m2:1+L.aZ (Y k a)+a[k].num=1+L.aZ (Y (k+1) a):=Yv<|L.jY a k p;simp only[t,u,z,y,wrap_add (1+L.aZ (Y k a)) a[k].num Zo,go_sem];refine nM ⟨C,OZ,by rw[lK p,R,q.1];rfl,λo D aL=>?_,?_,?_⟩
    .by_cases P:o<k
     .exact U o D P
     exact Zg
    .rw[L.mH a k p];omega
    rw[L.jY a k p];omega
   have t:lA a[k] (e-1) (ah (b=9)&&ah (0<k)) (f-((1+L.aZ (Y k a):Nat):Int))=-1:=by unfold lA;rw[aC q]
   have u:ah ((-1:Int)<0)=W:=C;exact(ad<|JJ t u)<|Fz.di<|fin _ C q
  have f9:(b==9)=af:=by simp[F]
  have G:(ah (b=9)&&ah (0<k))=af:=Yr F;have K:=ao a[k] ax (e-1) af (f-((1+L.aZ (Y k a):Nat):Int)) Zo Zo Zo Zo;refine(bQ<|JJ f9<|JJ e2<|JJ y aA) ?_;by_cases q:eU a[k]=W/\ah (L.kd a[k]=10)=af/\(a[k].cC:Int)<=e-1/\(a[k].num:Int)<=f-((1+L.aZ (Y k a):Nat):Int)
  .have t:lA a[k] (e-1) af (f-((1+L.aZ (Y k a):Nat):Int))=a[k].num:=by unfold lA;rw[aM q]
   have u:ah ((a[k].num:Int)<0)=af:=Zs;have aY:=wrap_add (1+L.aZ (Y k a)) a[k].num Zo;have m2:1+L.aZ (Y k a)+a[k].num=1+L.aZ (Y (k+1) a):=Yv<|L.jY a k p;simp only[t,u,z,y,aY,go_sem];refine nM ⟨C,OZ,by rw[lK p,R,q.1];rfl,λo D aL=>?_,?_,?_⟩
   .by_cases P:o<k
    .exact U o D P
    have K:o=k:=Zo;subst K;exact q.2.1.trans G.symm
   .rw[L.mH a k p];omega
   rw[L.jY a k p];omega
  have t:lA a[k] (e-1) af (f-((1+L.aZ (Y k a):Nat):Int))=-1:=by unfold lA;rw[aC q]
  have u:ah ((-1:Int)<0)=W:=C;exact(ad<|JJ t u)<|Fz.di<|fin _ G.symm q
 obtain rfl:k=A a:=Zo;rw[cc]at R au av y;refine(ad<|JJ s y) ?_;apply Fz.di;have a5:np b a=W:=by rw[np,ee];exact λo D=>U o D D
 unfold lA;rw[aM ⟨cq,Z,(Yy aK) au,(Yy am) av⟩,am]
def TH(e:L)(a:Int)(d:Bool)(b:Int)(p:0<=a)(o:a<=24)(q:0<=b)(r:b<=160)(g:e.sz<=1048576)(f:e.ok):az 365 [.cp e.ds,I a,B d,I b]<|I<|lA e a d b:=by
 match e,g,f with
 |.mk s v u ⟨F,J,G⟩ w t,g,f=>
 simp only[L.ok]at f;have⟨x,y,z,A,C,D⟩:=f;simp only[L.sz]at g;exact acI s v u F J G w t a d b p o q r x Zo y z A C λi h a d b j k l m=>TH i a d b j k l m (Yo<|L.gz h)<|L.eJ D i h
theorem agW(a:L):ah (lA a 24 af 160>0)=lz a:=by
 have:=L.B' a;unfold lA lz;exact Zg
def acJ(a:L)(d:a.sz<=1048576)(b:a.ok):az 344 [.cp a.ds]<|B<|lz a:=by
 refine(cR) ?_;have:=TH a 24 af 160 Zo Zo Zo Zo d b;exact(ZC)<|Fz.aK<|agW a
def abC(l:dp)(p:J->Bool)(a:bI)(aW aV:DL)(i:A l<=aE)(g:∀d∈aW,Cl d)(hc:∀d∈aV,Cl d)
 (f:∀b∈l,az a (aW++[.ag b.ds]++aV)<|B<|p b):az 269 [J.sl l,.fn a aW aV]<|I<|fT p l:=by
 unfold aE at i;refine(lj<|J.b6 l)<|lp 8 (A l) [0,1,7] (λk _ _ _ _=>(Y k l).any p=af) Zs ?_;rintro k q m s o _ r hp;refine ZL (λbw=>?_) λh=>?_
 .have e:=J.bP l[k];have j:Y 3 l[k].ds=l[k].ds:=dj Zo;simp only[J.bV l k bw,e,j,go_sem];exact bR _ (f l[k]<|aD bw) (by simp only[pH,bM];exact⟨⟨g,Cl.bC<|J.cl _,Zs⟩,hc⟩)<|wJ
 exact sK
def JB(l:dp)(b:J->Bool)(a:bI)(aW aV:DL)(j:A l<=aE)(i:∀d∈aW,Cl d)(f:∀d∈aV,Cl d)
 (g:∀e∈l,az a (aW++[.ag e.ds]++aV)<|B<|b e):az 199 [J.sl l,.fn a aW aV]<|B<|l.any b:=by
 refine(cR) ?_;have:=abC l b a aW aV j i f g;exact tJ
def abx(l:aF)(p:ae->Bool)(b:bI)(aW aV:DL)(i:A l<=aE)(g:∀d∈aW,Cl d)(hc:∀d∈aV,Cl d)
 (f:∀e∈l,az b (aW++[.ag e.ds]++aV)<|B<|p e):az 197 [ae.sl l,.fn b aW aV]<|I<|fT p l:=by
 unfold aE at i;refine(lj<|ae.b6 l)<|lp 8 (A l) [0,1,7] (λk _ _ _ _=>(Y k l).any p=af) Zs ?_;rintro k o j r m _ q hp;refine ZS (λa=>?_) λa=>?_
 .have bw:=rv a;simp only[a,ae.bV l k bw,ae.bP l[k],go_sem];exact bR _ (f l[k]<|aD bw) (by simp only[pH,bM];exact⟨⟨g,Cl.bC<|ae.cl _,Zs⟩,hc⟩)<|wJ
 have vA:=yF a;refine(ad a) ?_;apply Fz.di;exact HY
def ae.nm:ae->ByteArray
 |.mk n _=>n
def ae.cs:ae->List aJ
 |.mk _ c=>c
def aJ.nm:aJ->ByteArray
 |.mk n _=>n
def aJ.fs:aJ->List J
 |.mk _ f=>f
def zy(ds:aF)(n:BA):Int:=fT (λd=>ah<|ae.nm d=n) ds
def hY(ds:List ae):J->Bool
 |.mk k n _=>!(ah (k=2)&&ah (zy ds n<0))
def qC(ds:aF)(c:aJ):Bool:=kt (aJ.nm c)&&ah (A (aJ.fs c)<=3)&&(aJ.fs c).all λt=>h7 t&&J.bh (hY ds) t
def aar(d:ae)(a:BA):az 198 [.ag d.ds,.cp [S a]]<|B<|ah<|ae.nm d=a:=by
 have⟨e,b⟩:=d;refine(cR) ?_;simp only[ae.ds,go_sem];exact Fz.aK (by rw[ic];rfl)
def Si(b:aF)(a:BA)(e:A b<=aE):az 134 [ae.sl b,S a]<|I<|zy b a:=by
 exact(dH)<|bR _ (abx b (λd=>ah<|ae.nm d=a) _ [] [.cp [S a]] e Zs Zs λd _=>Yq<|aar d a) (by simp;exact ae.dl _)<|(ZN)<|Fz.di C
def Tz(ds:aF)(v:BA)(l:A ds<=aE):az 345 [ae.sl ds,S v]<|I<|zy ds v:=by
 unfold aE at l;refine(dH)<|lp 5 (A ds) [0,1] (λk _ _ _ _=>(Y k ds).any (λd=>ah<|ae.nm d=v)=af) Zs ?_;rintro k r m t o _ s hp;refine dN (ae.b6 ds) (λf=>?_) λh=>?_
 .have e:=ae.bV ds k f;obtain⟨d,j⟩:∃d,d=ds[k]:=⟨_,C⟩;have i:=o6 (p:=λd=>ah<|ae.nm d=v) f;have g:=@n3 ae (λd=>ah<|ae.nm d=v) ds k f hp;rw[<-j]at e i g;have⟨b,q⟩:=d;simp only[ae.ds]at e;refine(ad e) ?_;by_cases a:b=v
  .have f1:(b.toList==v.toList)=W:=by rw[ic];exact b_ a
   exact(ad f1)<|Fz.di (g (by simp[ae.nm,a])).symm
  have f1:(b.toList==v.toList)=af:=by rw[ic];exact bW a
  refine(ad f1) ?_;refine dI ?_;rw[i,hp];simp[ae.nm,a]
 exact P4
def ZP(a:aF)(p:A a<=aE)(e:Int)(f:BA)(d:dp)(m:A d<=aE)(q:∀b∈d,az 201 [ae.sl a,.ag b.ds]<|B<|J.bh (hY a) b):
 az 201 [ae.sl a,.ag<|J.ds<|.mk e f d] (B<|J.bh (hY a)<|.mk e f d):=by
 have j:J.bh (hY a) (.mk e f d)=(hY a (.mk e f d)&&d.all (J.bh<|hY a)):=by rw[J.bh,J.i1]
 have l b (s:b∈d):az 270 ([]++[.ag b.ds]++[.cp [ae.sl a]])<|B<|!J.bh (hY a) b:=by
  have o:=J.bP b;have r:Y 3 b.ds=b.ds:=dj Zo;simp only[aY,bg];refine(cR) ?_;have:=q b s;exact(bQ<|JJ o r)<|Fz.aK C
 refine(dH) ?_;by_cases g:e=2
 .have f1:(e==2)=W:=by simp[g]
  have:=Si a f p;refine(bQ f1) ?_;cases i:ah (zy a f<0)
  case true=>
   exact(ad i)<|Fz.aK (by rw[j];simp only[hY,g,i,rh,xT,wi,wh])
  exact(ad i)<|(nl<|JB d (λb=>!J.bh (hY a) b) _ [] [.cp [ae.sl a]] m Zs Zs l)<|Fz.aK (by rw[j,B8];simp only[hY,g,i,CU,CV,kf])
 have f1:(e==2)=af:=by simp[g]
 exact(ad f1)<|(nl<|JB d (λb=>!J.bh (hY a) b) _ [] [.cp [ae.sl a]] m Zs Zs l)<|Fz.aK (by rw[j,B8];simp[hY,g])
def declared(a:aF)(e:A a<=aE)(d:J)(b:d.ok):az 201 [ae.sl a,.ag d.ds]<|B<|J.bh (hY a) d:=by
 match d,b with
 |.mk h j i,b=>
 simp only[J.ok]at b;exact ZP a e h j i b.2.1 λf g=>declared a e f<|J.eJ b.2.2 f g
theorem acv(b:aF)(m:A b<=aE)(e:Int)(f:BA)(a:dp)(r:A a<=aE)(q:e=2->a=[])(o:∀i∈a,az 308 [ae.sl b,.ag i.ds]<|B<|J.bh (hY b) i):
 az 308 [ae.sl b,.ag<|J.ds<|.mk e f a] (B<|J.bh (hY b)<|.mk e f a):=by
 unfold aE at r;have p:J.bh (hY b) (.mk e f a)=(hY b (.mk e f a)&&a.all (J.bh<|hY b)):=by rw[J.bh,J.i1]
 refine(dH) ?_;by_cases g:e=2
 .have f1:(e==2)=W:=by simp[g]
  have:=Tz b f m;refine(bQ f1) ?_;apply Fz.aK;rw[p,q g];simp only[hY,g,rh,kf,Ak,xT];exact Zg
 have f1:(e==2)=af:=Yr g;have y:hY b (.mk e f a)=W:=by simp[hY,g]
 refine(ad f1)<|lp 5 (A a) [0,3] (λd _ _ _ _=>(Y d a).all (J.bh<|hY b)=W) Zs ?_;rintro d w t D u _ z hp;refine dN (J.b6 a) (λbw=>?_) λj=>?_
 .have l:=J.bP a[d];have s:Y 3 a[d].ds=a[d].ds:=dj Zo;have:=o a[d]<|aD bw;refine(bQ<|JJ (J.bV a d bw)<|JJ l s) ?_;cases hq:J.bh (hY b) a[d]
  .exact(ZN)<|Fz.aK Zg
  exact Ia
 obtain rfl:d=A a:=Zo;rw[cc]at hp;exact(ad j)<|Fz.aK Zg
def FK(a:aF)(h:A a<=aE)(e:J)(d:e.ok)(b:fY e=W):az 308 [ae.sl a,.ag e.ds]<|B<|J.bh (hY a) e:=by
 match e,d,b with
 |.mk k m l,d,b=>
 simp only[J.ok]at d;rw[fY,J.bh,J.i1,cy,en]at b;refine acv a h k m l d.2.1 (λj=>?_) λg i=>FK a h g (J.eJ d.2.2 g i)<|b.2 g i;have f:=b.1;simp only[ii,j]at f;simp at f;exact f.2
def ahJ(b:aF)(q:A b<=aE)(d:aJ)(r:d.sz<=1048576)(i:d.ok):az 135 [ae.sl b,.ag d.ds]<|B<|qC b d:=by
 have⟨o,fs⟩:=d;simp only[aJ.ok]at i;simp only[aJ.sz]at r;have⟨s,t,u⟩:=i;have p a (l:a∈fs):az 200 ([]++[.ag a.ds]++[.cp [ae.sl b]])<|B<|!(h7 a&&J.bh (hY b) a):=by
  have g:=J.bP a;have j:Y 3 a.ds=a.ds:=dj Zo;have w:=J.gz l;have m:=J.eJ u a l;simp only[aY,bg];refine(cR) ?_;have e:=Mf a Zo m;refine(bQ<|JJ g j) ?_;cases f:h7 a
  .exact(ZN)<|Fz.aK C
  have e:=declared b q a m;exact(bQ<|JJ g j)<|Fz.aK Zs
 refine(cR) ?_;simp only[aJ.ds,go_sem];have e:=isUpper o s;refine(ZC) ?_;cases f:kt o
 .exact(ZN)<|Fz.aK (by simp[qC,aJ.nm,f])
 refine(ZN) ?_;by_cases c2:(A fs:Int)>3
 .exact P5
 refine(ad<|bW c2)<|(nl<|JB fs (λa=>!(h7 a&&J.bh (hY b) a)) _ [] [.cp [ae.sl b]] t Zs Zs p) ?_;apply Fz.aK;rw[B8];have e:A fs<=3:=Zo;simp[qC,aJ.nm,aJ.fs,f,e]
theorem acs(b:aF)(w:A b<=aE)(d:aJ)(D:d.sz<=1048576)(p:d.ok):az 362 [ae.sl b,.ag d.ds]<|B<|qC b d:=by
 have⟨k,fs⟩:=d;simp only[aJ.ok]at p;simp only[aJ.sz]at D;have⟨F,G,K⟩:=p;have I:=G;unfold aE at I;refine(cR) ?_;simp only[aJ.ds,go_sem];have f:=CB k F;refine(ZC) ?_;cases l:kt k
 .exact(ZN)<|Fz.aK (by simp[qC,aJ.nm,l])
 refine(ZN) ?_;by_cases c2:(A fs:Int)>3
 .exact P5
 refine(ad<|bW c2) ?_;have u:qC b (.mk k fs)=fs.all λe=>h7 e&&J.bh (hY b) e:=by
  have f:A fs<=3:=Zo;simp[qC,aJ.nm,aJ.fs,l,f]
 refine lp 5 (A fs) [0,3] (λa _ _ _ _=>(Y a fs).all (λe=>h7 e&&J.bh (hY b) e)=W) Zs ?_;rintro a R M V P _ S i;refine ZL (λg=>?_) λt=>?_
 .have r:=aD g;have m:=J.bV fs a g;have o:=J.bP fs[a];have q:Y 3 fs[a].ds=fs[a].ds:=dj Zo;have U:=J.gz r;have s:=J.eJ K _ r;have f:=LM fs[a] Zo s;refine(bQ<|JJ m<|JJ o q) ?_;cases j:h7 fs[a]
  .exact(ZN)<|Fz.aK Zg
  have y:fY fs[a]=W:=by simp only[h7,cy]at j;exact j.1
  have f:=FK b w fs[a] s y;refine(bQ<|JJ m<|JJ o q) ?_;cases z:J.bh (hY b) fs[a]
  .exact(ZN)<|Fz.aK Zg
  exact(ZN)<|dI (by rw[lK g,i,j,z];rfl)
 obtain rfl:a=A fs:=Zo;rw[cc]at i;exact(ad t)<|Fz.aK (by rw[u,i])
def Sk(a:BA):∀b:aX,(a∈b/\∃f,f<A b/\kp .string (.string a) (b.map Value.string)=E (E f))\/(a∉b/\kp .string (.string a) (b.map Value.string)=E Q)
 |[]=>aj ⟨Zs,C⟩
 |x::b=>by
  by_cases d:a=x
  .refine aG ⟨Yr d,0,Zs,?_⟩;have i:=(MapKept.bytes_beq a x).2 d;simp[kp,Instr.sameNow,i]
  have e:(a==x)=af:=by
   rcases e:a==x with _|_
   .rfl
   exact absurd ((MapKept.bytes_beq a x).1 e) d
  obtain⟨g,f,j,h⟩|⟨g,h⟩:=Sk a b
  .exact aG ⟨Yr g,f+1,co,by simp[kp,Instr.sameNow,e,h]⟩
  exact aj ⟨by simp[d,g],by simp[kp,Instr.sameNow,e,h]⟩
def pd(d:ae):aX:=(ae.cs d).map aJ.nm
def jS(ds:aF)(i k:Nat):aX:=ao ((Y i ds).map pd)++((ds.drop i).head?.map λd=>Y k<|pd d).getD []
def wV(ds:aF)(i:Nat)(d:ae):Bool:=kt (ae.nm d)&&!ah (ae.nm d=ur)&&!((Y i ds).any λe=>ah<|ae.nm e=ae.nm d)&&ah (1<=A (ae.cs d))&&ah (A (ae.cs d)<=4)
def vl(d:aF)(e:Nat)(a:BA)(b:li):wV d e (.mk a b)=(kt a&&!ah (a=ur)&&!((Y e d).any λf=>ah<|ae.nm f=a)&&ah (1<=A b)&&ah (A b<=4)):=rfl
def tR(ds:aF)(i k:Nat)(c:aJ):Prop:=qC ds c=W/\aJ.nm c∉jS ds i k
def t'(ds:aF)(i:Nat)(d:ae):Prop:=wV ds i d=W/\∀(k:Nat)(h:k<A (ae.cs d)),tR ds i k (ae.cs d)[k]
def q0(ds:aF):Prop:=A ds<=4/\∀(i:Nat)(h:i<A ds),t' ds i ds[i]
def IR(a:aF):jS a 0 0=[]:=by
 simp only[jS,ww,eO,fX,aY,ra];cases a<;>simp
def EL(a:aF)(b:Nat)(d:b<A a):(a.drop b).head?=E a[b]:=Yf<|ml d
def Qg(a:aF)(b d:Nat)(e:b<A a)(f:d<A (ae.cs a[b])):jS a b (d+1)=jS a b d++[aJ.nm (ae.cs a[b])[d]]:=by
 simp only[jS,EL a b e,eE,kx];rw[dm (by simp[pd];exact f),dy];simp[pd]
def Qf(a:aF)(b:Nat)(d:b<A a):jS a b (A<|ae.cs a[b])=jS a (b+1) 0:=by
 simp only[jS,EL a b d,eE,kx];have e:ao ((Y (b+1) a).map pd)=ao ((Y b a).map pd)++pd a[b]:=by
  rw[dm d];simp only[bX,b4,eO,eR,dT,fX,de]
 have f:A (pd a[b])=A (ae.cs a[b]):=by simp[pd]
 rw[<-f,cc,e];cases g:(a.drop (b+1)).head?<;>simp only[Di,eE,MV,kx,ww,de]
def Xl(a:aF)(b:Nat):jS a b 0=ao ((Y b a).map pd):=by
 simp only[jS];cases d:(a.drop b).head?<;>simp
def ZO(b:aF)(a:Nat):Y a (ae.ab b)=ae.ab (Y a b):=by simp[ae.cu]
theorem abp(e:ae->Bool)(a:aF)(h:Nat)(o:h<A a)(j:e a[h]=W):(fT e a=(h:Int))↔(Y h a).any e=af:=by
 constructor
 .intro w;rcases f:(Y h a).any e with _|_
  .rfl
  rw[m']at f;have⟨t,l,m⟩:=f;obtain⟨b,i,rfl⟩:=List.mem_take_iff_getElem.1 l;have g:∃d,∃g:d<A a,d<=b/\e a[d]=W/\(Y d a).any e=af:=by
   have s:∀k,∀b(i:b<A a),b<=k->e a[b]=W->∃d,∃g:d<A a,d<=b/\e a[d]=W/\(Y d a).any e=af:=by
    intro k
    induction k with
    |zero=>
     exact λb i r j=>Zg
    |succ k y=>
     intro b i r j;rcases f:(Y b a).any e with _|_
     .exact⟨b,i,bJ _,j,f⟩
     rw[m']at f;have⟨t,l,m⟩:=f;obtain⟨z,x,rfl⟩:=List.mem_take_iff_getElem.1 l;exact Zg
   exact s b b Zo (bJ _) m
  have⟨d,g,u,p,q⟩:=g;have:=n3 g q p;omega
 exact λf=>n3 o f j
theorem ahL(a:aF)(V:A a<=aE)(aN:ae.fr a<=1048576)(ar:ae.gZ a):az 80 [ae.sl a]<|B<|ah<|q0 a:=by
 unfold aE at V;refine(dH) ?_;by_cases c0:(A a:Int)>4
 .exact M7
 refine(ad<|bW c0)<|lp 14 (A a) [0,12,13,3] (λi _ g M q=>g 11=E ⟨0,0,1,fu (A<|jS a i 0)<|B W,E<|(jS a i 0).map Value.string⟩/\∀(j:Nat)(h:j<A a),j<i->t' a j a[j]) ⟨by simp[ai,IR],Zs⟩ ?_;rintro i am g M q _ aI⟨m,hp⟩;refine ZS (λh=>?_) λh=>?_
 .have f:=rv h;have Z:=aD f;have u:=ae.bV a i f;have aH:=EL a i f;have X:=ae.gz Z;have F:=ae.eJ ar _ Z;have e:=Qg a i;have y:=Qf a i f;have bad:¬t' a i a[i]->af=ah (q0 a):=λz=>by
   symm;rw[jo];rintro⟨_,D⟩;exact z (D i f)
  have next:t' a i a[i]->∀(j:Nat)(h:j<A a),j<i+1->t' a j a[j]:=λhd j hj ap=>Np
  obtain⟨d,hd⟩:∃d,d=a[i]:=⟨_,C⟩;have e:=λb=>e b f;rw[<-hd]at u X F bad next y e
  have⟨dn,dc⟩:=d;simp only[ae.ok]at F;simp only[ae.sz]at X;have⟨ay,aO,aA⟩:=F;simp only[ae.cs]at y e;have aq:((i:Int)<=(A a:Int))=True:=dM Zo;simp only[ae.ds,aJ.sl]at u;refine(fQ<|JJ h u)<|fS _ (isUpper dn ay) Zs C ?_;cases c1:kt dn
  .exact Nn
  refine(ZN) ?_;by_cases c2:dn=ur
  .exact Pp
  have f2:(dn.toList==(⟨#[73,110,116]⟩:BA).toList)=af:=(Pe)<|bW c2;have:=Si (Y i a) dn m_;refine(bQ<|JJ f2<|JJ aq @ZO) ?_;have f3:ah (zy (Y i a) dn>=0)=((Y i a).any λt=>ah<|ae.nm t=dn):=zj _;refine(ad f3) ?_;cases P:(Y i a).any λt=>ah (ae.nm t=dn)
  case true=>
   exact(ZN)<|Fz.aK<|bad (by rintro⟨h,_⟩;rw[vl,P]at h;simp at h)
  refine(ZN) ?_;by_cases c4:(A dc:Int)<1
  .exact PJ
  refine(ad<|bW c4) ?_;by_cases c5:(A dc:Int)>4
  .exact PK
  have ao:wV a i (.mk dn dc)=W:=by
   have aB:1<=A dc:=Zo;have aC:A dc<=4:=Zo;rw[vl,c1,P,bW c2,b_ aB,b_ aC];rfl
  refine(ad<|bW c5)<|fG 52 (A dc) (λb=>Fw.M1 71 [(0,ae.sl a),(12,ae.sl a),(13,I<|A a),(14,I i),(3,.mp 11 0),(50,aJ.sl dc),(51,I<|A dc)] λg M q=>g 11=E ⟨0,0,1,fu (A<|jS a i b)<|B W,E<|(jS a i b).map Value.string⟩/\∀(j:Nat)(h:j<A dc),j<b->tR a i j dc[j]) C ⟨C,by simp only[ae.sl,aJ.sl,bM,dt,hU,im,aw,↓reduceIte,bj,reduceCtorEq,kV,lE,e7,eQ],Yu m,Zs⟩ ?_;rintro b am g M q _ aL⟨m,au⟩;refine ZL (λp=>?_) λh=>?_
  .have ak:=aD p;have w:=aJ.bV dc b p;have U:=aJ.gz ak;have R:=aJ.eJ aA _ ak;have e:=e b p;have r:¬tR a i b dc[b]->af=ah (q0 a):=λz=>bad (by rintro⟨_,D⟩;exact z (D b p));have al:tR a i b dc[b]->∀(j:Nat)(h:j<A dc),j<b+1->tR a i j dc[j]:=λhd j hj ap=>Zg;obtain⟨s,an⟩:∃s,s=dc[b]:=⟨_,C⟩;rw[<-an]at w U R r al e;have⟨l,o⟩:=s;have Fl:aJ.ds (.mk l o)=[S l,.sl 3<|J.ab o]:=by simp[aJ.ds,J.sl]
   have vc:=ahJ a V (.mk l o) (by simp only[aJ.sz]at U⊢;omega) R;rw[Fl]at w vc;simp only[aJ.nm]at e;refine(ad w)<|bR _ vc O0 ?_;cases d1:qC a (.mk l o)
   .exact(ZN)<|Fz.aK<|r (by rintro⟨h,_⟩;rw[d1]at h;cases h)
   obtain⟨G,j,ax,K⟩|⟨G,K⟩:=Sk l<|jS a i b
   .have av:(fu (A<|jS a i b)<|B W)[j]?=E (B W):=by rw[getElem?_replicate,aM ax]
    simp only[m,K,av,go_sem];exact Fz.aK<|r (by rintro⟨_,h⟩;exact h G)
   simp only[m,K,ss,go_sem];refine nM ⟨C,by simp only[bM,dt,hU,im,aw,↓reduceIte,bj,reduceCtorEq,kV,lE,e7,eQ],by simp only[ai,↓reduceIte,e,b9,bX,b4,eO,dC,gR,ew,Dc],al ⟨d1,G⟩⟩
  obtain rfl:b=A dc:=Zo;refine(ad h) ?_;refine nM ⟨C,?_,by rw[<-y];exact m,next ⟨ao,λj hj=>au j hj hj⟩⟩;exact IJ
 exact P_
def yj(H:a')(x:D)(l:aX):Prop:=∃a gn,(a=11\/a=91)/\x=.ms a gn (A l)/\H a=E ⟨gn,9,1,l.map λs=>S s,Q⟩
theorem yj.aA{H H':a'}(d:yj H eq hH)(h:∀a,(a=11\/a=91)->H' a=H a):yj H' eq hH:=by
 have⟨a,b,e,f,g⟩:=d;exact⟨a,b,e,f,cq⟩
def acx(a:aF)(an:A a<=aE)(a2:ae.fr a<=1048576)(aN:ae.gZ a):az 341 [ae.sl a]<|B<|ah<|q0 a:=by
 have ap:=an;unfold aE at an;have ak:=ae.b6 a;refine(lj ak) ?_;by_cases c0:(A a:Int)>4
 .exact M7
 refine(ad<|bW c0)<|lp 4 (A a) [0] (λi e b q _=>yj b (e 3) (jS a i 0)/\∀(j:Nat)(h:j<A a),j<i->t' a j a[j]) ⟨⟨11,0,aG C,by simp[aw,IR],by simp[ai,IR]⟩,Zs⟩ ?_;rintro i e b q U _ a0⟨o,hp⟩;refine lm ak (λh=>?_) λh=>?_
 .have g:=rv h;have au:=aD g;have z:=ae.bV a i g;have ar:=ae.gz au;have K:=ae.eJ aN _ au;have qH:=Qg a i;have u:=Qf a i g;have bad:¬t' a i a[i]->af=ah (q0 a):=λp=>by
   symm;rw[jo];rintro⟨_,hh⟩;exact p (hh i g)
  have next:t' a i a[i]->∀(j:Nat)(h:j<A a),j<i+1->t' a j a[j]:=λhd j hj aC=>Np
  have al:=λaS hp=>abp aS a i g hp;obtain⟨d,hd⟩:∃d,d=a[i]:=⟨_,C⟩;have qH:=λk=>qH k g;rw[<-hd]at z ar K bad next u qH al
  have⟨dn,dc⟩:=d;simp only[ae.ok]at K;simp only[ae.sz]at ar;have⟨aO,aP,aR⟩:=K;simp only[ae.cs]at u qH;have aQ:=aP;unfold aE at aQ;have D:=aJ.b6 dc;simp only[ae.ds,aJ.sl]at z;have r:=CB dn aO;refine(bQ<|JJ h z) ?_;cases c1:kt dn
  .exact Nn
  refine(ZN) ?_;by_cases c2:dn=ur
  .exact Pp
  have f2:(dn.toList==(⟨#[73,110,116]⟩:BA).toList)=af:=(Pe)<|bW c2;have r:=Tz a dn ap;refine(bQ f2) ?_;have am:=al (λf=>ah<|ae.nm f=dn) (by simp[ae.nm]);by_cases s:zy a dn=(i:Int)
  case neg=>
   have y:((Y i a).any λf=>ah<|ae.nm f=dn)=W:=by
    cases p:(Y i a).any λf=>ah (ae.nm f=dn)
    .exact absurd (am.2 p) s
    rfl
   exact(ad<|tO s)<|Fz.aK<|bad (by rintro⟨h,_⟩;rw[vl,y]at h;simp at h)
  have y:((Y i a).any λf=>ah<|ae.nm f=dn)=af:=am.1 s;simp only[nh s,D,go_sem];by_cases c4:(A dc:Int)<1
  .exact PJ
  simp only[bW c4,D,go_sem];by_cases c5:(A dc:Int)>4
  .exact PK
  have aB:wV a i (.mk dn dc)=W:=by
   have aU:1<=A dc:=Zo;have aV:A dc<=4:=Zo;rw[vl,c1,y,bW c2,b_ aU,b_ aV];rfl
  refine(ad<|bW c5)<|fG 6 (A dc) (λk=>Fw.Hs 92 [(0,ae.sl a),(4,I i),(5,.rf 5 (q 5) 0)] λb e _=>b 5=E ⟨q 5,96,2,[S dn,.sl 2<|aJ.ab dc],Q⟩/\yj b (e 3) (jS a i k)/\∀(j:Nat)(h:j<A dc),j<k->tR a i j dc[j]) C ⟨C,Oi,ep,?_,Zs⟩ ?_
  .exact o.aA λaW M=>by obtain rfl|rfl:=M<;>simp[ai]
  rintro k e b a3 U _ a1⟨s4,o,aq⟩;refine lm (JJ s4 D) (λh=>?_) λh=>?_
  .have Bz:=rv h;have av:=aD Bz;have g1:=aJ.bV dc k Bz;have Z:=aJ.gz av;have X:=aJ.eJ aR _ av;have ay:=qH;have qH:=qH k Bz;have I1:¬tR a i k dc[k]->af=ah (q0 a):=λp=>bad (by rintro⟨_,hh⟩;exact p (hh k Bz));have UK:tR a i k dc[k]->∀(j:Nat)(h:j<A dc),j<k+1->tR a i j dc[j]:=λhd j hj aC=>by
    by_cases Kb:j<k
    .exact aq j hj Kb
    have r:j=k:=Zo;subst r;exact hd
   obtain⟨w,hc⟩:∃w,w=dc[k]:=⟨_,C⟩;rw[<-hc]at g1 Z X I1 UK qH;have⟨cn,t⟩:=w;have Fl:aJ.ds (.mk cn t)=[S cn,.sl 3<|J.ab t]:=by simp[aJ.ds,J.sl]
   have vc:=acs a ap (.mk cn t) (by simp only[aJ.sz]at Z⊢;omega) X;rw[Fl]at g1 vc;simp only[aJ.nm]at qH;simp only[h,s4,g1,go_sem];refine bR _ vc O0 ?_;cases d1:qC a (.mk cn t)
   .exact(ZN)<|Fz.aK<|I1 (by rintro⟨h,_⟩;rw[d1]at h;cases h)
   refine(ZN) ?_;have aM:A (jS a i k)<=1048576:=by
    have aT:∀(l:aF),A (ao<|l.map pd)<=ae.fr l:=by
     intro l
     induction l with
     |nil=>simp
     |cons x l P=>
      have⟨a5,a4⟩:=x;simp only[b4,dT,b9,ae.lS,kS]at P⊢;simp only[ae.sz,pd,ae.cs,bE];omega
    have aZ:A (jS a i<|A dc)<=ae.fr a:=by
     rw[u,Xl];exact gS (aT _)<|ae.agi a<|i+1
    have aL:∀m,k+m<=A dc->A (jS a i k)<=A (jS a i<|k+m):=by
     intro m
     induction m with
     |zero=>intro _;exact bJ _
     |succ m P=>
      intro aI;have aX:=P Zo;have ax:=ay (k+m) Zo;rw[show k+(m+1)=k+m+1 by omega,ax,b9];omega
    have r:=aL (A dc-k) Zo;rw[show k+(A dc-k)=A dc by omega]at r;omega
   obtain⟨nm,Kd⟩:∃nm,nm=jS a i k:=⟨_,C⟩;rw[<-Kd]at o qH aM;refine fG 7 (A nm) (λm=>Fw.Hs 92 [(0,ae.sl a),(4,I i),(5,.rf 5 (q 5) 0),(6,I k)] λb e _=>b 5=E ⟨q 5,96,2,[S dn,.sl 2<|aJ.ab dc],Q⟩/\yj b (e 3) nm/\(Y m nm).any (λx=>ah<|x=cn)=af) C ⟨C,Oi,s4,?_,Zs⟩ ?_
   .simpa[aw]using o
   rintro m e b KX U _ aI⟨s4,⟨aW,V,M,e3,Bm⟩,Bp⟩;obtain rfl|rfl:=M
   .refine dN e3 (λzf=>?_) λh=>?_
    .have G:((m:Int)<(A nm:Int))=True:=dM Zo;have F:(List.drop m (nm.map λR=>S R)).head?=E (S nm[m]):=Yr zf;refine(fQ<|JJ e3<|JJ Bm<|JJ s4<|JJ g1<|JJ G<|JJ F h_) ?_;by_cases hc:nm[m]=cn
     .exact Pg
     have f1:(nm[m].toList==cn.toList)=af:=by rw[ic];exact bW hc
     refine(ad f1) ?_;refine nM ⟨C,?_,s4,⟨_,V,aG C,Ye e3,Bm⟩,by rw[o6 zf,Bp];simp[hc]⟩;exact IJ
    exact N4
   refine dN e3 (λzf=>?_) λh=>?_
   .have G:((m:Int)<(A nm:Int))=True:=dM Zo;have F:(List.drop m (nm.map λR=>S R)).head?=E (S nm[m]):=Yr zf;refine(fQ<|JJ e3<|JJ Bm<|JJ s4<|JJ g1<|JJ G<|JJ F h_) ?_;by_cases hc:nm[m]=cn
    .exact Pg
    have f1:(nm[m].toList==cn.toList)=af:=by rw[ic];exact bW hc
    refine(ad f1) ?_;refine nM ⟨C,?_,s4,⟨_,V,aj C,Ye e3,Bm⟩,by rw[o6 zf,Bp];simp[hc]⟩;exact IJ
   exact N4
  have aH:=yF h;subst aH;refine(ad h) ?_;refine nM ⟨C,?_,by rw[<-u];simpa[aw]using o,next ⟨aB,λj hj=>aq j hj hj⟩⟩;simp only[bM,dt,hU,im,aw,↓reduceIte,reduceCtorEq,kV,lE,e7,eQ]
 exact P_
def S6(l:aO)(p:aa->Bool)(a:bI)(aW aV:DL)(i:A l<=aE)(g:∀d∈aW,Cl d)(hc:∀d∈aV,Cl d)
 (f:∀b∈l,az a (aW++[.ag b.ds]++aV)<|B<|p b):az 84 [aa.sl l,.fn a aW aV]<|I<|fT p l:=by
 unfold aE at i;refine(lj<|aa.b6 l)<|lp 8 (A l) [0,1,7] (λk _ _ _ _=>(Y k l).any p=af) Zs ?_;rintro k q m s o _ r hp;refine ZL (λbw=>?_) λh=>?_
 .have e:=aa.bP l[k];have j:Y 12 l[k].ds=l[k].ds:=dj Zo;simp only[aa.bV l k bw,e,j,go_sem];exact bR _ (f l[k]<|aD bw) (by simp only[pH,bM];exact⟨⟨g,Cl.bC<|aa.cl _,Zs⟩,hc⟩)<|wJ
 exact sK
def aa.nm:aa->ByteArray
 |.mk n _ _=>n
def aa.ty:aa->J
 |.mk _ t _=>t
def aa.bd:aa->L
 |.mk _ _ b=>b
def eV(ds:aO)(n:BA):Int:=fT (λd=>ah<|aa.nm d=n) ds
def aas(d:aa)(a:BA):az 85 [.ag d.ds,.cp [S a]]<|B<|ah<|aa.nm d=a:=by
 have⟨e,⟨i,k,j⟩,⟨f,v,b,⟨l,o,m⟩,h,g⟩⟩:=d;refine(cR) ?_;simp only[aa.ds,go_sem];exact Fz.aK (by rw[ic];rfl)
def Bd(e:aF)(b:aO)(a:BA)(f:A b<=aE):az 43 [.ag [ae.sl e,aa.sl b],S a]<|I<|eV b a:=by
 exact(dH)<|bR _ (S6 b (λd=>ah<|aa.nm d=a) _ [] [.cp [S a]] f Zs Zs λd _=>Yq<|aas d a) (by simp;exact aa.dl _)<|(ZN)<|Fz.di C
def BR(ds:aO)(v:BA)(l:A ds<=aE):az 35 [aa.sl ds,S v]<|I<|eV ds v:=by
 unfold aE at l;refine(dH)<|lp 5 (A ds) [0,1] (λk _ _ _ _=>(Y k ds).any (λd=>ah<|aa.nm d=v)=af) Zs ?_;rintro k s m u o _ t hp;refine dN (aa.b6 ds) (λf=>?_) λh=>?_
 .have e:=aa.bV ds k f;obtain⟨d,j⟩:∃d,d=ds[k]:=⟨_,C⟩;have i:=o6 (p:=λd=>ah<|aa.nm d=v) f;have g:=@n3 aa (λd=>ah<|aa.nm d=v) ds k f hp;rw[<-j]at e i g;have⟨b,r,q⟩:=d;simp only[aa.ds,bg,aY]at e;refine(ad e) ?_;by_cases a:b=v
  .have f1:(b.toList==v.toList)=W:=by rw[ic];exact b_ a
   exact(ad f1)<|Fz.di (g (by simp[aa.nm,a])).symm
  have f1:(b.toList==v.toList)=af:=by rw[ic];exact bW a
  refine(ad f1) ?_;refine dI ?_;rw[i,hp];simp[aa.nm,a]
 exact P4
def Ko(f:aa->Bool):∀(a:aO)(b:Nat)(h:b<A a),f a[b]=W->0<=fT f a/\fT f a<=b
 |[],b,h,_=>jr
 |d::a,0,_,e=>by simp at e;simp[fT,e]
 |d::a,b+1,h,e=>by
  have:=Ko f a b (Yq h)<|Yq e;unfold fT;split
  .exact⟨Zo,Zo⟩
  split<;>omega
def qS:bH->Prop
 |.mk V ds=>q0 V/\1<=A ds/\A ds<=8/\∀(i:Nat)(h:i<A ds),iC (aa.nm ds[i])=W/\eV ds (aa.nm ds[i])=(i:Int)/\h7 (aa.ty ds[i])=W/\lz (aa.bd ds[i])=W
theorem WH(f:bH)(ao:f.sz<=1048576)(D:f.ok):az 42 [.ag f.ds]<|B<|ah<|qS f:=by
 have⟨g,ds⟩:=f;simp only[bH.ok]at D;simp only[bH.sz]at ao;have⟨aq,ar,P,av⟩:=D;have au:=P;unfold aE at au;have m:=aa.b6 ds;refine(cR) ?_;simp only[bH.ds,go_sem];have:=ahL g aq Zo ar;refine(ZC) ?_;by_cases c0:q0 g
 case neg=>
  exact Qa
 simp only[b_ c0,m,go_sem];by_cases q:(A ds:Int)<1
 .refine(ad<|b_ q) ?_;apply Fz.aK;symm;rw[jo];rintro⟨_,h,_⟩;omega
 simp only[bW q,m,go_sem];by_cases r:(A ds:Int)>8
 .refine(ad<|b_ r) ?_;apply Fz.aK;symm;rw[jo];rintro⟨_,_,h,_⟩;omega
 simp only[bW r,m,go_sem];refine lp 24 (A ds) [1,22,23] (λi _ _ _ _=>∀(j:Nat)(h:j<A ds),j<i->iC (aa.nm ds[j])=W/\eV ds (aa.nm ds[j])=(j:Int)/\h7 (aa.ty ds[j])=W/\lz (aa.bd ds[j])=W) Zs ?_;rintro i aF aB aM aC _ aI hp;refine ZL (λl=>?_) λh=>?_
 .have M:=aD l;have k:=aa.bV ds i l;have G:=aa.gz M;have p:=aa.eJ av _ M;have o:=Ko (λV=>ah<|aa.nm V=aa.nm ds[i]) ds i l Zs;have bad:¬(iC (aa.nm ds[i])=W/\eV ds (aa.nm ds[i])=(i:Int)/\h7 (aa.ty ds[i])=W/\lz (aa.bd ds[i])=W)->af=ah (qS<|.mk g ds):=λZ=>by
   symm;rw[jo];rintro⟨_,_,_,am⟩;exact Z (am i l)
  have next:(iC (aa.nm ds[i])=W/\eV ds (aa.nm ds[i])=(i:Int)/\h7 (aa.ty ds[i])=W/\lz (aa.bd ds[i])=W)->∀(j:Nat)(h:j<A ds),j<i+1->iC (aa.nm ds[j])=W/\eV ds (aa.nm ds[j])=(j:Int)/\h7 (aa.ty ds[j])=W/\lz (aa.bd ds[j])=W:=λw j hj aL=>Zg
  obtain⟨d,w⟩:∃d,d=ds[i]:=⟨_,C⟩;rw[<-w]at k G p bad next o
  have⟨e,b,a⟩:=d;simp only[aa.ok]at p;simp only[aa.sz]at G;have⟨ax,ay,aA⟩:=p;simp only[aa.nm,aa.ty,aa.bd]at bad next o
  have K:=J.bP b;have u:=L.bP a;have ab:Y 8 a.ds=a.ds:=dj Zo;have y:aa.ds (.mk e b a)=[S e]++(b.ds++a.ds):=by simp[aa.ds]
  have F:([S e]++(b.ds++a.ds)).all cO=W:=by rw[<-y,en];exact aa.one _
  rw[y]at k;have ak:List.drop 1 ([S e]++(b.ds++a.ds))=b.ds++a.ds:=C;have z:A ([S e]++(b.ds++a.ds))=12:=by simp[K,u]
  have I:Y 12 ([S e]++(b.ds++a.ds))=[S e]++(b.ds++a.ds):=dj Zo;simp only[bg,aY]at k F ak z I;have al:List.drop 3 (b.ds++a.ds)=a.ds:=cq;have ap:Y 3 (b.ds++a.ds)=b.ds:=cq;have an:(3<=A (b.ds++a.ds))=True:=dM<|Yr K;have X:(b.ds++a.ds).all cO=W:=by simpa[cO,Value.oneCell']using F
  have:=isLower e ax;refine(bQ<|JJ k<|JJ I<|JJ z X) ?_;cases R:iC e
  .exact(ZN)<|Fz.aK<|bad Zg
  have:=Bd g ds e P;refine(ZC) ?_;have aH:0<=eV ds e/\eV ds e<=i:=o;by_cases s:eV ds e<(i:Int)
  .exact(ad<|b_ s)<|Fz.aK<|bad (by rintro⟨_,h,_⟩;omega)
  have:=Mf b Zo ay;refine(bQ<|JJ (bW s)<|JJ ap an) ?_;cases t:h7 b
  .exact(ZN)<|Fz.aK<|bad (by rintro⟨_,_,h,_⟩;rw[t]at h;cases h)
  have:=ahO a Zo aA;refine(bQ<|JJ al<|JJ u ab) ?_;cases U:lz a
  .exact(ZN)<|Fz.aK<|bad Zg
  refine(ZN) ?_;refine nM ⟨C,?_,next ⟨R,Zo,t,U⟩⟩;exact It
 exact PW
theorem acK(f:bH)(U:f.sz<=1048576)(u:f.ok):az 307 [.cp f.ds]<|B<|ah<|qS f:=by
 have⟨m,ds⟩:=f;simp only[bH.ok]at u;simp only[bH.sz]at U;have⟨Z,ab,z,al⟩:=u;have ak:=z;unfold aE at ak;have s:=aa.b6 ds;refine(cR) ?_;simp only[bH.ds,go_sem];have:=acx m Z Zo ab;refine(ZC) ?_;by_cases c0:q0 m
 case neg=>
  exact Qa
 simp only[b_ c0,s,go_sem];refine bR _ (vE _ _ _) Zs ?_;cases p:bY (A ds) 1 8
 .refine(ZN) ?_;apply Fz.aK;symm;rw[jo];rintro⟨_,h,au,_⟩;rw[bY,jo]at p;omega
 rw[bY,ee]at p;refine(ZN)<|lp 3 (A ds) [0] (λi _ _ _ _=>∀(j:Nat)(h:j<A ds),j<i->iC (aa.nm ds[j])=W/\eV ds (aa.nm ds[j])=(j:Int)/\h7 (aa.ty ds[j])=W/\lz (aa.bd ds[j])=W) Zs ?_;rintro i ar ap ay aq _ av hp;refine dN s (λl=>?_) λh=>?_
 .have y:=aD l;have k:=aa.bV ds i l;have w:=aa.gz y;have o:=aa.eJ al _ y;have t:=Ko (λG=>ah<|aa.nm G=aa.nm ds[i]) ds i l Zs;have bad:¬(iC (aa.nm ds[i])=W/\eV ds (aa.nm ds[i])=(i:Int)/\h7 (aa.ty ds[i])=W/\lz (aa.bd ds[i])=W)->af=ah (qS<|.mk m ds):=λI=>by
   symm;rw[jo];rintro⟨_,_,_,P⟩;exact I (P i l)
  have next:(iC (aa.nm ds[i])=W/\eV ds (aa.nm ds[i])=(i:Int)/\h7 (aa.ty ds[i])=W/\lz (aa.bd ds[i])=W)->∀(j:Nat)(h:j<A ds),j<i+1->iC (aa.nm ds[j])=W/\eV ds (aa.nm ds[j])=(j:Int)/\h7 (aa.ty ds[j])=W/\lz (aa.bd ds[j])=W:=λr j hj ax=>Zg
  obtain⟨d,r⟩:∃d,d=ds[i]:=⟨_,C⟩;rw[<-r]at k w o bad next t
  have⟨e,a,b⟩:=d;simp only[aa.ok]at o;simp only[aa.sz]at w;have⟨am,an,ao⟩:=o;simp only[aa.nm,aa.ty,aa.bd]at bad next t
  have V:=J.bP a;have M:aa.ds (.mk e a b)=[S e]++(a.ds++b.ds):=by simp[aa.ds]
  rw[M]at k;simp only[bg,aY]at k;have K:List.drop 3 (a.ds++b.ds)=b.ds:=cq;have X:Y 3 (a.ds++b.ds)=a.ds:=cq;have R:(3<=A (a.ds++b.ds))=True:=dM<|Yr V;refine(fQ k)<|fS _ (GG e am) Zs C ?_;cases D:iC e
  .exact(ZN)<|Fz.aK<|bad Zg
  have:=BR ds e z;refine(ZC) ?_;by_cases g:eV ds e=(i:Int)
  case neg=>
   exact(ad<|tO g)<|Fz.aK<|bad (by rintro⟨_,h,_⟩;exact g h)
  simp only[nh g,X,R,go_sem];refine fS _ (LM a Zo an) (by simp;exact J.cl _) C ?_;cases q:h7 a
  .exact(ZN)<|Fz.aK<|bad (by rintro⟨_,_,h,_⟩;rw[q]at h;cases h)
  refine(ad K)<|fS _ (acJ b Zo ao) (by simp;exact L.cl _) C ?_;cases F:lz b
  .exact(ZN)<|Fz.aK<|bad Zg
  refine(ZN) ?_;refine nM ⟨C,?_,next ⟨D,g,q,F⟩⟩;simp only[bM,dt,hU,im,aw,↓reduceIte,reduceCtorEq,kV,lE,e7,eQ,bj]
 exact PW
def k4(l:aX)(v:BA):Bool:=l.any λx=>ah<|x=v
def cW(k:Int)(n:BA)(ns:aX)(i:Nat):aX:=if k=4\/k=7/\i=1 then[n]else if k=10 then ns else[]
mutual
def fN:L->List ByteArray->List ByteArray->List ByteArray
 |.mk k v n ty ns ks,sc,out=>gW k n ns ks 0 sc (if ah (k=1)&&!k4 sc n&&!k4 out n then out++[n]else out)
def gW(k:Int)(n:ByteArray)(ns:List ByteArray):List L->Nat->List ByteArray->List ByteArray->List ByteArray
 |[],_,_,out=>out
 |t::l,i,sc,out=>gW k n ns l (i+1) sc (fN t (sc++cW k n ns i) out)
end
theorem E9{k:Int}{n:BA}{ns sc:aX}:∀(d:bu)(b a:Nat)(e:aX)(f:b<A d),gW k n ns (Y (b+1) d) a sc e=fN d[b] (sc++cW k n ns (a+b)) (gW k n ns (Y b d) a sc e)
 |t::d,0,a,e,f=>by simp[gW]
 |t::d,b+1,a,e,f=>by
  have:=E9 (k:=k) (n:=n) (ns:=ns) (sc:=sc) d b (a+1) (fN t (sc++cW k n ns a) e)<|Yq f
  grind [gW]
mutual
def Bj:∀(t:L)(sc out:List ByteArray),A (fN t sc out)<=A out+t.num
 |.mk k v n ty ns ks,sc,out=>by
  rw[fN,L.num];have:=y' k n ns ks 0 sc (if ah (k=1)&&!k4 sc n&&!k4 out n then out++[n]else out);split at this<;>rename_i h<;>simp only[h,bx]<;>simp at this⊢<;>omega
def y'(k:Int)(n:ByteArray)(ns:List ByteArray):∀(l:List L)(i:Nat)(sc out:List ByteArray),A (gW k n ns l i sc out)<=A out+L.aZ l
 |[],i,sc,out=>by simp[gW,L.aZ]
 |t::l,i,sc,out=>by
  rw[gW,L.aZ];have a:=Bj t (sc++cW k n ns i) out;have b:=y' k n ns l (i+1) sc (fN t (sc++cW k n ns i) out);omega
end
theorem I2(d:Int)(e:BA)(a:aX)(b:Nat):A (cW d e a b)<=A a+1:=by
 grind [cW]
def zR(a:aX):∀r∈a.map λb=>[S b],A r=1:=Zs
theorem I6(k v:Int)(n:BA)(b:Int)(e:BA)(d:dp)(ns:aX)(a:bu)(i:Nat):az 124 [.ag<|L.ds<|.mk k v n (.mk b e d) ns a,I i]<|bG<|cW k n ns i:=Z9
theorem Ky(k v:Int)(n:BA)(b:Int)(e:BA)(d:dp)(ns:aX)(a:bu)(i:Nat):az 281 [.cp<|L.ds<|.mk k v n (.mk b e d) ns a,I i]<|bG<|cW k n ns i:=Z9
theorem aaU(m:Nat)(d:m<=1099511627776):gE aB 383 [bp,I m] 9 1 []:=by
 refine gE.ey [] [.tmp 4] C C Zk Zt C Zs Zs ?_;have f0:ah ((m:Int)<0)=af:=Zs;have a:cb.wrap ((m:Int)-0)=(m:Int):=DE;have b:cb.wrap ((0:Int)-0)=0:=C;simp only[f0,a,b,go_sem];by_cases c0:m=0
 .exact Nf
 have f1:ah ((m:Int)>0)=W:=co;simp only[f1,oY,go_sem];exact⟨⟨Zo,Zo,l3⟩,aj ⟨22,⟨0,9,1,ao<|fu m [S ByteArray.empty],Q⟩,C,C,C,C,⟨_,C⟩,C⟩⟩
abbrev R(l:aX):cB:=l.map λs=>[S s]
def HD(a:aX):ao (R a)=a.map S:=by induction a with
 |nil=>rfl
 |cons d a b=>simp only[b4,dT,bg,aY,Al,rj];exact b
def pM(a:aX):A (R a)=A a:=Zs
def HA(a b:aX):R (a++b)=R a++R b:=Zs
def Xh(a:aX):∀r∈R a,∀d∈r,Cl d:=Zs
def pc(a:aX):Cl<|.sl 1<|R a:=mE a
def Dt(a:aX):∀d∈ao (R a),Cl d:=by rw[HD];simp
def aL.J3(a:aL gt fd g4 1 (R hH) eq):Fz fd eq<|.sl 1<|R hH:=a.fz Zd (zR hH) Zs
def RN(ps:List<|aX)(O:A ps<=1048576)(F:A (ao ps)<=1099511627776):az 378 [.sl 1 (ps.map λa=>[.sl 1<|R a])]<|.sl 1<|R<|ao ps:=by
 have r:A (ps.map λa=>[D.sl 1<|R a])=A ps:=Zs;have t k:A (ao<|Y k ps)<=A (ao ps):=PN;have s:∀k(d:k<A ps),ao (Y (k+1) ps)=ao (Y k ps)++ps[k]:=λk d=>by
  rw[dm d,eR];simp
 refine(wB r [1000033] [.tmp 2])<|jH 11 (A ps) (λk=>Fw.Inv 36 [(0,.sl 1 (ps.map λa=>[D.sl 1<|R a])),(9,.sl 1 (ps.map λa=>[D.sl 1<|R a])),(10,I<|A ps),(3,I (A (ao<|Y k ps):Nat))] True) C ⟨C,uU,trivial⟩ ?_;rintro k⟨env,i,p,K,q⟩B b⟨rfl,f,-⟩;simp only[bM]at b f;obtain⟨e0,e9,EM,j,-⟩:=f;refine dN (JJ b EM) (λg=>?_) λd=>?_
 .have m:(ps.map λa=>[D.sl 1<|R a])[k]?=E [D.sl 1<|R ps[k]]:=by simp[g]
  have z:A (R ps[k])=A ps[k]:=Zs;have o:=t<|k+1;have h2:=s k g;rw[h2,b9]at o;have L:cb.wrap ((A (ao<|Y k ps):Nat)+(A ps[k]:Nat):Int)=((A (ao<|Y (k+1) ps):Nat):Int):=PS;have f0:ah (((A (ao<|Y (k+1) ps):Nat):Int)<0)=af:=Zs;simp only[b,e9,j,m,z,L,f0,go_sem];exact Ps
 obtain rfl:k=A ps:=Zo;rw[cc]at j;refine(ad<|JJ d j)<|tS 9 1 [] (aaU _ F) Zs ?_;intro i p S e y;refine(ad<|JJ e0 r) ?_;have w:cE aB 75=E (9,1,16):=Zk;refine jH 27 (A ps) (λk=>Fw.fF 36 [(25,.sl 1 (ps.map λa=>[D.sl 1<|R a])),(26,I<|A ps)] λenv i p q=>aL [24,33] i 9 1 (R<|ao<|Y k ps)<|env 6) C ⟨C,bU,by simpa[aw]using e.sub Zs⟩ ?_;rintro k⟨env,i,p,K,q⟩B b⟨rfl,f,e⟩;simp only[bM]at b f e;obtain⟨EO,EP,-⟩:=f;refine dN (JJ b EP) (λg=>?_) λd=>?_
 .have m:(ps.map λa=>[D.sl 1<|R a])[k]?=E [D.sl 1<|R ps[k]]:=by simp[g]
  have o:=t<|k+1;have h2:=s k g;rw[h2,b9]at o;simp only[b,EO,m,go_sem];refine GK.u5 (aq:=R<|ao<|Y k ps) (bD:=R ps[k]) Zd w (by simpa[aw]using e) (zR _) qu (by intro J;simp only[aw,bx];rw[J]) Iq (by rw[pM,pM];omega) (by rw[pM,pM];unfold aE;omega) λM P U x he G y=>?_;have u:x 27=I k:=by rw[he 27 Zd];simp[aw,b]
  refine(ad u) ?_;refine nM ⟨C,OP,?_⟩;simp only[aw,bx];rw[h2,HA];exact G.sub Zs
 obtain rfl:k=A ps:=Zo;rw[cc]at e;exact(ad d)<|aL.J3 e
theorem TJ(a b:aX)(g:A a+A b<=1099511627776):az 311 [.sl 1<|R a,.sl 1<|R b]<|.sl 1<|R<|a++b:=by
 have d:(R a).flatten.all cO=W:=Iq;have f:(R b).flatten.all cO=W:=Iq;have e:A (ao<|R a)=A a:=by rw[HD];simp
 refine(cR) ?_;simp only[pM a,pM b,d,f,e,h_,go_sem];refine⟨⟨Zo,l3⟩,⟨Zo,l3⟩,Fz.aq (aq:=R<|a++b) C C C Zd Zs (zR _) Zg (Xh _)⟩
theorem Xm(k v:Int)(n:BA)(tk:Int)(tn:BA)(aQ:dp)(ns:aX)(ks:bu)(q:k=1->ks=[])(z:A ks<=1048576)(sc out:aX)
 (o:A sc+(L.mk k v n (.mk tk tn aQ) ns ks).sz+1<=1099511627776) (r:A out+(L.mk k v n (.mk tk tn aQ) ns ks).num<=1099511627776)
 (lP:∀a∈ks,∀f e:aX,A f+a.sz+1<=1099511627776->A e+a.num<=1099511627776->jR aB 367 [.ag a.ds,.sl 1<|R f] [] 9 1 (R e) (R<|fN a f e)):
 jR aB 367 [.ag<|L.ds<|.mk k v n (.mk tk tn aQ) ns ks,.sl 1<|R sc] [] 9 1 (R out) (R<|fN (.mk k v n (.mk tk tn aQ) ns ks) sc out):=by
 have w:=L.b6 ks;have m:cE aB 75=E (9,1,16):=Zk;simp only[L.sz]at o;simp only[L.num]at r;have p:=EI sc n jC;have g:=EI out n jC;simp only[bG]at p g;refine jR.Cc [1000030] [.tmp 6] C C Zk Zt C Zs (Dt out) (Dt _) ?_;intro a H B T0 t hx;have d:fN (.mk k v n (.mk tk tn aQ) ns ks) sc out=gW k n ns ks 0 sc (if ah (k=1)&&!k4 sc n&&!k4 out n then out++[n]else out):=C;refine(ZN) ?_;by_cases b:k=1
 .have f1:(k==1)=W:=by simp[b]
  refine(bQ f1) ?_;cases i:sc.any λa=>ah (a=n)
  .refine(ZN)<|yO [.sl 1<|R out,S n] _ g C OX C ?_;cases l:out.any λa=>ah (a=n)
   .refine(ZN) ?_;have s:fN (.mk k v n (.mk tk tn aQ) ns ks) sc out=out++[n]:=by rw[d,q b];simp[gW,k4,i,l,b]
    refine GK.cM (eC.eS (S:=[2]) (aq:=R out) (bD:=R [n]) m ((Pa)<|hx.aA bF) (zR _) hF Zs nT (by rw[pM,pM];simp;omega) Oh λH' n' x' s8 hH=>(ZN) ?_);rw[s,HA];exact s8.close
   refine(ZN) ?_;have xf:fN (.mk k v n (.mk tk tn aQ) ns ks) sc out=gW k n ns ks 0 sc out:=by rw[d];simp[k4,l]
   exact Z3
  refine(ZN) ?_;have xf:fN (.mk k v n (.mk tk tn aQ) ns ks) sc out=gW k n ns ks 0 sc out:=by rw[d];simp[k4,i]
  exact Z3
 have f1:(k==1)=af:=by simp[b]
 refine(ad f1) ?_;have xf:fN (.mk k v n (.mk tk tn aQ) ns ks) sc out=gW k n ns ks 0 sc out:=by rw[d];simp[b]
 refine lp 34 (A ks) [1,3,32,33] (λj env H n' T=>T=T0/\aL [2,47] H 9 1 (R<|gW k n ns (Y j ks) 0 sc out) (env 2)) ⟨C,by simpa[aw,ej,gW]using hx.sub Zs⟩ ?_;rintro j env H n' T _ hj⟨rfl,hx⟩;generalize e2:env 2=y;rw[e2]at hx;refine ZL (λbw=>?_) λh=>?_
 .have rR:=aD bw;have vw:=L.bP ks[j];have s7:Y 8 ks[j].ds=ks[j].ds:=dj Zo;have S1:(ks[j].ds).all cO=W:=(Pf)<|L.one ks[j];have rU:=L.gz rR;have u:=I2 k n ns j;have J':=y' k n ns (Y j ks) 0 sc out;have Ke:=L.jY ks j bw;have qI:=L.p6 ks<|j+1;have Bt:=I6 k v n tk tn aQ ns ks j;have Bv:=RN [sc,cW k n ns j] Zs (by simp only[dT,fX,de,b9];omega);have ug:=lP ks[j] rR (sc++cW k n ns j) (gW k n ns (Y j ks) 0 sc out) wG Zo;exact Nz
 exact P9
theorem w_{v:Int}{ty:J}(b:eU (.mk a3 v gs ty hH h1)=W):(a3=1->h1=[])/\∀a∈h1,eU a=W:=by
 grind [L.bh,L.i1,List.all_eq_true,qe,hT,bY,dw,eq_nil_of_length_eq_zero]
theorem Qi(a:L)(f:eU a=W)(d b:aX)(e:A d+a.sz+1<=1099511627776)(g:A b+a.num<=1099511627776):jR aB 367 [.ag a.ds,.sl 1<|R d] [] 9 1 (R b)<|R<|fN a d b:=by
 match a,f,e,g with
 |.mk o v p (.mk t w u) q h,f,e,g=>
 have⟨j,k⟩:=w_ f;have l:A h<=1048576:=by
  grind [L.bh,qe,hT,bY,dw]
 exact Xm o v p t w u q h j l d b e g λi m s r=>Qi i (k i m) s r
def aaC(a:L)(d:eU a=W)(k:a.sz<=1048576):az 348 [.ag a.ds]<|.sl 1<|R<|fN a [] []:=by
 have b:=L.bP a;have e:Y 8 a.ds=a.ds:=dj Zo;have j:=L.xC a;refine(lj<|JJ b e)<|va [] [.ag a.ds,bp] [] _ 9 1 _ _ ((Qi a d [] [] ch ch).FV .rfl .nil ⟨Cl.bC<|L.cl _,pc _⟩) C .nil (by simp;exact(L.cl a)) ?_;intro g l m f i;exact(ZN)<|aL.J3 f
def acD(k v:Int)(n:BA)(tk:Int)(tn:BA)(aQ:dp)(ns:aX)(ks:bu)(D:A ks<=1048576)(sc out:aX)
 (u:A sc+(L.mk k v n (.mk tk tn aQ) ns ks).sz+1<=1099511627776) (z:A out+(L.mk k v n (.mk tk tn aQ) ns ks).num<=1099511627776)
 (lP:∀a∈ks,∀p l:aX,A p+a.sz+1<=1099511627776->A l+a.num<=1099511627776->jR aB 283 [.cp a.ds,.sl 1<|R p] [] 9 1 (R l) (R<|fN a p l)):
 jR aB 283 [.cp<|L.ds<|.mk k v n (.mk tk tn aQ) ns ks,.sl 1<|R sc] [] 9 1 (R out) (R<|fN (.mk k v n (.mk tk tn aQ) ns ks) sc out):=by
 have rQ:=L.b6 ks;have t:cE aB 75=E (9,1,16):=Zk;simp only[L.sz]at u;simp only[L.num]at z;have⟨r,w,b⟩:=Kx sc n jC;have⟨s,q,d⟩:=Kx out n jC;simp only[bG]at w q;refine jR.Cc [1000037] [.tmp 6] C C Zk Zt C Zs (Dt out) (Dt _) ?_;intro a H G T0 B hx;have f:fN (.mk k v n (.mk tk tn aQ) ns ks) sc out=gW k n ns ks 0 sc (if ah (k=1)&&!k4 sc n&&!k4 out n then out++[n]else out):=C;refine(ZN) ?_;by_cases e:k=1
 .have f1:(k==1)=W:=by simp[e]
  refine(bQ f1) ?_;cases g:sc.any λa=>ah (a=n)
  .have m:ah (r<0)=W:=by rw[g]at b;simp at b;simpa using b
   refine(ad m)<|yO [.sl 1<|R out,S n] _ q C OX C ?_;cases i:out.any λa=>ah (a=n)
   .have o:ah (s<0)=W:=by rw[i]at d;simp at d;simpa using d
    refine(ad o)<|GK.cM (eC.eS (S:=[2]) (aq:=R out) (bD:=R [n]) t ((Pa)<|hx.aA bF) (zR _) hF Zs nT (by rw[pM,pM];simp;omega) Oh λH' n' x' s8 hH=>?_);have xf:fN (.mk k v n (.mk tk tn aQ) ns ks) sc out=gW k n ns ks 0 sc (out++[n]):=by rw[f];simp[k4,g,i,e]
    rw[<-HA]at s8;have F:A (out++[n])+L.aZ ks<=1099511627776:=by rw[b9,oW];omega
    try simp only[go_sem]
    refine lp 7 (A ks) [0,1] (λj env H n' T=>T=T0/\aL [2,37,59] H 9 1 (R<|gW k n ns (Y j ks) 0 sc<|out++[n]) (env 2)) ⟨C,by simpa[aw,ej,gW]using(s8).sub (S':=[2,37,59]) Zs⟩ ?_;rintro j env H n' T _ hj⟨rfl,hx⟩;generalize e2:env 2=y;rw[e2]at hx;refine dN rQ (λbw=>?_) λh=>?_
    .have rR:=aD bw;have g0:=L.bV ks j bw;have rU:=L.gz rR;have Bq:=I2 k n ns j;have J':=y' k n ns (Y j ks) 0 sc<|out++[n];have Ke:=L.jY ks j bw;have qI:=L.p6 ks<|j+1;have Bt:=Ky k v n tk tn aQ ns ks j;have Bv:=TJ sc (cW k n ns j) Zo;have ug:=lP ks[j] rR (sc++cW k n ns j) (gW k n ns (Y j ks) 0 sc<|out++[n]) wG Zo;have mK:=E9 (k:=k) (n:=n) (ns:=ns) (sc:=sc) ks j 0 (out++[n]) bw;exact ND
    exact P9
   have o:ah (s<0)=af:=by rw[i]at d;simp at d;simpa using d
   refine(ad o) ?_;have xf:fN (.mk k v n (.mk tk tn aQ) ns ks) sc out=gW k n ns ks 0 sc out:=by rw[f];simp[k4,i]
   exact Z8
  have m:ah (r<0)=af:=by rw[g]at b;simp at b;simpa using b
  refine(ad m) ?_;have xf:fN (.mk k v n (.mk tk tn aQ) ns ks) sc out=gW k n ns ks 0 sc out:=by rw[f];simp[k4,g]
  exact Z8
 have f1:(k==1)=af:=by simp[e]
 refine(ad f1) ?_;have xf:fN (.mk k v n (.mk tk tn aQ) ns ks) sc out=gW k n ns ks 0 sc out:=by rw[f];simp[e]
 exact Z8
theorem Kz(a:L)(f:eU a=W)(d b:aX)(e:A d+a.sz+1<=1099511627776)(g:A b+a.num<=1099511627776):jR aB 283 [.cp a.ds,.sl 1<|R d] [] 9 1 (R b)<|R<|fN a d b:=by
 match a,f,e,g with
 |.mk m v o (.mk s u t) p h,f,e,g=>
 have⟨w,j⟩:=w_ f;have k:A h<=1048576:=by
  grind [L.bh,qe,hT,bY,dw]
 exact acD m v o s u t p h k d b e g λi l r q=>Kz i (j i l) r q
def rO(d:ae)(n:BA):Bool:=(ae.cs d).any λc=>ah<|aJ.nm c=n
def hI(V:aF)(n:BA):Int:=fT (λd=>rO d n) V
def xL(d:ae)(n:BA):Int:=fT (λc=>ah<|aJ.nm c=n)<|ae.cs d
def kH(z:Int)(V:aF)(n:BA):Int:=if hI V n<0 then z else match V[(hI V n).toNat]? with|some d=>xL d n|none=>z
def JA(a:am<A a5)(b:hI a5 gs=(am:Int)):kH a3 a5 gs=xL a5[am] gs:=by
 unfold kH;rw[b,aC Zo];simp[a]
def Zn(a:hI a5 gs=-1):kH a3 a5 gs=a3:=by unfold kH;rw[a];rfl
def y8(V:aF)(n:BA)(w:A V<=1048576)(q:∀d∈V,A (ae.cs d)<=1048576):az 123 [ae.sl V,S n]<|.tp [I<|hI V n,I<|kH 0 V n]:=by
 refine(wB (ae.b6 V) [] [.tmp 4,.tmp 5])<|lp 12 (A V) [1,10,11] (λi _ _ _ _=>(Y i V).any (λd=>rO d n)=af) Zs ?_;rintro i o l y m _ k hp;refine ZL (λb=>?_) λh=>?_
 .have f:=ae.bV V i b;have j:=q _<|aD b;have Fq:=@n3 ae (λd=>rO d n) V i b hp;have Fy:=o6 (p:=λd=>rO d n) b;have Fk (k:hI V n=(i:Int)):=(JA b k:kH 0 V n=_);obtain⟨d,s⟩:∃d,d=V[i]:=⟨_,C⟩;rw[<-s]at f j Fq Fy Fk;have⟨dn,cs⟩:=d;simp only[ae.cs]at j;simp only[ae.ds,aJ.sl]at f;refine(ad<|JJ f<|aJ.b6 cs)<|lp 20 (A cs) [1,10,11,12,6,18,19] (λt _ _ _ _=>(Y t cs).any (λa=>ah<|aJ.nm a=n)=af) Zs ?_;rintro t o l z m _ x hq;refine ZL (λe=>?_) λh=>?_
  .have g:=aJ.bV cs t e;have Fs:=@n3 aJ (λa=>ah<|aJ.nm a=n) cs t e hq;have FA:=o6 (p:=λa=>ah<|aJ.nm a=n) e;have Ft:=aD e;obtain⟨a,r⟩:∃a,a=cs[t]:=⟨_,C⟩;rw[<-r]at g Fs FA Ft;have⟨cn,u⟩:=a;simp only[aJ.ds,J.sl]at g;exact(ad g)<|N3
  exact PT
 exact PE
def vF(V:aF)(n:BA)(x:A V<=1048576)(r:∀d∈V,A (ae.cs d)<=1048576):az 167 [ae.sl V,S n]<|.tp [I<|hI V n,I<|kH (-1) V n]:=by
 refine(ia [] [.tmp 4,.tmp 5])<|lp 6 (A V) [1,0] (λi _ _ _ _=>(Y i V).any (λd=>rO d n)=af) Zs ?_;rintro i q m z o _ l hp;refine dN (ae.b6 V) (λb=>?_) λh=>?_
 .have e:=ae.bV V i b;have j:=r _<|aD b;have Fq:=@n3 ae (λd=>rO d n) V i b hp;have Fy:=o6 (p:=λd=>rO d n) b;have Fk (l:hI V n=(i:Int)):=(JA b l:kH (-1) V n=_);obtain⟨d,u⟩:∃d,d=V[i]:=⟨_,C⟩;rw[<-u]at e j Fq Fy Fk;have⟨dn,cs⟩:=d;simp only[ae.cs]at j;simp only[ae.ds,aJ.sl]at e;refine(ZN)<|lp 7 (A cs) [1,0,6] (λt _ _ _ _=>(Y t cs).any (λa=>ah<|aJ.nm a=n)=af) Zs ?_;rintro t q m B o _ y hq;refine dN (JJ e<|aJ.b6 cs) (λf=>?_) λh=>?_
  .have g:=aJ.bV cs t f;have Fs:=@n3 aJ (λa=>ah<|aJ.nm a=n) cs t f hq;have FA:=o6 (p:=λa=>ah<|aJ.nm a=n) f;have Ft:=aD f;obtain⟨a,s⟩:∃a,a=cs[t]:=⟨_,C⟩;rw[<-s]at g Fs FA Ft;have⟨cn,w⟩:=a;simp only[aJ.ds,J.sl]at g;exact(ad<|JJ e g)<|N3
  exact PT
 exact PE
def abB(l:bu)(p:L->Bool)(a:bI)(aW aV:DL)(i:A l<=aE)(g:∀d∈aW,Cl d)(hc:∀d∈aV,Cl d)
 (f:∀b∈l,az a (aW++[.ag b.ds]++aV)<|B<|p b):az 368 [L.sl l,.fn a aW aV]<|I<|fT p l:=by
 unfold aE at i;refine(lj<|L.b6 l)<|lp 8 (A l) [0,1,7] (λk _ _ _ _=>(Y k l).any p=af) Zs ?_;rintro k q m s o _ r hp;refine ZL (λbw=>?_) λh=>?_
 .have e:=L.bP l[k];have j:Y 8 l[k].ds=l[k].ds:=dj Zo;simp only[L.bV l k bw,e,j,go_sem];exact bR _ (f l[k]<|aD bw) (by simp only[pH,bM];exact⟨⟨g,Cl.bC<|L.cl _,Zs⟩,hc⟩)<|wJ
 exact sK
def Zv(l:bu)(b:L->Bool)(a:bI)(aW aV:DL)(j:A l<=aE)(i:∀d∈aW,Cl d)(f:∀d∈aV,Cl d)
 (g:∀e∈l,az a (aW++[.ag e.ds]++aV)<|B<|b e):az 351 [L.sl l,.fn a aW aV]<|B<|l.any b:=by
 refine(cR) ?_;have:=abB l b a aW aV j i f g;exact tJ
def RO(l:aO)(b:aa->Bool)(a:bI)(aW aV:DL)(j:A l<=aE)(i:∀d∈aW,Cl d)(f:∀d∈aV,Cl d)
 (g:∀e∈l,az a (aW++[.ag e.ds]++aV)<|B<|b e):az 313 [aa.sl l,.fn a aW aV]<|B<|l.any b:=by
 refine(cR) ?_;have:=S6 l b a aW aV j i f g;exact tJ
def abA(l:aX)(p:ByteArray->Bool)(a:bI)(aW aV:DL)(e:A l<=aE)(hf:∀d∈aW,Cl d)(hc:∀d∈aV,Cl d)
 (lP:∀b∈l,az a (aW++[S b]++aV)<|B<|p b):az 366 [.sl 1<|R l,.fn a aW aV]<|I<|fT p l:=by
 unfold aE at e;refine(lj<|pM l)<|lp 8 (A l) [0,1,7] (λk _ _ _ _=>(Y k l).any p=af) Zs ?_;rintro k i f m g _ j hp;refine ZL (λbw=>?_) λh=>?_
 .have g0:(R l)[k]?=E [S l[k]]:=by simp[bw]
  exact Oo
 exact sK
def Zu(l:aX)(b:ByteArray->Bool)(a:bI)(aW aV:DL)(j:A l<=aE)(i:∀d∈aW,Cl d)(f:∀d∈aV,Cl d)
 (g:∀e∈l,az a (aW++[S e]++aV)<|B<|b e):az 347 [.sl 1<|R l,.fn a aW aV]<|B<|l.any b:=by
 refine(cR) ?_;have:=abA l b a aW aV j i f g;exact tJ
theorem IX(e:L->Bool)(f:L->Prop)(y:∀i v j ty l b,f (.mk i v j ty l b)->A b<=aE/\∀a∈b,f a)(g:bI)(aW aV:DL)(q:∀d∈aW,Cl d)(p:∀d∈aV,Cl d)
 (u:∀a,f a->az g (aW++[.ag a.ds]++aV) (B<|!e a)) (o:L) (m:f o):az 316 [.ag o.ds,.fn g aW aV]<|B<|!L.bh e o:=by
 match o,m with
 |.mk i v j (.mk r t s) l b,m=>
 have⟨D,F⟩:=y _ _ _ _ _ _ m;have w:=u _ m;have K:L.bh e (.mk i v j (.mk r t s) l b)=(e (.mk i v j (.mk r t s) l b)&&b.all (L.bh e)):=Ir;have G a (P:a∈b):az 352 ([]++[.ag a.ds]++[.cp [.fn g aW aV]])<|B<|!L.bh e a:=by
  have I:=L.bP a;have M:Y 8 a.ds=a.ds:=dj Zo;have R:=IX e f y g aW aV q p u a<|F a P;simp only[aY,bg];exact(cR)<|(bQ<|JJ I M)<|Fz.aK C
 simp only[L.ds,J.ds,bG,bg,aY]at w;refine(dH)<|bR _ w (by simp only[pH,bM];exact⟨⟨q,Cl.bC (by simp;exact⟨J.dl _,L.dl _⟩),Zs⟩,p⟩) ?_;cases z:e (.mk i v j (.mk r t s) l b)
 .exact(ZN)<|Fz.aK (by rw[K,z];rfl)
 exact(ZN)<|bR _ (Zv b (λa=>!L.bh e a) _ [] [.cp [.fn g aW aV]] D Zs (by simp;exact⟨q,p⟩) G) da<|(ZN)<|Fz.aK Zg
theorem uj{p:g2->Bool}:∀{l:List g2},0<=fT p l->∃(b:Nat)(a:b<A l),fT p l=b/\p l[b]=W
 |[],a=>by simp[fT]at a
 |x::l,a=>by
  unfold fT at a⊢;by_cases d:p x=W
  .exact⟨0,Zs,Yr d,Yq d⟩
  by_cases g:fT p l<0
  .simp[d,g]at a
  have⟨b,f,h,e⟩:=uj (l:=l) (p:=p) Zo;exact⟨b+1,Yq f,cq,Yq e⟩
theorem UF(a:Int):ah (a<0)=!ah (a>=0):=Zg
def abn{p:g2->Bool}{a:List g2}(d:a.any p=W):0<=fT p a:=by
 have b:=zj (p:=p) a;rw[d]at b;simpa using b
def L.lu:L->ByteArray
 |.mk _ _ n _ _ _=>n
def L.K6:L->List ByteArray
 |.mk _ _ _ _ ns _=>ns
def fo(V:List ae):L->Bool
 |.mk k v n ty ns ks=>(if k=4 then J.bh (hY V) ty else W)&&(if k=8\/k=10 then ah (hI V n>=0)else W)
def oh(V:aF)(ds:aO)(d:aa):Bool:=!(J.bh (hY V)<|aa.ty d)||(fN (aa.bd d) [] []).any (λn=>ah<|eV ds n<0)||!L.bh (fo V) (aa.bd d)
def kG(V:aF)(n:BA):dp:=match V[(hI V n).toNat]? with|some d=>(match(ae.cs d)[(xL d n).toNat]? with|some c=>aJ.fs c|none=>[])|none=>[]
def Jz(V:aF)(n:BA):li:=match V[(hI V n).toNat]? with|some d=>ae.cs d|none=>[]
def sS(x:L)(c:aJ):Bool:=ah (L.lu x=aJ.nm c)&&ah (A (L.K6 x)=A (aJ.fs c))
def vf(l:bu)(cs:li):Bool:=ah (A l=A cs)&&(l.zip cs).all λz=>sS z.1 z.2
def sT(V:aF)(l:bu):Bool:=match l with|[]=>W|c::l=>vf (c::l)<|Jz V<|L.lu c
def hG(V:List ae):L->Bool
 |.mk k v n ty ns ks=>if k=8 then ah (A ks=A (kG V n))else if k=9 then sT V (ks.drop 1)else W
structure pL (V:List ae):Prop where
 len:A V<=1048576
 cs:∀d∈V,A (ae.cs d)<=1048576
def rG{a:aF}{d:BA}(p:0<=hI a d):∃(b:Nat)(f:b<A a)(e:Nat)(i:e<A (ae.cs a[b])),hI a d=b/\xL a[b] d=e/\kG a d=aJ.fs (ae.cs a[b])[e]/\Jz a d=ae.cs a[b]/\∀j,kH j a d=e:=by
 have⟨b,f,l,m⟩:=uj p;have g:hI a d=(b:Int):=l;have⟨e,i,o,q⟩:=uj<|abn (show(ae.cs a[b]).any (λk=>ah<|aJ.nm k=d)=W from m);have h:xL a[b] d=(e:Int):=o;refine⟨b,f,e,i,g,h,?_,?_,λj=>by rw[JA f g,h]⟩
 .unfold kG;rw[g];simp[f,h,i]
 unfold Jz;rw[g];simp[f]
def ahD(d:aF)(a:aO)(e:A a<=aE)(b:BA):az 349 [S b,.cp [ae.sl d,aa.sl a]]<|B<|ah<|eV a b<0:=by
 refine(cR) ?_;have:=Bd d a b e;exact(ZC)<|Fz.aK C
def ahE(b:aF)(p:aO)(hd:pL b)(a v:Int)(l:BA)(g:Int)(j:BA)(i:dp)(o:aX)(m:bu)(r:(J.mk g j i).ok):
 az 350 [.ag<|L.ds<|.mk a v l (.mk g j i) o m,.cp [ae.sl b,aa.sl p]] (B<|!fo b (.mk a v l (.mk g j i) o m)):=by
 have q:=declared b IE (.mk g j i) r;have s:=y8 b l hd.len hd.cs;simp only[J.ds]at q;refine(dH) ?_;by_cases e:a=4
 .have f4:(a==4)=W:=by simp[e]
  exact(bQ f4)<|Fz.aK (by simp[fo,e])
 have f4:(a==4)=af:=Yr e;refine(ad f4) ?_;by_cases f:a=8
 .have f8:(a==8)=W:=by simp[f]
  exact(bQ f8)<|Fz.aK (by rw[UF];simp[fo,f])
 have f8:(a==8)=af:=Yr f;refine(ad f8) ?_;by_cases d:a=10
 .have f10:(a==10)=W:=by simp[d]
  exact(bQ f10)<|Fz.aK (by rw[UF];simp[fo,d])
 have f10:(a==10)=af:=Yr d;exact(ad f10)<|Fz.aK (by simp[fo,e,f,d])
def ahF(a:aF)(b:aO)(hd:pL a)(S:A b<=aE)(d:aa)(D:eU (aa.bd d)=W)(F:(aa.bd d).sz<=1048576)(w:d.ok):az 314 [.ag [ae.sl a,aa.sl b],.ag d.ds]<|B<|oh a b d:=by
 have⟨U,⟨q,s,r⟩,⟨g,j,i,⟨l,o,m⟩,f,e⟩⟩:=d;simp only[aa.bd]at D F;simp only[aa.ok]at w;have M:=declared a IE (.mk q s r) w.2.1;have R:=aaC (.mk g j i (.mk l o m) f e) D F;have P:=Bj (.mk g j i (.mk l o m) f e) [] [];have V:=L.xC<|.mk g j i (.mk l o m) f e;have K:=Zu (fN (.mk g j i (.mk l o m) f e) [] []) (λk=>ah<|eV b k<0) 349 [] [.cp [ae.sl a,aa.sl b]] (by simp at P;unfold aE;omega) Zs Zs λp _=>Yq<|ahD a b S p;have z:=IX (fo a) (λp=>p.ok) (λI v k ty f e u=>by simp only[L.ok]at u;exact⟨u.2.2.2.2.1,L.eJ u.2.2.2.2.2⟩) 350 [] [.cp [ae.sl a,aa.sl b]] Zs Zs (λp G=>by
  have⟨I,v,k,⟨q,s,r⟩,f,e⟩:=p;simp only[L.ok]at G;simpa using ahE a b hd I v k q s r f e G.2.1) (.mk g j i (.mk l o m) f e) w.2.2
 simp only[L.ds,J.ds,bG,bg,aY]at M R z;simp only[ae.sl,aa.sl]at K z;refine(cR) ?_;simp only[aa.ds,go_sem];refine(ZC) ?_;cases t:J.bh (hY a) (.mk q s r)
 .exact(ZN)<|Fz.aK (by simp[oh,aa.ty,t])
 refine(ZC) ?_;cases y:(fN (.mk g j i (.mk l o m) f e) [] []).any λk=>ah (eV b k<0)
 .exact(ZC)<|Fz.aK (by simp only[oh,aa.ty,aa.bd,t,y,wi,uI])
 exact(ZN)<|Fz.aK (by simp only[oh,aa.ty,aa.bd,t,y,wi,uI,Bool.true_or])
theorem aaf(q:L->aJ->Bool)(a:bu)(b:li)(i:bI)(P:A a<=1048576)(s:∀l∈a,∀m∈b,az i [.ag l.ds,.ag m.ds]<|B<|q l m):
 az 369 [L.sl a,aJ.sl b,.fn i [] []] (B (ah (A a=A b)&&(a.zip b).all λf=>q f.1 f.2)):=by
 refine(cR)<|ZS (λe=>?_) λe=>?_
 .refine(ad e) ?_;apply Fz.aK;exact Zg
 have u:A a=A b:=by simp at e;omega
 refine(ad e)<|lp 17 (A a) [0,1,2,15,16] (λd _ _ _ _=>(Y d<|a.zip b).all (λf=>q f.1 f.2)=W) Zs ?_;rintro d M I S K _ R g;refine ZL (λk=>?_) λe=>?_
 .have j:d<A b:=Zo;have w:d<A (a.zip b):=cq;have p:=L.bP a[d];have r:=aJ.bP b[d];have D:Y 8 a[d].ds=a[d].ds:=dj Zo;have F:Y 2 b[d].ds=b[d].ds:=dj Zo;have y:(a[d].ds).all cO=W:=(Pf)<|L.one a[d];have z:(b[d].ds).all cO=W:=(Pf)<|aJ.one b[d];have:=s a[d] (aD k) b[d]<|aD j;refine(bQ<|JJ (L.bV a d k)<|JJ (aJ.bV b d j)<|JJ p<|JJ r<|JJ D<|JJ F<|JJ y z) ?_;have G:(a.zip b)[d]=(a[d],b[d]):=getElem_zip;cases o:q a[d] b[d]
  .refine(ZN) ?_;apply Fz.aK;symm;exact Zg
  refine(ZN) ?_;refine dI ?_;rw[lK w,g,G,o];rfl
 have t:d=A a:=Zo;refine(ad e) ?_;apply Fz.aK;rw[t,dj Zg]at g;rw[g];simp[u]
theorem aiy(i:L)(e:aJ):az 370 [.ag i.ds,.ag e.ds]<|B<|sS i e:=by
 have⟨k,v,d,⟨m,p,o⟩,g,l⟩:=i;have⟨a,f⟩:=e;refine(cR) ?_;simp only[aJ.ds,go_sem];by_cases b:d=a
 .have f1:(d.toList==a.toList)=W:=by rw[ic];exact b_ b
  refine(ad f1) ?_;apply Fz.aK;have q:sS (.mk k v d (.mk m p o) g l) (.mk a f)=ah (A g=A f):=by by_cases j:A g=A f<;>simp[sS,L.lu,L.K6,aJ.nm,aJ.fs,b,j]
  exact Zg
 have f1:(d.toList==a.toList)=af:=by rw[ic];exact bW b
 exact(ad f1)<|Fz.aK (by simp[sS,L.lu,aJ.nm,b])
def aix(a:aF)(p:aO)(m:pL a)(b:L)(e:bu)(x:A (b::e)<=1048576)(t:0<=hI a (L.lu b)):
 az 353 [.ag [ae.sl a,aa.sl p],L.sl (b::e)] (B<|!sT a (b::e)):=by
 have⟨f,w,S,K,q,G,I,r,s⟩:=rG t;have l:=y8 a (L.lu b) m.len m.cs;rw[q,s]at l;have i:=ae.bV a f w;have k:sT a (b::e)=vf (b::e) (ae.cs a[f]):=by rw[sT,r]
 have g:=aaf sS (b::e) (ae.cs a[f]) 370 x λy _ z _=>aiy y z;have j:=aJ.dl<|ae.cs a[f];have o:=L.dl (b::e);obtain⟨d,u⟩:∃d,d=a[f]:=⟨_,C⟩;rw[<-u]at i k g j;have⟨F,D⟩:=d;have⟨M,v,P,⟨U,X,V⟩,R,O⟩:=b;simp only[L.lu,ae.cs]at l k g j;simp only[ae.ds,aJ.sl]at i;simp only[L.sl,aJ.sl,L.ab,L.ds,J.ds,bG,bg,aY]at g o;refine(cR) ?_;simp only[L.ab,go_sem];refine fB<|fS _ l (by simp;exact ae.dl _) C<|(ad i) ?_;refine hW g (.c (Cl.jd o)<|.c (Cl.jd j)<|.c (Cl.ue Zs Zs) Zc)<|(ZN) ?_;apply Fz.aK;rw[k];rfl
theorem aiz(e:aF)(y:aO)(t:pL e)(f:L)(hg:eU f=W)(D:L.bh (fo e) f=W)(F:∀g v w ty G j,f=.mk g v w ty G j->A j<=1048576):
 az 317 [.ag [ae.sl e,aa.sl y],.ag f.ds] (B<|!hG e f):=by
 have⟨g,v,w,⟨aI,aM,aL⟩,G,j⟩:=f;have F:=F _ _ _ _ _ _ C;rw[L.bh,L.i1,cy,en]at D;have⟨U,V⟩:=D;refine(dH) ?_;by_cases l:g=8
 .have f8:(g==8)=W:=by simp[l]
  obtain⟨i,hi,f,ak,I,aA,z,aB,K⟩:=rG (by simp[fo,l]at U;omega);have X:=y8 e w t.len t.cs;rw[I,K]at X;have r:=ae.bV e i hi;have o:=aJ.bV (ae.cs e[i]) f ak;obtain⟨q,R⟩:∃q,q=(ae.cs e[i])[f]:=⟨_,C⟩;rw[<-R]at o z;obtain⟨d,S⟩:∃d,d=e[i]:=⟨_,C⟩;rw[<-S]at r o;have⟨ay,ax⟩:=d;have⟨av,aC⟩:=q;simp only[ae.ds,aJ.ds,aJ.sl,J.sl,ae.cs]at r o;refine(fQ<|JJ f8<|JJ r o) ?_;apply Fz.aK;simp only[hG,l,bx];rw[z];simp only[aJ.fs];exact Zg
 have f8:(g==8)=af:=Yr l;refine(ad f8) ?_;by_cases c9:g=9
 .have f9:(g==9)=W:=by simp[c9]
  obtain⟨Z,ah⟩:2<=A j/\(∀(i:Nat)(h:i<A j),0<i->L.kd j[i]=10):=Ot;obtain⟨aH,p,m,rfl⟩:∃a b u,j=a::b::u:=by
   match j,Z with
   |a::b::u,_=>exact⟨a,b,u,C⟩
  have P:0<=hI e (L.lu p):=by
   have h1:=V p Zs;have s:=ah 1 Zs Zo;simp only[jm,fA]at s;have⟨an,ao,ap,aq,ar,au⟩:=p;simp only[L.kd]at s;rw[L.bh,cy]at h1;have am:=h1.1;simp[fo,s]at am;simp only[L.lu];omega
  have M:((1:Int)<=((A m+1+1:Nat):Int))=True:=dM Zo;simp only[f9,L.ab,go_sem];refine fB ?_;have aD:((0:Int)<=1)=True:=Zs;have aN:Int.toNat 1=1:=C;have al:Y (A m) (L.ab m)=L.ab m:=dj (by rw[L.b6];exact bJ _);exact(ad<|JJ M al)<|fS _ (aix e y t p m Zg P) (by simp;exact⟨⟨ae.dl _,aa.dl _⟩,L.cl _,L.dl _⟩) C<|(ZN)<|Fz.aK (by simp[hG,c9])
 have f9:(g==9)=af:=Yr c9;exact(ad f9)<|Fz.aK (by simp[hG,l,c9])
def vu{v:Int}{ty:J}(b:eU (.mk a3 v gs ty hH h1)=W):A h1<=1048576:=by
 rw[eU,L.bh,cy]at b;have a:=b.1;simp only[qe,hT,cy,bY,ee]at a;have a:=a.1.1.2;simp only[dw]at a
 repeat' split at a
 all_goals simp only at a
 all_goals omega
def YJ(a:aF)(f:aO)(o:pL a)(d:aa)(q:eU (aa.bd d)=W)(p:L.bh (fo a) (aa.bd d)=W):az 315 [.ag d.ds,.cp [ae.sl a,aa.sl f]]<|B<|!L.bh (hG a) (aa.bd d):=by
 have j:=IX (hG a) (λb=>eU b=W/\L.bh (fo a) b=W) (λr v s ty l k g=>by
  refine⟨by have:=vu g.1;unfold aE;omega,λb e=>⟨(w_ g.1).2 b e,?_⟩⟩;have i:=g.2;rw[L.bh,L.i1,cy,en]at i;exact i.2 b e) 317 [.ag [ae.sl a,aa.sl f]] [] Zs Zs (λb e=>by
  simpa using aiz a f o b e.1 e.2 λr v s ty l k m=>vu (m▸e.1)) (aa.bd d) ⟨q,p⟩
 have⟨y,⟨z,D,A⟩,⟨t,w,u,⟨F,I,G⟩,l,k⟩⟩:=d;simp only[aa.bd]at j;simp only[L.ds,J.ds,bG,bg,aY,ae.sl,aa.sl]at j;refine(cR) ?_;simp only[aa.ds,go_sem];exact(ZC)<|Fz.aK C
open Classical in
def i_:bH->Int
 |.mk V ds=>if qS (.mk V ds)then(if ds.any (oh V ds)then 7 else if ds.any (λd=>!L.bh (hG V) (aa.bd d))then 2 else 0)else 1
def Ls(b:qS<|.mk a5 be):pL a5:=by
 have⟨⟨i,e⟩,_⟩:=b;refine⟨Zo,λd f=>?_⟩;obtain⟨h,g,rfl⟩:=ec f;have a:=(e h g).1;simp only[wV,cy,ee]at a;have:=a.2;omega
def Lr(f:qS<|.mk a5 be):∀d∈be,eU (aa.bd d)=W/\fY (aa.ty d)=W:=λd h=>by
 have⟨_,_,_,g⟩:=f;obtain⟨j,i,rfl⟩:=ec h;have a:=g j i;have b:=a.2.2.2;have e:=a.2.2.1;simp only[lz,cy]at b;simp only[h7,cy]at e;exact⟨b.1.1,e.1⟩
def L0(d:aa):(aa.bd d).sz<=d.sz:=by obtain⟨a,b,e⟩:=d;simp only[aa.bd,aa.sz];omega
def Ld{d:aa}(a:d.ok):(aa.bd d).ok/\(aa.ty d).ok:=by obtain⟨e,b,f⟩:=d;simp only[aa.ok]at a;exact⟨a.2.2,a.2.1⟩
open Classical in
theorem YI(p:bH)(o:p.sz<=1048576)(k:p.ok):az 287 [.ag p.ds]<|I<|i_ p:=by
 have f:=WH p o k;have⟨a,ds⟩:=p;simp only[bH.ok]at k;simp only[bH.sz]at o;simp only[bH.ds]at f;by_cases b:qS (.mk a ds)
 case neg=>
  have e:i_ (.mk a ds)=1:=by rw[i_,aC b]
  rw[e];simp only[bW b]at f;simp only[ae.sl,aa.sl]at f;exact HP
 have m:=Ls b;have l:=Lr b;have j:A ds<=aE:=cq;have i:=RO ds (oh a ds) 314 [.ag [ae.sl a,aa.sl ds]] [] j Zs Zs (λd hd=>by
  have t:=aa.gz hd;have u:=L0 d;simpa using ahF a ds m j d (l d hd).1 Zo<|k.2.2.2 d hd)
 simp only[b_ b]at f;simp only[ae.sl,aa.sl]at f i;cases c1:ds.any (oh a ds)
 case true=>
  have e:i_ (.mk a ds)=7:=by rw[i_,aM b,c1];rfl
  rw[e];rw[c1]at i;exact HP
 have r d (hd:d∈ds):L.bh (fo a) (aa.bd d)=W:=by
  have g:=wj.1 c1 d hd;simp only[oh,tm,lh,oV]at g;have g:=g.2;simpa using g
 have q:=RO ds (λd=>!L.bh (hG a) (aa.bd d)) 315 [] [.cp [ae.sl a,aa.sl ds]] j Zs Zs (λd hd=>by
  simpa using YJ a ds m d (l d hd).1<|r d hd)
 simp only[ae.sl,aa.sl]at q;have e:i_ (.mk a ds)=if ds.any (λd=>!L.bh (hG a) (aa.bd d))then 2 else 0:=by rw[i_,aM b,c1];rfl
 rw[e];rw[c1]at i;refine(cR) ?_;simp only[bH.ds,go_sem];refine(ZC) ?_;cases s:ds.any λd=>!L.bh (hG a) (aa.bd d)
 .exact(ZN)<|Fz.di C
 exact(ZN)<|Fz.di C
theorem acG(V:aF)(hd:pL V)(a v:Int)(f:BA)(b:Int)(e:BA)(d:dp)(i:aX)(ks:bu)(u:A ks<=1048576)
 (r:(J.mk b e d).ok) (s:a=4->fY (.mk b e d)=W) (lP:∀o∈ks,az 309 [ae.sl V,.cp o.ds]<|B<|L.bh (fo V) o):
 az 309 [ae.sl V,.cp<|L.ds<|.mk a v f (.mk b e d) i ks] (B<|L.bh (fo V)<|.mk a v f (.mk b e d) i ks):=by
 have rQ:=L.b6 ks;have q:L.bh (fo V) (.mk a v f (.mk b e d) i ks)=(fo V (.mk a v f (.mk b e d) i ks)&&ks.all (L.bh<|fo V)):=Ir;have t:=vF V f hd.len hd.cs;rw[q];refine(dH) ?_;by_cases g:a=4
 .have f4:(a==4)=W:=by simp[g]
  have f8:(a==8)=af:=Yr g;have f10:(a==10)=af:=Yr g;have p:=FK V IE (.mk b e d) r<|s g;simp only[J.ds]at p;refine(bQ f4) ?_;cases c1:J.bh (hY V) (.mk b e d)
  .exact(ZN)<|Fz.aK (by simp[fo,g,c1])
  have vx:fo V (.mk a v f (.mk b e d) i ks)=W:=by simp[fo,g,c1]
  exact NR
 have f4:(a==4)=af:=Yr g;refine(ad f4) ?_;by_cases m:a=8
 .have f8:(a==8)=W:=by simp[m]
  refine(bQ f8) ?_;by_cases c1:hI V f<0
  .exact(ad<|b_ c1)<|Fz.aK (by simp[fo,m];omega)
  have vx:fo V (.mk a v f (.mk b e d) i ks)=W:=by simp[fo,m];omega
  exact NF
 have f8:(a==8)=af:=Yr m;by_cases l:a=10
 .have f10:(a==10)=W:=by simp[l]
  refine(bQ<|JJ f8 f10) ?_;by_cases c1:hI V f<0
  .exact(ad<|b_ c1)<|Fz.aK (by simp[fo,l];omega)
  have vx:fo V (.mk a v f (.mk b e d) i ks)=W:=by simp[fo,l];omega
  exact NF
 have f10:(a==10)=af:=Yr l;have vx:fo V (.mk a v f (.mk b e d) i ks)=W:=by simp[fo,g,m,l]
 exact NR
def aaJ{v:Int}{ty:J}(b:eU (.mk a3 v gs ty hH h1)=W):a3=4->fY ty=W:=λd=>by
 rw[eU,L.bh,cy]at b;have a:=b.1;simp only[qe,hT,gN,cy]at a;have a:=a.1.2.1.1.2;simp only[lB,d,bx,h7,cy]at a;exact a.1
def TG(a:aF)(g:pL a)(e:L)(b:eU e=W)(d:e.ok):az 309 [ae.sl a,.cp e.ds]<|B<|L.bh (fo a) e:=by
 match e,b,d with
 |.mk i v k (.mk m p o) l j,b,d=>
 simp only[L.ok]at d;exact acG a g i v k m p o l j (vu b) d.2.1 (aaJ b) λf h=>TG a g f ((w_ b).2 f h)<|L.eJ d.2.2.2.2.2 f h
theorem aaI{v:Int}{ty:J}{a:bu}(hg:eU (.mk a3 v gs ty hH a)=W)(c9:a3=9):2<=A a/\(∀(i:Nat)(h:i<A a),0<i->L.kd a[i]=10):=Ot
def aat{a:L}(b:L.bh (fo a5) a=W)(hk:L.kd a=10\/L.kd a=8):0<=hI a5 (L.lu a):=by
 have⟨e,f,g,h,i,j⟩:=a;simp only[L.kd]at hk;rw[L.bh,cy]at b;have d:=b.1;obtain hk|hk:=hk<;>simp[fo,hk]at d<;>simp only[L.lu]<;>omega
theorem acy(j:aF)(z:pL j)(aZ v:Int)(a0:BA)(a3:Int)(a5:BA)(a4:dp)(a1:aX)(l f:L)(k:bu)(bj:A k<=1048576)(aM:0<=hI j (L.lu f)):
 az 346 [ae.sl j,.cp<|L.ds<|.mk aZ v a0 (.mk a3 a5 a4) a1 (l::f::k)] (B<|sT j (f::k)):=by
 have⟨M,X,bo,bl,ay,bb,bd,aA,aB⟩:=rG aM;have aP:=vF j (L.lu f) z.len z.cs;rw[ay,aB]at aP;have y:=ae.bV j M X;have u:sT j (f::k)=vf (f::k) (ae.cs j[M]):=by rw[sT,aA]
 have V:=z.cs _<|aD X;have bf:f.ds[2]?=E (S<|L.lu f):=by obtain⟨am,an,ao,ap,aq,ar⟩:=f;rfl
 obtain⟨a,G⟩:∃a,a=f::k:=⟨_,C⟩;have Z:A a=A k+1:=Yf G;have F:L.ab (l::f::k)=l.ds::L.ab a:=Yf G;have bi:A (L.ab a)=A a:=L.b6 a;have r:(L.ab (l::f::k))[1]?=E f.ds:=C;obtain⟨d,aO⟩:∃d,d=j[M]:=⟨_,C⟩;rw[<-aO]at y u V;rw[<-G]at u F r⊢;obtain⟨ba,i⟩:=d;simp only[ae.cs]at u V;simp only[ae.ds,aJ.sl]at y;simp only[L.ds,J.ds,bG,bg,aY]at r⊢;obtain⟨q,aH⟩:∃q,q=L.ab (l::a):=⟨_,C⟩;rw[<-aH]at r F⊢;have aL:A q=A a+1:=cq;have aI (e:Nat) (g:e<A a):q[e+1]?=E (L.ds a[e]):=by rw[F,xY,L.bV a e g]
 have D:∃b,f.ds.drop 2=S (L.lu f)::b:=by obtain⟨am,an,ao,ap,aq,ar⟩:=f;exact⟨_,C⟩
 have⟨bn,D⟩:=D;rw[u];refine(cR) ?_;have a6:Int.toNat 1=1:=C;have aC:((0:Int)<=1)=True:=Zs;refine(bQ<|JJ a6<|JJ aC<|JJ r<|JJ D<|JJ y aL) ?_;simp only[gJ (A i) Zo];refine fx (λg=>?_) λg=>?_
 .refine(ad g) ?_;apply Fz.aK;have ak:¬(A a)=A i:=Ys g;simp[vf,ak]
 have aS:A a=A i:=Ys g;refine(ad g)<|lp 8 (A a) [0,1,7] (λe _ _ _ _=>(Y e<|a.zip i).all (λal=>sS al.1 al.2)=W) Zs ?_;rintro e be a' bm a_ _ bh I;refine ZL (λaT=>?_) λg=>?_
 .have Z:e<A a:=Zo;have aU:e<A (a.zip i):=cq;have K:(a.zip i)[e]=(a[e],i[e]):=getElem_zip;have s:=aI e Z;have t:=aJ.bV i e aT;obtain⟨R,aV⟩:∃R,R=a[e]:=⟨_,C⟩;obtain⟨U,aW⟩:∃U,U=i[e]:=⟨_,C⟩;rw[<-aV]at s K;rw[<-aW]at t K;have⟨a7,a9,m,⟨au,ax,av⟩,w,a8⟩:=R;obtain⟨p,o⟩:=U;have aQ:=J.b6 o;have aN:sS (.mk a7 a9 m (.mk au ax av) w a8) (.mk p o)=(ah (m=p)&&ah (A w=A o)):=C;simp only[L.ds,J.ds,aJ.ds,J.sl,bG,bg,aY]at s t;have bk:=dM Zo;refine(fQ<|JJ s<|JJ t<|gJ e Zo) ?_;by_cases P:m=p
  .have f1:(m.toList==p.toList)=W:=by rw[ic];exact b_ P
   refine lm (JJ f1<|JJ s<|JJ t<|JJ aQ<|gJ e Zo) (λg=>?_) λg=>?_
   .refine(ad g)<|Fz.aK ?_;have ak:¬(A w)=A o:=Ys g;symm;rw[vf,wg];right;exact Zg
   have a2:A w=A o:=by simp at g;omega
   refine(ad g) ?_;refine dI ?_;rw[lK aU,I,K];show sS _ _=W;rw[aN];simp[P,a2]
  have f1:(m.toList==p.toList)=af:=by rw[ic];exact bW P
  refine(ad f1) ?_;apply Fz.aK;symm;rw[vf,wg];right;exact Zg
 have aR:e=A a:=Zo;refine(ad g) ?_;apply Fz.aK;rw[aR,dj Zg]at I;simp[vf,I,aS]
theorem acz(V:aF)(D:pL V)(e v:Int)(f:BA)(i:Int)(m:BA)(l:dp)(g:aX)(ks:bu)(aH:A ks<=1048576)
 (an:eU (.mk e v f (.mk i m l) g ks)=W) (M:L.bh (fo V) (.mk e v f (.mk i m l) g ks)=W) (lP:∀S∈ks,az 310 [ae.sl V,.cp S.ds]<|B<|L.bh (hG V) S):
 az 310 [ae.sl V,.cp<|L.ds<|.mk e v f (.mk i m l) g ks] (B<|L.bh (hG V)<|.mk e v f (.mk i m l) g ks):=by
 have SX:=L.b6 ks;have ao:L.bh (hG V) (.mk e v f (.mk i m l) g ks)=(hG V (.mk e v f (.mk i m l) g ks)&&ks.all (L.bh<|hG V)):=Ir;rw[L.bh,L.i1,cy,en]at M;have⟨ak,al⟩:=M;rw[ao];refine(dH) ?_;by_cases o:e=8
 .have f8:(e==8)=W:=by simp[o]
  obtain⟨s,ap,R,ar,U,aA,I,aB,X⟩:=rG (by simp[fo,o]at ak;omega);have am:=vF V f D.len D.cs;rw[U,X]at am;have y:=ae.bV V s ap;have r:=aJ.bV (ae.cs V[s]) R ar;obtain⟨u,Z⟩:∃u,u=(ae.cs V[s])[R]:=⟨_,C⟩;rw[<-Z]at r I;obtain⟨d,ab⟩:∃d,d=V[s]:=⟨_,C⟩;rw[<-ab]at y r;have⟨ay,ax⟩:=d;have⟨av,q⟩:=u;simp only[ae.ds,aJ.ds,aJ.sl,J.sl,ae.cs]at y r;refine(fQ<|JJ f8<|JJ y<|JJ r<|JJ SX<|J.b6 q) ?_;have z:hG V (.mk e v f (.mk i m l) g ks)=ah (A ks=A q):=by
   simp only[hG,o,bx];rw[I];rfl
  by_cases hq:A ks=A q
  .have w:(!((A q:Int)==(A ks:Int)))=af:=by simp[hq]
   have vx:hG V (.mk e v f (.mk i m l) g ks)=W:=cq;simp only[bne,w,go_sem];exact Ic
  have w:(!((A q:Int)==(A ks:Int)))=W:=by simp;omega
  simp only[bne,w,go_sem];exact Fz.aK (by rw[z];simp[hq])
 have f8:(e==8)=af:=Yr o;refine(ad f8) ?_;by_cases p:e=9
 .have f9:(e==9)=W:=by simp[p]
  have⟨aq,aC⟩:=aaI an p;obtain⟨au,t,P,F⟩:∃a b G,ks=a::b::G:=by
   match ks,aq with
   |a::b::G,_=>exact⟨a,b,G,C⟩
  have Y:0<=hI V (L.lu t):=by
   subst F;refine aat (al t Zs)<|aG Zg
  have K:=acy V D e v f i m l g au t P Zg Y;have z:hG V (.mk e v f (.mk i m l) g ks)=sT V (t::P):=by
   simp only[hG,p,bx,F];rfl
  rw[<-F,<-z]at K;simp only[L.ds,J.ds,bG,bg,aY,ae.sl]at K;refine(bQ f9) ?_;cases vx:hG V (.mk e v f (.mk i m l) g ks)
  .exact(ZN)<|Fz.aK C
  exact(ZN)<|Ic
 have f9:(e==9)=af:=Yr p;have vx:hG V (.mk e v f (.mk i m l) g ks)=W:=by simp[hG,o,p]
 exact(ad f9)<|Ic
def TB(a:aF)(g:pL a)(d:L)(b:eU d=W)(e:L.bh (fo a) d=W):az 310 [ae.sl a,.cp d.ds]<|B<|L.bh (hG a) d:=by
 match d,b,e with
 |.mk j v l (.mk o q p) m k,b,e=>
 have h:=e;rw[L.bh,L.i1,cy,en]at h;exact acz a g j v l o q p m k (vu b) b e λf i=>TB a g f ((w_ b).2 f i)<|h.2 f i
def acC(a:L)(b:eU a=W)(e:a.sz<=1048576):az 283 [.cp a.ds,bp,bp]<|.sl 1<|R<|fN a [] []:=by
 have d:=L.xC a;exact((Kz a b [] [] ch ch).FV .rfl .nil ⟨Cl.eT<|L.cl _,pc _⟩).sp da (zR _) (pc _) ⟨_,func283,C,C⟩
def Wy(a:aF)(b:aO)(d:aa):oh a b d=(((fN (aa.bd d) [] []).any (λe=>ah<|eV b e<0)||!J.bh (hY a) (aa.ty d))||!L.bh (fo a) (aa.bd d)):=by
 rw[oh,Bool.or_comm<|!J.bh _ _]
open Classical in
theorem acF(p:bH)(aF:p.sz<=1048576)(Z:p.ok):az 279 [.cp p.ds]<|I<|i_ p:=by
 have ak:=acK p aF Z;have⟨a,ds⟩:=p;simp only[bH.ok]at Z;simp only[bH.sz]at aF;simp only[bH.ds,ae.sl,aa.sl]at ak;by_cases l:qS (.mk a ds)
 case neg=>
  have V:i_ (.mk a ds)=1:=by rw[i_,aC l]
  rw[V];simp only[bW l]at ak;exact HP
 have av:=Ls l;have au:=Lr l;have ax:=aa.b6 ds;have aS:A ds<=aE:=cq;simp only[b_ l]at ak;have aO d (hd:d∈ds) (r:oh a ds d=W):i_ (.mk a ds)=7:=by
  have ao:=m'.2 ⟨d,hd,r⟩;rw[i_,aM l,ao];rfl
 refine(cR) ?_;simp only[bH.ds,go_sem];refine(ZC)<|lp 3 (A ds) [0] (λb _ _ _ _=>(Y b ds).all (λd=>!oh a ds d)=W) Zs ?_;rintro b env H ba T _ a6 a1;refine dN ax (λX=>?_) λh=>?_
 .have m:=aa.bV ds b X;have j:=aD X;have⟨aA,aV⟩:=au _ j;have a':=aa.gz j;have a_:=L0 ds[b];have⟨aZ,a0⟩:=Ld<|Z.2.2.2 _ j;have B:=acC (aa.bd ds[b]) aA Zo;have D:=FK a Zg (aa.ty ds[b]) a0 aV;have F:=TG a av (aa.bd ds[b]) aA aZ;have f:=Wy a ds ds[b];have U:=aO _ j;have ay:=Bj (aa.bd ds[b]) [] [];have a9:=L.xC<|aa.bd ds[b];obtain⟨e,aU⟩:∃e,e=fN (aa.bd ds[b]) [] []:=⟨_,C⟩;rw[<-aU]at B f ay;have a5:A e<=1048576:=Ys ay;have G:oh a ds ds[b]=af->(Y (b+1) ds).all (λd=>!oh a ds d)=W:=λr=>by rw[lK X,a1,r];rfl
  obtain⟨d,q⟩:∃d,d=ds[b]:=⟨_,C⟩;rw[<-q]at m B D F f U G;have⟨aq,⟨tk,ap,aQ⟩,⟨u,y,w,⟨M,un,P⟩,K,ks⟩⟩:=d;simp only[aa.bd,aa.ty]at B D F f;simp only[aa.ds,L.ds,J.ds,bG,ae.sl,bg,aY]at m B D F;refine(bQ m)<|jH 6 (A e) (λk=>Fw.Inv 89 [(0,.cp [.sl 2<|ae.ab a,.sl 12<|aa.ab ds]),(3,I b),(4,.cp<|[S aq,I tk,S ap,.sl 3<|J.ab aQ,I u,I y,S w,I M,S un,.sl 3<|J.ab P,.sl 1<|R K,.sl 8<|L.ab ks]),(5,.sl 1<|R e)]<|(Y k e).all (λn=>!ah (eV ds n<0))=W) C ⟨C,by simp[aw,R],Zs⟩ ?_;rintro k⟨aL,aK,n2,a4,T2⟩aW i⟨rfl,s,an⟩;simp only[bM]at i s;obtain⟨g,aH,al,am,-⟩:=s;refine dN (JJ i am) (λo=>?_) λh=>?_
  .have aN:(R e)[k]?=E [S e[k]]:=by simp[R,o]
   have aB:=BR ds e[k] aS;simp only[aa.sl]at aB;simp only[go_sem];refine fB ?_;simp only[i,g,am,aN,go_sem];refine fS _ aB (by simp;exact aa.dl _) C<|ZS (λh=>?_) λh=>?_
   .have a8:eV ds e[k]<0:=by simpa using h
    refine(ad h) ?_;apply Fz.di;exact Zg
   refine(ad<|JJ h i) ?_;refine nM ⟨C,by simp[aw,g,aH,al,am],?_⟩;rw[lK o,an,h];rfl
  have aX:k=A e:=Zo;have a3:e.any (λn=>ah<|eV ds n<0)=af:=Zg;rw[a3,uI]at f;simp only[h,go_sem];refine fB ?_;simp only[g,al,go_sem];refine fS _ D (by simp;exact⟨ae.dl _,J.dl _⟩) C ?_;cases aI:J.bh (hY a) (.mk tk ap aQ)
  .refine(ZN) ?_;apply Fz.di;rw[U];rw[f,aI];rfl
  rw[aI]at f;refine(ad<|JJ g al)<|fS _ F (by simp;exact⟨ae.dl _,J.dl _,L.dl _⟩) C ?_;cases t:L.bh (fo a) (.mk u y w (.mk M un P) K ks)
  .refine(ZN) ?_;apply Fz.di;rw[U];rw[f,t];rfl
  rw[t]at f;refine(ad aH) ?_;refine nM ⟨C,Ye g,G<|Yf f⟩
 have a7:b=A ds:=Zo;have ar:ds.any (oh a ds)=af:=Zg;have aT d (hd:d∈ds):L.bh (fo a) (aa.bd d)=W:=by
  have ao:=wj.1 ar d hd;rw[Wy]at ao;exact Zg
 have V:i_ (.mk a ds)=if ds.any (λd=>!L.bh (hG a) (aa.bd d))then 2 else 0:=by rw[i_,aM l,ar];rfl
 rw[V];refine(ad h)<|jH 7 (A ds) (λk=>Fw.Inv 89 [(0,.cp [.sl 2<|ae.ab a,.sl 12<|aa.ab ds])]<|(Y k ds).all (λd=>L.bh (hG a)<|aa.bd d)=W) C ⟨C,bU,Zs⟩ ?_;rintro k⟨aL,aK,n2,a4,T2⟩aW i⟨rfl,s,an⟩;simp only[bM]at i s;obtain⟨g,-⟩:=s;refine lm (JJ i<|JJ g ax) (λh=>?_) λh=>?_
 .have o:=rv h;have m:=aa.bV ds k o;have j:=aD o;have z:=TB a av (aa.bd ds[k]) (au _ j).1<|aT _ j;obtain⟨d,q⟩:∃d,d=ds[k]:=⟨_,C⟩;have aP:L.bh (hG a) (aa.bd d)=af->ds.any (λd=>!L.bh (hG a) (aa.bd d))=W:=λa2=>m'.2 ⟨ds[k],j,by rw[<-q,a2];rfl⟩;have G:L.bh (hG a) (aa.bd d)=W->(Y (k+1) ds).all (λd=>L.bh (hG a)<|aa.bd d)=W:=λr=>by rw[lK o,an,<-q,r];rfl
  rw[<-q]at m z;have⟨aq,⟨tk,ap,aQ⟩,⟨u,y,w,⟨M,un,P⟩,K,ks⟩⟩:=d;simp only[aa.bd]at z;simp only[aa.ds,L.ds,J.ds,bG,ae.sl,bg,aY]at m z;simp only[h,go_sem];refine fB ?_;simp only[i,g,m,go_sem];refine fS _ z (by simp;exact⟨ae.dl _,J.dl _,L.dl _⟩) C ?_;cases t:L.bh (hG a) (.mk u y w (.mk M un P) K ks)
  .refine(ZN) ?_;apply Fz.di;rw[aP t];rfl
  refine(ad i) ?_;refine nM ⟨C,Ye g,G t⟩
 have aX:=yF h;have aR:ds.any (λd=>!L.bh (hG a) (aa.bd d))=af:=Zg;exact(ad h)<|Fz.di<|Yf aR
section
def adu{e:aH}{g:ax}{c:dJ}{f:gg}{b:St}(a:vc e g c (je (λ_=>False) f) b):oG e g c f b:=
 l' (λh=>h=b) (λ_=>0) C λh d=>by
  subst d;exact lW c (λd b a=>by cases d<;>first|exact a.elim|exact a) a
section
variable{X:Type}(c:X->Nat)(m:X->Int->DL)
def cS(l:List X):Nat:=(l.map c).sum
def mS:List X->Int->List (List D)
 |[],_=>[]
 |x::l,k=>m x k::mS l (k+c x)
def Q4{b:List X}{a:Nat}(d:a<A b):cS c (Y (a+1) b)=cS c (Y a b)+c b[a]:=by
 rw[cS,cS,dm d,bX,tx];simp
def Q3(a:List X)(b:Nat):cS c (Y b a)<=cS c a:=by rw[cS,cS,su];exact GL _ _
def wQ{c:X->Nat}(b:∀x,1<=c x):∀a:List X,A a<=cS c a
 |[]=>by simp
 |x::a=>by have:=wQ b a;have:=b x;simp only[cS,b4,kS,dC]at*;omega
def xt:∀(a:List X)(b:Int),A (mS c m a b)=A a
 |[],_=>rfl
 |x::a,b=>by simp[mS,xt a]
def KR:∀(a b:List X)(d:Int),mS c m (a++b) d=mS c m a d++mS c m b (d+cS c a)
 |[],b,d=>by simp[mS,cS]
 |x::a,b,d=>by
  rw[bg,mS,mS,KR a b,bg];simp[cS,Int.add_assoc]
def Ui{b:List X}{a:Nat}(d:a<A b)(k:Int):mS c m (Y (a+1) b) k=mS c m (Y a b) k++[m b[a]<|k+cS c (Y a b)]:=by
 rw[dm d,KR];simp[mS]
def adC{b:List X}{a:Nat}(d:a<A b)(k:Int):(mS c m b k)[a]?=E (m b[a]<|k+cS c (Y a b)):=by
 conv=>lhs;rw[<-qj (a+1) b,KR,Ui c m d]
 rw[dy,kR (by rw[xt,ij];omega),xt,ij,wx Zo,pJ];rfl
def KS{e:Nat}(d:∀x a,A (m x a)=e):∀(b:List X)(a:Int),∀r∈mS c m b a,A r=e
 |[],_,r,h=>by simp[mS]at h
 |x::b,a,r,h=>by
  rw[mS,cF]at h;obtain rfl|h:=h
  .exact d x a
  exact KS d b _ r h
def F1(e:∀x a,∀d∈m x a,Cl d):∀(b:List X)(a:Int),∀r∈mS c m b a,∀d∈r,Cl d
 |[],_,r,h=>by simp[mS]at h
 |x::b,a,r,h=>by
  rw[mS,cF]at h;obtain rfl|h:=h
  .exact e x a
  exact F1 e b _ r h
end
def NX(nt len i sz:Nat)(e:a6)(K:Int)(b d f:DL)(T1 T2 T3:cf)(s:St):Prop:=
 s.nt=nt/\s.env 5=I ((i+1:Nat))/\s.env 0=.ms 0 0 len/\s.env 1=I K/\s.n=eP dY 0/\∃a T,s.H 0=E ⟨0,e,sz,b++(a++d),Q⟩/\s.T=T1++(T++T3)/\OL O1 f a T/\bl T=bl T2
def zt(k:Nat)(o:BA):BA:=
 if h:k=0 then o else zt (k/10) (strOfNums [IntKind.u8.wrap<|cb.wrap<|48+((k:Int).tmod 10)]++o)
def rZ(k:Int):BA:=if k<=0 then⟨#[109,48]⟩else⟨#[109]⟩++zt k.toNat ByteArray.empty
def wr{k:Int}(a:0<=k)(b:k<=1099511627776):cb.wrap (k+1)=k+1:=dE _ Zo
open Classical
def adR{X:Type}{J:aH}{M:ax}{u:dJ}{O:gg}{y d:Nat}{h:a6}{l:List X}{q:X->DL}{a:X->Nat}{m:X->Int->DL}{k:Int}{K:DL}{z:cf}{D:fL}{ab:Nat}(au:∀o k,A (m o k)=d)(aR:∀o,0<=a o)(aP:A l<=1099511627776)
 (an:D 5=I 0) (al:D 0=.ms 0 0 (A l)) (am:D 1=I k) (av:OL O1 (ao<|l.map q) K z)
 (aa:∀(h:a6)(i:Nat)(aq:i<A l)(t:Int)(j:fL)(e:a')(p:Nat)(b P L:DL)(T1 T2 T3:cf),k<=t->t+a l[i]<=k+cS a l->cb.wrap ((i:Int)+1)=((i+1:Nat):Int)->(ah ((i:Int)<(A l:Int))=W/\((i:Int)<(A l:Int))=True)->e 0=E ⟨0,h,d,b++(L++P),Q⟩->A b=i*d->
  ((∀r,Y (i*d) (b++r)=b)/\(∀r,(b++r).drop (i*d)=r)/\(∀r x,Y (i*d+x) (b++r)=b++Y x r)/\∀r x,(b++r).drop (i*d+x)=r.drop x)->OL O1 (q l[i]) L T2->
  vc J M u (je (NX y (A l) i d h (t+a l[i]) b P (m l[i] t) T1 T2 T3) λ_ _=>False) ⟨ov [(5,I i),(0,.ms 0 0<|A l),(1,I t)] j,e,eP dY 0,y,T1++(T2++T3),p⟩)
 (B:∀(j:fL)(e:a')(p:Nat)(g:DL)(f:cf),e 0=E ⟨0,h,d,g,Q⟩->OL O1 (ao<|mS a m l k) g f->bl f=bl z->
  vc J M u (je (λ_=>False) O) ⟨ov [(5,I<|A l),(0,.ms 0 0<|A l),(1,I<|k+cS a l)] j,e,eP dY 0,y,f,p⟩):oG J M u O ⟨D,ai ma 0<|some ⟨0,h,d,K,Q⟩,eP dY 0,y,z,ab⟩:=by
 refine fG 5 (A l) (λi=>fF y [(0,.ms 0 0<|A l),(1,I<|k+cS a (Y i l))] λj e G f=>G=eP dY 0/\bl f=bl z/\∃g,OL O1 (ao (mS a m (Y i l) k)++ao ((l.drop i).map q)) g f/\e 0=E ⟨0,h,d,g,Q⟩) an
  ⟨C,by simp[al,am,cS],C,C,K,by simpa[mS]using av,ep⟩ ?_
 rintro i j e G f p aq⟨rfl,S,g,F,R⟩;by_cases s:i<A l
 .have ap:ao ((l.drop i).map q)=q l[i]++ao ((l.drop<|i+1).map q):=by rw[ml s,b4,dT]
  rw[ap]at F;obtain⟨b,d1,T1,T2,rfl,rfl,V,az⟩:=OL.split _ F;obtain⟨ak,ae,ad,T3,rfl,rfl,aB,aA⟩:=OL.split _ az;have ay:=Q4 a s;have aQ:=Q3 a l<|i+1;have U:A b=i*d:=by
   rw[V.len,iY<|KS a m au _ _,xt,ij,wx<|Nat.le_of_lt s]
  refine lW u (λo aN w=>?_)<|aa h i s (k+cS a (Y i l)) j e p b ae ak T1 ad T3 Zo Zo (gJ i Zo) ch R U (JF U) aB;cases o with
  |normal=>
   obtain⟨aC,aD,aF,aI,aJ,L,aO,aK,Z,aL,aM⟩:=w;rw[GN];refine jW aD s ⟨aC,by rw[ay];simp only[bM,aF,aI,rj];exact⟨eo (λG=>I G) Zo,Zs⟩,aJ,?_,_,?_,aK⟩
   .rw[Z,<-S,qy,qy,qy,qy,aM]
   rw[Z,Ui a m s,eR,dy];refine V.eS<|OL.eS ?_ aA;simpa using aL
  |_=>exact False.elim w
 have ar:i=A l:=Zo;subst ar;rw[cc]at F⊢;refine lW u (λo aN w=>?_)<|B j e p g f R (Yq F) S;cases o with
 |normal=>exact w.elim
 |_=>exact w
def nk{g:aH}{e:St}{j:bI}{i:ON}{f:aU}{T1 jQ B:cf}{a:aN}{k r:aN}{d b:D}{F:ax}(p:e.T=T1++(jQ++(⟨a,d,F⟩:TE)::B))(l:dR g j [.sc a,.sc k] [⟨a,d,F⟩] [b]<|.sc r)(o:f<|{e with T:=T1++(jQ++(⟨a,b,F⟩:TE)::B)}.put i<|.sc r):jU g e (.fn j [] []) [.sc a,.sc k] i f:=
 Jf [⟨a,d,F⟩] (T1++(jQ++B)) (T1++(jQ++(⟨a,b,F⟩:TE)::B)) [b] r l Zs ((Yy p)<|(MC T1 wu).trans wu) ((MC T1 wu).trans wu) o
def aa8{X:Type}{s:aH}{w:ax}{u:dJ}{t:gg}{p r:Nat}{a:List X}{b:X->Nat}{m:X->Int->DL}{k:Int}{l:fL}{z:a'}{O:bi}{D:cf}{C:Nat}(P:A a<=1000000000)(J:l 5=I 0)(F:l 0=.sl r (mS b m a k))(G:l 1=I k)
 (y:∀(i:Nat)(o:i<A a)(j:Int)(g:fL)(d:a')(h:bi)(f:cf)(e:Nat),k<=j->j+b a[i]<=k+cS b a->A (mS b m a k)=A a/\(mS b m a k)[i]?=E (m a[i] j)->cb.wrap ((i:Int)+1)=((i+1:Nat):Int)->(ah ((i:Int)<(A a:Int))=W/\((i:Int)<(A a:Int))=True)->
  vc s w u (je (λq=>q.nt=p/\q.env 5=I ((i+1:Nat))/\q.env 0=.sl r (mS b m a k)/\q.env 1=I (j+b a[i])/\True) t) ⟨ov [(5,I i),(0,.sl r<|mS b m a k),(1,I j)] g,d,h,p,f,e⟩)
 (B:∀(g:fL)(d:a')(h:bi)(f:cf)(e:Nat),vc s w u (je (λ_=>False) t) ⟨ov [(5,I<|A a),(0,.sl r<|mS b m a k),(1,I<|k+cS b a)] g,d,h,p,f,e⟩):oG s w u t ⟨l,z,O,p,D,C⟩:=by
 refine zq (len:=A a) _ (λi=>I<|k+cS b (Y i a)) (λ_=>True) Zo J F (by rw[G];simp[cS]) trivial (λi o g d h f e _ M K=>?_) λg d h f e _=>by have x:=B g d h f e;rwa[cc]
 have L:=Q4 b o;have R:=Q3 b a<|i+1;have x:=y i o (k+cS b (Y i a)) g d h f e Zo Zo ⟨xt b m a k,adC b m o k⟩ M K;rwa[Int.add_assoc,<-Mz,<-L]at x
def te{X:Type}{b:aH}{s:bI}{e:hC}{j:dJ}{sz nt:Nat}{l:List X}{o:X->DL}{d:X->Nat}{m:X->Int->DL}{k:Int}(G:b.funcs[s]?=E e)(L:e.ntmps=nt)(U:∀a,A (o a)=sz)(h:∀a k,A (m a k)=sz)(f:A l<=1099511627776){t:Prop}(i:t)
 (B:e.body=E j:=by rfl) (K:(e.name== "runtime.NumGoroutine")=af:=by kernel_rfl) (M:e.results.toList=[.tmp 4]:=by rfl) (J:2<=nt:=by decide)
 (w:∀T,vc b [] j (Gv b [.tmp 4] T<|.int .i64 k)<|qW [.sl sz [],I k] nt T:=by
  intro T;simp only[go_sem];refine adu ?_;simp only[MA,sn,mw,go_sem];exact⟨C,C⟩)
 (x:(∀a k,A (m a k)=sz)->(∀a,0<=d a)->A l<=1099511627776->t->∀g cells T,OL O1 (ao<|l.map o) cells T->vc b [] j (Gu b [.tmp 4] T sz (mS d m l k)<|.int .i64<|k+cS d l) {env:=ej [.ms 0 0<|A l,I k],H:=ai ma 0 (E {gen:=0,elem:=g,sz,cells}),n:=eP dY 0,nt,T}:=by
  intro h O f i g cells T p;simp only[go_sem];refine adR h O f C C C p i λenv H P S R y D z=>?_;simp only[sn,mw,go_sem];exact⟨C,_,y,C,C,C,D,z⟩) (r:aN) (F:ax):
 dR b s [.sc r,I k] [⟨r,.sl sz<|l.map o,F⟩] [.sl sz<|mS d m l k] (I<|k+cS d l):=by
 refine Xj.ey [] [.tmp 4] G B K L M (show A ([I k]:DL)+1<=nt from J) (by rw[xt,bE]) (KS d m h l k) (λu T=>?_) (λ_ g cells T p=>?_) r F
 .have f:l=[]:=by simpa using u
  subst f;have q:=w T;simpa[cS]using q
 have q:=x h (λ_=>kT _) f i g cells T p;rw[bE];exact q
def Fm{X:Type}{e:aH}{l:bI}{d:hC}{j:dJ}{i h:Nat}{a:List X}{b:X->Nat}{m:X->Int->DL}{k:Int}(r:e.funcs[l]?=E d)(u:d.ntmps=h)(F:∀x k,A (m x k)=i)(g:A a<=1000000000){p:Prop}(f:p)
 (q:d.body=E j:=by rfl) (t:(d.name== "runtime.NumGoroutine")=af:=by kernel_rfl) (w:d.results.toList=[.tmp 4]:=by rfl) (s:2<=h:=by decide)
 (h1:A (mS b m a k)=A a->A a<=1000000000->p->vc e [] j (nF e [.tmp 4]<|I<|k+cS b a) (mU [.sl i<|mS b m a k,I k] h):=by
  intro o g f;simp only[o,go_sem];refine aa8 g C C C f λD y G B z=>?_;simp only[o,sn,mw,go_sem];exact Fz.di C):Sp e l [.sl i<|mS b m a k,I k]<|I<|k+cS b a:=Sp.ey [] [.tmp 4] r q t u w s<|h1 (xt b m a k) g f
end
def fH(n:List Ag)(i:Nat):List Nat:=match n[i]? with
 |some a=>a.p.map λp=>p.1.toNat
 |none=>[]
def iy(l ps:ax):ax:=ps.foldl (λl p=>if p∈l then l else l++[p]) l
def uE(n:List Ag):Nat->Nat->List Nat->List Nat
 |0,_,l=>l
 |f+1,i,l=>match l[i]? with
  |some x=>uE n f (i+1) (iy l<|fH n x)
  |none=>l
def bA(n:List Ag)(s:Nat):ax:=uE n (A n) 0 [s]
def eN(n:List Ag)(l:List Nat):List Int:=l.flatMap λk=>match n[k]? with
 |some a=>[a.k,a.l,a.v,(A a.d:Int)]++a.d++a.p.flatMap λp=>[(l.idxOf p.1.toNat:Int),p.2]
 |none=>[]
def nS(n:List Ag):Prop:=∀i,i<A n->∀j∈fH n i,j<A n/\i∈fH n j
def ad0(a:A g0<=am):fH g0 am=[]:=by simp[fH,sq a]
theorem AU:∀(b a:ax),∃r,iy a b=a++r
 |[],a=>⟨[],by simp[iy]⟩
 |d::b,a=>by
  obtain⟨r,e⟩:=AU b (if d∈a then a else a++[d])
  grind [iy]
theorem zv:∀(a b:ax),am∈iy b a↔am∈b\/am∈a
 |[],b=>by simp[iy]
 |d::a,b=>by
  show am∈iy _ a↔_;rw[zv a];simp only;split<;>simp<;>grind
theorem IT:∀(b a:ax),a.Nodup->(iy a b).Nodup
 |[],a,d=>d
 |e::b,a,d=>by
  exact IT b _<|Zg
structure Tv (n:List Ag) (dD:Nat->Prop) (i:Nat) (l:List Nat):Prop where
 nd:l.Nodup
 lt:∀x∈l,x<A n
 nb:∀j,j<i->∀x,l[j]?=E x->∀y∈fH n x,y∈l
 c:∀x∈l,dD x
 le:i<=A l
theorem zA:∀{n:Nat}{a:ax},a.Nodup->(∀d∈a,d<n)->A a<=n
 |0,[],_,_=>by simp
 |0,e::a,_,b=>absurd (b e Zs) Zo
 |n+1,a,f,b=>by
  have:=zA (n:=n) (f.erase n) λd g=>Zg;exact Zg
theorem Tv.step(k:nS g0)(i:∀a,n6 a->∀b∈fH g0 a,n6 b)(h:Tv g0 n6 am gt){a:Nat}(f:gt[am]?=E a):Tv g0 n6 (am+1)<|iy gt<|fH g0 a:=by
 have e:=fE f;have o:=(dX.1 f).1;obtain⟨r,j⟩:=AU (fH g0 a) gt;refine⟨IT _ _ h.nd,λb d=>?_,λg p b d m l=>?_,λb d=>?_,sG⟩
 .obtain q|q:=(zv _ _).1 d
  .exact h.lt b q
  exact(k a (h.lt a e) b q).1
 .rw[j,lY Zo]at d;by_cases q:g=am
  .grind [zv]
  exact(zv _ _).2<|aG<|h.nb g Zo b d m l
 obtain q|q:=(zv _ _).1 d
 .exact h.c b q
 exact i a (h.c a e) b q
def ahg(a:A gt<=am):∀f,uE g0 f am gt=gt
 |0=>rfl
 |f+1=>by rw[uE,sq a]
theorem Wn{d:List Ag}(g:nS d)(e:∀x,n6 x->∀j∈fH d x,n6 j):∀(f a:Nat)(l:ax),Tv d n6 a l->A d<=f+a->∃r,uE d f a l=l++r/\Tv d n6 (A<|l++r) (l++r)
 |0,a,l,b,i=>by
  have:=zA b.nd b.lt;have:=b.le;obtain rfl:a=A l:=Zo;exact⟨[],by simp[uE],Yq b⟩
 |f+1,a,l,b,i=>by
  rw[uE];rcases h:l[a]? with _|x
  .have:=b.le;have p:=List.getElem?_eq_none_iff.1 h;obtain rfl:a=A l:=Zo;exact⟨[],Zs,Yq b⟩
  obtain⟨r,k,m⟩:=Wn g e f (a+1) _ (b.step g e h) Zo;obtain⟨q,o⟩:=AU (fH d x) l;exact Zg
def L9{a:List Ag}(j:nS a){b:Nat}(e:b<A a){dD:cG}(i:∀d,dD d->∀k∈fH a d,dD k)(f:dD b):Tv a dD (A<|bA a b) (bA a b)/\∃r,bA a b=b::r:=by
 obtain⟨r,g,h⟩:=Wn j i (A a) 0 [b] ⟨Zs,Yq e,Zs,Yq f,Zs⟩ Zo;rw[bA,g];exact⟨h,r,C⟩
def kO{a:List Ag}(j:nS a){b:Nat}(h:b<A a):(bA a b).Nodup/\(∀d∈bA a b,d<A a)/\(∀d∈bA a b,∀f∈fH a d,f∈bA a b)/\b∈bA a b:=by
 obtain⟨e,r,i⟩:=L9 j h (dD:=λ_=>True) (λ_ _ _ _=>trivial) trivial;refine⟨e.nd,e.lt,λd k f l=>?_,Yx i⟩;obtain⟨m,g⟩:=jg.1 k;exact e.nb m (dX.1 g).1 d g f l
def GW(f:nS g0)(b:am<A g0)(e:∀a,n6 a->∀g∈fH g0 a,n6 g)(d:n6 am):∀a∈bA g0 am,n6 a:=(L9 f b e d).1.c
def Wl(e:nS g0)(f:am<A g0):∀a,a∉bA g0 am->∀b∈fH g0 a,b∉bA g0 am:=λa h b d g=>by
 by_cases i:a<A g0
 .exact h<|(kO e f).2.2.1 b g a (e a i b d).2
 rw[ad0 Zo]at d;cases d
def ahd{b:List Ag}(a:nS b){f e:Nat}(g:f<A b)(i:e∈bA b f):∀d,d∈bA b e↔d∈bA b f:=by
 have h:=(kO a g).2.1 e i;have k:∀d∈bA b e,d∈bA b f:=GW a h (kO a g).2.2.1 i;refine λd=>⟨k d,?_⟩;by_cases j:f∈bA b e
 .exact GW a g (kO a h).2.2.1 j d
 exact absurd (kO a h).2.2.2<|GW a g (Wl a h) j e i
end
end Go.Fw
