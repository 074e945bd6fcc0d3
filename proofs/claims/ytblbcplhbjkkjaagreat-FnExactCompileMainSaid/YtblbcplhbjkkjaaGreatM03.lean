/- A part of the proof about CompileMain. No condition. -/
import Derived.Shelf.Abstract
import Derived.WalkKit
import Derived.OwnWalkIn
import Derived.TacticsInMore
import Derived.LoopNIn
import Derived.LoopIn
import Derived.Test.YtblbcplhbjkkjaaGreatM01
import Derived.Test.YtblbcplhbjkkjaaGreatM02
set_option maxRecDepth 100000
set_option maxHeartbeats 8000000
set_option linter.unusedSimpArgs false
set_option linter.unusedVariables false
set_option linter.defProp false
open Go.Proofs.Tryz
open Go.Proofs (enters_of)
open List
open Bool renaming false->af,true->W
open Decidable renaming decide->ah
open Go renaming FuncId->bI,Oper->dU,Program->aH,TypeId->a6,Value->aN,maxLen->aE
open Go.IntKind renaming i64->cb
open Go.IntWalk renaming i64_in->dE
open Go.Proofs.Tryz renaming prog->aB
open List renaming flatten->ao,length->A,range->cz,replicate->fu,take->Y
open Nat renaming reduceEqDiff->bj
open Option renaming none->Q,some->E
open Or renaming inl->aG,inr->aj
namespace Go.Fw
noncomputable section
open Classical
attribute [local irreducible] St.put
structure Ev where
 n:ByteArray
 t:J
 l:Int
structure Bi where
 id:Nat
 e:Ev
abbrev bb:=List Bi
def Bi.d(b:Bi):D:=.pa b.id (S b.e.n::(b.e.t.ds++[I b.e.l]))
def bd:Option Bi->D
 |some b=>b.d
 |none=>.sc<|.pointer Q
inductive Nd where|mk (id:Nat) (t:L) (ty:J) (l:Int) (ks:List Nd) (bs:List Bi) (b:Option Bi)
abbrev eg:=List Nd
def Nd.id:Nd->Nat|.mk i _ _ _ _ _ _=>i
def Nd.t:Nd->L|.mk _ t _ _ _ _ _=>t
def Nd.ty:Nd->J|.mk _ _ y _ _ _ _=>y
def Nd.l:Nd->Int|.mk _ _ _ l _ _ _=>l
def Nd.ks:Nd->eg|.mk _ _ _ _ ks _ _=>ks
def Nd.bs:Nd->bb|.mk _ _ _ _ _ bs _=>bs
def Nd.b:Nd->Option Bi|.mk _ _ _ _ _ _ b=>b
def au{X:Type}(f:X->D)(l:List X):cB:=l.map λx=>[f x]
variable {g2 ld:Type}{am a0 a2 a4:Nat}{g3:aH}{gt i4:ax}{c2:aU}{fd hO:a'}{eq hw m2 pi rx v2:D}{a5:aF}{be:aO}{ajc:Nat → D → Prop}{g7:ON}{n8 z4:L}{a3 g1:Int}{gs i2:BA}{he m9:J}{hH pm:aX}{z9:Bool}{g4:a6}{h1:bu}{bv g9:St}{a9 g6:DL}{n6 xs:cG}{ip:cB}{g8:bi}{n5 wp:O}{v1:cm}
def fg(b:g2->D)(a:List g2):A (au b a)=A a:=kl
attribute [go_sem,simp] fg
def jx{f:g2->D}{a:List g2}(b:am<A a):(au f a)[am]?=E [f a[am]]:=by simp[au,b]
def ff{f:g2->D}{e:List g2}(g:∀a∈e,Cl<|f a):Cl<|.sl 1<|au f e:=by
 simp only[db,au,aP];rintro r⟨a,h,rfl⟩d b;simp at b;subst b;exact g a h
def r9{a:g2->D}(d b:List g2):au a (d++b)=au a d++au a b:=kl
def kM{b:g2->D}(a:List g2):ao (au b a)=a.map b:=by induction a with
 |nil=>rfl
 |cons e a d=>simp only[au,b4,dT]at*;rw[d];rfl
def ha{f:g2->D}(a:List g2):∀r∈au f a,A r=1:=kl
mutual
def Nd.d:Nd->D
 |.mk i t ty l ks bs b=>.pa i (t.ds++ty.ds++[I l,.sl 1 (Nd.dL ks),.sl 1 (au Bi.d bs),bd b])
def Nd.dL:List Nd->List (List D)
 |[]=>[]
 |c::cs=>[c.d]::Nd.dL cs
end
def Nd.ja:∀a:eg,Nd.dL a=au Nd.d a
 |[]=>rfl
 |c::b=>by rw[Nd.dL,Nd.ja b];rfl
theorem Bi.cl(b:Bi):Cl b.d:=by
 have⟨f,i,e,h⟩:=b;exact Cl.pa _ _ λg d a=>by
  obtain rfl|a:=cF.1<|fE a
  .exact bc _
  obtain a|a:=ca.1 a
  .exact J.cl e d a
  simp at a;subst a;exact bc _
def XM(b:Option Bi):Cl<|bd b:=by cases b;exact bc _;exact Bi.cl _
mutual
theorem Nd.cl:∀x:Nd,Cl x.d
 |.mk i t ty l ks bs b=>Cl.pa _ _ λk d hd=>by
  have hd:=fE hd;simp only[ca,cF,dt,gD]at hd;obtain(hd|hd)|rfl|rfl|rfl|rfl:=hd
  .exact L.cl t d hd
  .exact J.cl ty d hd
  .exact bc _
  .exact Nd.dl ks
  .exact ff λx _=>Bi.cl x
  exact XM b
theorem Nd.dl:∀l:List Nd,Cl (.sl 1 (Nd.dL l))
 |[]=>by simp[Nd.dL]
 |c::cs=>by
  have a:=Nd.dl cs;simp only[Nd.dL,db,bM]at a⊢;exact⟨⟨Nd.cl c,Zs⟩,a⟩
end
mutual
def Nd.num:Nd->Nat
 |.mk _ _ _ _ ks bs _=>1+A bs+Nd.aZ ks
def Nd.aZ:List Nd->Nat
 |[]=>0
 |c::cs=>c.num+Nd.aZ cs
end
def Nd.B'(a:Nd):1<=a.num:=by cases a;rw[Nd.num];omega
def Nd.Gd:∀a:eg,A a<=Nd.aZ a
 |[]=>bJ _
 |c::b=>by have:=Nd.Gd b;have:=c.B';rw[Nd.aZ,dC];omega
def Nd.jw:∀{l:eg}{a:Nd},a∈l->a.num<=Nd.aZ l
 |c::b,a,h=>by
  rw[Nd.aZ];obtain rfl|h:=cF.1 h
  .omega
  have:=Nd.jw h;omega
def Nd.oL{a:Nd}:A a.ks<=a.num/\A a.bs<=a.num/\∀e∈a.ks,e.num<a.num:=by
 have⟨g,i,ty,h,d,bs,b⟩:=a;have:=Nd.Gd d;refine⟨by rw[Nd.num];show A d<=_;omega,by rw[Nd.num];show A bs<=_;omega,λe f=>?_⟩;have:=Nd.jw (show e∈d from f);rw[Nd.num];omega
def Nd.all(p:Nd->Bool)(x:Nd):Bool:=p x&&x.ks.attach.all λy=>Nd.all p y.1
decreasing_by obtain⟨y,a⟩:=y;have:=fl a;cases x;simp only[Nd.ks]at*;simp;omega
def Nd.all_eq(a:Nd->Bool)(b:Nd):Nd.all a b=(a b&&b.ks.all (Nd.all a)):=by
 rw[Nd.all];congr 1;simp[List.all_eq]
variable {m5 v3:Nd}
def Nd.lt(a:v3∈m5.ks):SizeOf.sizeOf v3<SizeOf.sizeOf m5:=by
 have⟨e,g,ty,f,d,bs,b⟩:=m5;have:=fl (show v3∈d from a);simp;omega
def pR{s:St}{ty b:a6}{S:ax}{f:g2->D}{l:List g2}{a:g2}(k:cE g3 ty=E (b,1,a4))(o:aL S s.H b 1 (au f l)<|s.env a0)(p:dS s b 1 (s.env a2)=E (1,[f a]))(m:cO (f a)=W)
 (j:(A l+1)*a4<=140737488355328) (hp:1<=a4) (i:∀H n e,aL [am] H b 1 (au f<|l++[a]) e->(∀d,d≠am->d∉S->H d=s.H d)->c2 ({s with H:=H,n:=n}.put (E am) e)):eC g3 gt (.call ⟨.builtin .append,#[.tmp a0,.tmp a2],#[ty,ty]⟩) (E am) c2 s:=
 eC.eS (bD:=au f [a]) k o (ha l) (by simpa[au]using p) kl (by simp[au,m]) (by simpa[au]using j)
  OJ λH n e g h=>i H n e (by rw[r9];exact g) h
def mQ{f:g2->D}{S:ax}{e:a6}{a:List g2}(h:aL S fd e 1 (au f a) eq)(i:∀b∈a,Cl<|f b):Fz fd eq<|.sl 1<|au f a:=
 h.fz Zd (ha a) (by simp only[au,aP];rintro r⟨b,j,rfl⟩d g;simp at g;subst g;exact i b j)
def iW(k:Int):List Int->Nat->Int->Int->Int
 |[],_,s,m=>s+m
 |x::l,i,s,m=>if 0<i/\(k=9\/k=11)then iW k l (i+1) s (max m x)else iW k l (i+1) (s+x) m
def A'(f:Int):∀(d:IL)(e:Nat)(b a:Int),(∀x∈d,0<=x)->0<=a->b+a<=iW f d e b a/\iW f d e b a<=b+a+d.sum
 |[],e,b,a,_,_=>by simp[iW]
 |x::d,e,b,a,g,j=>by
  have k:=g x Zs;rw[iW,kS];split
  .have:=A' f d (e+1) b (max a x) (λi h=>g i<|Yr h) Zo;omega
  have:=A' f d (e+1) (b+x) a (λi h=>g i<|Yr h) j;omega
def abz(l:eg)(p:Nd->Bool)(f:bI)(aW aV:DL)(g:A l<=aE)(e:∀d∈aW,Cl d)(hc:∀d∈aV,Cl d)
 (b:∀a∈l,az f (aW++[Nd.d a]++aV)<|B<|p a):az 253 [.sl 1<|au Nd.d l,.fn f aW aV]<|I<|fT p l:=by
 unfold aE at g;refine(dH)<|lp 8 (A l) [0,1,7] (λk _ _ _ _=>(Y k l).any p=af) Zs ?_;rintro k o i r m j q hp;refine ZL (λbw=>?_) λh=>?_
 .exact(ad<|jx (f:=Nd.d) bw)<|bR _ (b l[k]<|aD bw) (by simp only[pH,bM];exact⟨⟨e,Nd.cl _,Zs⟩,hc⟩)<|wJ
 exact sK
def EH(l:eg)(b:Nd->Bool)(a:bI)(aW aV:DL)(j:A l<=aE)(i:∀d∈aW,Cl d)(f:∀d∈aV,Cl d)
 (g:∀e∈l,az a (aW++[Nd.d e]++aV)<|B<|b e):az 179 [.sl 1<|au Nd.d l,.fn a aW aV]<|B<|l.any b:=by
 refine(cR) ?_;have:=abz l b a aW aV j i f g;exact tJ
def abv(l:bb)(p:Bi->Bool)(f:bI)(aW aV:DL)(g:A l<=aE)(e:∀d∈aW,Cl d)(hc:∀d∈aV,Cl d)
 (b:∀a∈l,az f (aW++[Bi.d a]++aV)<|B<|p a):az 291 [.sl 1<|au Bi.d l,.fn f aW aV]<|I<|fT p l:=by
 unfold aE at g;refine(dH)<|lp 8 (A l) [0,1,7] (λk _ _ _ _=>(Y k l).any p=af) Zs ?_;rintro k o i r m j q hp;refine ZL (λbw=>?_) λh=>?_
 .exact(ad<|jx (f:=Bi.d) bw)<|bR _ (b l[k]<|aD bw) (by simp only[pH,bM];exact⟨⟨e,Bi.cl _,Zs⟩,hc⟩)<|wJ
 exact sK
def Zr(l:bb)(b:Bi->Bool)(a:bI)(aW aV:DL)(j:A l<=aE)(i:∀d∈aW,Cl d)(f:∀d∈aV,Cl d)
 (g:∀e∈l,az a (aW++[Bi.d e]++aV)<|B<|b e):az 254 [.sl 1<|au Bi.d l,.fn a aW aV]<|B<|l.any b:=by
 refine(cR) ?_;have:=abv l b a aW aV j i f g;exact tJ
theorem QB(b:g2->Bool)(a:List g2):(a.any λd=>!b d)=!a.all b:=by induction a<;>simp_all
def oH(x:Nd):Bool:=ah (x.l<=8)&&(match x.b with|some b=>ah (b.e.l=x.l)|none=>W)
theorem T4(e:Nd)(a:e.num<=1048576):az 252 [e.d]<|B<|Nd.all oH e:=by
 have u:=@Nd.oL e;have o f (p:f∈e.ks):az 290 ([]++[f.d]++[])<|B<|!Nd.all oH f:=by
  have y:=T4 f Zg;exact(Pz)<|(cR)<|(ZC)<|Fz.aK C
 have m:=EH e.ks (λf=>!Nd.all oH f) _ [] [] jC Zs Zs o;rw[QB]at m;rw[Nd.all_eq];have⟨w,⟨A,v,F,⟨I,M,K⟩,G,P⟩,⟨R,U,S⟩,j,D,bs,b⟩:=e;simp only[Nd.ks]at*;refine(cR) ?_;simp only[Nd.d,Nd.ja,go_sem];refine fB ?_;obtain _|b:=b
 .simp only[bd,go_sem];refine oC (λa=>?_) λa=>?_
  .refine(bQ a) ?_;apply Fz.aK;simp at a;simp[oH,Nd.l,Nd.b,a]
  refine(ad a) ?_;apply Fz.aK;have i:¬j<=8:=Ys a;simp[oH,Nd.l,i]
 have⟨z,t,⟨q,s,r⟩,bl⟩:=b;simp only[bd,Bi.d,go_sem];refine oC (λa=>?_) λa=>?_
 .refine lm a (λg=>?_) λg=>?_
  .refine(ad g) ?_;apply Fz.aK;have i:¬bl=j:=Yq g;simp[oH,Nd.l,Nd.b,i]
  refine(bQ g) ?_;apply Fz.aK;have k:bl=j:=Yq g;simp at a;simp[oH,Nd.l,Nd.b,a,k]
 refine(ad a) ?_;apply Fz.aK;have i:¬j<=8:=Ys a;simp[oH,Nd.l,i]
decreasing_by exact Nd.lt p
def Nd.us(x:Nd)(i:Nat):Int:=if x.b.any (λb=>ah<|b.id=i)then 1 else iW (L.kd x.t) (x.ks.attach.map λy=>Nd.us y.1 i) 0 0 0
decreasing_by exact Nd.lt y.2
def Nd.z7(a:Nd)(d:Nat):a.us d=if a.b.any (λb=>ah<|b.id=d)then 1 else iW (L.kd a.t) (a.ks.map λe=>e.us d) 0 0 0:=by
 rw[Nd.us];simp
theorem Nd.Wz(f:Nd)(d:Nat):0<=f.us d/\f.us d<=f.num:=by
 have h a (g:a∈f.ks):0<=a.us d/\a.us d<=a.num:=Nd.Wz a d;rw[Nd.z7];have⟨id,o,ty,e,j,bs,b⟩:=f;simp only[Nd.ks]at h;have l:∀e:eg,(∀a∈e,0<=a.us d/\a.us d<=a.num)->(e.map λa=>a.us d).sum<=Nd.aZ e:=by
  intro e i
  induction e with
  |nil=>simp[Nd.aZ]
  |cons k p m=>have:=i k Zs;have:=m λa g=>i a (Yr g);simp only[b4,kS,Nd.aZ];omega
 have q:=l j h;have r:=A' (L.kd o) (j.map λa=>a.us d) 0 0 0 Zg<|sm _;rw[Nd.num];split
 .omega
 simp only[Nd.t,Nd.ks];omega
decreasing_by exact Nd.lt g
def WD(x:Nd)(b:Bi)(q:∀(m:Int)(l:IL),(∀y∈l,0<=y)->l.sum<=1048576->A l<=1048576->az 292 [I m,.sl 1<|au I l] (I<|iW m l 0 0 0))(M:x.num<=1048576):az 256 [x.d,b.d]<|I<|x.us b.id:=by
 have h1:=@Nd.oL x;have am y (F:y∈x.ks):az 256 [y.d,b.d]<|I<|y.us b.id:=WD y b q<|Yo<|h1.2.2 y F;have P:=λy=>Nd.Wz y b.id;have aO:=Bi.cl b;rw[Nd.z7];obtain⟨ao,⟨m,v,G,⟨ar,ax,av⟩,aq,ay⟩,⟨aC,aH,aF⟩,l,e,bs,o⟩:=x;have aQ:=Nd.Gd e;rw[Nd.num]at M;have q:=q m (e.map λy=>y.us b.id) (by simp only[aP];rintro aU⟨y,F,rfl⟩;exact(P y).1) (by
  have w:∀l:eg,(l.map λy=>y.us b.id).sum<=Nd.aZ l:=λl=>by
   induction l with
   |nil=>simp[Nd.aZ]
   |cons ad aM aR=>have w:=P ad;simp only[b4,kS,Nd.aZ];omega
  have w:=w e;omega) ch
 obtain⟨g,ab,⟨V,Z,X⟩,bl⟩:=b;simp only[Nd.ks,Nd.b,Nd.t,L.kd]at*;have ak:cE aB 217=E (3,1,8):=Zk;refine(λap:∀r:Int,r=(if o.any (λb=>ah<|b.id=g)then 1 else iW m (e.map λy=>y.us g) 0 0 0)->az 256 [Nd.d (.mk ao (.mk m v G (.mk ar ax av) aq ay) (.mk aC aH aF) l e bs o),Bi.d ⟨g,ab,.mk V Z X,bl⟩] (I r)=>ap _ C) ?_;intro r p;refine(ki [1000028] [.tmp 4]) ?_;simp only[Nd.d,Bi.d,Nd.ja,go_sem];have k:(∃i,o=E i/\(i.id==g)=W)\/o=Q\/∃i,o=E i/\(i.id==g)=af:=by
  obtain _|i:=o
  .exact aj<|aG C
  cases D:i.id==g;exact aj (aj ⟨i,C,D⟩);exact aG ⟨i,C,D⟩
 obtain⟨i,rfl,B⟩|k:=k
 .simp only[bd,Bi.d,B,go_sem];exact Fz.di (by simp at B;simp[p,B])
 have p:r=iW m (e.map λy=>y.us g) 0 0 0:=by
  obtain rfl|⟨i,rfl,s⟩:=k
  .simpa using p
  simp at s;simpa[s]using p
 subst p;obtain k|⟨i,k,s⟩:=k<;>first|simp only[k,bd,Bi.d,s,go_sem]|simp only[k,bd,go_sem]
 all_goals
  refine lp 19 (A e) [0,1,17,18] (λj env K G U=>aL [28] K 3 1 (au I ((Y j e).map λy=>y.us g))<|env 5) (aG ⟨C,C⟩) λj env K G U aK D u=>?_;generalize z:env 5=y;rw[z]at u;refine ZL (λbw=>?_) λM=>?_
  .have al:=jx (f:=Nd.d) bw;have w:=am e[j]<|aD bw;refine(bQ<|JJ z al)<|GK.cM (pR (S:=[28]) (f:=I) (l:=(Y j e).map λy=>y.us g) (a:=e[j].us g) ak ((Pa)<|u.aA bF) hF C ch Zd λaI aS aT R aN=>?_);refine(ZN) ?_;refine dI ?_;have an:(Y j e).map (λy=>y.us g)++[e[j].us g]=(Y (j+1) e).map λy=>y.us g:=wH;rw[an]at R;simpa[aw]using R
  obtain rfl:j=A e:=Zo;rw[cc]at u;simp only[z,go_sem];exact A2 q (.c (.cl _<|bc _)<|.c (mQ u λ_ _=>bc _) .n) C<|(ZN)<|Fz.di C
decreasing_by exact Nd.lt F
theorem Za(g:Int)(a:IL)(z:∀l∈a,0<=l)(R:a.sum<=1048576)(S:A a<=1048576):az 292 [I g,.sl 1<|au I a]<|I<|iW g a 0 0 0:=by
 refine(dH)<|lp 11 (A a) [0,9,10] (λq u _ _ _=>∃d b:Int,u 5=I d/\u 6=I b/\0<=d/\0<=b/\d+b<=(Y q a).sum/\iW g (a.drop q) q d b=iW g a 0 0 0) ⟨0,0,bU,bU,Zs⟩ ?_;rintro q u K ae M L Z⟨d,b,m,o,F,X,B,e⟩;refine ZL (λp=>?_) λP=>?_
 .have y:=jx (f:=I) p;have ab:=z _<|aD p;have aa:(Y (q+1) a).sum=(Y q a).sum+a[q]:=by rw[dm p,tx];simp
  have V:(Y (q+1) a).sum<=a.sum:=by
   have U:0<=(a.drop<|q+1).sum:=by
    have r:∀a:IL,(∀l∈a,0<=l)->0<=a.sum:=λa x=>by
     induction a with
     |nil=>simp
     |cons j O J=>have r:=x j Zs;have r:=J λl G=>x l (Yr G);simp only[kS];omega
    exact Zg
   have r:=eo List.sum<|qj (q+1) a;rw[tx]at r;omega
  rw[ml p,iW]at e;generalize a[q]=i at*;have s:cb.wrap (d+i)=d+i:=dE _ Zo;have D:(if b<i then i else b)=max b i:=yp;refine(ad y) ?_;by_cases j:0<q/\(g=9\/g=11)
  .rw[aM j]at e;have f0:ah ((q:Int)>0)=W:=co;obtain rfl|rfl:=j.2<;>simp only[f0,o,D,go_sem]<;>
   exact dI ⟨d,max b i,Ye m,bU,F,Zo,Zo,e⟩
  rw[aC j]at e;by_cases w:0<q
  .have f0:ah ((q:Int)>0)=W:=by simp;omega
   have f9:(g==9)=af:=by simp;exact λt=>j ⟨w,aG t⟩
   have f11:(g==11)=af:=by simp;exact λt=>j ⟨w,aj t⟩
   simp only[f0,f9,f11,m,s,go_sem];exact dI ⟨d+i,b,bU,Ye o,Zo,Zo,Zo,e⟩
  have f0:ah ((q:Int)>0)=af:=by simp;omega
  simp only[f0,m,s,go_sem];exact dI ⟨d+i,b,bU,Ye o,Zo,Zo,Zo,e⟩
 obtain rfl:q=A a:=Zo;rw[Hf,iW]at e;rw[cc]at B;have s:cb.wrap (d+b)=d+b:=dE _ Zo;simp only[m,o,s,go_sem];exact Fz.di e
def WB(x:Nd)(b:Bi)(a:x.num<=1048576):az 256 [x.d,b.d]<|I<|x.us b.id:=WD x b Za a
def abu(l:bb)(v:Bi)(i:A l<=aE):az 294 [.sl 1<|au Bi.d l,v.d]<|I<|fT (λb=>b.id==v.id) l:=by
 unfold aE at i;refine(dH)<|lp 8 (A l) [0,1,7] (λk _ _ _ _=>(Y k l).any (λb=>b.id==v.id)=af) Zs ?_;rintro k p j r o m q hp;refine ZL (λa=>?_) λh=>?_
 .have e:=jx (f:=Bi.d) a;rw[Bi.d]at e;simp only[e,Bi.d,go_sem];cases g:v.id==l[k].id
  .refine(ZN) ?_;refine dI ?_;rw[o6 a,hp,uI,<-g,Bool.beq_comm]
  exact(ZN)<|Fz.di (n3 a hp (by rw[<-g,Bool.beq_comm])).symm
 exact sK
def EF(a:bb)(v:Bi)(e:A a<=aE):az 261 [.sl 1<|au Bi.d a,v.d]<|B (a.any λb=>b.id==v.id):=by
 exact(dH)<|hW (abu a v e) (.c (ff λb _=>Bi.cl b)<|.c (Bi.cl _) .n)<|(ZN)<|Fz.aK<|zj a
def Cy{f:g2->D}(a:∀d,cO (f d)=W)(b:List g2):(au f b).flatten.all cO=W:=by rw[kM];simp[a]
def LI{f:g2->D}(a:∀e,Cl<|f e)(b:List g2):∀d∈ao (au f b),Cl d:=by rw[kM];simp[a]
theorem Bi.one(b:Bi):cO b.d=W:=rfl
def YR(a:bb)(g:A a<=1048576):gE aB 128 [.sl 1<|au Bi.d a] 211 1<|au Bi.d a:=by
 obtain _|⟨b,a⟩:=a
 .refine gE.none HG λj k=>?_;refine gE.ey [] [.tmp 2] C C Zk Zt C Zs kl<|(ZN) ?_;exact⟨kT _,aj ⟨7,⟨0,211,1,[],Q⟩,C,C,C,C,⟨[],C⟩,C⟩⟩
 have f:=Cy Bi.one (b::a);simp only[dC]at g;have i:=fg Bi.d (b::a);have e:=LI Bi.cl (b::a);simp only[au,b4,dC]at f i e⊢;refine gE.ey [] [.tmp 2] C C Zk Zt C Zs e<|(ad f) ?_;exact⟨⟨Zo,l3⟩,aj ⟨7,⟨0,211,1,_,Q⟩,Zs,C,C,C,⟨[],Zs⟩,C⟩⟩
def aaT(m:Nat)(e:m<=1099511627776):gE aB 293 [bp,I m] 211 1 []:=by
 refine gE.ey [] [.tmp 4] C C Zk Zt C Zs Zs ?_;have f0:ah ((m:Int)<0)=af:=Zs;have b:cb.wrap ((m:Int)-0)=(m:Int):=by have a:=dE ((m:Int)-0) Zo;rw[a];omega
 have d:cb.wrap ((0:Int)-0)=0:=C;simp only[f0,b,d,go_sem];by_cases c0:m=0
 .exact Nf
 have f1:ah ((m:Int)>0)=W:=co;simp only[f1,oY,go_sem];exact⟨⟨Zo,Zo,l3⟩,aj ⟨22,⟨0,211,1,ao<|fu m [.sc<|.pointer Q],Q⟩,C,C,C,C,⟨_,C⟩,C⟩⟩
def QG{s:St}{ty e:a6}{S:ax}{f:g2->D}{l m:List g2}(r:a0≠a2)(q:cE g3 ty=E (e,1,a4))(w:aL S s.H e 1 (au f l)<|s.env a0)(i:s.env a2=.sl 1 (au f m))(t:∀x,cO (f x)=W)
 (p:(A l+A m)*a4<=140737488355328) (u:1<=a4) (o:∀H n d a,(∀h,h≠a2->a h=s.env h)->aL [am] H e 1 (au f<|l++m) d->(∀b,b≠am->b∉S->H b=s.H b)->c2 ({s with env:=a,H:=H,n:=n}.put (E am) d)):
 GK (eC g3 gt (.call ⟨.builtin .append,#[.tmp a0,.tmp a2],#[ty,ty]⟩) (E am) c2) s:=
 GK.u5 (bD:=au f m) r q w (ha l) (by rw[i];simp[dS]) (λg=>by rw[i,g]) (Cy t m) (by simpa[fg]using p)
  (by have:=MT (A l+A m) u;simp only[fg];unfold aE;omega) λH n d a k g j=>o H n d a k (by rw[r9];exact g) j
def RM(ps:List<|bb)(U:A ps<=1048576)(J:A (ao ps)<=1099511627776):az 258 [.sl 1<|au (λa=>.sl 1<|au Bi.d a) ps]<|.sl 1<|au Bi.d<|ao ps:=by
 have t:=fg (λa=>.sl 1<|au Bi.d a) ps;have w k:A (ao<|Y k ps)<=A (ao ps):=PN;have u:∀k(b:k<A ps),ao (Y (k+1) ps)=ao (Y k ps)++ps[k]:=λk b=>by
  rw[dm b,eR];simp
 have z:cE aB 210=E (211,1,8):=Zk;refine(wB t [1000033] [.tmp 2])<|jH 11 (A ps) (λk=>Fw.Inv 36 [(0,.sl 1<|au (λa=>.sl 1<|au Bi.d a) ps),(9,.sl 1<|au (λa=>.sl 1<|au Bi.d a) ps),(10,I<|A ps),(3,I (A (ao<|Y k ps):Nat))] True) C ⟨C,uU,trivial⟩ ?_;rintro k⟨env,o,r,L,s,x⟩F e⟨rfl,i,-⟩;simp only[bM]at e i;obtain⟨e0,e9,EM,p,-⟩:=i;refine lm (JJ e EM) (λb=>?_) λb=>?_
 .have j:=rv b;have q:=w<|k+1;have h2:=u k j;rw[h2,b9]at q;have M:cb.wrap ((A (ao<|Y k ps):Nat)+(A ps[k]:Nat):Int)=((A (ao<|Y (k+1) ps):Nat):Int):=PS;have f0:ah (((A (ao<|Y (k+1) ps):Nat):Int)<0)=af:=Zs;simp only[b,e,e9,p,jx (f:=λa=>D.sl 1<|au Bi.d a) j,fg Bi.d ps[k],M,f0,go_sem];exact Ps
 have G:=yF b;subst G;rw[cc]at p;refine(ad<|JJ b p)<|tS 211 1 [] (aaT _ J) Zs ?_;intro o r X g R;refine(ad<|JJ e0 t)<|jH 27 (A ps) (λk=>Fw.fF 36 [(25,.sl 1<|au (λa=>.sl 1<|au Bi.d a) ps),(26,I<|A ps)] λenv o r s=>aL [24,33] o 211 1 (au Bi.d<|ao<|Y k ps)<|env 6) C ⟨C,bU,by simpa[aw,au]using g.sub Zs⟩ ?_;rintro k⟨env,o,r,L,s,x⟩F e⟨rfl,i,g⟩;simp only[bM]at e i g;obtain⟨EO,EP,-⟩:=i;refine dN (JJ e EP) (λj=>?_) λb=>?_
 .have q:=w<|k+1;have h2:=u k j;rw[h2,b9]at q;simp only[e,EO,jx (f:=λa=>D.sl 1<|au Bi.d a) j,go_sem];refine QG (f:=Bi.d) (l:=ao<|Y k ps) (m:=ps[k]) Zd z (by simpa[aw]using g) fR Bi.one Zo Zd λP V Z B he K S=>?_;have y:B 27=I k:=by rw[he 27 Zd];simp[aw,e]
  refine(ad y) ?_;refine nM ⟨C,OP,?_⟩;simp only[aw,bx];rw[h2];exact K.sub Zs
 obtain rfl:k=A ps:=Zo;rw[cc]at g;exact(ad b)<|mQ g λO _=>Bi.cl O
def Nd.bB(x:Nd):bb:=x.bs++ao (x.ks.attach.map λy=>Nd.bB y.1)
decreasing_by exact Nd.lt y.2
def Nd.qL(a:Nd):a.bB=a.bs++ao (a.ks.map Nd.bB):=by rw[Nd.bB];simp
theorem Nd.zk(d:Nd):A d.bB<=d.num:=by
 have j:∀a∈d.ks,A a.bB<=a.num:=λa e=>Nd.zk a;rw[Nd.qL];have⟨id,o,ty,l,m,bs,b⟩:=d;simp only[Nd.ks,Nd.bs,Nd.num]at*;have k:∀l:eg,(∀a∈l,A a.bB<=a.num)->A (ao<|l.map Nd.bB)<=Nd.aZ l:=by
  intro l f
  induction l with
  |nil=>simp
  |cons g i h=>have:=f g Zs;have:=h λa e=>f a (Yr e);simp only[b4,dT,b9,Nd.aZ];omega
 exact Zg
decreasing_by exact Nd.lt e
def inner(g:Nd)(u:g.num<=1048576):az 259 [g.d]<|.sl 1<|au Bi.d g.bB:=by
 have h1:=@Nd.oL g;have V i (z:i∈g.ks):az 259 [i.d]<|.sl 1<|au Bi.d i.bB:=inner i<|Yo<|h1.2.2 i z;have U:=Nd.zk g;rw[Nd.qL]at U⊢;obtain⟨an,⟨ap,v,B,⟨ay,aC,aA⟩,av,aF⟩,⟨aI,aM,aK⟩,l,a,bs,ak⟩:=g;simp only[Nd.ks,Nd.bs]at*;have P:cE aB 210=E (211,1,8):=Zk;refine(ki [1000023] [.tmp 2]) ?_;simp only[Nd.d,Nd.ja,go_sem];refine tS 211 1 _ (YR bs Zo) da ?_;intro k ar g e S;refine(ZN)<|jH 16 (A a) (λb=>Fw.fF 26 [(14,.sl 1<|au Nd.d a),(15,I<|A a)] λenv k B F=>aL [10,23] k 211 1 (au Bi.d<|bs++ao ((Y b a).map Nd.bB))<|env 3) C ⟨C,uU,by simpa[aw]using e.sub Zs⟩ ?_;clear e S;rintro b⟨env,k,B,ax,F,ah⟩am j⟨rfl,w,e⟩;simp only[bM]at j w e;obtain⟨s,t,-⟩:=w;generalize o:env 3=i;rw[o]at e;refine dN (JJ j t) (λr=>?_) λu=>?_
 .have R:=jx (f:=Nd.d) r;have y:ao ((Y (b+1) a).map Nd.bB)=ao ((Y b a).map Nd.bB)++a[b].bB:=by rw[dm r,bX,eR];simp
  have X:A (bs++ao ((Y (b+1) a).map Nd.bB))<=A (bs++ao (a.map Nd.bB)):=by
   have D:=eo (λl=>A<|ao l)<|qj (b+1)<|a.map Nd.bB;simp only[eR,b9]at D;rw[b9,b9,su];omega
  rw[y,<-dy,b9]at X;have D:=V a[b]<|aD r;refine(bQ<|JJ j<|JJ o<|JJ s R)<|QG (f:=Bi.d) (l:=bs++ao ((Y b a).map Nd.bB)) (m:=a[b].bB) Zd P (by simpa[aw]using e) fR Bi.one Zo Zd λab aq aH p q Z al=>?_;have M:p 16=I b:=by rw[q 16 Zd];simp[aw,j]
  have G:p 14=_:=(q 14 Zd).trans (by simp[aw];exact s);have K:p 15=_:=(q 15 Zd).trans (by simp[aw];exact t);refine(ad M) ?_;refine nM ⟨C,by simp only[G,K,bM,dt,hU,im,aw,↓reduceIte,bj,kV,lE],?_⟩;simp only[aw,bx];rw[y,<-dy];exact Z.sub Zs
 obtain rfl:b=A a:=Zo;rw[cc]at e;exact(ad<|JJ u o)<|mQ e λi _=>Bi.cl i
decreasing_by exact Nd.lt z
def zK{a:g2->D}(b:List g2)(d:Nat):(au a b).drop d=au a (b.drop d):=kl
def afv{f:g2->D}(d:∀a,Cl<|f a)(b:List g2):Fz fd (.sl 1<|au f b)<|.sl 1<|au f b:=.cl _ (ff λa _=>d a)
def tP(k:Int)(ks:eg):eg:=if k=10 then ks else if k=11 then ks.drop 1 else[]
def Nd.eA(x:Nd):eg:=tP (L.kd x.t) x.ks
def X5(a:Nd)(o:L.kd a.t=11->1<=A a.ks):az 257 [a.d]<|.sl 1<|au Nd.d a.eA:=by
 have⟨p,⟨b,v,r,⟨u,x,w⟩,s,y⟩,⟨z,D,B⟩,q,e,bs,m⟩:=a;simp only[Nd.eA,Nd.t,L.kd,Nd.ks]at*;unfold tP;refine(cR) ?_;simp only[Nd.d,Nd.ja,go_sem];by_cases f:b=10
 .subst f;exact(ZN)<|afv Nd.cl _
 have f10:(b==10)=af:=Yr f;by_cases g:b=11
 .subst g;have f1:((1:Int)<=(A e:Int))=True:=dM Zo;have i:((0:Int)<=1)=True:=Zs;have k:Int.toNat 1=1:=C;have j:Y (A e) (au Nd.d e)=au Nd.d e:=dj (by rw[fg];omega);simp only[f1,i,k,j,go_sem];exact Fz.lR (by rw[zK];rfl) (by rw[zK];exact ff λl _=>Nd.cl l)
 have f11:(b==11)=af:=Yr g;rw[aC f,aC g];refine(ad<|JJ f10 f11) ?_;exact .nil 1
def r4(b:Option Bi)(a:bb):bb:=match b with|some b=>if a.any (λz=>z.id==b.id)then a else a++[b]|none=>a
def UO(b:Option Bi)(a:bb):A (r4 b a)<=A a+1:=by
 obtain _|b:=b
 .simp[r4]
 simp only[r4];split<;>simp
def Nd.fU(x:Nd)(a:bb):bb:=
 x.ks.attach.foldl (λo y=>Nd.fU y.1 o) (r4 x.b a)
decreasing_by exact Nd.lt y.2
def Nd.K9(a:Nd)(d:bb):a.fU d=a.ks.foldl (λe f=>f.fU e) (r4 a.b d):=by
 rw[Nd.fU];simp
def UP(d:eg)(f:∀b∈d,∀a:bb,A (Nd.fU b a)<=A a+b.num):∀a:bb,(d.foldl (λa b=>Nd.fU b a) a).length<=A a+Nd.aZ d:=by
 induction d with
 |nil=>simp[Nd.aZ]
 |cons e i h=>intro a;have:=f e Zs a;have:=h (λb g=>f b<|Yr g) (e.fU a);simp only[oj,Nd.aZ];omega
def Nd.Cb(d:Nd)(a:bb):A (d.fU a)<=A a+d.num:=by
 have g e (h:e∈d.ks) f:A (e.fU f)<=A f+e.num:=Nd.Cb e f;rw[Nd.K9];have⟨id,l,ty,k,i,bs,b⟩:=d;have:=UP i g<|r4 b a;have j:=UO b a;simp only[Nd.num,Nd.ks,Nd.b];omega
decreasing_by exact Nd.lt h
def K_(x:Nd)(q:x.num<=1048576)(k:bb)(G:A k+x.num<=1099511627776):jR aB 260 [x.d] [] 211 1 (au Bi.d k)<|au Bi.d<|x.fU k:=by
 have h1:=@Nd.oL x;have ah:∀y∈x.ks,∀g:bb,A g+y.num<=1099511627776->jR aB 260 [y.d] [] 211 1 (au Bi.d g) (au Bi.d<|y.fU g):=λy B g G=>K_ y (Yo<|h1.2.2 y B) g G;have P:=λb=>EF k b jC;have M:∀g:bb,∀d∈ao (au Bi.d g),Cl d:=LI Bi.cl;rw[Nd.K9];obtain⟨aM,⟨aN,v,R,⟨aQ,aS,aR⟩,aP,aT⟩,⟨aV,aX,aW⟩,l,i,bs,r⟩:=x;have ak:=λy(_:y∈i)=>Nd.Cb y;simp only[Nd.ks,Nd.b]at*;have X:cE aB 210=E (211,1,8):=Zk;refine jR.Cc [1000027] [.tmp 4] C C Zk Zt C Zs (M _) (M _) ?_;intro x p ap V av j;have j:aL [1] p 211 1 (au Bi.d k) x:=j;simp only[Nd.d,Nd.ja,go_sem];obtain⟨m,I⟩:∃g,g=r4 r k:=⟨_,C⟩;have aK:A m<=A k+1:=I▸UO r k;rw[<-I];have aH:=Nd.Gd i;rw[Nd.num]at G;have ab:(r=Q/\m=k)\/(∃b,r=E b/\k.any (λu=>u.id==b.id)=W/\m=k)\/∃b,r=E b/\k.any (λu=>u.id==b.id)=af/\m=k++[b]:=by
  rw[I];cases r with
  |none=>simp[r4]
  |some b=>
   cases o:k.any λu=>u.id==b.id
   .exact aj<|aj ⟨b,C,o,by simp only[r4,o];rfl⟩
   exact aj<|aG ⟨b,C,o,by simp only[r4,o,bx]⟩
 obtain⟨t,s⟩|⟨b,t,o,s⟩|⟨b,t,o,s⟩:=ab;simp only[t,bd,go_sem];have z:aL [1,27] p 211 1 (au Bi.d m) x:=(Yy s)<|j.sub Zs
 rotate_left 1
 simp only[t,bd,Bi.d,go_sem];refine A2 (P b) (.c (mQ j λy _=>Bi.cl y)<|.c (.cl _<|Bi.cl b) .n) C<|(ad o) ?_;have z:aL [1,27] p 211 1 (au Bi.d m) x:=(Yy s)<|j.sub Zs
 rotate_left 1
 simp only[t,bd,Bi.d,go_sem];refine A2 (P b) (.c (mQ j λy _=>Bi.cl y)<|.c (.cl _<|Bi.cl b) .n) C<|(ad o)<|GK.cM<|pR (S:=[1]) (f:=Bi.d) (l:=k) (a:=b) X (by simp only[aw,bx,bT,bj];exact j.aA bF) (by simp[aw,dS,ai,Bi.d]) C Zo Zd ?_;clear j;refine λp ap x j aC=>(ZN) ?_;have z:aL [1,27] p 211 1 (au Bi.d m) x:=(Yy s)<|j.sub Zs
 all_goals
  refine lp 33 (A i) [31,32] (λe F p R K=>K=V/\aL [1,27,39] p 211 1 (au Bi.d<|(Y e i).foldl (λg y=>y.fU g) m) (F 1)) ⟨C,by simpa[aw,ej]using z.sub Zs⟩ ?_;clear j z;rintro e F p R K ar o⟨rfl,j⟩;generalize D:F 1=y;rw[D]at j;refine ZL (λw=>?_) λq=>?_
  .have Z:=jx (f:=Nd.d) w;have aF:((Y e i).foldl (λg y=>Nd.fU y g) m).length<=_:=UP (Y e i) (λy B g=>ak y (tv B) g) m;have aI:Nd.aZ (Y e i)+i[e].num<=Nd.aZ i:=by
    have U:∀(l:eg)(e:Nat)(q:e<A l),Nd.aZ (Y e l)+l[e].num<=Nd.aZ l:=by
     intro l
     induction l with
     |nil=>intro e q;simp at q
     |cons ax ay an=>
      intro e q;cases e with
      |zero=>simp[Nd.aZ]
      |succ e=>have U:=an e (Yq q);simp only[jz,jm,Nd.aZ];omega
    exact U i e w
   have al:(Y (e+1) i).foldl (λg y=>Nd.fU y g) m=i[e].fU ((Y e i).foldl (λg y=>Nd.fU y g) m):=by rw[dm w,so];rfl
   refine(ad<|JJ D Z)<|va [1,27,39] [i[e].d] [] y 211 1 _ _ (ah i[e] (aD w) ((Y e i).foldl (λg y=>Nd.fU y g) m) Zo) C j da ?_;intro aq aO aU am az;refine(ZN) ?_;refine dI ⟨C,?_⟩;rw[al];simpa[aw]using am.sub Zs
  obtain rfl:e=A i:=Zo;rw[cc]at j;exact(ad<|JJ q D)<|aL.close j
termination_by x
decreasing_by exact Nd.lt B
def Nd.Ce(a:Nd):∃e f h i j k m o p q g r s t,a.d=.pa a.id [e,f,h,i,j,k,m,o,p,q,g,I a.l,r,s,t]:=by
 have⟨u,⟨w,v,z,⟨B,F,D⟩,A,G⟩,⟨J,L,K⟩,y,x,bs,b⟩:=a;exact⟨_,_,_,_,_,_,_,_,_,_,_,_,_,_,C⟩
def Bi.Ce(b:Bi):∃a f g h,b.d=.pa b.id [a,f,g,h,I b.e.l]:=by
 have⟨o,m,⟨i,k,j⟩,bl⟩:=b;exact⟨_,_,_,_,C⟩
def lU(x:Nd)(y:Nd)(b:Bi):Bool:=!(ah (b.e.l=y.l)&&!((x.bs++y.bB).any λz=>z.id==b.id)&&ah (1<y.us b.id))
def qZ(x:Nd):Bool:=(ah (L.kd x.t=7)||x.bs.all λb=>ah<|x.us b.id<=1)&&x.eA.all λy=>(y.fU []).all<|lU x y
def WC(x:Nd)(av:x.num<=1048576)(aQ:Nd.all (λy=>!ah (L.kd y.t=11)||ah (1<=A y.ks)) x=W):az 181 [x.d]<|B<|Nd.all qZ x:=by
 have h1:=@Nd.oL x;rw[Nd.all_eq,cy,en]at aQ;have be:∀y∈x.ks,az 262 ([]++[y.d]++[])<|B<|!Nd.all qZ y:=λy m=>by
  simp only[aY,de];refine(cR) ?_;have aA:=WC y (Yo<|h1.2.2 y m)<|aQ.2 y m;refine(ZC) ?_;exact Fz.aK C
 have a_:=EH x.ks (λy=>!Nd.all qZ y) _ [] [] jC Zs Zs be;have aM:∀b∈x.bs,az 255 ([]++[b.d]++[.cp [x.d]])<|B<|!ah (x.us b.id<=1):=λb _=>by
  have bl:=WB x b av;simp only[aY,bg];refine(dH)<|hW bl (.c (Nd.cl x)<|.c (Bi.cl b) .n)<|(ZN) ?_;exact Fz.aK (by rw[<-decide_not];exact lD.2 Zo)
 have aM:=Zr x.bs (λb=>!ah (x.us b.id<=1)) _ [] [.cp [x.d]] jC Zs (by simp;exact Nd.cl x) aM;rw[QB]at a_ aM;have aW:=X5 x (by have aA:=aQ.1;simp at aA;omega);have a':∀y∈x.eA,y∈x.ks:=λy m=>by
  unfold Nd.eA tP at m;split at m
  .exact m
  split at m
  .exact uL m
  cases m
 have a9:A x.eA<=A x.ks:=by
  unfold Nd.eA tP;split
  .exact bJ _
  split<;>simp
 rw[Nd.all_eq];obtain⟨g,aS⟩:∃a,a=x.eA:=⟨_,C⟩;have bi:qZ x=((ah (L.kd x.t=7)||x.bs.all λb=>ah<|x.us b.id<=1)&&g.all λy=>(y.fU []).all<|lU x y):=Yf aS;rw[bi];rw[<-aS]at aW a9;have bj:=Nd.cl x;have bb:∀y∈g,az 259 [y.d] (.sl 1<|au Bi.d y.bB)/\(∀b:Bi,az 256 [y.d,b.d]<|I<|y.us b.id)/\az 260 [y.d,bp] (.sl 1<|au Bi.d<|y.fU [])/\az 258 [.sl 1<|au (λbn=>.sl 1<|au Bi.d bn) [x.bs,y.bB]] (.sl 1<|au Bi.d<|x.bs++y.bB)/\(∀b:Bi,az 261 [.sl 1<|au Bi.d<|x.bs++y.bB,b.d]<|B ((x.bs++y.bB).any λan=>an.id==b.id))/\A (y.fU [])<=1048576:=λy m=>by
  have aA:=h1.2.2 y<|a' y (aS▸m);have bO:=Nd.zk y;have bh:=Nd.Cb y [];simp only[gR,ew]at bh;refine⟨inner y Zo,λb=>WB y b Zo,(K_ y Zo [] ch).sp da (ha _) (ff λx _=>Bi.cl x) ⟨_,func260,C,C⟩,?_,λb=>EF _ b m_,Zo⟩;have aA:=RM [x.bs,y.bB] Zs ch;simpa using aA
 obtain⟨o,⟨i,v,q,⟨u,z,w⟩,s,F⟩,⟨G,M,K⟩,a,p,bs,j⟩:=x;simp only[Nd.ks,Nd.bs,Nd.t,L.kd]at*;simp only[Nd.d,L.ds,J.ds,bg,aY,Nd.ja]at aM aW bj;have aR:∀a,Cl<|.sl 1<|au Bi.d a:=λa=>ff λy _=>Bi.cl y;refine(cR) ?_;simp only[Nd.d,Nd.ja,go_sem];obtain⟨aB,al⟩:∃aB:D,aB=.pa o [I i,I v,S q,I u,S z,.sl 3 (J.ab w),bG s,.sl 8 (L.ab F),I G,S M,.sl 3 (J.ab K),I a,.sl 1 (au Nd.d p),.sl 1 (au Bi.d bs),bd j]:=⟨_,C⟩;by_cases aC:i=7;have f7:(i !=7)=af:=Yr aC;refine(bQ f7) ?_
 rotate_left 1
 have f7:(i !=7)=W:=Yr aC;refine(bQ f7) ?_;cases bo:bs.all λb=>ah (Nd.us (.mk o (.mk i v q (.mk u z w) s F) (.mk G M K) a p bs j) b.id<=1)
 .refine(ZN) ?_;exact Fz.aK<|Yr aC
 refine(ZC) ?_
 all_goals
  refine jH 25 (A g) (λP=>Fw.Inv 73 [(1,.cp [aB]),(23,.sl 1<|au Nd.d g),(24,I<|A g)]<|(Y P g).all (λy=>(y.fU []).all<|lU (.mk o (.mk i v q (.mk u z w) s F) (.mk G M K) a p bs j) y)=W) C ⟨C,by simp[ej,aw,al,bG],Zs⟩ ?_;rintro P⟨a5,a2,a0,bm,a4,a3⟩bP R⟨rfl,ax,aN⟩;simp only[bM]at R ax;obtain⟨X,Z,ak,-⟩:=ax;refine dN (JJ R ak) (λay=>?_) λav=>?_
  .have a6:=jx (f:=Nd.d) ay;have m:=bb g[P]<|aD ay;have bk:=Nd.cl g[P];have aX:(Y (P+1) g).all (λy=>(y.fU []).all<|lU (.mk o (.mk i v q (.mk u z w) s F) (.mk G M K) a p bs j) y)=((g[P].fU []).all<|lU (.mk o (.mk i v q (.mk u z w) s F) (.mk G M K) a p bs j) g[P]):=by
    rw[dm ay,Ai,aN];simp
   have aZ:((g[P].fU []).all<|lU (.mk o (.mk i v q (.mk u z w) s F) (.mk G M K) a p bs j) g[P])=af->g.all (λy=>(y.fU []).all<|lU (.mk o (.mk i v q (.mk u z w) s F) (.mk G M K) a p bs j) y)=af:=λaP=>by
    rw[all_eq_false];exact⟨g[P],aD ay,Yx aP⟩
   simp only[R,Z,a6,al,go_sem];generalize g[P]=y at*;obtain⟨bT,br,bU,bt,bu,bv⟩:=m;refine(uZ<|JJ X al) ?_;refine ir [35] bt (.c (Fz.aq (ob:=⟨a0 35,210,1,[.sl 1<|au Bi.d bs,.sl 1<|au Bi.d y.bB],Q⟩) yu C C Zd C (ha _) kl (by simp[au,-db];exact⟨aR _,aR _⟩)) .n) (aR _)<|(ZC) ?_;obtain⟨U,bf⟩:∃a,a=y.fU []:=⟨_,C⟩;rw[<-bf]at aX aZ bv⊢;refine jH 40 (A U) (λr=>Fw.Inv 73 [(1,.cp [aB]),(4,y.d),(5,.sl 1<|au Bi.d<|bs++y.bB),(23,.sl 1<|au Nd.d g),(24,I<|A g),(25,I P),(38,.sl 1<|au Bi.d U),(39,I<|A U)]<|(Y r U).all (lU (.mk o (.mk i v q (.mk u z w) s F) (.mk G M K) a p bs j) y)=W) C ⟨C,by simp[aw,X,Z,ak,R],Zs⟩ ?_;clear X Z ak R;rintro r⟨a5,a2,a0,bm,a4,a3⟩bR R⟨rfl,ax,aT⟩;simp only[bM]at R ax;obtain⟨X,ap,aL,Z,ak,aF,aH,aI,-⟩:=ax;refine dN (JJ R aI) (λar=>?_) λav=>?_
   .have aV:=jx (f:=Bi.d) ar;have aU:(Y (r+1) U).all (lU (.mk o (.mk i v q (.mk u z w) s F) (.mk G M K) a p bs j) y)=(lU (.mk o (.mk i v q (.mk u z w) s F) (.mk G M K) a p bs j) y U[r]):=by
     rw[dm ar,Ai,aT];simp
    have ba:(lU (.mk o (.mk i v q (.mk u z w) s F) (.mk G M K) a p bs j) y U[r])=af->U.all (lU (.mk o (.mk i v q (.mk u z w) s F) (.mk G M K) a p bs j) y)=af:=λaP=>by
     rw[all_eq_false];exact⟨U[r],aD ar,Yx aP⟩
    generalize U[r]=b at*;have a1:=br b;have bq:=bu b;have a7:=Bi.cl b;obtain⟨bw,bx,bz,bA,a8⟩:=Bi.Ce b;obtain⟨bD,ao,am,V,bF,bH,bI,bK,bL,bN,bE,bV,bW,bX,aO⟩:=Nd.Ce y;rw[a8]at a1 bq a7 aV;rw[aO]at a1 bk ap;refine(fQ<|JJ R<|JJ ap<|JJ aH aV) ?_;cases ao:(b.e.l==y.l)
    .refine(ad R) ?_;refine gY ar ⟨C,by simp[aw,X,ap,aL,Z,ak,aF,aH,aI,al,aO,bG],?_⟩;rw[aU,lU];simp at ao;simp[ao]
    refine(bQ aL) ?_;cases am:(bs++y.bB).any λan=>an.id==b.id
    .refine(bQ ap) ?_;cases V:ah (y.us b.id>1)
     .refine(ad<|JJ V R) ?_;refine gY ar ⟨C,by simp[aw,X,ap,aL,Z,ak,aF,aH,aI,al,aO,bG],?_⟩;rw[aU,lU];have V:ah (1<y.us b.id)=af:=V;simp[V]
     refine(ad V) ?_;refine Fz.aK ?_;rw[aZ<|ba ?_]
     .simp
     rw[lU];have V:ah (1<y.us b.id)=W:=V;have ao:ah (b.e.l=y.l)=W:=Yq ao;have am:((Nd.mk o (.mk i v q (.mk u z w) s F) (.mk G M K) a p bs j).bs++y.bB).any (λan=>an.id==b.id)=af:=am;rw[ao,am,V];rfl
    refine(ad R) ?_;refine gY ar ⟨C,by simp[aw,X,ap,aL,Z,ak,aF,aH,aI,al,aO,bG],?_⟩;rw[aU,lU];have am:((Nd.mk o (.mk i v q (.mk u z w) s F) (.mk G M K) a p bs j).bs++y.bB).any (λan=>an.id==b.id)=W:=am;rw[am];simp
   obtain rfl:r=A U:=Zo;rw[cc]at aT;refine(ad<|JJ av aF) ?_;exact gY ay ⟨C,by simp[aw,X,Z,ak,al,bG],(Yy aX) aT⟩
  obtain rfl:P=A g:=Zo;rw[cc]at aN;refine(bQ<|JJ av<|JJ X al) ?_;refine Fz.aK ?_
  first|(rw[aN];simp[aC];done)|(rw[aN,bo];simp;done)
termination_by x
decreasing_by exact Nd.lt m
abbrev lf:J:=.mk 1 nE []
abbrev mh(n:BA):J:=.mk 2 n []
abbrev mX(a b:J):J:=.mk 3 nE [a,b]
abbrev mW(a:J):J:=.mk 4 nE [a]
theorem Fz.Qo{b f a e g:D}(i:Fz fd eq a)(m:Fz fd b e)(o:Fz fd f g):Fz fd (.ag [eq,b,f])<|.ag [a,e,g]:=
 .ag _ _ C λl d h j k=>Zg
def v8(b:Int)(e:BA){d a:D}(f:Fz fd d a):Fz fd (.ag [I b,S e,d])<|.ag [I b,S e,a]:=Fz.Qo (.cl _<|bc _) (.cl _<|bc _) f
def intType:az 319 []<|.ag lf.ds:=by
 exact(ia [] [.cell 0 99])<|v8 1 nE<|.nil 3
def Ty:az 235 []<|.ag lf.ds:=by
 exact(ia [] [.cell 0 99])<|v8 1 nE<|.nil 3
def RW(a:BA):az 356 [S a]<|.ag (mh a).ds:=by
 exact(ia [] [.cell 2 99])<|v8 2 a<|.nil 3
def acu(a:BA):az 240 [S a]<|.ag (mh a).ds:=by
 exact(ia [] [.cell 2 99])<|v8 2 a<|.nil 3
def SF(a b:J):az 190 [.ag a.ds,.ag b.ds]<|.ag (mX a b).ds:=Od
def Tx(a b:J):az 236 [.ag a.ds,.ag b.ds]<|.ag (mX a b).ds:=Od
def XK(a:J):az 322 [.ag a.ds]<|.ag (mW a).ds:=OY
def Tu(a:J):az 237 [.ag a.ds]<|.ag (mW a).ds:=OY
abbrev bq:=List Ev
def cZ(e:bq)(n:BA):Option Ev:=e.reverse.find? λx=>ah<|x.n=n
def du(e:bb)(n:BA):Option Bi:=e.reverse.find? λx=>ah<|x.e.n=n
def jj:J->Option (J×Int)
 |.mk k n l=>if k=4 then l.head?.map λa=>(a,1)else if k=1 then E (.mk k n l,0)else Q
def vm(ds:aO)(n:BA):J:=(ds[(eV ds n).toNat]?.map aa.ty).getD lf
def oB(V:aF)(n:BA):BA:=(V[(hI V n).toNat]?.map ae.nm).getD nE
def dA(V:aF)(c:BA)(ns:aX)(l:Int):bq:=(ns.zip<|kG V c).map λx=>⟨x.1,x.2,l⟩
def pC:List (Option J)->Option J
 |[]=>Q
 |x::l=>if l.all λy=>ah (y=x)then x else Q
def J.kd:J->Int|.mk k _ _=>k
def nU:J->J->Option J
 |.mk k _ [x,y],a=>if k=3/\x=a then E y else Q
 |_,_=>Q
def gG(V:aF)(k:Int)(n:BA)(ts:dp):Option J:=
 if k=3 then if ts.map J.kd=[1,1]then E lf else Q
 else if k=5 then match ts with|[f,a]=>nU f a|_=>Q
 else if k=8 then if ts=kG V n then E (mh<|oB V n)else Q
 else match ts with|[c,x,y]=>if J.kd c=1/\x=y then E x else Q|_=>Q
def Fo:List L->ByteArray
 |_::c::_=>L.lu c
 |_=>nE
abbrev yo:=bq->Int->Option J
def kN(V:aF)(ds:aO)(k:Int)(n:BA)(t:J)(ns:aX)(ks:bu)(b:List yo)(e:bq)(l:Int):Option J:=
 if k=1 then E (((cZ e n).map Ev.t).getD<|vm ds n)
 else if k=2 then E lf
 else if k=4 then(b.getD 0 (λ_ _=>Q) (e++[⟨n,t,l⟩]) l).map (mX t)
 else if k=6 then(b.getD 0 (λ_ _=>Q) e<|l+1).map mW
 else if k=7 then(b.getD 0 (λ_ _=>Q) e l).bind λa=>(jj a).bind λx=>b.getD 1 (λ_ _=>Q) (e++[⟨n,x.1,l+x.2⟩]) l
 else if k=9 then(b.getD 0 (λ_ _=>Q) e l).bind λa=>if a=mh (oB V<|Fo ks)then pC ((b.drop 1).map λf:yo=>f e l)else Q
 else if k=10 then b.getD 0 (λ_ _=>Q) (e++dA V n ns l) l
 else(b.mapM λf:yo=>f e l).bind (gG V k n)
mutual
def bt(V:List ae)(ds:List aa):L->yo
 |.mk k _ n t ns ks=>kN V ds k n t ns ks (oe V ds ks)
def oe(V:List ae)(ds:List aa):List L->List yo
 |[]=>[]
 |c::cs=>bt V ds c::oe V ds cs
end
def L4(a:aF)(b:aO):∀d:bu,oe a b d=d.map (bt a b)
 |[]=>rfl
 |c::e=>by rw[oe,L4 a b e];rfl
def gw(V:aF)(ds:aO)(k:Int)(n:BA)(t:J)(ns:aX)(ks:bu)(e:bq)(l:Int):bq:=
 if k=4 then[⟨n,t,l⟩]
 else if k=7 then((ks.head?.bind λc=>bt V ds c e l).bind jj).toList.map λx=>⟨n,x.1,l+x.2⟩
 else if k=10 then dA V n ns l else[]
def eB(k:Int)(i:Nat):Bool:=ah<|k=4\/k=10\/k=7/\i=1
def ct(k l:Int):Int:=if k=6 then l+1 else l
inductive hE (V:List ae) (ds:List aa):L->Nd->List Bi->Int->Prop
 |mk {k v:Int} {n:ByteArray} {t:J} {ns:List ByteArray} {ks:List L} {id:Nat} {ty:J} {l:Int} {al:List Nd} {bs:List Bi} {b:Option Bi} {sc:List Bi}
  (j:bt V ds (.mk k v n t ns ks) (sc.map Bi.e) l=E ty) (hb:b=if k=1 then du sc n else Q) (f:bs.map Bi.e=gw V ds k n t ns ks (sc.map Bi.e) l) (h:A al=A ks)
  (g:∀(i:Nat)(a:i<A ks)(d:i<A al),hE V ds ks[i] al[i] (if eB k i then sc++bs else sc) (ct k l)):
  hE V ds (.mk k v n t ns ks) (.mk id (.mk k v n t ns ks) ty l al bs b) sc l
def Nd.ids(x:Nd):ax:=x.id::(x.bs.map Bi.id++ao (x.ks.attach.map λy=>Nd.ids y.1))
decreasing_by exact Nd.lt y.2
def Nd.mL(a:Nd):a.ids=a.id::(a.bs.map Bi.id++ao (a.ks.map Nd.ids)):=by rw[Nd.ids];simp
def M0(N:Nat)(x:Nd):Prop:=x.ids.Nodup/\∀i∈x.ids,N<=i
def Nd.xE(h:Nd):∀f∈h.ids,fw f h.d:=by
 have hk a (g:a∈h.ks):∀f∈a.ids,fw f a.d:=Nd.xE a;intro f e;rw[Nd.mL]at e;have⟨l,p,ty,m,k,bs,b⟩:=h;simp only[Nd.id,Nd.bs,Nd.ks,cF,ca,aP,eL]at e hk;rw[Nd.d];obtain rfl|⟨i,j,rfl⟩|⟨o,⟨a,g,rfl⟩,e⟩:=e
 .exact .here _
 .refine .pa _ (d:=.sl 1<|au Bi.d bs) Zs<|.sl (r:=[i.d]) (d:=i.d) (aP.2 ⟨i,j,C⟩) Zs<|.here _
 refine .pa _ (d:=.sl 1<|Nd.dL k) Zs<|.sl (r:=[a.d]) (d:=a.d) (by rw[Nd.ja];exact aP.2 ⟨a,g,C⟩) Zs<|hk a g f e
decreasing_by exact Nd.lt g
def Rs(l:bb)(a:A l<=aE):az 355 [.sl 1<|au Bi.d l]<|.cs 1<|au Bi.d l:=Nu
def GD(a b:bb)(i:b≠[])(j:A a+A b<=1048576):az 321 [.sl 1<|au Bi.d a,.sl 1<|au Bi.d b]<|.sl 1<|au Bi.d<|a++b:=by
 have g:=Cy Bi.one<|a++b;rw[r9,eR]at g;obtain⟨f,e,rfl⟩:=exists_cons_of_ne_nil i;show az 321 [_,.sl 1 ([f.d]::au Bi.d e)] _;refine(cR) ?_;have:=Rs a jC;refine(ZC) ?_;rw[dC]at j;exact⟨⟨g,ya _,Zo,l3⟩,Fz.aq (ob:=⟨0,211,1,ao (au Bi.d a)++ao (au Bi.d (f::e)),Q⟩) (aq:=au Bi.d (a++f::e)) (by simp[ai,au]) C C Zd kl (ha _) (by rw[r9,eR]) OS⟩
def afz(a:bb)(e:A a<=1048576):az 321 [.sl 1<|au Bi.d a,bp]<|.sl 1<|au Bi.d a:=by
 refine(cR) ?_;have:=Rs a jC;refine(ZC) ?_;exact .cs _ _ (ff λb _=>Bi.cl b)
theorem Nd.one(a:Nd):cO a.d=W:=by cases a;rfl
def Nd.zC(a:Nd):∃h i j k l m o p e g f q r s z3,a.d=.pa a.id [h,i,j,k,l,m,o,p,I e,S g,.sl 3<|J.ab f,q,r,s,z3]/\a.ty=.mk e g f:=by
 have⟨t,⟨u,v,y,⟨A,D,B⟩,z,F⟩,⟨e,g,f⟩,x,w,bs,b⟩:=a;exact⟨_,_,_,_,_,_,_,_,_,_,_,_,_,_,_,C,C⟩
abbrev dx(k v:Int)(n:BA)(tk:Int)(tn:BA)(aQ:dp)(ns:aX)(ts:bu)(y0 y1 y2:D)(l:Int)(xk jy nL:D):DL:=[I k,I v,S n,I tk,S tn,.sl 3<|J.ab aQ,.sl 1 (ns.map λs=>[S s]),.sl 8<|L.ab ts,y0,y1,y2,I l,xk,jy,nL]
def Xg(s:St)(sc:bb)(b:Nat):Prop:=s.N<=b/\(∀t ob,t≠8->s.H t=E ob->∀d∈ob.cells,¬fw b d)/\¬fw b (.sl 1<|au Bi.d sc)
variable {i9:bb}{it ro:bq}{Do:Option Bi}
def vD{k v tk l an:Int}{n tn:BA}{aQ:dp}{ns:aX}{ts:bu}{al:eg}{R:Nat->Nd->Bool->Prop}(aN:A al<A ts)(br:A al<=1048576)
 (aR:kW aB 288 [.ag [ae.sl a5,aa.sl be],.ag (ts[A al]).ds,.sl 1<|au Bi.d i9,I an] ajc) (aC:∀o r,ajc o r->∃g j,r=.tp [Nd.d g,B j]/\R o g j)
 {i:St} {m gn:Nat} {y0 y1 y2 xk jy nL:D} {SS:ax} (aY:m=19\/m=75) (p:i.H m=E ⟨gn,213,15,dx k v n tk tn aQ ns ts y0 y1 y2 l xk jy nL,Q⟩)
 (ak:aL SS i.H 156 1 (au Nd.d al) xk) (s:m∉SS/\8∉SS/\37∉SS)
 (az:∀o g j H ao G,R o g j->(∀b,o<=b->Xg i i9 b)->aL [38] H 156 1 (au Nd.d<|al++[g]) G->H m=E ⟨gn,213,15,dx k v n tk tn aQ ns ts y0 y1 y2 l G jy nL,Q⟩->
  (∀e,e≠m->e≠8->e≠37->e≠38->e∉SS->H e=i.H e)->c2 ({i with H:=H,n:=ao}.put g7<|.tp [.ag g.ty.ds,B j])):
 er aB i 320 [.ag [ae.sl a5,aa.sl be],.rf m gn 0,.sl 1<|au Bi.d i9,I an] g7 c2:=by
 have aJ:∀d∈[ae.sl a5,aa.sl be],Cl d:=by simp only[bM];exact⟨ae.db a5,aa.db be,Zs⟩
 have aW:Cl<|.sl 1<|au Bi.d i9:=ff λba _=>Bi.cl ba;have aq:cE aB 149=E (156,1,8):=Zk;have aM:=fg Nd.d al;have O:=L.bV ts (A al) aN;have V:=L.bP ts[A al];have Z:Y 8 (ts[A al]).ds=(ts[A al]).ds:=dj Zo;have bs:∃K:Int,K=A al:=⟨_,C⟩;have a1:(xk=bp/\(L.ab ts)[0]?=E (ts[A al]).ds)\/∃e q,xk=.ms e q (A al):=by
  obtain⟨x,rfl⟩|⟨e,q,_,rfl,_⟩:=ak
  .have u:A al=0:=by simpa[au]using x
   exact aG ⟨C,by rw[<-O,u]⟩
  exact aj ⟨e,q,Yw aM⟩
 obtain rfl|rfl:=aY
 all_goals
  refine sQ [1000038] [.cell 8 99,.tmp 9] C C Zk Zt C Zs ?_;simp only[p,dx,go_sem];refine sX [] [18,22] fb Zk ?_;obtain⟨F,ar⟩|⟨e,q,F⟩:=a1
 all_goals
  rw[F]at p;refine(ad p) ?_
  first|simp only[ar,V,Z,go_sem]|simp only[O,V,Z,go_sem]
  refine u' [] aR (.c (.cl _<|Cl.bC aJ)<|.c (.cl _<|Cl.bC<|L.cl _)<|.c (.cl _ aW)<|.c (.cl _<|bc _) .n) λM r aV bq aP=>?_;obtain⟨g,j,rfl,aD⟩:=aC M r aV;have⟨bg,bh,bi,bk,bl,bm,bn,bo,bt,bw,bv,bz,bA,bB,z3,X,aZ⟩:=Nd.zC g;simp only[oM,X,p,go_sem];have am:=ak;rw[F]at am;have aI bd K e (t:e∈SS):ai (ai (ai (ai i.H 8 Q) 8 bd) 37 Q) 37 K e=i.H e:=by
   have ay:e≠8:=λw=>s.2.1 (w▸t);have av:e≠37:=λw=>s.2.2 (w▸t);simp[ai,ay,av]
  refine GK.cM (pR (S:=SS) (f:=Nd.d) (l:=al) (a:=g) aq ((Pa)<|am.aA<|aI _ _) (by simp[aw,dS,ai,X]) (Nd.one g) Zo Zd λbf ao G a0 y=>?_);have U:=y 8 Zd s.2.1;simp only[bN,a_,dG,bj,dv]at U;obtain⟨x,_⟩|⟨t1,P,ah,rfl,aS⟩:=a0
  .simp[au]at x
  simp only[dg]at ah;subst ah;simp only[(y _ Zd s.1).trans (by simp only[ai];exact p),U,dx,go_sem];have z:=az M g j;rw[aZ]at z;simp only[J.ds]at z;refine z _ _ (.ms 38 P<|A<|au Nd.d<|al++[g]) aD (λb aH=>?_) (aj ⟨38,P,Zs,C,Yu aS⟩) (by simp[ai,fg]) λe a7 ap a8 a9 a'=>?_
  .have⟨a2,a3,a4⟩:=aP b aH;refine⟨a2,λe a6 t aT d aK=>a3 e a6 ?_ d aK,a4 _ Zs⟩;simp[ai,t,aT]
  have u:=y e a9 a';simp only[ai,ap,a8,bT]at u;simp[ai,a7,ap,u]
section
mutual
def fv:L->List ByteArray->ByteArray->Prop
 |.mk k _ n _ ns ks,sc,x=>(k=1/\n=x/\x∉sc)\/vt k n ns ks 0 sc x
def vt(k:Int)(n:ByteArray)(ns:List ByteArray):List L->Nat->List ByteArray->ByteArray->Prop
 |[],_,_,_=>False
 |c::cs,i,sc,x=>fv c (sc++cW k n ns i) x\/vt k n ns cs (i+1) sc x
end
def xc{a:aX}{b:BA}:k4 a b=W↔b∈a:=by simp[k4]
mutual
def Uq:∀(t:L)(sc out:List ByteArray)(x:ByteArray),x∈fN t sc out↔x∈out\/fv t sc x
 |.mk k _ n _ ns ks,sc,out,x=>by
  rw[fN,Ur k n ns ks,fv];by_cases h:(ah (k=1)&&!k4 sc n&&!k4 out n)=W
  .rw[aM h];simp only[cy,ee,oV]at h;have a:n∉sc:=λq=>by rw[xc.2 q]at h;simp at h
   exact Zg
  rw[aC h];constructor
  .exact Zg
  rintro(q|⟨f,rfl,a⟩|q)
  .exact aG q
  .by_cases b:n∈out
   .exact aG b
   refine(h ?_).elim;have d:k4 sc n=af:=by rw[Hb];exact λq=>a (xc.1 q)
   have e:k4 out n=af:=by rw[Hb];exact λq=>b (xc.1 q)
   simp[f,d,e]
  exact aj q
def Ur(k:Int)(n:ByteArray)(ns:List ByteArray):∀(l:List L)(i:Nat)(sc out:List ByteArray)(x:ByteArray),x∈gW k n ns l i sc out↔x∈out\/vt k n ns l i sc x
 |[],i,sc,out,x=>by simp[gW,vt]
 |c::cs,i,sc,out,x=>by rw[gW,Ur k n ns cs,Uq c,vt,or_assoc]
end
theorem rL(k:Int)(n:BA)(ns:aX):∀(e:bu)(b:Nat)(sc:aX)(d:BA),vt k n ns e b sc d↔∃(a:Nat)(f:a<A e),fv e[a] (sc++cW k n ns (b+a)) d
 |[],b,sc,d=>by simp[vt]
 |c::h,b,sc,d=>by
  rw[vt,rL k n ns h];constructor
  .rintro(g|⟨a,f,g⟩)
   .exact⟨0,Zs,g⟩
   exact⟨a+1,Yq f,cq⟩
  exact Zg
def J.w(t:J):Prop:=fY t=W/\t.ok
structure gT (V:List ae) (ds:List aa):Prop where
 oA:pL V
 vd:q0 V
 len:A ds<=8
 Bb:∀d∈ds,J.w (aa.ty d)
 vk:∀n,∀t∈kG V n,J.w t
structure TC (V:List ae) (ds:List aa) (t:L) (sc:List ByteArray):Prop where
 gd:eU t=W
 fit:L.bh (fo V) t=W
 b7:L.bh (hG V) t=W
 free:∀x,fv t sc x->0<=eV ds x
 ok:t.ok
def lN{a:L->Bool}{k v:Int}{n:BA}{ty:J}{ns:aX}{ks:bu}(b:L.bh a (.mk k v n ty ns ks)=W):a (.mk k v n ty ns ks)=W/\∀d∈ks,L.bh a d=W:=by
 rw[L.bh,L.i1,cy,en]at b;exact b
section
variable{V:aF}{ds:aO}{k v:Int}{n:BA}{ty:J}{ns:aX}{ks:bu}{sc:aX}
theorem TC.dh(e:TC V ds (.mk k v n ty ns ks) sc)(b:Nat)(j:b<A ks):TC V ds ks[b]<|sc++cW k n ns b:=by
 have⟨f,g,h,i,d⟩:=e;have a:=aD j;rw[L.ok]at d;refine⟨(lN f).2 _ a,(lN g).2 _ a,(lN h).2 _ a,λl m=>i l ?_,?_⟩
 .rw[fv,rL];exact Zg
 exact L.eJ d.2.2.2.2.2 _ a
theorem TC.form(a:TC V ds (.mk k v n ty ns ks) sc):bY (A ks) (dw k).1 (dw k).2=W/\l_ k n=W/\lB k ty=W/\jI k ns=W/\oK k v=W/\np k ks=W:=by
 have b:=(lN a.gd).1;simp only[qe,hT,gN,cy]at b;exact Zg
end
end
def jb(al:eg)(bs:bb):ax:=bs.map Bi.id++ao (al.map Nd.ids)
structure rk (V:List ae) (ds:List aa) (t:L) (sc:List Bi) (l:Int) (N:Nat) (ok:Bool) (ty:J) (al:List Nd) (bs:List Bi) (a:Option Bi):Prop where
 nodup:(jb al bs).Nodup
 ge:∀i∈jb al bs,N<=i
 aiT:ok=(bt V ds t (sc.map Bi.e) l).isSome
 qM:ok=W->∀id,hE V ds t (.mk id t ty l al bs a) sc l
def yi(V:aF)(ds:aO)(t:L)(sc:bb)(l:Int)(N:Nat)(nd:Nd)(ok:Bool):Prop:=M0 N nd/\ok=(bt V ds t (sc.map Bi.e) l).isSome/\(ok=W->hE V ds t nd sc l)
def Xe(V:aF)(ds:aO)(t:L)(sc:bb)(l:Int)(N:Nat)(r:D):Prop:=∃nd ok,r=.tp [Nd.d nd,B ok]/\yi V ds t sc l N nd ok
abbrev tD(V:aF)(ds:aO)(t:L)(sc:bb)(l:Int):Prop:=kW aB 288 [.ag [ae.sl V,aa.sl ds],.ag t.ds,.sl 1<|au Bi.d sc,I l]<|Xe V ds t sc l
def hE.ty(a:hE a5 be n8 m5 i9 a3):bt a5 be n8 (i9.map Bi.e) a3=E m5.ty:=by cases a with|mk a=>exact a
def qX{v:Int}{a:Int}:
 bt a5 be (.mk 7 v gs he hH [n8,z4]) it a=(bt a5 be n8 it a).bind λd=>(jj d).bind λb=>bt a5 be z4 (it++[⟨gs,b.1,a+b.2⟩]) a:=by
 simp[bt,kN,oe]
def WZ{f:dp}(g:J.w<|.mk 4 gs f):∃a,f=[a]/\J.w a:=by
 obtain⟨b,d⟩:=g;rw[fY,J.bh,J.i1,cy,en]at b;have e:=b.1;simp[ii]at e;obtain⟨a,rfl⟩:=kw.1 e.2;rw[J.ok]at d;exact⟨a,C,b.2 a Zs,J.eJ d.2.2 a Zs⟩
def zi(a:Nd):jb [a] []=a.ids:=rp
def Ca{bs:bb}{x:Bi}(b:x∈bs)(a:am=x.id):fw am<|.sl 1<|au Bi.d bs:=by
 subst a;exact .sl (r:=[x.d]) (d:=x.d) (aP.2 ⟨x,b,C⟩) Zs<|.here _
theorem Sg{l:aF}{m:aO}{v f sh:Int}{j:BA}{k A:J}{sc:bb}{b:Nat}{i o:Nd}(w:M0 a0 i)(D:∀a,a0<=a->am<=a)(F:am<=b)(G:¬fw b i.d)
 (O:yi l m z4 (sc++[⟨b,j,k,f+sh⟩]) f a2 o z9) (r:∀a,a2<=a->am<=a/\¬fw a i.d/\¬fw a (.sl 1<|au Bi.d<|sc++[⟨b,j,k,f+sh⟩])) (I:hE l m n8 i sc f) (z:bt l m n8 (sc.map Bi.e) f=E m9) (u:jj m9=E (k,sh)) (P:o.ty=A):
 rk l m (.mk 7 v j he hH [n8,z4]) sc f am z9 A [i,o] [⟨b,j,k,f+sh⟩] Q:=by
 obtain⟨p,S,q⟩:=O;have y:jb [i,o] [⟨b,j,k,f+sh⟩]=b::(i.ids++o.ids):=rp;have M:bt l m (.mk 7 v j he hH [n8,z4]) (sc.map Bi.e) f=bt l m z4 ((sc++[(⟨b,j,k,f+sh⟩:Bi)]).map Bi.e) f:=by
  rw[qX,z,mq,u,mq];simp
 refine⟨?_,λa g=>?_,cq,λR id=>?_⟩
 .rw[y,lg,iQ];refine⟨λh=>?_,w.1,p.1,λa g U K B=>?_⟩
  .obtain h|h:=ca.1 h
   .exact G<|i.xE _ h
   exact(r b<|p.2 b h).2.2<|Ca (x:=⟨b,j,k,f+sh⟩) Zs C
  subst B;exact(r a<|p.2 a K).2.1 (i.xE _ g)
 .rw[y]at g;obtain rfl|g:=cF.1 g
  .exact F
  obtain g|g:=ca.1 g
  .exact D a<|w.2 a g
  exact(r a<|p.2 a g).1
 have q:=q R;refine .mk (by rw[M,q.ty,P]) Zs (by simp[gw,z,u]) C λa s t=>?_
 match a,s,t with
 |0,s,t=>exact I
 |1,s,t=>exact q
def adj{u:aF}{y:aO}(bf:gT u y){v tk l:Int}{n tn:BA}{aQ:dp}{ns:aX}{k0 k1:L}{j:bb}(bd:0<=l)(be:l<=1048576)(bh:A j<=1000000)
 (Y:tD u y k0 j l) (aP:∀b:Bi,b.e.n=n->J.w b.e.t->tD u y k1 (j++[b]) l) (hw:∀ty,bt u y k0 (j.map Bi.e) l=E ty->J.w ty)
 {ax:St} {gn:Nat} (aD:ax.H 19=E ⟨gn,213,15,dx 7 v n tk tn aQ ns [k0,k1] (I 0) (S nE) (.sc<|.slice Q 0 0) l (.sc<|.slice Q 0 0) (.sc<|.slice Q 0 0)<|.sc<|.pointer Q,Q⟩)
 (ap:∀aW o i g al bs H a7 xk jy y2,rk u y (.mk 7 v n (.mk tk tn aQ) ns [k0,k1]) j l ax.N aW (.mk o i g) al bs Q->H 19=E ⟨gn,213,15,dx 7 v n tk tn aQ ns [k0,k1] (I o) (S i) y2 l xk jy<|.sc<|.pointer Q,Q⟩->((y2=bp/\g=[])\/y2=.sl 3 (J.ab g))->
  aL [38] H 156 1 (au Nd.d al) xk->((jy=bp/\bs=[])\/jy=.sl 1 (au Bi.d bs))->c2 ({ax with H:=H,n:=a7}.put g7<|B aW)):
 er aB ax 323 [.ag [ae.sl u,aa.sl y],.rf 19 gn 0,.sl 1<|au Bi.d j] g7 c2:=by
 have bg:Cl<|.sl 1<|au Bi.d j:=ff λao _=>Bi.cl ao;refine sQ [32,1000065,1000068] [.tmp 6] C C Zk Zt C Zs ?_;refine(ZN)<|rH (.bS [0,1,2,3,4,5] 6 (.bS [] 7 (.fin [8,9,10,11,12,13]) 11<|.fin [7,8,9,10,12,13]) 11<|.fin [6,7,8,9,10,12,13]) [] [17] fb Zk<|(ad aD) ?_;refine⟨⟨?_,?_⟩,?_⟩
 all_goals
  refine aj<|aj (vD (al:=[]) (ts:=[k0,k1]) (SS:=[38]) Zs Zs Y (λ_ _ m=>m) (aG C) (by first|exact aD|(simp only[ai];exact aD)) (aG ⟨C,C⟩) Zs λba z a9 a_ av ay a5 ar U P a2=>?_);have aR:=a2 7 Zd Zd Zd Zd Zs
  try simp only[bN]at aR
  obtain⟨o,i,g,aV⟩:∃o i g,z.ty=.mk o i g:=match z.ty with|.mk V b X=>⟨V,b,X,C⟩
  refine(ad<|JJ aV aR)<|dP [] [25,26,30] ?_;simp only[P,dx,go_sem];obtain⟨M,aS,Z⟩:=a5;cases a9
  .refine(ZN)<|ap af 0 nE [] [z] [] _ _ ay (.sc<|.slice Q 0 0) (.sc<|.slice Q 0 0) ⟨by rw[zi];exact M.1,λf a=>by rw[zi]at a;exact(ar f<|M.2 f a).1,?_,λm=>by cases m⟩ (by simp[ai,P]) (aG ⟨C,C⟩) (U.aA bF)<|aG ⟨C,C⟩;have a4:bt u y k0 (j.map Bi.e) l=Q:=by
    rcases a1:bt u y k0 (j.map Bi.e) l with _|_
    .rfl
    rw[a1]at aS;cases aS
   rw[qX,a4];rfl
  have Z:=Z C;have R:=Z.ty;rw[aV]at R;by_cases az:o=1
  .subst az;refine(ZN)<|GK.ptr 9 32 (av 32) ⟨av 32,230,5,[S n,I<|1,S i,.sl 3<|J.ab g,I<|l+0],Q⟩ fR bF C C Zs da λb ah=>?_;refine(ZN) ?_;refine GK.nY [67] 67 (.sl 1<|au Bi.d [⟨b,n,.mk (1) i g,l+0⟩]) (Fz.aq (ob:=⟨_,211,1,[Bi.d ⟨b,n,.mk (1) i g,l+0⟩],Q⟩) pO C C Zd C (ha _) C (by simp[au];exact Bi.cl _)) (ff λao _=>Bi.cl ao) ?_;simp only[P,dx,aT,go_sem];refine p3 (.bS [0,1,2,3,4,5,6,7,9,10,11] 12 (.fin [8,13,14,15,16,17,18,19,20]) 8<|.fin [12,13,14,15,16,17,18,19,20]) [] [78,83] ?_;refine(ZN) ?_;refine⟨?_,?_⟩
   all_goals
    refine hW (GD j [⟨b,n,.mk (1) i g,l+0⟩] Zs ch) iT ?_;simp only[aT,go_sem];refine aj<|aj<|vD (k:=7) (v:=v) (n:=n) (tk:=tk) (tn:=tn) (aQ:=aQ) (ns:=ns) (y0:=I 0) (y1:=S nE) (y2:=bp) (l:=l) (xk:=ay) (jy:=.sl 1<|au Bi.d [⟨b,n,.mk (1) i g,l+0⟩]) (nL:=.sc<|.pointer Q) (al:=[z]) (ts:=[k0,k1]) (SS:=[38]) Zs Zs (aP ⟨b,n,.mk (1) i g,l+0⟩ C (hw _ R)) (λ_ _ m=>m) (aG C) (by simp[ai,dx];done) (U.aA pN) Zs ?_;intro aZ F aM aY a8 aN aI D aK aH a3;obtain⟨G,K,p,an⟩:∃G K p,F.ty=.mk G K p:=match F.ty with|.mk V b X=>⟨V,b,X,C⟩
    simp only[an,aH,dx,go_sem];refine ap aM G K p [z,F] [⟨b,n,.mk (1) i g,l+0⟩] _ _ aN (.sl 1<|au Bi.d [⟨b,n,.mk (1) i g,l+0⟩]) (.sl 3<|J.ab p) ?_ o3 (aj C) (aK.aA bF)<|aj C;obtain⟨Y,_⟩|⟨t1,a0,am,rfl,ak⟩:=U
    .simp[au]at Y
    simp only[dg]at am;subst am;refine Sg (sh:=0) M (λf a=>(ar f a).1) ah.2.2 (ah.2.1 38 _ (by simp[ai];exact ak) _ kl) aI (λf a=>⟨(D f a).1,(D f a).2.1 38 _ Zd (by simp[ai,aT];exact ak) _ kl,(D f a).2.2⟩) Z R (by simp[jj]) an
  by_cases aC:o=4
  .subst aC;refine(ZN) ?_;obtain⟨⟨q,s,r⟩,rfl,a6⟩:=WZ<|hw _ R;refine dP [7,19] [] ?_;have a':cb.wrap (l+1)=l+1:=dE _ Zo;simp only[P,dx,a',J.ab,go_sem];refine GK.ptr 9 32 (av 32) ⟨av 32,230,5,[S n,I<|q,S s,.sl 3<|J.ab r,I<|l+1],Q⟩ fR bF C C Zs da λb ah=>?_;refine(ZN) ?_;refine GK.nY [67] 67 (.sl 1<|au Bi.d [⟨b,n,.mk (q) s r,l+1⟩]) (Fz.aq (ob:=⟨_,211,1,[Bi.d ⟨b,n,.mk (q) s r,l+1⟩],Q⟩) pO C C Zd C (ha _) C (by simp[au];exact Bi.cl _)) (ff λao _=>Bi.cl ao) ?_;simp only[P,dx,aT,go_sem];refine p3 (.bS [0,1,2,3,4,5,6,7,9,10,11] 12 (.fin [8,13,14,15,16,17,18,19,20]) 8<|.fin [12,13,14,15,16,17,18,19,20]) [] [78,83] ?_;refine(ZN) ?_;refine⟨?_,?_⟩
   all_goals
    refine hW (GD j [⟨b,n,.mk (q) s r,l+1⟩] Zs ch) iT ?_;simp only[aT,go_sem];refine aj<|aj (vD (k:=7) (v:=v) (n:=n) (tk:=tk) (tn:=tn) (aQ:=aQ) (ns:=ns) (y0:=I 0) (y1:=S nE) (y2:=bp) (l:=l) (xk:=ay) (jy:=.sl 1<|au Bi.d [⟨b,n,.mk (q) s r,l+1⟩]) (nL:=.sc<|.pointer Q) (al:=[z]) (ts:=[k0,k1]) (SS:=[38]) Zs Zs (aP ⟨b,n,.mk (q) s r,l+1⟩ C (a6)) (λ_ _ m=>m) (aG C) (by simp[ai,dx];done) (U.aA pN) Zs λaZ F aM aY a8 aN aI D aK aH a3=>?_);obtain⟨G,K,p,an⟩:∃G K p,F.ty=.mk G K p:=match F.ty with|.mk V b X=>⟨V,b,X,C⟩
    simp only[an,aH,dx,go_sem];refine ap aM G K p [z,F] [⟨b,n,.mk (q) s r,l+1⟩] _ _ aN (.sl 1<|au Bi.d [⟨b,n,.mk (q) s r,l+1⟩]) (.sl 3<|J.ab p) ?_ o3 (aj C) (aK.aA bF)<|aj C;obtain⟨Y,_⟩|⟨t1,a0,am,rfl,ak⟩:=U
    .simp[au]at Y
    simp only[dg]at am;subst am;refine Sg (sh:=1) M (λf a=>(ar f a).1) ah.2.2 (ah.2.1 38 _ (by simp[ai];exact ak) _ kl) aI (λf a=>⟨(D f a).1,(D f a).2.1 38 _ Zd (by simp[ai,aT];exact ak) _ kl,(D f a).2.2⟩) Z R (by simp[jj]) an
  have f1:(o !=1)=W:=by simp[az]
  have f4:(o !=4)=W:=by simp[aC]
  refine(ad<|JJ f1 f4)<|ap af 0 nE [] [z] [] _ _ ay (.sc<|.slice Q 0 0) (.sc<|.slice Q 0 0) ⟨by rw[zi];exact M.1,λf a=>by rw[zi]at a;exact(ar f<|M.2 f a).1,?_,λm=>by cases m⟩ (by simp[ai,P]) (aG ⟨C,C⟩) (U.aA bF)<|aG ⟨C,C⟩;rw[qX,R];simp[jj,az,aC]
def sw(a b x:Nat):Nat:=if x=a then b else if x=b then a else x
def af9(d b:Nat):∀a,sw d b (sw d b a)=a:=λa=>by unfold sw;split<;>split<;>(try split)<;>omega
def CF{b a:Nat}(d:a≠am)(e:a≠b):sw am b a=a:=by simp[sw,d,e]
def FY{f:g2->D}{h:List g2}{b:D}{p:bi}(j:aL gt fd g4 1 (au f h) b)(g:∀a∈gt,p a=a)(l:∀e,Cl<|f e):aL gt (λa=>(fd<|p a).map<|Ob.aS p) g4 1 (au f h) b/\b.aS p=b:=by
 obtain⟨k,rfl⟩|⟨a,i,d,rfl,m⟩:=j
 .exact⟨aG ⟨k,C⟩,C⟩
 refine⟨aj ⟨a,i,d,C,?_⟩,by rw[D.aS,g a d]⟩;simp only[g a d,m,eE,Ob.aS];congr 2;rw[kM,eu];exact jn λe _=>D.iE<|l e
def Xf(s:St)(sc:bb)(b:Nat):Prop:=s.N<=b/\(∀t ob,t≠908->s.H t=E ob->∀d∈ob.cells,Cl d->¬fw b d)/\¬fw b (.sl 1<|au Bi.d sc)
def acm{k v tk l z:Int}{n tn:BA}{aQ:dp}{ns:aX}{ts:bu}{al:eg}{w:bb}{R:Nat->Nd->Bool->Prop}(aM:A al<A ts)(aK:A al<=1048576)
 (aR:kW aB 288 [.ag [ae.sl a5,aa.sl be],.ag (ts[A al]).ds,.sl 1<|au Bi.d w,I z] ajc) (av:∀o r,ajc o r->∃m s,r=.tp [Nd.d m,B s]/\R o m s)
 {f:St} {h gn:Nat} {y0 y1 y2 xk jy nL:D} {SS:ax} (aY:h=19\/h=75) (aT:f.H h=E ⟨gn,213,15,dx k v n tk tn aQ ns ts y0 y1 y2 l xk jy nL,Q⟩) (aD:hD [y0,y1,y2,jy,nL])
 (aZ:aL SS f.H 156 1 (au Nd.d al) xk) (u:h∉SS/\8∉SS/\908∉SS/\37∉SS)
 (ar:∀o m s H C y,R o m s->(∀b,o<=b->Xf f w b)->aL [38] H 156 1 (au Nd.d<|al++[m]) y->H h=E ⟨gn,213,15,dx k v n tk tn aQ ns ts y0 y1 y2 l y jy nL,Q⟩->
  (∀a,a≠h->a≠908->a≠37->a≠38->a∉SS->H a=f.H a)->c2 ({f with H:=H,n:=C}.put g7<|.tp [.ag m.ty.ds,B s])):
 er aB f 320 [.ag [ae.sl a5,aa.sl be],.rf h gn 0,.sl 1<|au Bi.d w,I z] g7 c2:=by
 have i:=af9 8 908;have j:h≠8/\h≠908:=Zo;have V a (q:a∈SS):sw 8 908 a=a:=CF (λe=>u.2.1 (e▸q)) λe=>u.2.2.1 (e▸q);have az:D.hP (sw 8 908) [.ag [ae.sl a5,aa.sl be],.rf h gn 0,.sl 1<|au Bi.d w,I z]=[.ag [ae.sl a5,aa.sl be],.rf h gn 0,.sl 1<|au Bi.d w,I z]:=by
  rw[D.hP,D.hP,D.hP,D.hP,D.hP,D.iE<|Cl.bC da,D.iE (ff λt _=>Bi.cl t),D.aS,D.aS,CF j.1 j.2]
 have⟨a1,a2⟩:=FY aZ V Nd.cl;have U (F:D) (aI:F.aS (sw 8 908)=F):(dx k v n tk tn aQ ns ts y0 y1 y2 l F jy nL).map (D.aS<|sw 8 908)=dx k v n tk tn aQ ns ts y0 y1 y2 l F jy nL:=by
  have P:=aD.all;simp only[bM]at P;obtain⟨Z,ad,ah,ak,am,-⟩:=P;have an:D.aS (sw 8 908) (.sl 3<|J.ab aQ)=.sl 3 (J.ab aQ):=D.iE<|J.db aQ;have ao:D.aS (sw 8 908) (.sl 1 (ns.map λf=>[S f]))=.sl 1 (ns.map λf=>[S f]):=D.iE<|mE ns;have ap:D.aS (sw 8 908) (.sl 8<|L.ab ts)=.sl 8 (L.ab ts):=D.iE<|L.db ts;simp only[dx,b4,eO,D.iE Z,D.iE ad,D.iE ah,D.iE ak,D.iE am,aI,an,ao,ap];rfl
 apply A5 (sw 8 908) i;rw[az];refine vD (k:=k) (v:=v) (tk:=tk) (l:=l) (n:=n) (tn:=tn) (aQ:=aQ) (ns:=ns) aM aK aR av aY (gn:=gn) (y0:=y0) (y1:=y1) (y2:=y2) (xk:=xk) (jy:=jy) (nL:=nL) (SS:=SS) ?_ a1 ⟨u.1,u.2.1,u.2.2.2⟩ λo m s H C y ay aN a0 aV aq=>?_
 .show(f.H<|sw 8 908 h).map (Ob.aS<|sw 8 908)=_;rw[CF j.1 j.2,aT,eE,Ob.aS];simp only[U xk a2]
 have X:=FY (p:=sw 8 908) a0 (λa q=>by simp at q;subst q;rfl) Nd.cl;rw[St.vR];have e:({f.aS (sw 8 908)with H:=H,n:=C}:St).aS (sw 8 908)={f with H:=λa=>(H<|sw 8 908 a).map (Ob.aS<|sw 8 908),n:=λa=>C (sw 8 908 a)}:=by
  simp only[St.aS,St.mk.injEq,i'];funext bd;exact D.me i _
 rw[e,D.iE<|Cl.jf da];refine ar o m s _ _ y ay (λb aA=>?_) X.1 ?_ λa a7 a8 a9 a' a_=>?_
 .have⟨a3,a4,a6⟩:=aN b aA;refine⟨a3,λa K q aW d aH aC=>?_,a6⟩;have g:=a4 (sw 8 908 a) (Ob.aS (sw 8 908) K) (λe=>q (by have g:=eo (sw 8 908) e;rw[i]at g;exact g)) (by show(f.H<|sw 8 908<|sw 8 908 a).map _=_;rw[i,aW];rfl) d (by
   exact aP.2 ⟨d,aH,D.iE aC⟩)
  exact g
 .rw[CF j.1 j.2,aV,eE,Ob.aS];simp only[U y X.2]
 have G t (e:sw 8 908 a=t) (Y:t≠8) (b:t≠908):a=t:=by have g:=eo (sw 8 908) e;rw[i,CF Y b]at g;exact g
 have g:=aq (sw 8 908 a) (λe=>a7<|G _ e j.1 j.2) (λe=>a8 (by have g:=eo (sw 8 908) e;rw[i]at g;exact g)) (λe=>a9<|G _ e Zd Zd) (λe=>a'<|G _ e Zd Zd) λe=>a_ (by
  have M:=V _ e;rw[i]at M;rw[M];exact e)
 rw[g];show((f.H<|sw 8 908<|sw 8 908 a).map<|Ob.aS<|sw 8 908).map (Ob.aS<|sw 8 908)=f.H a;rw[i];obtain _|K:=f.H a
 .rfl
 have⟨gn,e,bg,ba,bf⟩:=K;simp only[eE,Ob.aS,eu];congr 2;have g:(D.aS (sw 8 908)∘D.aS (sw 8 908))=id:=funext λd=>D.me i d;rw[g,map_id]
structure jp (V:List ae) (ds:List aa) (ks:List L) (sc:List Bi) (l:Int) (N q:Nat) (a:List Nd):Prop where
 len:A a=q
 le:q<=A ks
 nodup:(jb a []).Nodup
 ge:∀i∈jb a [],N<=i
 qM:∀(j:Nat)(b:j<A ks)(d:j<A a),hE V ds ks[j] a[j] sc l
theorem Ut{a:eg}:am∈jb a []↔∃b∈a,am∈b.ids:=by
 simp[jb];exact Zg
theorem jp.add{f N1 h:Nat}{b:eg}{nd:Nd}{ok:Bool}(g:jp a5 be h1 i9 a3 f h b)(C:h<A h1)(s:yi a5 be h1[h] i9 a3 N1 nd ok)(p:∀a,N1<=a->f<=a/\∀x∈b,¬fw a x.d):
 (jb (b++[nd]) []).Nodup/\(∀a∈jb (b++[nd]) [],f<=a)/\(ok=W->jp a5 be h1 i9 a3 f (h+1) (b++[nd])):=by
 have⟨k,z,y⟩:=s;have l:jb (b++[nd]) []=jb b []++nd.ids:=rp;have m:(jb (b++[nd]) []).Nodup:=by
  rw[l,iQ];refine⟨g.nodup,k.1,λa e j i q=>?_⟩;subst q;have⟨x,t,r⟩:=Ut.1 e;exact(p a<|k.2 a i).2 x t<|x.xE _ r
 have o a (e:a∈jb (b++[nd]) []):f<=a:=by
  rw[l]at e;obtain e|e:=ca.1 e
  .exact g.ge a e
  exact(p a<|k.2 a e).1
 refine⟨m,o,λB=>⟨Yr g.len,Zo,m,o,λj u w=>?_⟩⟩;by_cases i:j<A b
 .rw[tt i];exact g.qM j u i
 have:j=h:=by have:=g.len;simp at w;omega
 exact Zg
def ti{b:aF}{a v:Int}{d:Int}(g:a=3\/a=5\/a=8\/a=11):
 bt b be (.mk a v gs he hH h1) it d=(h1.mapM λe=>bt b be e it d).bind (gG b a gs):=by
 have h:((h1.map<|bt b be).mapM λf:yo=>f it d)=h1.mapM λe=>bt b be e it d:=by rw[mapM_map];rfl
 obtain rfl|rfl|rfl|rfl:=g<;>simp[bt,kN,L4,h]
theorem mapM_none{a:g2->Option ld}:∀{l:List g2}{q:Nat}(b:q<A l),a l[q]=Q->l.mapM a=Q
 |x::l,0,b,d=>cq
 |x::l,q+1,b,d=>by
  rw[om,mapM_none (l:=l) (q:=q) (Yq b)<|Yq d];cases a x<;>rfl
def mapM_some{Z:Type}{b:g2->Option ld}{g:Z->ld}:∀{l:List g2}{m:List Z}(h:A m=A l),(∀(a:Nat)(e:a<A l)(f:a<A m),b l[a]=E (g m[a]))->l.mapM b=E (m.map g)
 |[],[],_,_=>rfl
 |x::l,i::m,h,d=>by
  rw[om,show b x=E (g i)from d 0 Zs Zs,mapM_some (l:=l) (m:=m) (Yq h) λa e f=>d (a+1) (Yq e)<|Yq f];rfl
def jp.types{b:eg}(a:jp a5 be h1 i9 a3 am (A h1) b):(h1.mapM λd=>bt a5 be d (i9.map Bi.e) a3)=E (b.map Nd.ty):=
 mapM_some a.len λh f g=>(a.qM h f g).ty
def jp.fill{b:aF}{a v g:Int}{n:BA}{t ty:J}{ns:aX}{i:eg}{ok:Bool}(d:jp b be h1 i9 g am (A h1) i)(f:a=3\/a=5\/a=8\/a=11)(q:ok=(gG b a n<|i.map Nd.ty).isSome)(r:ok=W->gG b a n (i.map Nd.ty)=E ty):
 rk b be (.mk a v n t ns h1) i9 g am ok ty i [] Q:=by
 have j:bt b be (.mk a v n t ns h1) (i9.map Bi.e) g=gG b a n (i.map Nd.ty):=by rw[ti f,d.types];rfl
 refine⟨d.nodup,d.ge,(Yy j) q,λs id=>.mk ((Yy j)<|r s) ?_ ?_ d.len λk o p=>?_⟩
 .obtain rfl|rfl|rfl|rfl:=f<;>simp
 .obtain rfl|rfl|rfl|rfl:=f<;>simp[gw]
 have l:eB a k=af:=by obtain rfl|rfl|rfl|rfl:=f<;>simp[eB]
 have m:ct a g=g:=by obtain rfl|rfl|rfl|rfl:=f<;>simp[ct]
 rw[l,m];exact d.qM k o p
def mx(nt N:Nat)(T:cf)(a:List<|Nat×D)(p:(fL)->(a')->Prop)(s:St):Prop:=s.nt=nt/\s.N=N/\s.T=T/\(∀x∈a,s.env x.1=x.2)/\p s.env s.H
instance(nt N:Nat)(T:List TE)(f:Nat->List (Nat×D))(p:Nat->(Nat->D)->(Nat->Option Ob)->Prop):yg (λq=>mx nt N T (f q) (p q)) nt f λq e H _ h g=>g=N/\h=T/\p q e H:=⟨λ_ _⟨a,b,c,d,e⟩=>⟨a,d,b,c,e⟩⟩
def J.R3:∀a b:dp,J.ab (a++b)=J.ab a++J.ab b
 |[],b=>rfl
 |x::a,b=>by rw[bg,J.ab,J.R3 a b,J.ab,bg]
def J.JM:∀a:dp,∀r∈J.ab a,A r=3
 |[],r,h=>On
 |.mk d b e::a,r,h=>by
  rw[J.ab]at h;obtain rfl|h:=cF.1 h
  .rfl
  exact J.JM a r h
def rX:∀{d:List g2},A d=2->∃a b,d=[a,b]
 |[a,b],_=>⟨a,b,C⟩
def TZ:∀{e:List g2},A e=3->∃a b d,e=[a,b,d]
 |[a,b,d],_=>⟨a,b,d,C⟩
def ad4{e:eg}(g:aL [38] fd g4 1 (au Nd.d e) eq)(h:∀f,fd 38=E f->∀d∈f.cells,Cl d->¬fw am d):∀y∈e,¬fw am y.d:=λy hy=>by
 obtain⟨a,_⟩|⟨k,j,b,-,i⟩:=g
 .simp[au]at a;subst a;cases hy
 simp only[dg]at b;subst b;exact h _ i _ IB<|Nd.cl y
theorem Gj{g:aF}{z:aO}(bn:gT g z){k v tk l:Int}{n tn:BA}{aQ:dp}{ns:aX}{ks:bu}{V:bb}{b0:aX}(ax:k=3\/k=5\/k=8\/k=11)(ce:0<=l)(cf:l<=1048576)
 (aS:TC g z (.mk k v n (.mk tk tn aQ) ns ks) b0) (bi:∀p∈ks,tD g z p V l) (bq:∀p∈ks,∀ty,bt g z p (V.map Bi.e) l=E ty->J.w ty)
 {U:St} {gn:Nat} (bl:U.H 19=E ⟨gn,213,15,dx k v n tk tn aQ ns ks (I 0) (S nE) (.sc<|.slice Q 0 0) l (.sc<|.slice Q 0 0) (.sc<|.slice Q 0 0)<|.sc<|.pointer Q,Q⟩)
 (F:∀ok am an Z al H bs j a4,rk g z (.mk k v n (.mk tk tn aQ) ns ks) V l U.N ok (.mk am an Z) al [] Q->H 19=E ⟨gn,213,15,dx k v n tk tn aQ ns ks (I am) (S an) a4 l j (.sc<|.slice Q 0 0)<|.sc<|.pointer Q,Q⟩->((a4=bp/\Z=[])\/a4=.sl 3 (J.ab Z))->
  aL [38] H 156 1 (au Nd.d al) j->c2 ({U with H:=H,n:=bs}.put g7<|B ok)):
 er aB U 325 [.ag [ae.sl g,aa.sl z],.rf 19 gn 0,.sl 1<|au Bi.d V] g7 c2:=by
 have cd:A ks<=5:=by
  have r:=aS.form.1;obtain rfl|rfl|rfl|rfl:=ax<;>simp[bY,dw]at r<;>omega
 have bI:cE aB 88=E (99,3,48):=Zk;refine sQ [1000036,1000038] [.tmp 6] C C Zk Zt C Zs ?_;simp only[bl,dx,go_sem];refine fG 18 (A ks) (λaz=>mx 148 U.N U.T [(1,.rf 19 gn 0),(2,.sl 1<|au Bi.d V),(3,.cp [ae.sl g,aa.sl z]),(17,I<|A ks)] λa7 H=>∃a j,jp g z ks V l U.N az a/\H 19=E ⟨gn,213,15,dx k v n tk tn aQ ns ks (I 0) (S nE) (.sc<|.slice Q 0 0) l j (.sc<|.slice Q 0 0)<|.sc<|.pointer Q,Q⟩/\
  aL [38] H 156 1 (au Nd.d a) j/\aL [36] H 99 3 (J.ab<|a.map Nd.ty) (a7 7)) C ⟨C,C,C,Il,[],.sc<|.slice Q 0 0,⟨C,kT _,rp,rp,λaz _ av=>by simp at av⟩,Yr bl,aG ⟨C,C⟩,aG ⟨C,C⟩⟩ ?_
 rintro az a7 H bs b' b8 bQ⟨rfl,rfl,a,j,Y,i,D,a3⟩;refine ZL (λaY=>?_) λf=>?_
 .obtain rfl:=Y.len;simp only[dx,go_sem];refine rH (.bS [0,1,2,3,4,5] 6 (.bS [] 7 (.fin [8,9,10,11,12,13]) 11<|.fin [7,8,9,10,12,13]) 11<|.fin [6,7,8,9,10,12,13]) [] [27] fb Zk ?_;simp only[i,dx,go_sem];refine⟨⟨?_,?_⟩,?_⟩
  all_goals
   refine aj<|aj (acm (al:=a) (ts:=ks) (SS:=[38]) Zo Zo (bi _<|aD _) (λ_ _ m=>m) (aG C) (by first|exact i|(simp only[ai];exact i)) (.c (bc _)<|.c (bc _)<|.c (bc _)<|.c (bc _)<|.c (bc _) .n) (D.aA bF) Zs λb9 ak bZ b3 cg bB bo bk br bm be=>?_);have bJ:=be 36 Zd Zd Zd Zd Zs;have bd:=be 8 Zd Zd Zd Zd Zs
   try simp only[bN]at bd
   obtain⟨am,an,Z,a0⟩:∃am an Z,ak.ty=.mk am an Z:=match ak.ty with|.mk s b p=>⟨s,b,p,C⟩
   refine(ad<|JJ a0 bd) ?_;have aV:=Y.add aY bo λq R=>⟨(bk q R).1,ad4 (D.aA bF) λbW=>(bk q R).2.1 38 bW Zd⟩;cases bZ
   .refine(ZN)<|F af 0 nE [] (a++[ak]) _ _ bB (.sc<|.slice Q 0 0) ⟨aV.1,aV.2.1,?_,λm=>by cases m⟩ (Yu bm) (aG ⟨C,C⟩)<|br.aA bF;rw[ti ax,mapM_none aY]
    .rfl
    have r:=bo.2.1;rcases f:bt g z ks[A a] (V.map Bi.e) l with _|_
    .rfl
    rw[f]at r;cases r
   refine(ZN)<|GK.cM (eC.eS (S:=[36]) (aq:=J.ab<|a.map Nd.ty) (bD:=J.ab [ak.ty]) bI (by simp only[aw,bx,bT,bj,e7,eQ];exact a3.aA (by simp[ai,bJ])) (J.JM _) (by simp[aw,dS,ai,J.ab,a0,J.ds]) (by simp[J.ab]) (by simp[a0,J.ab,J.ds,cO,Value.oneCell']) (by simp only[J.b6,bE,dC,gR];omega) (by simp only[J.b6,bE,dC,gR];unfold aE;omega) λb7 ch ci bU bf=>?_);have a':=bf 19 Zd Zd;simp only[a_,dG,bj,dv,bm]at a';have ba:=bf 38 Zd Zd;simp only[a_,dG,bj,dv]at ba;refine(ZN) ?_;refine jW (by simp only[aw,bx,e7,eQ,bT,bj];rw[gJ _ Zo]) aY ⟨C,C,C,by simp[aw,aa.sl],a++[ak],bB,aV.2.2 C,by simp[a'],br.aA (by simp[ba]),?_⟩;simp only[aw,bx,bT,bj,bX,b4,eO,J.R3,e7,eQ];exact bU
 obtain rfl:az=A ks:=Zo;refine(ad f) ?_;refine GK.nY [36] 7 (.sl 3<|J.ab<|a.map Nd.ty) ((a3.aA o4).fz Zd (J.JM _)<|J.dl _) (J.db _) ?_;have ay:∀t∈a.map Nd.ty,J.w t:=λt aZ=>by
  obtain⟨aH,a2,rfl⟩:=aP.1 aZ;obtain⟨q,R,rfl⟩:=ec a2;have r:=Y.len;exact bq _ (aD Zo) _ (Y.qM q Zo R).ty
 have bR:A (a.map Nd.ty)=A ks:=by rw[bE,Y.len]
 have G:=λok ty=>Y.fill (v:=v) (n:=n) (t:=.mk tk tn aQ) (ty:=ty) (ns:=ns) (ok:=ok) ax;obtain⟨M,a1⟩:∃M,M=a.map Nd.ty:=⟨_,C⟩;rw[<-a1]at ay bR G;rw[<-a1];clear a1 a3 bi bq bQ;have aW:=aS.form.1;obtain rfl|rfl|rfl|rfl:=ax
 .obtain⟨⟨X,aI,ah⟩,⟨u,y,o⟩,rfl⟩:∃s b,M=[s,b]:=rX (by simp[bY,dw]at aW;omega);simp only[aT,i,dx,J.ab,go_sem];refine hW intType .n ?_;simp only[aT,i,dx,J.ab,go_sem]
  repeat' (first|(refine oC (λf=>?_) (λf=>?_)<;>simp only[f,go_sem])|(refine fx (λf=>?_) (λf=>?_)<;>simp only[f,aT,i,dx,J.ab,go_sem]))
  all_goals skip
  all_goals
   refine F _ 1 nE [] a _ _ j (.sl 3<|J.ab []) (G _ _ ?_ ?_) (by simp[ai,dx,J.ab]) (aj C)<|D.aA pN
   .simp only[gG,J.kd,b4,eO,Al,i',bx];exact Zg
   intro m;simp only[gG,J.kd,b4,eO,Al,i',bx];rw[aM (by simp_all)]
 .obtain⟨⟨X,aI,ah⟩,⟨u,y,o⟩,rfl⟩:∃s b,M=[s,b]:=rX (by simp[bY,dw]at aW;omega);simp only[aT,i,dx,J.ab,go_sem];refine fB<|oC (λf=>?_) λf=>?_
  .have P:X=3:=by simpa using f
   subst P;obtain⟨a9,av⟩:=ay (.mk 3 aI ah) Zs;rw[fY,J.bh,J.i1,cy,en]at a9;obtain⟨⟨bv,bz,bw⟩,⟨b1,b2,bA⟩,rfl⟩:∃s b,ah=[s,b]:=rX (by have r:=a9.1;simp[ii]at r;exact r.2);rw[J.ok]at av;simp only[J.ab,go_sem];refine(rD<|sameType (.mk bv bz bw) (.mk u y o)<|J.eJ av.2.2 _ Zs) ?_;by_cases K:J.mk bv bz bw=.mk u y o
   .simp only[K,aT,i,dx,go_sem];refine F W b1 b2 bA a _ _ j (.sl 3<|J.ab bA) (G _ _ ?_ ?_) o3 (aj C)<|D.aA pN
    all_goals simp[gG,nU,K]
   refine(ad K)<|F af 0 nE [] a _ _ j (.sc<|.slice Q 0 0) (G _ _ ?_ λm=>by cases m) (by simp[dx,aT,i]) (aG ⟨C,C⟩)<|D.aA (by simp[aT]);simp[gG,nU,K]
  have P:X≠3:=by simpa using f
  refine(ad f)<|F af 0 nE [] a _ _ j (.sc<|.slice Q 0 0) (G _ _ ?_ λm=>by cases m) (by simp[dx,aT,i]) (aG ⟨C,C⟩)<|D.aA (by simp[aT]);simp only[gG,aC (show¬(5:Int)=3 by decide),bx];obtain _|⟨aH,l⟩:=ah
  .rfl
  cases l with
  |nil=>rfl
  |cons bG l=>cases l with
   |nil=>simp[nU,P]
   |cons _ _=>rfl
 .have bP:=(lN aS.fit).1;have bK:0<=hI g n:=by simp[fo]at bP;omega
  obtain⟨q,R,t,aZ,a5,b_,a6,ca,bH⟩:=rG bK;have bO:=y8 g n bn.oA.len bn.oA.cs;rw[a5,bH]at bO;have ap:=ae.bV g q R;have ar:=aJ.bV (ae.cs g[q]) t aZ;obtain⟨p,bL⟩:∃p,p=(ae.cs g[q])[t]:=⟨_,C⟩;rw[<-bL]at ar a6;have bg:oB g n=ae.nm g[q]:=by simp[oB,a5,R]
  obtain⟨d,bM⟩:∃d,d=g[q]:=⟨_,C⟩;rw[<-bM]at ap ar bg;obtain⟨aR,cb⟩:=d;obtain⟨ao,a8⟩:=p;simp only[ae.ds,aJ.ds,aJ.sl,J.sl,ae.cs]at ap ar;have cc:gG g 8 n M=if M=a8 then E (mh aR)else Q:=by simp[gG,a6,aJ.fs,bg,ae.nm]
  simp only[aT,i,dx,go_sem];have r:=RW aR;refine(fQ ap) ?_;simp only[ap,ar,aT,i,dx,J.ab,go_sem];have r:=R7 M a8 289 jC λaH a2 bG=>sameType aH bG (ay aH a2).2;exact(ZC)<|F _ 2 aR [] a _ _ j (.sl 3<|J.ab []) (G _ _ Zg Zg) (by simp[ai,dx,J.ab]) (aj C)<|D.aA pN
 obtain⟨⟨X,aI,ah⟩,⟨u,y,o⟩,⟨aK,ao,aN⟩,rfl⟩:∃s b p,M=[s,b,p]:=TZ (by simp[bY,dw]at aW;omega);simp only[aT,i,dx,J.ab,go_sem];refine fB<|oC (λf=>?_) λf=>?_
 .have P:X=1:=by simpa using f
  subst P;refine(ZN)<|(rD<|sameType (.mk u y o) (.mk aK ao aN) (ay _ Zs).2)<|F _ u y o a _ _ j (.sl 3<|J.ab o) (G _ _ ?_ ?_) o3 (aj C)<|D.aA pN
  .by_cases K:J.mk u y o=.mk aK ao aN<;>simp[gG,J.kd,K]
  intro m;have K:J.mk u y o=.mk aK ao aN:=Yq m;simp[gG,J.kd,K]
 have P:X≠1:=by simpa using f
 refine(ad f)<|F af u y o a _ _ j (.sl 3<|J.ab o) (G _ _ ?_ λm=>by cases m) o3 (aj C)<|D.aA pN;simp[gG,J.kd,P]
theorem RL{a:aF}(p:q0 a){b e:Nat}(h:b<A a)(i:e<A (ae.cs a[b])):
 hI a (aJ.nm (ae.cs a[b])[e])=b/\kG a (aJ.nm (ae.cs a[b])[e])=aJ.fs (ae.cs a[b])[e]:=by
 obtain⟨-,j⟩:=(p.2 b h).2 e i;simp only[jS,EL a b h,eE,kx,ca,lh]at j;have⟨l,m⟩:=j;have o:hI a (aJ.nm (ae.cs a[b])[e])=b:=n3 h (by
  rw[wj];refine λd s f=>l<|eL.2 ⟨pd d,aP.2 ⟨d,s,C⟩,?_⟩;simp only[rO,m',ee]at f;have⟨g,q,r⟩:=f;exact aP.2 ⟨g,q,r⟩) (by simp only[rO,m',ee];exact⟨_,aD i,C⟩)
 have t:xL a[b] (aJ.nm (ae.cs a[b])[e])=e:=n3 i (by
  rw[wj];refine λg f k=>m ?_;simp only[ee]at k;simp only[pd,<-su];exact aP.2 ⟨g,f,k⟩) Zs
 refine⟨o,?_⟩;unfold kG;exact Zg
def vZ{v:Int}{a:Int}:
 bt a5 be (.mk 9 v gs he hH (n8::h1)) it a=(bt a5 be n8 it a).bind λb=>if b=mh (oB a5<|Fo (n8::h1))then pC (h1.map λd=>bt a5 be d it a)else Q:=by
 simp[bt,kN,oe,L4,CW]
def zW{v:Int}{b:L}{a:Int}:
 bt a5 be (.mk 10 v gs he hH [b]) it a=bt a5 be b (it++dA a5 gs hH a) a:=by
 simp[bt,kN,oe]
theorem VN{a:List (Option J)}{b d:Option J}(e:b∈a)(i:d∈a)(g:b≠d):pC a=Q:=by
 obtain _|⟨f,a⟩:=a
 .cases e
 rw[pC,aC];exact λh=>Zg
theorem LJ{a:List (Option J)}(b:Q∈a):pC a=Q:=by
 obtain _|⟨d,a⟩:=a
 .cases b
 rw[pC];split
 .exact Zg
 rfl
theorem VM{a:List (Option J)}{x:Option J}(e:a≠[])(d:∀g∈a,g=x):pC a=x:=by
 obtain _|⟨b,a⟩:=a
 .exact absurd C e
 have f:=d b Zs;subst f;rw[pC,aM];exact Zg
structure wz (V:List ae) (eA:List L) (n0:ByteArray) (i:Nat):Prop where
 hi:i<A V
 at_:hI V n0=i
 len:A eA=A (ae.cs (V[i]))
 ne:eA≠[]
 le:A eA<=4
 br:∀(j:Nat)(h:j<A eA)(a:j<A (ae.cs (V[i]))),∃v n t ns b,eA[j]=.mk 10 v n t ns [b]/\n=aJ.nm (ae.cs V[i])[j]/\A ns=A (aJ.fs (ae.cs V[i])[j])/\A ns<=3
def KT{g:aF}(al:gT g be){v:Int}{o:BA}{i:bu}(p:TC g be (.mk 9 v o he hH i) pm):
 ∃r e d m,i=r::e::d/\wz g (e::d) (L.lu e) m:=by
 obtain⟨I,-,-,-,-,w⟩:=p.form;have z:2<=A i/\A i<=5:=by simp[bY,dw]at I;omega
 obtain⟨r,e,d,rfl⟩:∃a b d,i=a::b::d:=by
  match i,z.1 with
  |a::b::d,_=>exact⟨a,b,d,C⟩
 have x (f:Nat) (j:f<A (e::d)):∃v o he hH b,(e::d)[f]=.mk 10 v o he hH [b]/\0<=hI g o/\A hH<=3:=by
  have k:=p.dh (f+1)<|Yq j;simp only[np,ee]at w;have l:=w (f+1)<|Yq j;simp only[jm,rh,Nat.zero_lt_succ,Bool.and_self,ee]at k l;generalize (e::d)[f]=U at k l;have⟨V,X,Y,Z,aa,B⟩:=U;simp only[L.kd]at l;subst l;obtain⟨f1,-,-,f4,-,-⟩:=k.form;obtain⟨b,rfl⟩:∃b,B=[b]:=kw.1 (by simp[bY,dw]at f1;omega);refine⟨_,_,_,_,b,C,?_,?_⟩
  .have s:=(lN k.fit).1;simp[fo]at s;omega
  simp[jI]at f4;omega
 obtain⟨au,an,t0,ap,b0,t,M,-⟩:=x 0 Zs;simp only[fA]at t;have K:0<=hI g (L.lu e):=(Yy t) M;have⟨m,O,ar,am,F,ab,ad,G,ah⟩:=rG K;have y:sT g (e::d)=W:=by
  have s:=(lN p.b7).1;simpa[hG]using s
 simp only[sT,vf,G,cy,ee,en]at y;have⟨R,S⟩:=y;refine⟨r,e,d,m,C,O,F,R,Zs,by simp at z⊢;omega,λf j ak=>?_⟩;obtain⟨av,ao,t1,aq,D,u,-,P⟩:=x f j;have q:=S ((e::d)[f],(ae.cs g[m])[f]) (by
  rw[wq];exact⟨f,by simp at j⊢;omega,Zs⟩)
 simp only[sS,u,L.lu,L.K6,cy,ee]at q;exact⟨_,_,_,_,D,u,q.1,q.2,P⟩
theorem wz.fs{a:aF}(k:gT a be)(d:wz a h1 gs am){e:Nat}(i:e<A h1):∃v f j g b,∃h:e<A (ae.cs<|a[am]'d.hi),h1[e]=.mk 10 v f j g [b]/\kG a f=aJ.fs (ae.cs<|a[am]'d.hi)[e]/\A g=A (kG a f)/\A g<=3:=by
 have h:e<A (ae.cs<|a[am]'d.hi):=by rw[<-d.len];exact i
 obtain⟨v,f,j,g,b,l,rfl,m,o⟩:=d.br e i h;have:=(RL k.vd d.hi h).2;exact Zg
theorem jp.Qh{f h:Nat}{b:eg}{nd:Nd}(g:jp a5 be h1 i9 a3 f h b)(w:h<A h1)(p:nd.ids.Nodup)(q:∀a∈nd.ids,f<=a)(r:∀a∈nd.ids,∀x∈b,¬fw a x.d):
 (jb (b++[nd]) []).Nodup/\(∀a∈jb (b++[nd]) [],f<=a)/\(hE a5 be h1[h] nd i9 a3->jp a5 be h1 i9 a3 f (h+1) (b++[nd])):=by
 have k:jb (b++[nd]) []=jb b []++nd.ids:=rp;have l:(jb (b++[nd]) []).Nodup:=by
  rw[k,iQ];refine⟨g.nodup,p,λa e j i o=>?_⟩;subst o;have⟨x,t,s⟩:=Ut.1 e;exact r a i x t<|x.xE _ s
 have m a (e:a∈jb (b++[nd]) []):f<=a:=by
  rw[k]at e;obtain e|e:=ca.1 e
  .exact g.ge a e
  exact q a e
 refine⟨l,m,λu=>⟨Yr g.len,Zo,l,m,λj j1 j2=>?_⟩⟩;by_cases i:j<A b
 .rw[tt i];exact g.qM j j1 i
 have:j=h:=by have:=g.len;simp at j2;omega
 exact Zg
def jp.aak{v a:Int}{ty:J}{g:eg}(b:jp a5 be h1 i9 a am (A h1) g)(d:bt a5 be (.mk 9 v gs he hH h1) (i9.map Bi.e) a=E ty):
 rk a5 be (.mk 9 v gs he hH h1) i9 a am W ty g [] Q:=
 ⟨b.nodup,b.ge,Yf d,λ_ id=>.mk d Zs (by simp[gw]) b.len λf h i=>by
  rw[show eB 9 f=af by simp[eB],show ct 9 a=a by simp[ct]];exact b.qM f h i⟩
def aax{b:aF}{d:BA}{e:aX}{a:Nat}(g:a<A e)(h:a<A (kG b d)):Y (a+1) (dA b d e a3)=Y a (dA b d e a3)++[⟨e[a],(kG b d)[a],a3⟩]:=by
 have f:a<A (dA b d e a3):=DH;rw[dm f];simp[dA]
def Ed(P:aH)(mu:ax)(ty:a6)(i j t:Nat)(K:aU)(s:St):Prop:=lx P mu [] af af (.call ⟨.builtin .append,#[.tmp i,.tmp j],#[ty,ty]⟩) (E t) K s
def IY{ty:a6}:lx g3 gt [] af af (.call ⟨.builtin .append,#[.tmp am,.tmp a0],#[ty,ty]⟩) (E a2) c2 bv=Ed g3 gt ty am a0 a2 c2 bv:=cQ C C
def QE{s:St}{d i j e a h:Nat}{ty:a6}{S:ax}{aq bD:cB}(p:cE g3 ty=E (e,a,h))(x:aL S s.H e a aq<|s.env i)(q:∀r∈aq,A r=a)(y:dS s e a (s.env j)=E (A bD,ao bD))(u:0<A bD)(l:bD.flatten.all cO=W)
 (o:(A aq+A bD)*h<=140737488355328) (t:A aq+A bD<=aE) (w:d<s.nt)
 (m:∀H n g,aL [d] H e a (aq++bD) g->(∀f,f≠d->f∉S->H f=s.H f)->c2 ({s with H:=H,n:=n}.put (E d) g)):Ed g3 gt ty i j d c2 s:=by
 unfold Ed;rw[Lh];refine eC.eS p x q y u l o t λH n g k b=>⟨?_,m H n g k b⟩;simp only[St.put,aM w];rw[JY];simp[xF]
def wz.rX{a:li}(b:wz a5 h1 gs am)(e:a5[am]'b.hi=.mk i2 a):A h1=A a:=by
 have d:=b.len;rw[e]at d;exact d
def aJ.ex(a:aJ):∃d b,a=.mk d b:=by cases a;exact⟨_,_,C⟩
def J.ex(a:J):∃e b d,a=.mk e b d:=by cases a;exact⟨_,_,_,C⟩
def YE(bs:bb)(d:D):(ao<|au Bi.d bs++[[d]])[A bs]?=E d:=by rw[eR,kM];simp
def afC(bs:bb)(d:D)(b:Bi):(au Bi.d bs++[[d]]).flatten.set (A bs) (Bi.d b)=ao (au Bi.d<|bs++[b]):=by
 rw[eR,kM,kM,bX,Dd _ _ Zs];simp
def K0{a:g2->D}{f:List g2}(h:aL [a0] fd g4 1 (au a f) eq)(i:∀g,fd a0=E g->∀d∈g.cells,¬fw am d):∀y∈f,¬fw am (a y):=λy hy=>by
 obtain⟨b,_⟩|⟨a0,k,e,-,j⟩:=h
 .simp[au]at b;subst b;cases hy
 simp only[dg]at e;subst e;exact i _ j _ IB
def afA(a b:bb){e:D}(h:(e=bp/\b=[])\/(b≠[]/\e=.sl 1 (au Bi.d b)))(f:A a+A b<=1048576):az 321 [.sl 1<|au Bi.d a,e]<|.sl 1<|au Bi.d<|a++b:=by
 obtain⟨rfl,rfl⟩|⟨g,rfl⟩:=h
 .rw[de];exact afz a (Yq f)
 exact GD a b g f
def X4{v a:Int}{ty:J}{b:L}{bs:bb}{id:Nat}(g:bs.map Bi.e=dA a5 gs hH a)(h:hE a5 be b m5 (i9++bs) a)(i:m5.ty=ty):
 hE a5 be (.mk 10 v gs he hH [b]) (.mk id (.mk 10 v gs he hH [b]) ty a [m5] bs Q) i9 a:=by
 refine .mk ?_ Zs (by rw[g];simp[gw]) C λj d f=>?_
 .rw[zW,<-g,<-bX,h.ty,i]
 match j,d,f with
 |0,d,f=>exact h
def I7{ty:J}{bs:bb}{id:Nat}:(Nd.mk id n8 ty a3 [m5] bs Q).ids=id::(bs.map Bi.id++m5.ids):=by
 rw[Nd.mL];simp[Nd.id,Nd.bs,Nd.ks]
def UR{f:g2->D}{a:List g2}{y:g2}(e:y∈a)(b:fw am<|f y):fw am<|.sl 1<|au f a:=.sl (r:=[f y]) (d:=f y) (aP.2 ⟨y,e,C⟩) Zs b
def RZ{a:io}(g:g3.follows .mixedOrders=W)(f:GK (vn g3 a c2) bv):ub g3 gt a c2 bv:=
 ⟨g,λm b e d l o h i=>let⟨_,_,_,k,j⟩:=f m b e d l i;k.2 _ _ _ _ _ _ h j⟩
def GK.aaD{f:g2->D}{g:St}(i h l:Nat)(b:Ob){a:List g2}{j:D}(s:g.H h=E b)(t:h≠i)(e:b.cells[l]?=E j)(w:aL [i] g.H g4 1 (au f a) j)(u:a=[]->j=bp)(q:∀k,Cl<|f k)
 (p:∀o,((o=bp/\a=[])\/(a≠[]/\o=.sl 1 (au f a)))->c2 {g with H:=ai (aT [i] g.H) h (E {b with cells:=b.cells.set l o})}):GK c2 g:=by
 by_cases m:a=[]
 .refine GK.uf [i] h l b j (.sc<|.slice Q 0 0) s (Yq t) e ?_ (bc _)<|p _<|aG ⟨C,m⟩;rw[u m];exact .cl _ (bc _)
 exact GK.uf [i] h l b j _ s (Yq t) e ((w.aA o4).fz Zd (ha _) (by simp only[au,aP];rintro r⟨k,_,rfl⟩d e;simp at e;subst e;exact q k)) (ff λk _=>q k)<|p _<|aj ⟨m,C⟩
def adP{g:aF}{m:aO}(cg:gT g m){v tk l:Int}{n tn:BA}{aQ:dp}{ns:aX}{k0:L}{eA:bu}{i:bb}{cn:BA}{r:Nat}(eB:0<=l)(eC:l<=1048576)(eF:A i<=1000000)
 (K:wz g eA cn r) {c6:D} (de:(L.ab (k0::eA))[1]?=E [eq,hw,S cn,m2,pi,rx,v2,c6]) (cb:Fo (k0::eA)=cn) (dh:tD g m k0 i l) (ea:∀ty,bt g m k0 (i.map Bi.e) l=E ty->J.w ty)
 (bf:∀v n cq ns ar,.mk 10 v n cq ns [ar]∈eA->∀bs:bb,A bs<=3->bs.map Bi.e=dA g n ns l->tD g m ar (i++bs) l) (eb:∀cq∈eA,∀ty,bt g m cq (i.map Bi.e) l=E ty->J.w ty)
 {s:St} {gn:Nat} (cf:s.H 19=E ⟨gn,213,15,dx 9 v n tk tn aQ ns (k0::eA) (I 0) (S nE) (.sc<|.slice Q 0 0) l (.sc<|.slice Q 0 0) (.sc<|.slice Q 0 0)<|.sc<|.pointer Q,Q⟩) {bm:ON}
 (b3:∀cZ a1 a2 aS al H ax xk y2,rk g m (.mk 9 v n (.mk tk tn aQ) ns (k0::eA)) i l s.N cZ (.mk a1 a2 aS) al [] Q->H 19=E ⟨gn,213,15,dx 9 v n tk tn aQ ns (k0::eA) (I a1) (S a2) y2 l xk (.sc<|.slice Q 0 0)<|.sc<|.pointer Q,Q⟩->((y2=bp/\aS=[])\/y2=.sl 3 (J.ab aS))->
  aL [38,141] H 156 1 (au Nd.d al) xk->c2 ({s with H:=H,n:=ax}.put bm<|B cZ)):
 er aB s 324 [.ag [ae.sl g,aa.sl m],.rf 19 gn 0,.sl 1<|au Bi.d i] bm c2:=by
 have d':Cl<|.sl 1<|au Bi.d i:=ff λam _=>Bi.cl am;have dE:=y8 g cn cg.oA.len cg.oA.cs;obtain⟨eG,dC⟩:=Zx<|kH 0 g cn;rw[K.at_,dC]at dE;have bo:=ae.bV g r K.hi;have bA:oB g cn=ae.nm (g[r]'K.hi):=by simp[oB,K.at_,K.hi]
 obtain⟨aI,a3,b_⟩:∃aI a3,g[r]'K.hi=.mk aI a3:=match g[r]'K.hi with|.mk a b=>⟨a,b,C⟩
 rw[b_]at bo bA;simp only[ae.ds]at bo;have cB:A (L.ab (k0::eA))=A eA+1:=by rw[L.b6];simp
 have dD:(L.ab (k0::eA)).drop 1=L.ab eA:=by simp[L.ab]
 have cR a (e:bt g m k0 (i.map Bi.e) l=a) (t:(∀b,a=E b->b≠mh aI)):bt g m (.mk 9 v n (.mk tk tn aQ) ns (k0::eA)) (i.map Bi.e) l=Q:=by
  rw[vZ,e];obtain _|b:=a
  .rfl
  rw[mq,aC];simp only[cb,bA,ae.nm];exact t b C
 have dk:((1:Int)<=((A eA+1:Nat):Int))=True:=dM Zo;have d_:Y (A eA+1) (L.ab (k0::eA))=L.ab (k0::eA):=dj<|(Yy cB)<|bJ _;have di:0<A eA:=uJ.2 K.ne;refine sQ [75,109,1000057,1000114,1000134,1000141] [.tmp 6] C C Zk Zt C Zs<|(ZN)<|rH (.bS [0,1,2,3,4,5] 6 (.bS [] 7 (.fin [8,9,10,11,12,13]) 11<|.fin [7,8,9,10,12,13]) 11<|.fin [6,7,8,9,10,12,13]) [] [23] fb Zk<|(ad cf) ?_;refine⟨⟨?_,?_⟩,?_⟩
 all_goals
  refine aj<|aj (vD (al:=[]) (ts:=k0::eA) (SS:=[38]) Zs Zs dh (λ_ _ o=>o) (aG C) (by first|exact cf|(simp only[ai];exact cf)) (aG ⟨C,C⟩) Zs λc4 ba ek bU cY cr dY dU bR u bv=>?_);have cx:=bv 7 Zd Zd Zd Zd Zs
  try simp only[bN]at cx
  obtain⟨a1,a2,aS,cW⟩:∃a1 a2 aS,ba.ty=.mk a1 a2 aS:=match ba.ty with|.mk a b ar=>⟨a,b,ar,C⟩
  simp only[cW,u,cx,dx,go_sem]
 all_goals
  refine(fQ de) ?_;have⟨cC,cK,bB⟩:=dY;have dL:jp g m (k0::eA) i l s.N 0 []:=⟨C,kT _,rp,rp,λq _ dm=>by simp at dm⟩;have b4:=dL.Qh (nd:=ba) Zs cC.1 (λr p=>(dU r<|cC.2 r p).1) Zs;have cG H ax (o:(bt g m k0 (i.map Bi.e) l=Q\/∃b,bt g m k0 (i.map Bi.e) l=E b/\b≠mh aI)) (c7:H 19=bU 19) (c8:H 38=bU 38):c2<|{s with H:=H,n:=ax}.put bm<|B af:=by
   refine b3 af 0 nE [] [ba] _ _ cr (.sc<|.slice Q 0 0) ⟨b4.1,b4.2.1,?_,λo=>by cases o⟩ (c7.trans u) (aG ⟨C,C⟩)<|(bR.aA<|Yr c8).sub Zs;obtain o|⟨b,o,bf⟩:=o
   .rw[cR _ o Zs];rfl
   rw[cR _ o λar a0=>by cases a0;exact bf];rfl
  cases ek
  .refine(ZN)<|cG _ _ (aG ?_) (Yu u) bF;rcases t:bt g m k0 (i.map Bi.e) l with _|_
   .rfl
   rw[t]at cK;cases cK
  refine(ad bo) ?_;have bB:=bB C;have bQ:=bB.ty;rw[cW]at bQ;have:=RW aI;refine(ZC)<|nV (sameType (.mk a1 a2 aS) (mh aI) (ea _ bQ).2) ?_;by_cases bL:J.mk a1 a2 aS=mh aI
  .refine(ad bL) ?_;obtain⟨be,_⟩|⟨t1,X,aN,rfl,av⟩:=bR
   .simp[au]at be
   simp only[dg]at aN;subst aN;refine GK.F6 38 141 19 12 _ _ _ (by simp[ai];exact av) C (by simp[ai];exact u) Zd Zd (by rfl) ?_;simp only[cB,dD,dk,d_,De,Df,dx,go_sem];have dO:=b4.2.2 bB;have cV:bt g m k0 (i.map Bi.e) l=E (mh aI):=by rw[bQ,bL]
   refine jH 64 (A eA) (λq=>mx 170 s.N s.T [(1,.rf 19 gn 0),(2,.sl 1<|au Bi.d i),(3,.cp [ae.sl g,aa.sl m]),(9,I r),(62,.sl 8<|L.ab eA),(63,I<|A eA)] λbZ H=>∃Z xk ay aH az y2,jp g m (k0::eA) i l s.N (q+1) Z/\
    H 19=E ⟨gn,213,15,dx 9 v n tk tn aQ ns (k0::eA) (I ay) (S aH) y2 l xk (.sc<|.slice Q 0 0)<|.sc<|.pointer Q,Q⟩/\((y2=bp/\az=[])\/y2=.sl 3 (J.ab az))/\(0<q->y2=.sl 3 (J.ab az))/\
    aL [141] H 156 1 (au Nd.d Z) xk/\∀(o:Nat)(t:o<A eA),o<q->bt g m eA[o] (i.map Bi.e) l=E (.mk ay aH az)) C
    ⟨C,C,C,Il,[ba],.ms 141 (cY 141)<|A<|au Nd.d [ba],0,nE,[],.sc<|.slice Q 0 0,dO,o3,aG ⟨C,C⟩,λt=>absurd t Zd,aj ⟨141,_,Zs,C,ep⟩,λo _ t=>by omega⟩ ?_
   rintro q⟨bZ,H,ax,ei,c5,c3⟩cJ bq⟨rfl,rfl,rfl,bh,Z,xk,ay,aH,az,y2,co,u,cX,ed,ak,b8⟩;simp only[bM]at bq bh u ak;obtain⟨G,aK,aV,a6,a4,a5,-⟩:=bh;refine dN (JJ bq a5) (λa9=>?_) λt=>?_
   .have⟨ah,P,⟨an,ap,ao⟩,j,R,ez,bw,dz,cz,ey⟩:=K.fs cg a9;have b0:=L.bV eA q a9;rw[bw]at b0;simp only[L.ds,J.ds,bG,bg,aY]at b0;have dW:A (j.map λs=>[S s])=A j:=Zs;simp only[bq,a4,b0,go_sem];refine dP [] [69,73] ?_;simp only[G,u,dx,dW,go_sem];refine jH 79 (A j) (λz=>mx 170 s.N s.T [(1,.rf 19 gn 0),(2,.sl 1<|au Bi.d i),(3,.cp [ae.sl g,aa.sl m]),(9,I r),(62,.sl 8<|L.ab eA),(63,I<|A eA),(64,I q),(11,I q),(77,.sl 1 (j.map λs=>[S s])),(78,I<|A j),(13,.rf 75 (ax 75) 0)] λbZ H=>∃bs jy,
     H 19=E ⟨gn,213,15,dx 9 v n tk tn aQ ns (k0::eA) (I ay) (S aH) y2 l xk (.sc<|.slice Q 0 0)<|.sc<|.pointer Q,Q⟩/\aL [141] H 156 1 (au Nd.d Z) xk/\
     H 75=E ⟨ax 75,213,15,dx 10 ah P an ap ao j [R] (I 0) (S nE) (.sc<|.slice Q 0 0) l (.sc<|.slice Q 0 0) jy<|.sc<|.pointer Q,Q⟩/\aL [111] H 211 1 (au Bi.d bs) jy/\
     bs.map Bi.e=Y z (dA g P j l)/\(bs.map Bi.id).Nodup/\(∀b∈bs,s.N<=b.id/\∀am∈Z,¬fw b.id am.d)/\(bs=[]->jy=bp)) C
     ⟨C,C,C,by simp[aw,G,aK,aV,a6,a4,a5,bq,ae.sl,aa.sl],[],.sc<|.slice Q 0 0,Yu u,ak.aA bF,by simp[ai,dx,L.ab];rfl,aG ⟨C,C⟩,Zs,Zs,Zs,λ_=>C⟩ ?_
    rintro z⟨bZ,H,eg,ei,c5,c3⟩eD br⟨rfl,rfl,rfl,bh,bs,jy,u,ak,bK,ck,aZ,cA,b9,dq⟩;simp only[bM]at br bh u ak bK ck;obtain⟨G,aK,aV,a6,a4,a5,bY,bW,ct,cu,bn,-⟩:=bh;refine dN (JJ br cu) (λbi=>?_) λt=>?_
    .have df:(j.map λs=>[S s])[z]?=E [S j[z]]:=by simp[bi]
     have dK:q<A a3:=by rw[<-K.rX b_];exact a9
     have bz:kG g P=aJ.fs a3[q]:=by rw[dz];congr 1;simp[b_,ae.cs]
     have b1:=aJ.bV a3 q dK;obtain⟨ew,a',dB⟩:∃a b,a3[q]=.mk a b:=aJ.ex _;rw[dB]at b1 bz;simp only[aJ.fs]at bz;have dR:z<A a':=by rw[<-bz,<-cz];exact bi
     have b2:=J.bV a' z dR;obtain⟨c_,dd,dc,cI⟩:∃a b ar,a'[z]=.mk a b ar:=J.ex _;rw[cI]at b2;simp only[aJ.ds,J.ds,J.sl]at b1 b2;have c9:cE aB 210=E (211,1,8):=Zk;have dw:A bs=z:=by rw[<-bE (f:=Bi.e),aZ,ij];simp only[dA,bE,C'];omega
     simp only[br,ct,df,go_sem];refine rH (.bS [0,1,2,3,5,6,7,8,9,10,11,12,13,14,15,16,17,18,19,20,21,22,23,24] 4 (.fin [25,26,27,28,29,30]) 25<|.bS [] 4 (.fin [26,27,28,29,30]) 26<|.fin [4,27,28,29,30]) [] [88,107] fb Zk ?_;simp only[bK,b1,b2,G,aV,a6,bW,bn,u,dx,bo,IY,go_sem];refine⟨?_,?_,?_⟩
     all_goals
      refine QE (S:=[111]) (aq:=au Bi.d bs) (bD:=[[.rf 109 (eg 109) 0]]) c9 (by simp only[aw,bx,bT,bj];exact ck.aA bF) (ha _) hF Zs (by simp[cO]) (by simp[fg];omega) (by simp[fg];unfold aE;omega) (by show 111<170;decide) λc1 eh et cm a8=>?_;have a7:=a8 19 Zd Zd;have cy:=a8 75 Zd Zd;have aW:=a8 141 Zd Zd;have cv:=a8 109 Zd Zd;simp only[a_,bN,dG,bj,dv,u,bK]at a7 cy aW cv;obtain⟨be,_⟩|⟨t1,X,aN,rfl,av⟩:=cm
      .simp[au]at be
      simp only[dg]at aN;subst aN;simp only[cy,dx,go_sem];refine GK.Vf 109 111 (A bs) _ _ (by simp[ai];exact cv) C Zs da (by simp[ai];exact av) Zd (YE _ _) λb cd=>(ad br) ?_;have dr:D.pa b [S j[z],I c_,S dd,.sl 3<|J.ab dc,I l]=Bi.d ⟨b,j[z],a'[z],l⟩:=by rw[Bi.d,cI];rfl
      have du:∀y∈bs,y.id≠b:=λy M e=>cd.2.1 111 _ (by simp[ai];exact av) y.d (by rw[eR,kM];exact gf _<|aP.2 ⟨y,M,C⟩) (e▸.here _);refine jW (by simp only[aw,bx];rw[gJ _ Zo]) bi ⟨C,C,C,by simp[aw,G,aK,aV,a6,a4,a5,bY,bW,ct,cu,bn,ae.sl,aa.sl],bs++[⟨b,j[z],a'[z],l⟩],.ms 111 X<|A<|au Bi.d<|bs++[⟨b,j[z],a'[z],l⟩],by simp[ai,aT,a7],ak.aA (by simp[ai,aT,aW]),by simp[ai,aT,fg];done,aj ⟨111,X,Zs,C,?_⟩,?_,?_,?_,λe=>by simp at e⟩
      .simp only[bN,eH,Ob.mk.injEq,rj,i'];rw[dr];exact afC _ _ _
      .rw[bX,aZ,aax bi (by rw[<-cz];exact bi)];simp[bz]
      .rw[bX,iQ];refine⟨cA,Zs,λam aR y M e=>?_⟩;obtain⟨eu,ef,rfl⟩:=aP.1 aR;simp at M;exact du eu ef<|e.trans M
      intro am aR;obtain aR|aR:=ca.1 aR
      .exact b9 am aR
      simp at aR;subst aR;exact⟨cd.2.2,K0 ak λbl bk=>cd.2.1 141 bl (by simp[ai,aW,bk])⟩
    obtain rfl:z=A j:=Zo;have dF:A (dA g P j l)=A j:=DH;rw[dj Zo]at aZ;have dw:A bs=A j:=by rw[<-dF,<-aZ,bE]
    refine(ad t)<|RZ fb (GK.aaD (f:=Bi.d) 111 75 13 _ bK Zd (by rfl) ck dq Bi.cl λc0 cj=>p3 (mu:=[]) (.bS [0,1,2,3,4,5,6,7,9,10,11] 12 (.fin [8,13,14,15,16,17,18,19,20]) 8<|.fin [12,13,14,15,16,17,18,19,20]) [] [123,128] ?_);simp only[G,aK,aV,bn,aT,De,Df,u,dx,go_sem];refine⟨?_,?_⟩
    all_goals
     refine hW (afA i bs cj Zo) (.c d'<|.c (by obtain⟨rfl,_⟩|⟨_,rfl⟩:=cj;exact bc _;exact ff λy _=>Bi.cl y) .n) ?_;simp only[aT,u,dx,go_sem];refine aj<|aj (vD (k:=10) (v:=ah) (n:=P) (tk:=an) (tn:=ap) (aQ:=ao) (ns:=j) (l:=l) (y0:=I 0) (y1:=S nE) (y2:=bp) (xk:=bp) (jy:=c0) (nL:=.sc<|.pointer Q) (al:=[]) (ts:=[R]) (SS:=[38]) Zs Zs (bf ah P _ j R (by rw[<-bw];exact aD _) bs Zo aZ) (λ_ _ o=>o) (aj C) (by simp[ai,dx];done) (aG ⟨C,C⟩) Zs λc4 nd el bU cY cr dZ dV bR dX bv=>?_);have a7:=bv 19 Zd Zd Zd Zd Zs;have aW:=bv 141 Zd Zd Zd Zd Zs;simp only[a_,dG,bj,dv,aT,dg,bT,u]at a7 aW;have⟨U,V,F,b'⟩:=J.ex nd.ty;simp only[b',dX,dx,go_sem];refine GK.n4<|GK.uf [38] 75 12 _ cr (.sl 1<|au Nd.d [nd]) my Zd (by rfl) ((bR.aA yu).fz Zd (ha _) (by simp[au];exact Nd.cl nd)) (ff λy _=>Nd.cl y)<|GK.n4<|GK.uf [] 75 13 _ c0 (.sl 1<|au Bi.d bs) my Zs (by rfl) (by obtain⟨rfl,rfl⟩|⟨_,rfl⟩:=cj;exact .nil 1;exact .cl _ (ff λy _=>Bi.cl y)) (ff λy _=>Bi.cl y) ?_;refine GK.ptr 13 75 (ax 75) _ (Ye bn) my C C Zs (by simp only[De,Df,bM];exact⟨bc _,bc _,bc _,bc _,bc _,J.db _,mE _,L.db _,bc _,bc _,J.db _,bc _,ff λy _=>Nd.cl y,ff λy _=>Bi.cl y,bc _,Zs⟩) λid bI=>?_;have dy:D.pa id [I 10,I ah,S P,I an,S ap,.sl 3<|J.ab ao,.sl 1 (j.map λs=>[S s]),.sl 8<|L.ab [R],I U,S V,.sl 3<|J.ab F,I l,.sl 1<|au Nd.d [nd],.sl 1<|au Bi.d bs,.sc<|.pointer Q]=Nd.d (.mk id (.mk 10 ah P (.mk an ap ao) j [R]) (.mk U V F) l [nd] bs Q):=by simp[Nd.d,L.ds,J.ds,bG,Nd.ja,bd]
     simp only[a7,G,aT,dg,De,Df,dx,go_sem];have c':cE aB 149=E (156,1,8):=Zk;have eE:=co.len;refine GK.cM (pR (S:=[141]) (f:=Nd.d) (l:=Z) (a:=.mk id (.mk 10 ah P (.mk an ap ao) j [R]) (.mk U V F) l [nd] bs Q) c' (by simp only[aw,bx,bT,bj];exact ak.aA (by simp[ai,aT,aW])) (by simp[aw,dS,ai,dy]) (Nd.one _) (Yo K.le) Zd λc1 eh et cm a8=>?_);have cw:=a8 19 Zd Zd;simp only[a_,dG,bj,dv,aT,dg,dt,bT,a7]at cw;obtain⟨be,_⟩|⟨t1,X,aN,rfl,av⟩:=cm
     .simp[au]at be
     simp only[dg]at aN;subst aN;have⟨cD,cN,bH⟩:=dZ;have dI:¬fw id (.sl 1<|au Nd.d [nd]):=bI.2.1 75 _ my _ Zs;have dH:¬fw id (.sl 1<|au Bi.d bs):=bI.2.1 75 _ my _ Zs;have dJ:∀am∈Z,¬fw id am.d:=K0 ak λbl bk=>bI.2.1 141 bl (by simp[ai,aT,aW,bk]);have ce r (p:r∈nd.ids):s.N<=r/\(∀am∈Z,¬fw r am.d)/\r∉bs.map Bi.id:=by
      have⟨en,eo,es⟩:=dV r<|cD.2 r p;refine⟨en,K0 ak λbl bk=>eo 141 bl Zd (by simp[ai,aT,bk]),λbf=>?_⟩;obtain⟨y,M,rfl⟩:=aP.1 bf;exact es<|Ca (gq _ M) C
     have b7:=co.Qh (nd:=.mk id (.mk 10 ah P (.mk an ap ao) j [R]) (.mk U V F) l [nd] bs Q) ch (by
      rw[I7,lg,iQ];refine⟨λa0=>?_,cA,cD.1,λr p q cJ e=>(ce q cJ).2.2 (e▸p)⟩;obtain a0|a0:=ca.1 a0
      .have⟨y,M,e⟩:=aP.1 a0;exact dH<|Ca M e.symm
      .exact dI<|UR (y:=nd) Zs<|nd.xE _ a0) (λr p=>by
      rw[I7]at p;obtain rfl|p:=cF.1 p
      .exact bI.2.2
      .obtain p|p:=ca.1 p
       .obtain⟨y,M,rfl⟩:=aP.1 p;exact(b9 y M).1
       exact(ce r p).1) (λr p=>by
      rw[I7]at p;obtain rfl|p:=cF.1 p
      .exact dJ
      obtain p|p:=ca.1 p
      .obtain⟨y,M,rfl⟩:=aP.1 p;exact(b9 y M).2
      exact(ce r p).2.1)
     have cQ:bt g m (.mk 9 v n (.mk tk tn aQ) ns (k0::eA)) (i.map Bi.e) l=pC (eA.map λar=>bt g m ar (i.map Bi.e) l):=by rw[vZ,cV,mq,cb,bA,ae.nm,aM C]
     have cU:bt g m eA[q] (i.map Bi.e) l=bt g m R ((i++bs).map Bi.e) l:=by rw[bw,zW,<-aZ,bX]
     have cH H ax xk (dT:bt g m (.mk 9 v n (.mk tk tn aQ) ns (k0::eA)) (i.map Bi.e) l=Q) (G:H 19=E ⟨gn,213,15,dx 9 v n tk tn aQ ns (k0::eA) (I ay) (S aH) y2 l xk (.sc<|.slice Q 0 0)<|.sc<|.pointer Q,Q⟩) (aK:aL [38,141] H 156 1 (au Nd.d<|Z++[.mk id (.mk 10 ah P (.mk an ap ao) j [R]) (.mk U V F) l [nd] bs Q]) xk):c2<|{s with H:=H,n:=ax}.put bm<|B af:=b3 af ay aH az _ _ _ _ y2 ⟨b7.1,b7.2.1,Yf dT,λo=>by cases o⟩ G cX aK;simp only[cw,dx,go_sem];refine fB ?_;cases el
     .refine(ZN)<|cH _ _ (.ms 141 X _) ?_ o3<|aj ⟨141,X,Zs,C,Yu av⟩;rw[cQ];refine LJ<|aP.2 ⟨eA[q],aD _,?_⟩;rw[cU];rcases t:bt g m R ((i++bs).map Bi.e) l with _|_
      .rfl
      rw[t]at cN;cases cN
     have bH:=bH C;have bP:bt g m eA[q] (i.map Bi.e) l=E (.mk U V F):=by rw[cU,bH.ty,b']
     have cP:=b7.2.2 (by simp only[jm,bw];exact X4 aZ bH b');refine(ad bW)<|oC (λt=>?_) λt=>?_
     .have cc:0<q:=by simpa using t
      have ee:=ed cc;subst ee;refine(ad<|JJ t G)<|nV (sameType (.mk U V F) (.mk ay aH az) (eb _ (aD a9) _ bP).2) ?_;by_cases bO:J.mk U V F=.mk ay aH az
      .simp only[bO,bY,G,go_sem];refine jW (by simp only[aw,bx];rw[gJ _<|Yo K.le]) a9 ⟨C,C,C,by simp[aw,G,aK,aV,a6,a4,a5,ae.sl,aa.sl],Z++[.mk id (.mk 10 ah P (.mk an ap ao) j [R]) (.mk U V F) l [nd] bs Q],.ms 141 X _,U,V,F,.sl 3<|J.ab F,cP,by simp[ai,fg],aj C,λ_=>C,aj ⟨141,X,Zs,C,Yu av⟩,λo cT dQ=>?_⟩;by_cases ci:o=q
       .subst ci;exact bP
       rw[b8 o cT Zo,bO]
      refine(ad bO)<|cH _ _ (.ms 141 X _) ?_ o3<|aj ⟨141,X,Zs,C,Yu av⟩;rw[cQ];exact VN (aP.2 ⟨eA[q],aD _,bP⟩) (aP.2 ⟨eA[0],aD _,b8 0 di cc⟩) λe=>bO<|Yq e
     have cc:q=0:=by simp at t;omega
     simp only[t,bY,G,go_sem];refine jW (by simp only[aw,bx];rw[gJ _<|Yo K.le]) a9 ⟨C,C,C,by simp[aw,G,aK,aV,a6,a4,a5,ae.sl,aa.sl],Z++[.mk id (.mk 10 ah P (.mk an ap ao) j [R]) (.mk U V F) l [nd] bs Q],.ms 141 X _,U,V,F,.sl 3<|J.ab F,cP,by simp[ai,fg],aj C,λ_=>C,aj ⟨141,X,Zs,C,Yu av⟩,λo cT dQ=>?_⟩;by_cases ci:o=q
     .subst ci;exact bP
     omega
   obtain rfl:q=A eA:=Zo;refine(ad t)<|b3 W ay aH az Z _ _ xk y2 (jp.aak (Yq co) ?_) u cX<|ak.sub Zs;rw[vZ,cV,mq,cb,bA,ae.nm,aM C];refine VM (Yq K.ne) λy M=>?_;obtain⟨b,dn,rfl⟩:=aP.1 M;obtain⟨o,cS,rfl⟩:=ec dn;exact b8 o cS cS
  exact(ad bL)<|cG _ _ (aj ⟨_,bQ,bL⟩) (Yu u) bF
section
open Go.RowKit
attribute [local go_sem] Oper.semAt_some
attribute [go_sem] ahV ah1 ahW ahY ahZ ahX ah0 afn afo XD tu
def XE:Dp aB 379 1 λs=>s 0:=by
 refine⟨enters_of func379 Zk C,λM x y O len A b r us g t i hlen q e l h0=>callsIn_of_wp func379 C trivial ?_ C⟩;simp only[ntmps379,tw,dC,gR,Nat.reduceAdd,Nat.reduceSub,Ms,Mt,push_toArray,MD,aY,bg];have F:=(e 0 i h0).1
 gi_wp2
 gi_loopw [3] (λa wr=>∃k,g k wr/\((k=len/\a=.int .i64 (-1))\/∃m:Nat,m+1+k=len/\a=.int .i64 m)) λa _=>(intOf a+1).toNat
 case atStart=>
  exact IK
 case round=>
  obtain⟨k,d,p⟩:=hrel;obtain⟨G,o⟩:=e k _ d;obtain⟨rfl,rfl⟩|⟨m,J,rfl⟩:=p
  .gi_wp2
   go_end0
   exact⟨⟨_,C⟩,aG d⟩
  have I:wr.cell? ⟨b,r+m,Q⟩=E (us m 0):=by simpa using o m 0 Zo Zo
  obtain rfl:=q Zo;have f:=l k wr Zo d;rw[show len-1-k=m by omega]at f;obtain⟨D,P,w,z,L,j⟩:=f;have K:m<len:=Zo
  gi_wp2
  refine j.mono ?_;rintro B u(⟨rfl,J6⟩|⟨rfl,J7⟩)
  .gi_wp2
   exact Iu
  gi_wp2
  exact HK
def XF:Dp aB 263 1 λs=>s 0:=by
 refine⟨enters_of func263 Zk C,λM x y O len A b r us g t i hlen q e l h0=>callsIn_of_wp func263 C trivial ?_ C⟩;simp only[ntmps263,tw,dC,gR,Nat.reduceAdd,Nat.reduceSub,Ms,Mt,push_toArray,MD,aY,bg];have F:=(e 0 i h0).1
 gi_wp2
 gi_loopw [3] (λa wr=>∃k,g k wr/\((k=len/\a=.int .i64 (-1))\/∃m:Nat,m+1+k=len/\a=.int .i64 m)) λa _=>(intOf a+1).toNat
 case atStart=>
  exact IK
 case round=>
  obtain⟨k,d,p⟩:=hrel;obtain⟨G,o⟩:=e k _ d;obtain⟨rfl,rfl⟩|⟨m,J,rfl⟩:=p
  .gi_wp2
   go_end0
   exact⟨⟨_,C⟩,aG d⟩
  have I:wr.cell? ⟨b,r+m,Q⟩=E (us m 0):=by simpa using o m 0 Zo Zo
  obtain rfl:=q Zo;have f:=l k wr Zo d;rw[show len-1-k=m by omega]at f;obtain⟨D,P,w,z,L,j⟩:=f;have K:m<len:=Zo
  gi_wp2
  refine j.mono ?_;rintro B u(⟨rfl,J6⟩|⟨rfl,J7⟩)
  .gi_wp2
   exact Iu
  gi_wp2
  exact HK
def XH(a:bb):az 371 [.sl 1<|au Bi.d a]<|.fn 379 [] [.cp [.sl 1<|au Bi.d a]]:=PO
def XI(a:bb):az 189 [.sl 1<|au Bi.d a]<|.fn 263 [] [.cp [.sl 1<|au Bi.d a]]:=PO
def lM(a:View)(us:Nat->aN)(r:DL)(e:A r=1)(f:∀(b:Nat)(d:D),r[b]?=E d->Rd a d (us b)):Rd a (r.headD .any)<|us 0:=by
 obtain⟨d,rfl⟩:=kw.1 e;exact f 0 d C
def VE{r:DL}(b:am<A i9)(a:(au Bi.d i9)[A i9-1-am]?=E r):r=[i9.reverse[am]'(by simpa using b)|>.d]:=by
 rw[jx Zo]at a;simp only[eH]at a;rw[<-a,MM]
def Bi.vN(b:Bi):∃a f g h,b.d=.pa b.id [S b.e.n,a,f,g,h]:=by
 obtain⟨i,m,⟨j,l,o⟩,k⟩:=b;exact⟨_,_,_,_,C⟩
def iZ(l:dp)(r:J):J:=l.foldr mX r
def afy(sc:bb)(j:BA)(M:A sc<=1000000):az 354 [.sl 1<|au Bi.d sc,S j]<|bd<|du sc j:=by
 have p:=fg Bi.d sc;refine Sp.Gg [] [.cell 4 211] C C Zk Zt C Zs ?_;have l:=XH sc;refine(ZC) ?_;refine LB (aq:=au Bi.d sc) (el:=λD=>D 0) (eD:=λr=>r.headD .any) [] XE (λw us r b y=>lM w us r b y) C C (by rw[p];unfold aE;omega) (ha _) Zk Zk (λf m q=>m=ai (ai ma 4 Q) 4 (E ⟨0,211,1,[.sc<|.pointer Q],Q⟩)/\q=eP dY 4/\∀(a:Nat)(b:a<f)(s:a<A sc.reverse),sc.reverse[a].e.n≠j) ⟨C,C,λa b=>absurd b Zo⟩ ?_ ?_
 .rintro f m q r i u⟨rfl,rfl,k⟩;rw[p]at i u⊢;obtain rfl:=VE i u;obtain⟨F,G,I,K,t⟩:=Bi.vN<|sc.reverse[f]'(by simpa using i);refine(fQ t) ?_;refine fx (λb=>?_) λb=>?_
  .refine(ad b) ?_;have o:du sc j=E (sc.reverse[f]'(by simpa using i)):=by
    unfold du;rw[find?_eq_some_iff_getElem];refine⟨by simpa[ic]using b,f,by simpa using i,C,λa g=>?_⟩;have l:=k a g ch;simpa using l
   rw[o,<-t];exact .cl _<|Bi.cl _
  refine(ad b) ?_;intro a g s;by_cases B:a=f
  .subst B;simpa[ic]using b
  exact k a Zo s
 rintro m q⟨rfl,rfl,k⟩;refine(ZN) ?_;have o:du sc j=Q:=by
  unfold du;rw[CZ];intro P z;obtain⟨a,g,rfl⟩:=ec z;have l:=k a (by rw[p];simpa using g) g;simpa using l
 rw[o];exact .cl _<|bc _
def J1(a:bb)(r:J)(V:A a<=1000000):az 120 [.sl 1<|au Bi.d a,.ag r.ds]<|.ag (iZ (a.map λb=>b.e.t) r).ds:=by
 have o:=fg Bi.d a;obtain⟨i,k,j⟩:=r;refine Sp.Gg [3] [.cell 4 99] C C Zk Zt C Zs ?_;have:=XI a;refine(ZC) ?_;refine LB (aq:=au Bi.d a) (el:=λU=>U 0) (eD:=λr=>r.headD .any) [] XF (λF us r P R=>lM F us r P R) C C (by rw[o];unfold aE;omega) (ha _) Zk Zk (λg l D=>l 3=E ⟨0,99,3,((Y g a.reverse).foldl (λr b=>mX b.e.t r)<|.mk i k j).ds,Q⟩/\l 4=E ⟨0,99,3,[I 0,S nE,bp],Q⟩) ⟨C,C⟩ ?_ ?_
 .rintro g l D r q B⟨f,m⟩;rw[o]at q B⊢;obtain rfl:=VE q B;have s:g<A a.reverse:=by simpa using q
  have p:((Y (g+1) a.reverse).foldl (λr b=>mX b.e.t r)<|.mk i k j)=mX (a.reverse[g]'s).e.t ((Y g a.reverse).foldl (λr b=>mX b.e.t r)<|.mk i k j):=by
   rw[dm s,so];rfl
  rw[p];generalize (Y g a.reverse).foldl (λr b=>mX b.e.t r) (.mk i k j)=u at f⊢;generalize a.reverse[g]'s=b at*;obtain⟨X,ab,⟨G,M,K⟩,Z⟩:=b;obtain⟨w,z,y⟩:=u;simp only[Bi.d,J.ds,aY,bg]at f⊢;refine(ZN)<|dP [] [15] ?_;simp only[f,go_sem];refine mB (SF (.mk G M K)<|.mk w z y) ?_;simp only[f,m,go_sem]
 rintro l D⟨f,m⟩;rw[o,dj Zs,foldl_reverse]at f;have p:(a.foldr (λb r=>mX b.e.t r)<|.mk i k j)=iZ (a.map λb=>b.e.t) (.mk i k j):=by simp[iZ,foldr_map]
 rw[p]at f;generalize iZ (a.map λb=>b.e.t) (.mk i k j)=u at f⊢;obtain⟨w,z,y⟩:=u;simp only[J.ds]at f⊢;refine(ad<|JJ f m) ?_;exact .cl _<|Cl.bC<|J.cl<|.mk w z y
end
def xp(b:bb)(a:BA):cZ (b.map Bi.e) a=(du b a).map Bi.e:=by
 unfold cZ du;rw[<-uK,find?_map];rfl
abbrev uO:=bq->Int->Prop
def cU(V:aF)(ds:aO)(k:Int)(n:BA)(t:J)(ns:aX)(ks:bu)(e:bq)(l:Int)(i:Nat):bq:=if eB k i then e++gw V ds k n t ns ks e l else e
def Ue(V:aF)(ds:aO)(k:Int)(n:BA)(t:J)(ns:aX)(ks:bu)(a:List uO):uO:=λe l=>
 l<=8/\(k=1->∀x,cZ e n=E x->x.l=l)/\∀(i:Nat)(h:i<A a),a[i] (cU V ds k n t ns ks e l i)<|ct k l
mutual
def gy(V:List ae)(ds:List aa):L->uO
 |.mk k _ n t ns ks=>Ue V ds k n t ns ks (F0 V ds ks)
def F0(V:List ae)(ds:List aa):List L->List uO
 |[]=>[]
 |c::cs=>gy V ds c::F0 V ds cs
end
def Uf(a:aF)(b:aO):∀d:bu,F0 a b d=d.map (gy a b)
 |[]=>rfl
 |c::e=>by rw[F0,Uf a b e];rfl
def xr{V:aF}{ds:aO}{k v:Int}{n:BA}{t:J}{ns:aX}{ks:bu}{e:bq}{l:Int}:gy V ds (.mk k v n t ns ks) e l↔
 l<=8/\(k=1->∀b,cZ e n=E b->b.l=l)/\∀(a:Nat)(d:a<A ks),gy V ds ks[a] (cU V ds k n t ns ks e l a)<|ct k l:=by
 rw[gy,Ue,Uf];simp
def FG{bs:bb}(a:bs.map Bi.e=gw a5 be a3 gs he hH h1 (i9.map Bi.e) g1):
 (if eB a3 am then i9++bs else i9).map Bi.e=cU a5 be a3 gs he hH h1 (i9.map Bi.e) g1 am:=by
 unfold cU;split<;>simp[a]
def Uh:∀(k:L){r:Nd}{f:bb}{d:Int},hE a5 be k r f d->(Nd.all oH r=W↔gy a5 be k (f.map Bi.e) d)
 |.mk i v m k s j,_,f,d,.mk (id:=id) (ty:=ty) (al:=al) (bs:=bs) (b:=u) F y z D B=>by
  have q (a:Nat) (p:a<A j) (x:a<A al):Nd.all oH al[a]=W↔gy a5 be j[a] (cU a5 be i m k s j (f.map Bi.e) d a) (ct i d):=by
   rw[<-FG z];exact Uh j[a] (B a p x)
  rw[Nd.all_eq,xr,cy,en];have w:oH (.mk id (.mk i v m k s j) ty d al bs u)=W↔d<=8/\(i=1->∀t,cZ (f.map Bi.e) m=E t->t.l=d):=by
   rw[oH,cy,ee];apply and_congr sj;rw[Nd.b,y,xp];by_cases o:i=1
   .rw[aM o];obtain _|b:=du f m
    .simp
    simp only[Nd.l,o,eE,eH,forall_eq',yc];exact decide_eq_true_iff
   simp[o]
  rw[w,Dl];refine and_congr sj<|and_congr sj ⟨λh a g=>(q a g Zo).1<|h _<|aD _,λh G C=>?_⟩;obtain⟨a,g,rfl⟩:=ec C;have g:a<A al:=g;exact(q a Zo g).2<|h a Zo
decreasing_by
 have:=fl<|aD p;simp;omega
mutual
def gI(x:ByteArray):L->Int
 |.mk k _ n _ ns ks=>if k=1 then(if n=x then 1 else 0)else iW k (oS x k n ns ks 0) 0 0 0
def oS(x:ByteArray)(k:Int)(n:ByteArray)(ns:List ByteArray):List L->Nat->List Int
 |[],_=>[]
 |c::cs,i=>(if x∈cW k n ns i then 0 else gI x c)::oS x k n ns cs (i+1)
end
def Md(g:BA)(b:Int)(e:BA)(f:aX):∀(d:bu)(a:Nat),A (oS g b e f d a)=A d
 |[],_=>by simp[oS]
 |c::h,a=>by simp[oS,Md g b e f h]
def Mc(d:BA)(e:Int)(g:BA)(h:aX):∀(f:bu)(b a:Nat)(j:a<A f)(k:a<A (oS d e g h f b)),(oS d e g h f b)[a]=if d∈cW e g h (b+a)then 0 else gI d f[a]
 |c::i,b,0,_,_=>by simp[oS]
 |c::i,b,a+1,j,k=>by
  simp only[oS,jm];rw[Mc d e g h i (b+1) a<|Yq j,show b+1+a=b+(a+1)by omega]
def Jx(a:Int):∀(m i:Nat),iW a (fu m 0) i 0 0=0
 |0,i=>by simp[iW]
 |m+1,i=>by rw[As,iW];split<;>simpa using Jx a m<|i+1
def ag7{v:Int}{a:Int}:
 bt a5 be (.mk 7 v gs he hH [n8,z4]) it a=(bt a5 be n8 it a).bind λd=>(jj d).bind λb=>bt a5 be z4 (it++[⟨gs,b.1,a+b.2⟩]) a:=by
 simp[bt,kN,oe]
def a7(sc:bb):ax:=sc.map Bi.id
def adp(a:du i9 gs=Q):gs∉i9.map λb=>b.e.n:=by
 unfold du at a;rw[CZ]at a;intro g;obtain⟨b,f,d⟩:=aP.1 g;exact a b (Yq f)<|Yq d
def CN(ds:aO)(sc:bb)(n:BA):J:=((du sc n).map λb=>b.e.t).getD<|vm ds n
def ahP{a:aO}(Z:A a<=8){v tk l:Int}{n tn:BA}{aQ:dp}{ns:aX}{ks:bu}{j:bb}(G:du j n=Q->0<=eV a n)(K:A j<=1000000)
 {gn:Nat} (u:bv.H 19=E ⟨gn,213,15,dx 1 v n tk tn aQ ns ks (I 0) (S nE) (.sc<|.slice Q 0 0) l (.sc<|.slice Q 0 0) (.sc<|.slice Q 0 0)<|.sc<|.pointer Q,Q⟩)
 (m:∀f i g H M,CN a j n=.mk f i g->H 19=E ⟨gn,213,15,dx 1 v n tk tn aQ ns ks (I f) (S i) (.sl 3<|J.ab g) l (.sc<|.slice Q 0 0) (.sc<|.slice Q 0 0)<|bd<|du j n,Q⟩->c2 ({bv with H:=H,n:=M}.put g7<|B W)):
 er aB bv 318 [.ag [ae.sl a5,aa.sl a],.rf 19 gn 0,.sl 1<|au Bi.d j] g7 c2:=by
 refine sQ [] [.tmp 6] C C Zk Zt C Zs ?_;simp only[u,dx,go_sem];have:=afy j n K;refine(ZC) ?_;cases k:du j n with
 |some b=>
  obtain⟨f,i,g,w⟩:∃f i g,b.e.t=.mk f i g:=match b.e.t with|.mk q b r=>⟨q,b,r,C⟩
  have y:bd (E b)=.pa b.id [S b.e.n,I f,S i,.sl 3<|J.ab g,I b.e.l]:=by
   obtain⟨ah,ak,al,l⟩:=b;simp only at w;subst w;rfl
  simp only[k,y]at m;simp only[u,y,dx,go_sem];exact m f i g _ _ (by simp[CN,k,w]) o3
 |none=>
  obtain⟨p,D,o,ad⟩:=uj<|G k;have o:eV a n=(p:Int):=o;obtain⟨Y,⟨f,i,g⟩,⟨P,X,U,⟨am,ao,an⟩,V,R⟩,z⟩:∃q b r,a[p]=.mk q b r:=by cases a[p];exact⟨_,_,_,C⟩
  have s:=aa.bV a p D;rw[z]at s;simp only[aa.ds,J.ds,L.ds,bg,aY]at s;simp only[k,bd]at m;have F:=Bd a5 a n jC;rw[o]at F;simp only[u,bd,dx,go_sem];exact dP [] [42]<|(bQ<|JJ s Int.natCast_nonneg)<|m f i g _ _ (by simp[CN,k,vm,o,D,z,aa.ty]) o3
def Ha{b:dp}(g:ii (.mk a3 gs b)=W)(o:gs.size<=12)(m:A b<=12)(f:∀a∈b,J.w a):J.w<|.mk a3 gs b:=by
 refine⟨?_,?_⟩
 .rw[fY,J.bh,J.i1,g,kf,en];exact λa h=>(f a h).1
 rw[J.ok];unfold aE;have k:∀d:dp,(∀a∈d,J.w a)->J.gZ d:=λd e=>by
  induction d with
  |nil=>trivial
  |cons a d j=>exact⟨(e a Zs).2,j λl i=>e l<|Yr i⟩
 exact⟨Zo,Zo,k b f⟩
def F8:nE.size=0:=rfl
def Mo:J.w lf:=Ha (by simp[ii]) (by rw[F8];omega) Zs Zs
def aik{b:J}(a:J.w he)(d:J.w b):J.w<|mX he b:=Ha (by simp[ii]) (by rw[F8];omega) Zs (by simp[a,d])
def W0(a:J.w he):J.w<|mW he:=Ha (by simp[ii]) (by rw[F8];omega) Zs<|Yr a
def G_{f:dp}(g:J.w<|.mk a3 gs f):∀a∈f,J.w a:=by
 have⟨b,d⟩:=g;rw[fY,J.bh,J.i1,cy,en]at b;rw[J.ok]at d;exact λa e=>⟨b.2 a e,J.eJ d.2.2 a e⟩
def aii{a:aF}(k:q0 a)(j:0<=hI a gs):J.w<|mh<|oB a gs:=by
 obtain⟨f,e,m,l,i,-,-,-,-⟩:=rG j;have d:=(k.2 f e).1;have h:oB a gs=ae.nm a[f]:=by simp[oB,i,e]
 rw[h];simp only[wV,cy]at d;have b:=d.1.1.1;refine Ha (by simp[ii,b.1,b.2]) ?_ Zs Zs;have g:=b.1;simp only[kt,jX,cy,ee]at g;exact g.1.1.1.1.2
def ail{a:Ev}(d:∀a∈it,J.w a.t)(b:cZ it gs=E a):J.w a.t:=d a (by have e:=x7 b;simpa using e)
theorem G'{i:Int}(d:J.w he)(a:jj he=E (m9,i)):J.w m9:=by
 have⟨f,g,b⟩:=he;rw[jj]at a;split at a
 .obtain _|⟨e,b⟩:=b
  .simp at a
  simp at a;rw[<-a.1];exact G_ d e Zs
 exact Zg
def xR(f:gT a5 be):∀d∈dA a5 gs hH a3,J.w d.t:=λd a=>by
 simp only[dA,aP]at a;obtain⟨⟨g,b⟩,e,rfl⟩:=a;exact f.vk gs b (of_mem_zip e).2
def aij(e:gT a5 be)(a:BA):J.w<|vm be a:=by
 unfold vm;rcases b:be[(eV be a).toNat]? with _|d
 .exact Mo
 exact e.Bb d<|fE b
theorem F3{e:g2->Option ld}:∀{h:List g2}{i:List ld},h.mapM e=E i->∀j∈i,∃x∈h,e x=E j
 |[],i,d,j,g=>cq
 |x::h,i,d,j,g=>by
  rw[om]at d;rcases f:e x with _|a
  .rw[f]at d;cases d
  rcases k:h.mapM e with _|b
  .rw[f,k]at d;cases d
  rw[f,k]at d;cases d;obtain rfl|g:=cF.1 g
  .exact⟨x,Zs,f⟩
  have⟨o,m,l⟩:=F3 k j g;exact⟨o,Yr m,l⟩
theorem uC(r:gT a5 be):∀(s:L){M:aX}{f:bq}{j:Int}{ty:J},TC a5 be s M->(∀x∈f,J.w x.t)->bt a5 be s f j=E ty->J.w ty
 |.mk X v K Y ab i,M,f,j,ty,q,h,a=>by
  have g e (u:e∈i) (f:bq) (j:Int) (ty:J) (R:(∀x∈f,J.w x.t)) (S:bt a5 be e f j=E ty):J.w ty:=by
   obtain⟨I,F,rfl⟩:=ec u;exact uC r i[I] (q.dh I F) R S
  have⟨f1,f2,f3,f4,f5,f6⟩:=q.form;have C (x:Ev) (G:J.w x.t) m (l:m∈f++[x]):J.w m.t:=Zg;obtain rfl|rfl|rfl|rfl|rfl|rfl|rfl|rfl|rfl|rfl|rfl|⟨q1,q2,q3,q4,q5,q6,q7,q8,q9,xG,xH⟩:=rW X
  .simp[bt,kN]at a;rcases y:cZ f K with _|x
   .rw[y]at a;simp at a;subst a;exact aij r K
   rw[y]at a;simp at a;subst a;exact ail h y
  .simp[bt,kN]at a;subst a;exact Mo
  .rw[ti Zs]at a;have⟨z,o,b⟩:=kU.1 a;simp[gG]at b;rw[<-b.2];exact Mo
  .simp[bY,dw]at f1;obtain⟨e,rfl⟩:=kw.1 (show A i=1 by omega);simp[bt,kN,oe]at a;obtain⟨p,k,rfl⟩:=a;have D:=q.ok;rw[L.ok]at D;have a:J.w Y:=⟨by simp[lB,h7]at f3;exact f3.1,D.2.1⟩;exact aik a<|g e Zs _ _ _ (C _ a) k
  .rw[ti Zs]at a;have⟨z,o,b⟩:=kU.1 a;simp[gG]at b;split at b
   .rename_i O p;have⟨e,u,P⟩:=F3 o O Zs;unfold nU at b;split at b
    .split at b
     .cases b;exact G_ (g e u _ _ _ h P) _ Zs
     cases b
    cases b
   cases b
  .simp[bY,dw]at f1;obtain⟨e,rfl⟩:=kw.1 (show A i=1 by omega);simp[bt,kN,oe]at a;obtain⟨p,k,rfl⟩:=a;exact W0<|g e Zs _ _ _ h k
  .simp[bY,dw]at f1;obtain⟨e,d,rfl⟩:=rX (show A i=2 by omega);rw[qX]at a;have⟨p,k,a⟩:=kU.1 a;have⟨⟨x,aa⟩,G,a⟩:=kU.1 a;exact g d Zs _ _ _ (C _<|G' (g e Zs _ _ _ h k) G) a
  .rw[ti Zs]at a;have⟨z,o,b⟩:=kU.1 a;simp[gG]at b;rw[<-b.2];have B:=(lN q.fit).1;simp[fo]at B;exact aii r.vd B
  .simp[bY,dw]at f1;obtain _|⟨e,j⟩:=i
   .simp at f1
   obtain _|⟨d,j⟩:=j
   .simp at f1
   rw[vZ]at a;have⟨p,k,a⟩:=kU.1 a;split at a
   .rw[b4,pC]at a;split at a
    .exact g d Zs _ _ _ h a
    cases a
   cases a
  .simp[bY,dw]at f1;obtain⟨e,rfl⟩:=kw.1 (show A i=1 by omega);simp[bt,kN,oe]at a;refine g e Zs _ _ _ (λm l=>?_) a;obtain l|l:=ca.1 l
   .exact h m l
   exact xR r m l
  .rw[ti Zs]at a;have⟨z,o,b⟩:=kU.1 a;simp[gG]at b;split at b
   .rename_i e x m;have⟨Z,U,V⟩:=F3 o x Zs;split at b
    .cases b;exact g Z U _ _ _ h V
    cases b
   cases b
  exact HO
termination_by s=>s
decreasing_by
 have B:=fl<|aD F;simp;omega
abbrev wA:D:=bp
def sZ{V:aF}{ds:aO}{k v tk l g:Int}{n tn h:BA}{aQ a:dp}{ns:aX}{ks:bu}{sc:bb}{ok:Bool}{al:eg}{bs:bb}{f:Option Bi}{i:St}{gn:Nat}{o u r:D}{SS:ax}
 (Y:rk V ds (.mk k v n (.mk tk tn aQ) ns ks) sc l i.N ok (.mk g h a) al bs f) (X:i.env 10=.rf 19 gn 0)
 (ae:i.H 19=E ⟨gn,213,15,dx k v n tk tn aQ ns ks (I g) (S h) o l u r<|bd f,Q⟩) (am:(o=wA/\a=[])\/o=.sl 3 (J.ab a))
 (p:aL SS i.H 156 1 (au Nd.d al) u) (K:19∉SS) (ak:(r=wA/\bs=[])\/r=.sl 1 (au Bi.d bs))
 (R:∀A t,yi V ds (.mk k v n (.mk tk tn aQ) ns ks) sc l i.N A ok->c2 {i with env:=aw i.env 10 A.d,H:=t}):GK c2 i:=by
 refine GK.n4<|GK.uf SS 19 12 _ u (.sl 1<|au Nd.d al) ae K C (mQ (S:=SS) (e:=156) (p.aA λav ah=>by simp[b5,ah]) λj _=>Nd.cl j) (ff λj _=>Nd.cl j) (GK.n4<|GK.uf [] 19 13 ⟨gn,213,15,dx k v n tk tn aQ ns ks (I g) (S h) o l (.sl 1<|au Nd.d al) r<|bd f,Q⟩ r (.sl 1<|au Bi.d bs) o3 Zs C ?_ (ff λj _=>Bi.cl j) ?_)
 .obtain⟨rfl,rfl⟩|rfl:=ak
  .exact .nil 1
  exact .cl _ (ff λj _=>Bi.cl j)
 refine GK.n4<|GK.uf [] 19 10 ⟨gn,213,15,dx k v n tk tn aQ ns ks (I g) (S h) o l (.sl 1<|au Nd.d al) (.sl 1<|au Bi.d bs)<|bd f,Q⟩ o (.sl 3<|J.ab a) o3 Zs C ?_ (J.db a) ?_
 .obtain⟨rfl,rfl⟩|rfl:=am
  .exact .nil 3
  exact .cl _<|J.db a
 refine GK.ptr 10 19 gn ⟨gn,213,15,dx k v n tk tn aQ ns ks (I g) (S h) (.sl 3<|J.ab a) l (.sl 1<|au Nd.d al) (.sl 1<|au Bi.d bs)<|bd f,Q⟩ X o3 C C Zs ?_ λb ad=>?_
 .have z:=Nd.cl<|.mk 0 (.mk k v n (.mk tk tn aQ) ns ks) (.mk g h a) l al bs f;rw[Nd.d]at z;cases z with|pa _ _ F=>
  intro d s;have⟨ao,Z⟩:=jg.1 s;apply F ao d;rw[<-Z];simp only[L.ds,J.ds,Nd.ja,bg,aY,dx];rfl
 have⟨G,M,O,P⟩:=Y;obtain⟨-,ap,aq⟩:=ad;have w:∀d∈[(.sl 1 (au Nd.d al):D),.sl 1<|au Bi.d bs],¬fw b d:=λd s=>ap 19 ⟨gn,213,15,dx k v n tk tn aQ ns ks (I g) (S h) (.sl 3<|J.ab a) l (.sl 1<|au Nd.d al) (.sl 1<|au Bi.d bs)<|bd f,Q⟩ o3 d (by
  simp only[dx,cF,dt,gD]at s⊢;obtain rfl|rfl:=s<;>simp)
 have U:b∉jb al bs:=λq=>by
  obtain q|q:=ca.1 q
  .have⟨x,p,e⟩:=aP.1 q;exact w (.sl 1<|au Bi.d bs) Zs<|Ca p e.symm
  have⟨ar,aa,m⟩:=eL.1 q;obtain⟨x,p,rfl⟩:=aP.1 aa;exact w (.sl 1<|au Nd.d al) Zs<|UR p<|x.xE b m
 have y:(Nd.mk b (.mk k v n (.mk tk tn aQ) ns ks) (.mk g h a) l al bs f).ids=b::jb al bs:=by rw[Nd.mL];rfl
 have B:=λt=>R (.mk b (.mk k v n (.mk tk tn aQ) ns ks) (.mk g h a) l al bs f) t ⟨⟨by rw[y,lg];exact⟨U,G⟩,λan m=>by
  rw[y]at m;obtain rfl|m:=cF.1 m
  .exact aq
  exact M an m⟩,O,λq=>P q b⟩
 simp only[Nd.d,L.ds,J.ds,Nd.ja,bg,aY]at B;exact B _
def aao{v d:Int}{a:BA}{b:bu}(f:b=[])(g:CN be i9 a=m9):rk a5 be (.mk 1 v a he hH b) i9 d am W m9 [] []<|du i9 a:=by
 subst f;have e:bt a5 be (.mk 1 v a he hH []) (i9.map Bi.e) d=E m9:=by
  rw[<-g];simp only[bt,kN,bx,xp,CN,Hp];rfl
 exact P7
def aan{v b:Int}{a:bu}(d:a=[]):rk a5 be (.mk 2 v gs he hH a) i9 b am W lf [] [] Q:=by
 subst d;have e:bt a5 be (.mk 2 v gs he hH []) (i9.map Bi.e) b=E lf:=by simp[bt,kN]
 exact P7
def aal{v l:Int}(m:yi a5 be n8 i9 (l+1) a0 m5 z9)(j:∀a,a0<=a->am<=a)(o:m5.ty=m9):rk a5 be (.mk 6 v gs he hH [n8]) i9 l am z9 (mW m9) [m5] [] Q:=by
 have⟨h,k,b⟩:=m;have d:bt a5 be (.mk 6 v gs he hH [n8]) (i9.map Bi.e) l=(bt a5 be n8 (i9.map Bi.e)<|l+1).map mW:=DK;refine⟨by rw[zi];exact h.1,λa b=>by rw[zi]at b;exact j a<|h.2 a b,by rw[d,k];simp,λi id=>.mk (by rw[d,(b i).ty,o];rfl) Zs (by simp[gw]) C λa f g=>?_⟩
 match a,f,g with
 |0,f,g=>exact b i
def aam{v a:Int}{h:BA}{f s:J}{sc:bb}{b:Nat}{j:Nd}(w:yi a5 be n8 (sc++[⟨b,h,f,a⟩]) a a0 j z9)(t:am<=b)
 (r:∀g,a0<=g->am<=g/\¬fw g (.sl 1<|au Bi.d<|sc++[⟨b,h,f,a⟩])) (y:j.ty=s):rk a5 be (.mk 4 v h f hH [n8]) sc a am z9 (mX f s) [j] [⟨b,h,f,a⟩] Q:=by
 have⟨l,u,i⟩:=w;have m:bt a5 be (.mk 4 v h f hH [n8]) (sc.map Bi.e) a=(bt a5 be n8 ((sc++[(⟨b,h,f,a⟩:Bi)]).map Bi.e) a).map (mX f):=DK;have q:jb [j] [⟨b,h,f,a⟩]=b::j.ids:=rp;refine⟨?_,λg i=>?_,by rw[m,u];simp,λk id=>.mk (by rw[m,(i k).ty,y];rfl) Zs (by simp[gw]) C λg o p=>?_⟩
 .rw[q,lg];exact⟨λk=>(r b<|l.2 b k).2<|Ca (x:=⟨b,h,f,a⟩) Zs C,l.1⟩
 .rw[q]at i;obtain rfl|i:=cF.1 i
  .exact t
  exact(r g<|l.2 g i).1
 match g,o,p with
 |0,o,p=>exact i k
def UB(a bs:bb):(a++bs).map (λb=>b.e.n)=a.map (λb=>b.e.n)++bs.map λb=>b.e.n:=bX
def node{V:aF}{ds:aO}(hp:gT V ds):∀(y:L)(sc:bb)(l:Int),TC V ds y (sc.map λb=>b.e.n)->(∀b∈sc,J.w b.e.t)->0<=l->l+y.num<=1000->A sc+3*y.num<=1000000->L.kd y≠10->tD V ds y sc l
 |.mk k v n (.mk tk tn aQ) ns ks,sc,l,kZ,ap,z,bp,bu,a4=>by
  obtain⟨f1,f2,f3,f4,f5,f6⟩:=kZ.form;have aK:∀c∈ks,c.num+1<=L.num (.mk k v n (.mk tk tn aQ) ns ks):=λc hc=>by have a:=L.jw hc;rw[L.num];omega
  have aI:∀(i:Nat)(h:i<A ks),¬(k=9/\0<i)->L.kd ks[i]≠10:=λi h q=>by
   simp only[np,ee]at f6;have a:=f6 i h;by_cases c:L.kd ks[i]=10
   .rw[b_ c]at a;simp at a;exact absurd a q
   exact c
  have ih:∀(i:Nat)(h:i<A ks)(bs:bb)(D:Int),bs.map (λb=>b.e.n)=cW k n ns i->(∀b∈bs,J.w b.e.t)->A bs<=3->l<=D->D<=l+1->¬(k=9/\0<i)->tD V ds ks[i] (sc++bs) D:=λi h bs D an M am bn bo a7=>by
   have G:=aK _<|aD h;refine node hp ks[i] (sc++bs) D ?_ (λb hb=>?_) Zo Zo ch<|aI i h a7
   .rw[UB,an];exact kZ.dh i h
   obtain hb|hb:=ca.1 hb
   .exact ap b hb
   exact M b hb
  have a_:∀(i:Nat)(h:i<A ks)(ah:Int)(o:BA)(Z:J)(R:aX)(c:L)(U:ks[i]=.mk 10 ah o Z R [c])(bs:bb),bs.map (λb=>b.e.n)=R->(∀b∈bs,J.w b.e.t)->A bs<=3->tD V ds c (sc++bs) l:=λi h ah o Z R c U bs an M am=>by
   have G:=aK _<|aD h;have ak:=kZ.dh i h;rw[U]at G ak;have bq:=L.jw (l:=[c]) (c:=c) Zs;rw[L.num]at G;have a1:=ak.dh 0 Zs;have a3:k=9:=by
    by_cases q:k=9/\0<i
    .exact q.1
    have a:=aI i h q;rw[U]at a;exact absurd C a
   subst a3;refine node hp c (sc++bs) l ?_ (λb hb=>?_) z Zo ch ?_
   .rw[UB,an];have a:=a1;simpa[cW]using a
   .obtain hb|hb:=ca.1 hb
    .exact ap b hb
    exact M b hb
   have a:=ak.form.2.2.2.2.2;simp only[np,ee]at a;have a:=a 0 Zs;simpa using a
  have X:∀c∈ks,(∀i,cW k n ns i=[])->k≠9->tD V ds c sc l:=λc hc hb h9=>PX;have ze:∀K∈sc.map Bi.e,J.w K.t:=λK g=>by obtain⟨b,hb,rfl⟩:=aP.1 g;exact ap b hb
  have B:∀c∈ks,∀ty,bt V ds c (sc.map Bi.e) l=E ty->J.w ty:=λc hc ty h=>Nt;have br:Cl<|.sl 1<|au Bi.d sc:=ff λK _=>Bi.cl K;refine kW.ey [19,47,1000048,1000049,1000101] [.tmp 8,.tmp 9] C C Zk Zt C Zs λbh=>?_;simp only[qV,go_sem];obtain rfl|rfl|rfl|rfl|rfl|rfl|rfl|rfl|rfl|rfl|rfl|⟨q1,q2,q3,q4,q5,q6,q7,q8,q9,xG,xH⟩:=rW k
  case inr.inr.inr.inr.inr.inr.inr.inr.inr.inl=>exact absurd C a4
  .refine(ZN) ?_;refine aj<|aj (ahP (v:=v) (tk:=tk) (l:=l) (n:=n) (tn:=tn) (aQ:=aQ) (ns:=ns) (ks:=ks) (gn:=0) hp.len (λa5=>kZ.free n (by rw[fv];exact aG ⟨C,C,adp a5⟩)) Zo tK λp s r F o a9 f=>?_);refine(ZN) ?_;exact sZ (V:=V) (ds:=ds) (sc:=sc) (k:=1) (v:=v) (tk:=tk) (l:=l) (n:=n) (tn:=tn) (aQ:=aQ) (ns:=ns) (ks:=_) (gn:=0) (ok:=W) (aao (by simpa[bY,dw]using f1) a9) fR (f) (aj C) (SS:=[]) (al:=[]) (aG ⟨C,C⟩) Zs (aG ⟨C,C⟩) λnd u hr=>tI
  .refine(ZN)<|hW intType .n ?_;refine(ZN) ?_;exact sZ (V:=V) (ds:=ds) (sc:=sc) (k:=2) (v:=v) (tk:=tk) (l:=l) (n:=n) (tn:=tn) (aQ:=aQ) (ns:=ns) (ks:=_) (gn:=0) (ok:=W) (aan (by simpa[bY,dw]using f1)) fR (C) (aj C) (SS:=[]) (al:=[]) (aG ⟨C,C⟩) Zs (aG ⟨C,C⟩) λnd u hr=>tI
  .skip
   refine(ZN) ?_;refine aj<|aj (Gj (k:=3) (v:=v) (tk:=tk) (l:=l) (n:=n) (tn:=tn) (aQ:=aQ) (ns:=ns) (ks:=ks) (gn:=0) hp Zs z Zo kZ (λc hc=>X c hc (λi=>jq) Zs) B tK λok p s r al F o xk y2 j f m g=>?_);refine(ZN) ?_;exact sZ (V:=V) (ds:=ds) (sc:=sc) (k:=3) (v:=v) (tk:=tk) (l:=l) (n:=n) (tn:=tn) (aQ:=aQ) (ns:=ns) (ks:=ks) (gn:=0) j fR f m (SS:=[38]) g Zs (aG ⟨C,C⟩) λnd u hr=>tI
  .obtain⟨c,rfl⟩:=kw.1 (show A ks=1 by simp[bY,dw]at f1;omega);have a8:J.w<|.mk tk tn aQ:=⟨OM,by have a:=kZ.ok;rw[L.ok]at a;exact a.2.1⟩;refine(ZN) ?_;refine GK.ptr 47 47 0 ⟨0,230,5,[S n,I tk,S tn,.sl 3<|J.ab aQ,I l],Q⟩ fR bF C C Zs da λb a6=>?_;refine(ZN) ?_;refine GK.nY [48] 48 (.sl 1<|au Bi.d [⟨b,n,.mk tk tn aQ,l⟩]) (Fz.aq (ob:=⟨_,211,1,[Bi.d ⟨b,n,.mk tk tn aQ,l⟩],Q⟩) pO C C Zd C (ha _) C (by simp[au];exact Bi.cl _)) (ff λK _=>Bi.cl K) ?_;simp only[aT,go_sem];refine rH (.bS [0,1,2,3,4,5,8] 6 (.bS [] 7 (.bS [] 9 (.fin [10,11,12,13,14,15]) 13<|.fin [9,10,11,12,14,15]) 13<|.fin [7,9,10,11,12,14,15]) 13<|.fin [6,7,9,10,11,12,14,15]) [] [58] fb Zk ?_;simp only[aT,go_sem];refine⟨⟨?_,?_⟩,?_⟩
   all_goals
    refine hW (GD sc [⟨b,n,.mk tk tn aQ,l⟩] Zs ch) iT ?_;simp only[aT,go_sem]
   focus (refine⟨?_,?_⟩)
   all_goals
    refine aj<|aj (vD (k:=4) (v:=v) (n:=n) (tk:=tk) (tn:=tn) (aQ:=aQ) (ns:=ns) (l:=l) (y0:=I 0) (y1:=S nE) (y2:=wA) (xk:=wA) (jy:=.sl 1<|au Bi.d [⟨b,n,.mk tk tn aQ,l⟩]) (nL:=.sc<|.pointer Q) (al:=[]) (ts:=[c]) (SS:=[38]) Zs Zs (ih 0 Zs [⟨b,n,.mk tk tn aQ,l⟩] l jq (Yq a8) Zs Zo Zo Zs) (λ_ _ q=>q) (aG C) tK (aG ⟨C,C⟩) Zs λaN nd av aM be bg hr Y ar ao az=>?_);have ay:=az 12 Zd Zd Zd Zd Zs
    try simp only[bN]at ay
    obtain⟨p,s,r,P⟩:=J.ex nd.ty;simp only[P,ay,aT,go_sem];refine mB (SF (.mk tk tn aQ)<|.mk p s r) ?_;simp only[ao,dx,go_sem];refine sZ (V:=V) (ds:=ds) (sc:=sc) (k:=4) (v:=v) (tk:=tk) (l:=l) (n:=n) (tn:=tn) (aQ:=aQ) (ns:=ns) (ks:=_) (gn:=0) (ok:=av) (aam hr a6.2.2 (λi hi=>⟨(Y i hi).1,(Y i hi).2.2⟩) P) fR (by simp[ai,dx,bd]) (aj C) (SS:=[38]) (al:=[nd]) (ar.aA bF) Zs (aj C) λnd u hr=>?_;refine(ZN) ?_;exact⟨_,.cl _<|Cl.jf da,Cl.jf da,nd,_,C,hr⟩
  .skip
   refine(ZN) ?_;refine aj<|aj (Gj (k:=5) (v:=v) (tk:=tk) (l:=l) (n:=n) (tn:=tn) (aQ:=aQ) (ns:=ns) (ks:=ks) (gn:=0) hp Zs z Zo kZ (λc hc=>X c hc (λi=>jq) Zs) B tK λok p s r al F o xk y2 j f m g=>?_);refine(ZN) ?_;exact sZ (V:=V) (ds:=ds) (sc:=sc) (k:=5) (v:=v) (tk:=tk) (l:=l) (n:=n) (tn:=tn) (aQ:=aQ) (ns:=ns) (ks:=ks) (gn:=0) j fR f m (SS:=[38]) g Zs (aG ⟨C,C⟩) λnd u hr=>tI
  .obtain⟨c,rfl⟩:=kw.1 (show A ks=1 by simp[bY,dw]at f1;omega);have bf:cb.wrap (l+1)=l+1:=dE _ Zo;refine(ad bf) ?_;refine aj<|aj (vD (k:=6) (v:=v) (n:=n) (tk:=tk) (tn:=tn) (aQ:=aQ) (ns:=ns) (l:=l) (y0:=I 0) (y1:=S nE) (y2:=wA) (xk:=wA) (jy:=wA) (nL:=.sc<|.pointer Q) (al:=[]) (ts:=[c]) (SS:=[38]) Zs Zs (by have a:=ih 0 Zs [] (l+1) jq Zs Zs Zo Zo Zs;rwa[de]at a) (λ_ _ q=>q) (aG C) tK (aG ⟨C,C⟩) Zs λaN nd av aM be bg hr Y ar ao az=>?_);obtain⟨p,s,r,P⟩:=J.ex nd.ty;have a:=XK<|.mk p s r;refine(bQ P) ?_;simp only[ao,dx,go_sem];exact sZ (V:=V) (ds:=ds) (sc:=sc) (k:=6) (v:=v) (tk:=tk) (l:=l) (n:=n) (tn:=tn) (aQ:=aQ) (ns:=ns) (ks:=_) (gn:=0) (ok:=av) (aal hr (λi hi=>(Y i hi).1) P) fR (by simp[ai,dx,bd]) (aj C) (SS:=[38]) (al:=[nd]) (ar.aA bF) Zs (aG ⟨C,C⟩) λnd u hr=>tI
  .obtain⟨k0,k1,rfl⟩:=rX (show A ks=2 by simp[bY,dw]at f1;omega);refine(ZN) ?_;refine aj<|aj (adj (v:=v) (tk:=tk) (l:=l) (n:=n) (tn:=tn) (aQ:=aQ) (ns:=ns) (k0:=k0) (k1:=k1) (gn:=0) hp z Zo Zo (by have a:=ih 0 Zs [] l C Zs Zs Zo Zo Zs;rwa[de]at a) (λb hb M=>ih 1 Zs [b] l (by simp[cW,hb]) (Yq M) Zs Zo Zo Zs) (B k0 Zs) tK λok p s r al bs F o xk jy y2 j f m g a'=>?_);refine(ZN) ?_;exact sZ (V:=V) (ds:=ds) (sc:=sc) (k:=7) (v:=v) (tk:=tk) (l:=l) (n:=n) (tn:=tn) (aQ:=aQ) (ns:=ns) (ks:=_) (gn:=0) (ok:=ok) (j) fR (f) (m) (SS:=[38]) (al:=al) (g) Zs (a') λnd u hr=>tI
  .skip
   refine(ZN) ?_;refine aj<|aj (Gj (k:=8) (v:=v) (tk:=tk) (l:=l) (n:=n) (tn:=tn) (aQ:=aQ) (ns:=ns) (ks:=ks) (gn:=0) hp Zs z Zo kZ (λc hc=>X c hc (λi=>jq) Zs) B tK λok p s r al F o xk y2 j f m g=>?_);refine(ZN) ?_;exact sZ (V:=V) (ds:=ds) (sc:=sc) (k:=8) (v:=v) (tk:=tk) (l:=l) (n:=n) (tn:=tn) (aQ:=aQ) (ns:=ns) (ks:=ks) (gn:=0) j fR f m (SS:=[38]) g Zs (aG ⟨C,C⟩) λnd u hr=>tI
  .obtain⟨k0,c,D,i,rfl,G⟩:=KT hp kZ;obtain⟨aS,a0,cn,⟨aW,aZ,aY⟩,aV,aU⟩:=c;refine(ZN) ?_;refine aj<|aj<|adP (v:=v) (tk:=tk) (l:=l) (n:=n) (tn:=tn) (aQ:=aQ) (ns:=ns) (k0:=k0) (eA:=.mk aS a0 cn (.mk aW aZ aY) aV aU::D) (gn:=0) (cn:=cn) hp z Zo Zo G (by simp[L.ab,L.ds,J.ds];exact⟨C,C,C,C,C,C,C⟩) C (by have a:=ih 0 Zs [] l jq Zs Zs Zo Zo Zs;rwa[de]at a) (B k0 Zs) (λah o Z R aR a2 bs am aB=>?_) (λy aL=>B y (by simp at aL⊢;exact aj aL)) tK ?_
   .obtain⟨ba,aC,aH⟩:=ec a2;exact a_ (ba+1) (Yq aC) ah o Z R aR (by simpa using aH) bs (by
     obtain⟨bz,bv,t2,bw,bi,bm,ax,bj,bk,bl⟩:=G.fs hp aC;rw[aH]at ax;cases ax;have a:=eo (List.map Ev.n) aB;rw[eu]at a;refine a.trans ?_;simp only[dA,eu];exact Hj Zo) (λb hb=>xR hp b.e (by rw[<-aB];exact aP.2 ⟨b,hb,C⟩)) am
   refine λok p s r al F o xk y2 j f m g=>(ZN) ?_;exact sZ (V:=V) (ds:=ds) (sc:=sc) (k:=9) (v:=v) (tk:=tk) (l:=l) (n:=n) (tn:=tn) (aQ:=aQ) (ns:=ns) (ks:=_) (gn:=0) (ok:=ok) (j) fR (f) (m) (SS:=[38,141]) (al:=al) (g) Zs (aG ⟨C,C⟩) λnd u hr=>tI
  .skip
   refine(ZN) ?_;refine aj<|aj (Gj (k:=11) (v:=v) (tk:=tk) (l:=l) (n:=n) (tn:=tn) (aQ:=aQ) (ns:=ns) (ks:=ks) (gn:=0) hp Zs z Zo kZ (λc hc=>X c hc (λi=>jq) Zs) B tK λok p s r al F o xk y2 j f m g=>?_);refine(ZN) ?_;exact sZ (V:=V) (ds:=ds) (sc:=sc) (k:=11) (v:=v) (tk:=tk) (l:=l) (n:=n) (tn:=tn) (aQ:=aQ) (ns:=ns) (ks:=ks) (gn:=0) j fR f m (SS:=[38]) g Zs (aG ⟨C,C⟩) λnd u hr=>tI
  exact HO
termination_by y=>y
decreasing_by
 .have a:=fl<|aD h;simp;omega
 have a:=fl<|aD h;rw[U]at a;simp at a⊢;omega
section
def A8(V:List ae):L->Bool
 |.mk k _ n _ ns _=>ah<|k=10->A ns=A (kG V n)
structure Sh (V:List ae) (t:L):Prop where
 gd:eU t=W
 cl:L.bh (A8 V) t=W
def v7{d:Type}:∀{l:List d},A l=2->∃a b,l=[a,b]
 |[a,b],_=>⟨a,b,C⟩
section
variable{V:aF}{ds:aO}{k v:Int}{n:BA}{t:J}{ns:aX}{ks:bu}{l:Int}{sc bs:bb}
def Sh.dh(b:Sh V<|.mk k v n t ns ks):∀a∈ks,Sh V a:=λa d=>⟨(lN b.gd).2 a d,(lN b.cl).2 a d⟩
def Sh.len(b:Sh V<|.mk k v n t ns ks):bY (A ks) (dw k).1 (dw k).2=W:=by
 have a:=(lN b.gd).1;simp only[qe,hT,cy]at a;exact a.1.1
def Sh.xB(b:Sh V<|.mk k v n t ns ks):k=10->A ns=A (kG V n):=by
 have a:=(lN b.cl).1;rw[A8,ee]at a;exact a
theorem Sh.one(b:Sh V<|.mk k v n t ns ks)(e:k=4\/k=6\/k=10):∃a,ks=[a]:=by
 have d:=b.len;apply kw.1;obtain rfl|rfl|rfl:=e<;>simp[bY,dw]at d<;>omega
def Sh.zero(a:Sh V<|.mk k v n t ns ks)(b:k=1):ks=[]:=by
 subst b;simpa[bY,dw]using a.len
def EU{a:bq}(i:Sh V<|.mk k v n t ns ks)(e:(bt V ds (.mk k v n t ns ks) a l).isSome=W):(gw V ds k n t ns ks a l).map Ev.n=if k=4\/k=7 then[n]else if k=10 then ns else[]:=by
 unfold gw;by_cases g:k=4
 .simp[g]
 by_cases h:k=7
 .subst h;have o:=i.len;simp[bY,dw]at o;obtain⟨m,b,rfl⟩:=v7 (show A ks=2 by omega);rw[ag7]at e;rcases d:bt V ds m a l with _|y
  .simp[d]at e
  rcases j:jj y with _|x
  .simp[d,j]at e
  simp[d,j]
 by_cases f:k=10
 .subst f;simp only[dA];simp only[Int.reduceEq,bT,bx,or_self,eu];have q:=i.xB C;have p:(Ev.n∘λx:ByteArray×J=>(⟨x.1,x.2,l⟩:Ev))=Prod.fst:=C;rw[p,Hj Zo]
 simp[g,h,f]
def FI{h:bq}{i:Nat}(m:Sh V<|.mk k v n t ns ks)(p:(bt V ds (.mk k v n t ns ks) h l).isSome=W)(o:bs.map Bi.e=gw V ds k n t ns ks h l):(if eB k i then bs else[]).map (λb=>b.e.n)=cW k n ns i:=by
 have a:=EU m p;rw[<-o,eu]at a;have a:bs.map (λb=>b.e.n)=_:=a;unfold eB cW;by_cases f:k=4
 .subst f;simp[a]
 by_cases g:k=7
 .subst g;by_cases j:i=1<;>simp[a,j]
 by_cases d:k=10
 .subst d;simp[a]
 simp[f,g,d]
def zL{a:Nat}:(if eB k a then sc++bs else sc)=sc++(if eB k a then bs else[]):=AQ
end
def qP(d b:bb)(a:BA):du (d++b) a=(du b a).or (du d a):=by
 unfold du;rw[Au,find?_append]
def vG{b:bb}{x:BA}(f:x∉b.map λa=>a.e.n):du b x=Q:=by
 unfold du;rw[CZ];intro a g;simp only[ee];exact λd=>f<|aP.2 ⟨a,Yq g,d⟩
def zp{b:bb}{x:BA}(g:x∈b.map λy=>y.e.n):∃y∈b,du b x=E y/\y.e.n=x:=by
 rcases a:du b x with _|y
 .unfold du at a;rw[CZ]at a;have⟨y,h,f⟩:=aP.1 g;exact absurd f<|Yq<|a y (by simpa using h)
 exact⟨y,by have d:=x7 a;simpa using d,C,by have d:=find?_some a;simpa using d⟩
def pv{b:bb}{g:BA}{d:Bi}(f:du b g=E d):d∈b/\d.e.n=g:=by
 refine⟨by have a:=x7 f;simpa using a,by have a:=find?_some f;simpa using a⟩
def BG:∀{sc:bb}(b:(a7 sc).Nodup){e f:Bi}(h:e∈sc)(i:f∈sc)(g:e.id=f.id),e=f
 |a::sc,b,e,f,h,i,g=>by
  rw[a7,b4,lg]at b;obtain h1|h1:=cF.1 h<;>obtain d|d:=cF.1 i
  .rw[h1,d]
  .exact absurd (aP.2 ⟨f,d,by rw[<-g,h1]⟩) b.1
  .exact absurd (aP.2 ⟨e,h1,by rw[g,d]⟩) b.1
  exact BG b.2 h1 d g
def B4{f:Type}:∀{l:List (List f)}{e:List f},l.flatten.Nodup->e∈l->e.Nodup
 |a::l,e,b,d=>by
  rw[dT,iQ]at b;obtain rfl|d:=cF.1 d
  .exact b.1
  exact B4 b.2.1 d
structure Ap (nd:Nd) (sc:List Bi):Prop where
 u:nd.ids.Nodup
 s:(a7 sc).Nodup
 d:∀i∈nd.ids,i∉a7 sc
def Ap.dh{id:Nat}{t:L}{ty:J}{l:Int}{al:eg}{bs sc:bb}{b:Option Bi}(r:Ap (.mk id t ty l al bs b) sc)(h:bb)(i:h=bs\/h=[]):∀e∈al,Ap e<|sc++h:=λe m=>by
 have⟨f,s,g⟩:=r;rw[Nd.mL]at f g;simp only[Nd.id,Nd.bs,Nd.ks]at f g;rw[lg,iQ]at f;obtain⟨-,u,x,w⟩:=f;have o a (d:a∈e.ids):a∈ao (al.map Nd.ids):=eL.2 ⟨_,aP.2 ⟨e,m,C⟩,d⟩;refine⟨B4 x<|aP.2 ⟨e,m,C⟩,?_,λa d q=>?_⟩
 .rw[a7,bX,iQ];refine⟨s,?_,λa d y j p=>?_⟩
  .obtain rfl|rfl:=i
   .exact u
   simp
  subst p;obtain rfl|rfl:=i
  .exact g a (mo _<|gf _ j) d
  simp at j
 rw[a7,bX]at q;obtain q|q:=ca.1 q
 .exact g a (mo _<|gq _<|o a d) q
 obtain rfl|rfl:=i
 .exact w a q a (o a d) C
 simp at q
def G1{V:aF}{ds:aO}:∀(t:L){B:Nd}{sc:bb}{l:Int},Sh V t->hE V ds t B sc l->Ap B sc->∀b∈sc,B.us b.id=if du sc b.e.n=E b then gI b.e.n t else 0
 |.mk k v n t ns ks,_,sc,l,w,.mk (id:=id) (ty:=ty) (al:=al) (bs:=bs) (b:=P) Z G U I X,D,b,x=>by
  have K (i:Nat) (f:i<A ks) (m:i<A al):al[i].us b.id=if b.e.n∈cW k n ns i then 0 else if du sc b.e.n=E b then gI b.e.n ks[i]else 0:=by
   have r:=X i f m;rw[zL]at r;have J:=FI (i:=i) w (Yf Z) U;have F:=D.dh (if eB k i then bs else[]) AQ al[i]<|aD m;rw[G1 ks[i] (w.dh _<|aD f) r F b<|gf _ x,qP];by_cases o:b.e.n∈cW k n ns i
   .rw[aM o,aC];obtain⟨g,y,R,ab⟩:=zp (b:=if eB k i then bs else[])<|(Yy J) o;rw[R];intro q;have q:E g=E b:=q;cases q;have a:=F.s;rw[a7,bX,iQ]at a;exact a.2.2 _ (aP.2 ⟨_,x,C⟩) _ (aP.2 ⟨_,y,C⟩) C
   rw[aC o,vG (b:=if eB k i then bs else[])<|(Yy J) o,oZ]
  rw[Nd.z7];show(if P.any (λz=>ah<|z.id=b.id)=W then 1 else iW k (al.map λg=>g.us b.id) 0 0 0)=_;by_cases j:k=1
  .have a:=w.zero j;subst a;have a:al=[]:=eq_nil_of_length_eq_zero I;subst a;rw[G,aM j,gI,aM j];rcases u:du sc n with _|O
   .have a:du sc b.e.n≠E b\/n≠b.e.n:=by
     by_cases d:n=b.e.n
     .left;rw[<-d,u];simp
     exact aj d
    obtain q|q:=a
    .rw[aC q];rfl
    rw[aC q,ite_self];rfl
   have⟨f,m⟩:=pv u;by_cases d:O.id=b.id
   .have a:=BG D.s f x d;subst a;simp[m,u]
   have Y:¬(du sc b.e.n=E b/\n=b.e.n):=λ⟨M,aa⟩=>by rw[<-aa,u]at M;cases M;exact d C
   simp only[Option.any_some,d,mw,Af,bT,eO,iW,sk];split
   .split
    .exact absurd ⟨‹_›,‹_›⟩ Y
    rfl
   rfl
  rw[G,aC j,gI,aC j];apply(aC Zs).trans;by_cases p:du sc b.e.n=E b
  .rw[aM p];congr 1;refine lX (by simp[Md,I]) λi f m=>?_;have S:i<A al:=Yq f;rw[fk,Mc _ _ _ _ _ _ _ Zo,K i Zo S,ew,aM p]
  rw[aC p];have d:al.map (λg=>g.us b.id)=fu (A al) 0:=List.map_eq_replicate_iff.2 λg y=>by
   obtain⟨i,r,rfl⟩:=ec y;rw[K i Zo r,aC p];split<;>rfl
  rw[d];exact Jx _ _ _
decreasing_by
 have a:=fl<|aD f;simp;omega
end
def Nd.p7(x:Nd):bb:=x.b.toList++ao (x.ks.attach.map λy=>Nd.p7 y.1)
decreasing_by exact Nd.lt y.2
def Nd.Ge(a:Nd):a.p7=a.b.toList++ao (a.ks.map Nd.p7):=by rw[Nd.p7];simp
def fh(a:bb)(b:Bi):bb:=if a.any (λz=>z.id==b.id)then a else a++[b]
def aer(b:Option Bi)(a:bb):r4 b a=b.toList.foldl fh a:=by cases b<;>rfl
theorem JX(d:ld->g2->ld):∀(b:List<|List g2)(a:ld),b.flatten.foldl d a=b.foldl (λa m=>m.foldl d a) a
 |[],a=>rfl
 |m::b,a=>cq
theorem Nd.B_(d:Nd)(f:bb):d.fU f=d.p7.foldl fh f:=by
 have i e (h:e∈d.ks) (a:bb):e.fU a=e.p7.foldl fh a:=Nd.B_ e a;rw[Nd.K9,Nd.Ge,so,JX,foldl_map,aer];generalize d.b.toList.foldl fh f=a;generalize g:d.ks=j at i;clear g
 induction j generalizing a with
 |nil=>rfl
 |cons k l m=>
  exact Zg
decreasing_by exact Nd.lt h
theorem S_:∀{a:bb}{b:Bi},b∈i9.foldl fh a->b∈a\/b∈i9:=by
 induction i9 with
 |nil=>intro a b h;exact aG h
 |cons e f d=>
  intro a b h;obtain h|h:=d h
  .unfold fh at h;split at h
   .exact aG h
   exact Zg
  exact aj<|Yr h
def S9:∀{b:bb}{a:Nat},(a∈a7 b\/a∈a7 i9)->a∈a7 (i9.foldl fh b):=by
 induction i9 with
 |nil=>intro b a h;obtain h|h:=h;exact h;simp[a7]at h
 |cons j k g=>
  intro b a h;apply g;obtain h|h:=h
  .left;unfold fh;split
   .exact h
   rw[a7,bX];exact gf _ h
  rw[a7,b4]at h;obtain h|h:=cF.1 h
  .left;unfold fh;split
   .rename_i d;simp only[m',ot]at d;have⟨i,f,e⟩:=d;exact aP.2 ⟨i,f,e.trans h.symm⟩
   rw[a7,bX,h];simp
  exact aj h
theorem Nd.Kq(d:Nd):∀b∈d.bB,b.id∈d.ids:=by
 have g:∀a∈d.ks,∀b∈a.bB,b.id∈a.ids:=λa f=>Nd.Kq a;intro b e;rw[Nd.qL]at e;rw[Nd.mL];exact Zg
decreasing_by exact Nd.lt f
theorem Gf:∀(d:L){g:Nd}{a:bb}{j:Int},hE a5 be d g a j->∀b∈g.p7,b∈a\/b∈g.bB
 |.mk x v q d z i,_,a,j,.mk (al:=al) (bs:=bs) (b:=s) w k t u o,b,hm=>by
  rw[Nd.Ge]at hm;rw[Nd.qL];simp only[Nd.b,Nd.ks,Nd.bs]at hm⊢;obtain hm|hm:=ca.1 hm
  .rw[k]at hm;split at hm
   .rcases e:du a q with _|r
    .rw[e]at hm;simp at hm
    rw[e]at hm;simp at hm;subst hm;exact aG (pv e).1
   simp at hm
  have⟨y,hm,l⟩:=eL.1 hm;obtain⟨B,p,rfl⟩:=aP.1 hm;obtain⟨f,m,rfl⟩:=ec p;obtain h|h:=Gf i[f] (o f Zo m) b l
  .exact Zg
  exact Zg
termination_by d=>d
decreasing_by
 have:=fl<|aD (show f<A i by omega);simp;omega
theorem WA(e:Nd)(d:Nat):e.us d≠0->d∈a7 e.p7:=by
 have k a (g:a∈e.ks):a.us d≠0->d∈a7 a.p7:=WA a d;intro h;rw[Nd.z7]at h;rw[Nd.Ge,a7,bX];by_cases f:e.b.any (λb=>ah<|b.id=d)=W
 .apply gf _;rcases i:e.b with _|b
  .rw[i]at f;simp at f
  rw[i]at f;simp at f;simp[f]
 rw[aC f]at h;apply gq _;by_cases l:∃a∈e.ks,a.us d≠0
 .have⟨a,g,j⟩:=l;have⟨b,i,o⟩:=aP.1<|k a g j;exact Zg
 refine absurd ?_ h;have m:e.ks.map (λa=>a.us d)=fu (A e.ks) 0:=List.map_eq_replicate_iff.2 λa g=>Zg;rw[m];exact Jx _ _ _
decreasing_by exact Nd.lt g
def ni(t:L)(e:bq)(l:Int):Prop:=∀x v,cZ e x=E v->v.l=l->gI x t<=1
def gX(e:bq)(ns:aX):bq:=e.filter λv=>!ah (v.n∈ns)
theorem T9(b:bq)(d:aX)(a:BA):cZ (gX b d) a=if a∈d then Q else cZ b a:=by
 unfold cZ gX;exact Zg
def Wr(V:aF)(ds:aO)(k:Int)(n:BA)(t:J)(ns:aX)(ks:bu)(a:List uO):uO:=λe l=>
 (k=4->∀c∈Y 1 ks,gI n c<=1)/\(k=10->∀c∈Y 1 ks,(∀x∈ns,gI x c<=1)/\ni c (gX e ns) l)/\(k=11->∀c∈ks.drop 1,ni c e l)/\
 ∀(i:Nat)(h:i<A a),a[i] (cU V ds k n t ns ks e l i)<|ct k l
mutual
def fy(V:List ae)(ds:List aa):L->uO
 |.mk k _ n t ns ks=>Wr V ds k n t ns ks (GY V ds ks)
def GY(V:List ae)(ds:List aa):List L->List uO
 |[]=>[]
 |c::cs=>fy V ds c::GY V ds cs
end
def Ws(a:aF)(b:aO):∀d:bu,GY a b d=d.map (fy a b)
 |[]=>rfl
 |c::e=>by rw[GY,Ws a b e];rfl
def Wq{V:aF}{ds:aO}{k v:Int}{n:BA}{t:J}{ns:aX}{ks:bu}{e:bq}{l:Int}:fy V ds (.mk k v n t ns ks) e l↔
 (k=4->∀a∈Y 1 ks,gI n a<=1)/\(k=10->∀a∈Y 1 ks,(∀d∈ns,gI d a<=1)/\ni a (gX e ns) l)/\(k=11->∀a∈ks.drop 1,ni a e l)/\
 ∀(b:Nat)(f:b<A ks),fy V ds ks[b] (cU V ds k n t ns ks e l b)<|ct k l:=by
 rw[fy,Wr,Ws];simp
def hE.l(a:hE a5 be n8 m5 i9 a3):m5.l=a3/\m5.t=n8:=by cases a;exact⟨C,C⟩
def QT{m:L}{y x:Nd}{sc k:bb}(P:Sh a5 m)(t:hE a5 be m y (sc++k) a3)(u:Ap y<|sc++k)(V:∀b∈x.bs,b∈k)(J:∀b∈k,b∈x.bs):
 ((y.fU []).all (lU x y)=W↔ni m (gX (sc.map Bi.e) (k.map λb=>b.e.n)) a3):=by
 have I:=G1 m P t u;have G:∀b∈sc,∀a∈x.bs++y.bB,a.id≠b.id:=λb g a f r=>by
  obtain f|f:=ca.1 f
  .have p:=u.s;rw[a7,bX,iQ]at p;exact p.2.2 _ (aP.2 ⟨b,g,C⟩) _ (aP.2 ⟨a,V a f,C⟩) r.symm
  apply u.d _<|y.Kq a f;rw[r,a7,bX];exact gf _<|aP.2 ⟨b,g,C⟩
 rw[en];constructor
 .intro A K v j i;rw[T9]at j;split at j
  .cases j
  rename_i w;rw[xp]at j;rcases g:du sc K with _|b
  .rw[g]at j;cases j
  rw[g]at j;simp only[eE,eH]at j;subst j;have⟨o,R⟩:=pv g;have B:=I b<|gf _ o;rw[qP,R,vG (b:=k) (x:=K) w,oZ,g,aM C]at B;refine Int.not_lt.1 λZ=>?_;have S:b.id∈a7 (y.fU []):=by
   rw[Nd.B_];exact S9<|aj<|WA y b.id Zo
  have⟨a,f,r⟩:=aP.1 S;obtain rfl:a=b:=by
   rw[Nd.B_]at f;obtain q|q:=S_ f
   .cases q
   obtain q|q:=Gf m t a q
   .exact BG u.s q (gf _ o) r
   exact absurd r<|G b o a<|gq _ q
  have p:=A a f;simp only[lU,oV,wg,jo,Mw,m',ot]at p;obtain(q|⟨X,U,D⟩)|q:=p
  .exact q<|(Yy t.l.1) i
  .exact G a o X U D
  omega
 intro A b g;rw[lU,oV,<-Bool.not_eq_true];intro F;simp only[cy,ee,oV,wj,ot]at F;have⟨⟨M,z⟩,Y⟩:=F;rw[Nd.B_]at g;have o:b∈sc:=by
  obtain q|q:=S_ g
  .cases q
  obtain q|q:=Gf m t b q
  .obtain q|q:=ca.1 q
   .exact q
   exact absurd C (z b<|gf _<|J b q)
  exact absurd C (z b<|gq _ q)
 have B:=I b<|gf _ o;split at B
 .rename_i i;rw[qP]at i;have w:b.e.n∉k.map λa=>a.e.n:=λq=>by
   have⟨a,f,O,D⟩:=zp q;rw[O]at i;have i:=i;cases i;exact z b (gf _<|J b f) C
  rw[vG w,oZ]at i;have p:=A b.e.n b.e (by rw[T9,aC w,xp,i];rfl) (by rw[M,t.l.1]);omega
 omega
def Wt{y:aF}{D:aO}:∀(k:L){V:Nd}{m:bb}{g:Int},Sh y k->hE y D k V m g->Ap V m->(Nd.all qZ V=W↔fy y D k (m.map Bi.e) g)
 |.mk f v o k l j,_,m,g,z,.mk (id:=id) (ty:=ty) (al:=al) (bs:=bs) (b:=B) aB I Z ad ab,av=>by
  have O (d:Nat) (i:d<A j) (q:d<A al):hE y D j[d] al[d] (m++if eB f d then bs else[]) (ct f g)/\Ap al[d] (m++if eB f d then bs else[]):=
   ⟨by rw[<-zL];exact ab d i q,av.dh _ AQ _<|aD q⟩
  have ak (d:Nat) (i:d<A j) (q:d<A al):Nd.all qZ al[d]=W↔fy y D j[d] (cU y D f o k l j (m.map Bi.e) g d) (ct f g):=by
   rw[<-FG Z];exact Wt j[d] (z.dh _<|aD i) (ab d i q) (by rw[zL];exact(O d i q).2)
  have ax:al.all (Nd.all qZ)=W↔∀(d:Nat)(h:d<A j),fy y D j[d] (cU y D f o k l j (m.map Bi.e) g d)<|ct f g:=by
   rw[en];exact⟨λh d F=>(ak d F Zo).1<|h _<|aD _,λh w U=>by
    obtain⟨d,F,rfl⟩:=ec U;exact(ak d Zo F).2<|h d Zo⟩
  have G:=EU z<|Yf aB;rw[<-Z,eu]at G;have G:bs.map (λb=>b.e.n)=_:=G;rw[Nd.all_eq,Wq,cy];show qZ _=W/\al.all _=W↔_;rw[ax,<-Dl,<-Dl,Dl (a:=f=4->_)];refine and_congr ?_ sj;rw[qZ,cy];show((ah (f=7)||bs.all _)=W/\(tP f al).all _=W)↔_;by_cases K:f=4
  .subst K;obtain⟨p,rfl⟩:=z.one<|aG C;obtain⟨w,rfl⟩:=kw.1 ad;obtain⟨b,rfl⟩:∃b,bs=[b]:=kw.1 (by have u:=eo A G;simpa using u);have az:b.e.n=o:=Yq G;have⟨r,s⟩:=O 0 Zs Zs;simp only[eB,rh,Ay,bx,fA]at r s;have i:=G1 p (z.dh _ Zs) r s b Zs;rw[qP,show du [b] b.e.n=E b by simp[du],Dk,aM C,az]at i;have S:(Nd.mk id (.mk 4 v o k l [p]) ty g [w] [b] B).us b.id=w.us b.id:=by
    rw[Nd.z7,I];simp[Nd.ks,Nd.t,L.kd,iW,Nd.b]
   simp[tP,S,i]
  by_cases J:f=10
  .subst J;obtain⟨p,rfl⟩:=z.one<|aj<|aj C;obtain⟨w,rfl⟩:=kw.1 ad;have⟨r,s⟩:=O 0 Zs Zs;simp only[eB,rh,Int.reduceEq,Dm,Ay,bx,fA,ct,bT]at r s;have i:=G1 p (z.dh _ Zs) r s;have Y:=QT (x:=.mk id (.mk 10 v o k l [p]) ty g [w] bs B) (z.dh _ Zs) r s (λb h=>h) λb h=>h;have R:bs.map (λb=>b.e.n)=l:=Yq G;rw[R]at Y;have S am:(Nd.mk id (.mk 10 v o k l [p]) ty g [w] bs B).us am=w.us am:=by
    rw[Nd.z7,I];simp[Nd.ks,Nd.t,L.kd,iW,Nd.b]
   have q:(bs.all λb=>ah<|(Nd.mk id (.mk 10 v o k l [p]) ty g [w] bs B).us b.id<=1)=W↔∀x∈l,gI x p<=1:=by
    simp only[en,ee,S];constructor
    .intro h x aC;have⟨ao,ae,aq,ar⟩:=zp (b:=bs) (x:=x)<|(Yy R) aC;have u:=i ao<|gq _ ae;rw[qP,ar,aq,Dk,aM C]at u;have u:=h ao ae;omega
    intro h b I;rw[i b<|gq _ I];split
    .exact h _ (by rw[<-R];exact aP.2 ⟨b,I,C⟩)
    omega
   simp only[tP,bx,Aj,Ak,xT,Y,Int.reduceEq,mw,uI,q,jz,ww,dg,kg,hU,yc,i',rj]
  have aa:f≠7->bs=[]:=λM=>by simpa[K,M,J]using G
  have ay:(ah (f=7)||bs.all λb=>ah<|(Nd.mk id (.mk f v o k l j) ty g al bs B).us b.id<=1)=W:=by
   by_cases M:f=7
   .simp[M]
   simp[aa M]
  by_cases X:f=11
  .subst X;have au:=aa Zd;subst au;simp only[tP,K,J,Int.reduceEq,bT,bx,hU,yc,rj,en];apply(and_iff_right Zs).trans;have an (d:Nat) (i:d<A j) (q:d<A al):((al[d].fU []).all (lU (.mk id (.mk 11 v o k l j) ty g al [] B) al[d])=W↔ni j[d] (m.map Bi.e) g):=by
    have⟨r,s⟩:=O d i q;simp only[ite_self,ct,Int.reduceEq,bT]at r s;have u:=QT (x:=.mk id (.mk 11 v o k l j) ty g al [] B) (z.dh _<|aD i) r s (λb h=>h) λb h=>h;rw[u];have ap:gX (m.map Bi.e) ([].map λb:Bi=>b.e.n)=m.map Bi.e:=by simp[gX]
    rw[ap]
   constructor
   .intro h p aA;obtain⟨d,F,rfl⟩:=ec aA;rw[sr];have P:1+d<A j:=Ys F;apply(an (1+d) P Zo).1;exact(Pf)<|h _ (by rw[<-sr (h:=by simp;omega)];exact aD _)
   intro h w U;obtain⟨d,F,rfl⟩:=ec U;rw[sr];have P:1+d<A al:=Ys F;have u:=(an (1+d) Zo P).2<|h _ (by rw[<-sr (h:=co)];exact aD _);rwa[en]at u
  simp[tP,K,J,X,ay]
decreasing_by
 have u:=fl<|aD i;simp;omega
def TC.case{v:Int}(e:TC a5 be (.mk a3 v gs he hH h1) pm)(a:Nat)(f:a<A h1):L.kd h1[a]=10↔a3=9/\0<a:=by
 obtain⟨-,-,-,-,-,b⟩:=e.form;simp only[np,ee]at b;have d:=b a f;rw[oi]at d;simpa using d
theorem TC.cl(g:gT a5 be):∀(e:L){t:aX},TC a5 be e t->L.kd e≠10->L.bh (A8 a5) e=W
 |.mk R v U e V l,t,f,z=>by
  rw[L.bh,L.i1,cy,en];refine⟨by rw[A8,ee];exact λh=>absurd h z,λm y=>?_⟩;obtain⟨a,b,rfl⟩:=ec y;by_cases h:L.kd l[a]=10
  .obtain⟨rfl,M⟩:=(f.case a b).1 h;obtain⟨S,m,D,P,o,C⟩:=KT g f;have B:a-1<A (m::D):=by rw[o]at b;simp at b⊢;omega
   obtain⟨I,F,t2,G,u,O,w,J,x,K⟩:=C.fs g B;have i:l[a]=.mk 10 I F t2 G [u]:=by
    rw[<-w];simp only[o];obtain⟨s,rfl⟩:∃s,a=s+1:=⟨a-1,Zo⟩;rfl
   have k:=f.dh a b;rw[i]at k;have p:=k.dh 0 Zs;have q:=k.case 0 Zs;simp only[fA]at p q;rw[i,L.bh,L.i1,cy,en];refine⟨by rw[A8,ee];exact λ_=>x,λd r=>?_⟩;simp only[dg]at r;subst r;exact TC.cl g d p (by rw[Ne,q];simp)
  exact TC.cl g l[a] (f.dh a b) h
termination_by e=>e
decreasing_by
 .have j:=fl<|aD b;rw[i]at j;simp at j⊢;omega
 have j:=fl<|aD b;simp;omega
def TC.sh(d:gT a5 be)(a:TC a5 be n8 hH)(b:L.kd n8≠10):Sh a5 n8:=⟨a.gd,a.cl d n8 b⟩
def Td:∀(i:L){s:Nd}{t:bb}{r:Int},Sh a5 i->hE a5 be i s t r->s.num<=4*i.num
 |.mk p v J i K q,_,t,r,j,.mk (al:=al) (bs:=bs) z I x y hk=>by
  have o:=EU j<|Yf z;rw[<-x,eu]at o;have a:=eo A o;have G:A bs<=3:=by
   by_cases l:p=4\/p=7
   .rw[aM l]at a;simp at a;omega
   rw[aC l]at a;split at a
   .have k:=(lN j.gd).1;simp only[qe,hT,gN,cy]at k;have w:=k.1.2.1.2;rename_i D;subst D;simp[jI]at w;simp at a;omega
   simp at a;simp[a]
  rw[Nd.num,L.num];have C:∀(f:eg)(d:bu),f.length=d.length->(∀(e:Nat)(g:e<f.length)(h:e<d.length),(f[e]).num<=4*(d[e]).num)->Nd.aZ f<=4*L.aZ d:=by
   intro f
   induction f with
   |nil=>intro d _ _;simp[Nd.aZ]
   |cons F f B=>
    intro d a m;obtain _|⟨b,d⟩:=d
    .simp at a
    have u:=m 0 Zs Zs;have g:=B d (Yq a) λe g h=>m (e+1) (Yq g)<|Yq h;simp only[fA]at u;rw[Nd.aZ,L.aZ];omega
  have k:=C al q y λe g h=>Td q[e] (j.dh _<|aD h)<|hk e h g;omega
termination_by i=>i
decreasing_by
 have g:=fl<|aD h;simp;omega
structure nR (V:List ae) (ds:List aa):Prop where
 pg:gT V ds
 bd:∀d∈ds,TC V ds (aa.bd d) []/\L.kd (aa.bd d)≠10/\(aa.bd d).num<=160
def Zm(a:he∈kG a5 gs):∃d∈a5,∃b∈ae.cs d,he∈aJ.fs b:=by
 unfold kG at a;split at a
 .rename_i d f;split at a
  .rename_i b e;exact⟨d,fE f,b,fE e,a⟩
  cases a
 cases a
def p'(b:i_ (.mk a5 be)=0)(A:(bH.mk a5 be).ok):nR a5 be:=by
 rw[i_]at b;split at b
 .rename_i h;split at b
  .cases b
  rename_i p;split at b
  .cases b
  rename_i l;obtain⟨L,G,M,t⟩:=A;have w:=Lr h;have a:=Ls h;obtain⟨s,-,z,x⟩:=h;have B:gT a5 be:=⟨a,s,z,λd a=>⟨(w d a).2,(Ld<|t d a).2⟩,λK u C=>by
   obtain⟨d,a,f,q,r⟩:=Zm C;refine⟨?_,?_⟩
   .obtain⟨i,g,rfl⟩:=ec a;obtain⟨F,y,rfl⟩:=ec q;have k:=((s.2 i g).2 F y).1;simp only[qC,cy,en,h7]at k;exact(k.2 u r).1.1
   have m:=G _ a;obtain⟨P,O⟩:=d;rw[ae.ok]at m;have o:=m.2.2 _ q;obtain⟨S,R⟩:=f;rw[aJ.ok]at o;exact J.eJ o.2.2 u r⟩
  refine⟨B,λd a=>?_⟩;simp only[m',not_exists,not_and,Bool.not_eq_true,oV]at p l;have j:=p d a;have f:=l d a;simp only[oh,xU,Mw,wj,ee]at j;obtain⟨i,g,rfl⟩:=ec a;obtain⟨-,-,-,e⟩:=x i g;simp only[lz,cy,ee]at e;refine⟨⟨e.1.1,j.2,Yq f,λI D=>?_,(Ld<|t _ a).1⟩,e.1.2,e.2.2⟩;have:=j.1.2 I<|(Uq _ _ _ _).2<|aj D;omega
 cases b
def iz(V:aF)(ds:aO):Int:=if i_ (.mk V ds)≠0 then i_ (.mk V ds)else if∀d∈ds,bt V ds (aa.bd d) [] 0=E (aa.ty d)then 0 else 8
def ahA(V:aF)(ds:aO)(a5:(bH.mk V ds).sz<=1048576)(u:(bH.mk V ds).ok):kW aB 250 [.ag [ae.sl V,aa.sl ds]] λs r=>∃g,r=.tp [.sl 1<|au Nd.d g,I<|iz V ds]/\(iz V ds=0->jp V ds (ds.map aa.bd) [] 0 s (A ds) g):=by
 have av:=YI (.mk V ds) a5 u;rw[bH.ds]at av;have ax:Cl<|.ag [ae.sl V,aa.sl ds]:=Cl.bC da;have aX:cE aB 149=E (156,1,8):=Zk;refine kW.ey [1000045] [.tmp 2,.tmp 3] C C Zk Zt C Zs λs=>?_;simp only[qV,go_sem];simp only[ae.sl,aa.sl]at av ax;refine(ZC)<|fx (λo=>?_) λo=>?_
 .have i:i_ (.mk V ds)≠0:=by simpa using o
  have hc:iz V ds=i_ (.mk V ds):=by rw[iz,aM i]
  refine(ZN) ?_;refine⟨.tp [.sl 1<|au Nd.d [],I<|iz V ds],Fz.lT (.nil 1) AR,Cl.jf da,[],C,λq=>absurd (hc▸q) i⟩
 have i:i_ (.mk V ds)=0:=Yq o;obtain⟨Z,a1⟩:=p' i u;have bu:A ds<=8:=Z.len;refine(ZN)<|fG 18 (A ds) (λe=>mx 48 s [] [(1,.cp [ae.sl V,aa.sl ds]),(16,aa.sl ds),(17,I<|A ds)] λenv ar=>∃g,jp V ds (ds.map aa.bd) [] 0 s e g/\(∀d∈Y e ds,bt V ds (aa.bd d) [] 0=E (aa.ty d))/\aL [45] ar 156 1 (au Nd.d g) (env 5)) C
  ⟨C,C,C,Il,[],⟨C,kT _,rp,rp,λe _ aZ=>by simp at aZ⟩,Zs,aG ⟨C,C⟩⟩ ?_
 rintro e env ar bv bb ba bs⟨rfl,rfl,g,an,al,hx⟩;obtain⟨bB,P⟩:=Zx<|env 5;rw[P]at hx;refine ZL (λm=>?_) λo=>?_
 .have R:=aa.bV ds e m;obtain⟨U,aI,a4⟩:=a1 _<|aD m;have X:=node Z (aa.bd ds[e]) [] 0 U Zs (sm _) Zo ch aI;have ak:∀ty,J.w ty->az 289 ([]++[.ag ty.ds,.ag (aa.ty ds[e]).ds]++[]) (B<|ah<|ty=aa.ty ds[e]):=λty am=>sameType ty (aa.ty ds[e]) am.2;obtain⟨bo,⟨aT,aV,aU⟩,⟨D,M,G,⟨ao,aq,ap⟩,K,F⟩,t⟩:∃a b aW,ds[e]=.mk a b aW:=by cases ds[e];exact⟨_,_,_,C⟩
  simp only[t,aa.bd,aa.ty]at R U aI a4 X ak;simp only[aa.ds,J.ds,L.ds,bg,aY]at R X ak;refine(ad R)<|u' [] X (.c (.cl _ ax)<|.c (.cl _<|Cl.bC<|L.cl<|.mk D M G (.mk ao aq ap) K F)<|.c (.nil 1)<|.c (.cl _<|bc _) .n) ?_;rintro N1 r⟨nd,ok,rfl,ab⟩br aN;have a2:(ds.map aa.bd)[e]'(Yq m)=.mk D M G (.mk ao aq ap) K F:=by simp[t,aa.bd]
  have a0:=an.add (Yq m) (N1:=N1) (nd:=nd) (ok:=ok) ((Yy a2) ab) λaS aH=>⟨(aN aS aH).1,λy hy=>by
   have j:=(aN aS aH).2.1 45;obtain⟨i,_⟩|⟨bz,bp,aR,-,u⟩:=hx
   .simp[au]at i;subst i;cases hy
   simp only[dg]at aR;subst aR;simp only[ai,bj,bT]at j;exact j _ u _ IB⟩
  have ay:∀q:¬(bt V ds (.mk D M G (.mk ao aq ap) K F) [] 0=E (.mk aT aV aU)),iz V ds=8:=λq=>by
   rw[iz,aC<|Yr i,aC];intro z;have j:=z _<|aD m;rw[t]at j;exact q j
  obtain⟨be,bf,bh,bi,bk,bl,bm,bn,a8,a',a9,bD,bE,bG,z3,aK,a7⟩:=Nd.zC nd;obtain _|_:=ok
  .refine(fQ @oM) ?_;have h8:=ay λq=>by have j:=ab.2.1;simp only[eO]at j;rw[q]at j;cases j
   exact PD
  have a3:=ab.2.2 C;have p:=a3.ty;simp only[eO]at p;have am:=uC Z _ U Zs p;have aQ:=ak _ am;rw[a7]at aQ p;simp only[J.ds]at aQ;refine(fQ<|JJ @oM aK) ?_;by_cases q:J.mk a8 a' a9=.mk aT aV aU
  .refine(ad<|JJ q P)<|GK.cM (pR (S:=[45]) (f:=Nd.d) (l:=g) (a:=nd) aX yz (by simp[aw,dS,ai,aK]) (Nd.one nd) (Yo an.len) Zd λa_ bw bA a6 bq=>?_);refine(ZN) ?_;refine gY m ⟨C,C,C,by simp[aw,aa.sl],g++[nd],a0.2.2 C,λd k=>?_,by simpa[aw]using a6⟩;rw[dm m]at k;obtain k|k:=ca.1 k
   .exact al d k
   simp only[dg]at k;subst k;rw[t];simp only[aa.bd,aa.ty];rw[p,q]
  have h8:=ay λz=>by rw[p]at z;exact q<|Aw z
  exact(ad q)<|PD
 obtain rfl:e=A ds:=Zo;rw[cc]at al;have h8:iz V ds=0:=by rw[iz,aC<|Yr i,aM al]
 refine(ad<|JJ o P) ?_;refine⟨.tp [.sl 1<|au Nd.d g,I<|iz V ds],Fz.lT (mQ hx λy _=>Nd.cl y) (by rw[h8];exact .cl _<|bc _),Cl.jf da,g,C,λ_=>an⟩
def jp.all{b:aO}{f:eg}(hz:jp a5 b (b.map aa.bd) [] 0 am (A b) f)(g:Nd->Bool)(j:L->Prop)(o:∀(d:aa)(i:Nd),d∈b->hE a5 b (aa.bd d) i [] 0->i.ids.Nodup->(g i=W↔j (aa.bd d))):(f.any λm=>!g m)=W↔¬∀d∈b,j<|aa.bd d:=by
 have u:=hz.len;have l:∀(a:Nat)(e:a<A b)(h2:a<A f),g f[a]=W↔j (aa.bd b[a]):=λa e h2=>by
  refine o _ _ (aD e) ?_ ?_
  .have t:=hz.qM a (Yq e) h2;simpa using t
  exact PR
 simp only[m',oV];constructor
 .rintro⟨m,s,k⟩h;obtain⟨a,h2,rfl⟩:=ec s;rw[(l a Zo h2).2<|h _<|aD _]at k;cases k
 refine λh=>My λq=>h λd p=>?_;obtain⟨a,e,rfl⟩:=ec p;refine(l a e Zo).1 ?_;cases r:g (f[a]'Zo)with
 |true=>rfl
 |false=>exact absurd ⟨_,aD _,r⟩ q
def jp.mem{a:aO}{f:eg}(hz:jp a5 a (a.map aa.bd) [] 0 am (A a) f)(g:m5∈f):∃d∈a,hE a5 a (aa.bd d) m5 [] 0/\m5.ids.Nodup:=by
 obtain⟨b,h2,rfl⟩:=ec g;have i:=hz.len;have e:b<A a:=Zo;refine⟨a[b],aD e,?_,?_⟩
 .have h:=hz.qM b (Yq e) h2;simpa using h
 exact PR
def nR.sh(a:nR a5 be){d:aa}(b:d∈be):Sh a5<|aa.bd d:=(a.bd d b).1.sh a.pg (a.bd d b).2.1
def nR.num(a:nR a5 be){d:aa}(b:d∈be)(e:hE a5 be (aa.bd d) m5 [] 0):m5.num<=640:=by
 have:=Td _ (a.sh b) e;have:=(a.bd d b).2.2;omega
def jk(V:aF)(ds:aO):Int:=if iz V ds≠0 then iz V ds else if∀d∈ds,gy V ds (aa.bd d) [] 0 then 0 else 9
def gU(V:aF)(ds:aO):Int:=if jk V ds≠0 then jk V ds else if∀d∈ds,fy V ds (aa.bd d) [] 0 then 0 else 10
def p0(b:iz a5 be=0):i_ (.mk a5 be)=0:=by
 by_cases a:i_ (.mk a5 be)=0
 .exact a
 rw[iz,aM a]at b;exact b
def sV(b:jk a5 be=0):iz a5 be=0:=by
 by_cases a:iz a5 be=0
 .exact a
 rw[jk,aM a]at b;exact b
def vj(b:gU a5 be=0):jk a5 be=0:=by
 by_cases a:jk a5 be=0
 .exact a
 rw[gU,aM a]at b;exact b
abbrev MY(V:aF)(ds:aO)(c:Int)(N:Nat)(r:D):Prop:=∃a,r=.tp [.sl 1<|au Nd.d a,I c]/\(c=0->jp V ds (ds.map aa.bd) [] 0 N (A ds) a)
def QA(l:nR a5 be):∀(a:L),Sh a5 a->∀{j:Nd}{k:bb}{i:Int},hE a5 be a j k i->Nd.all (λe=>!ah (L.kd e.t=11)||ah (1<=A e.ks)) j=W
 |.mk o v x a y h,g,_,k,i,.mk (al:=al) (bs:=bs) w r s u hk=>by
  rw[Nd.all_eq,cy,en];refine⟨?_,λe m=>?_⟩
  .simp only[Nd.t,Nd.ks,L.kd];have p:=g.len;by_cases f:o=11
   .subst f;simp[bY,dw]at p;exact Bool.or_eq_true_iff.2<|aj<|b_ (show 1<=A al by omega)
   simp[f]
  obtain⟨b,d,rfl⟩:=ec m;have d:b<A al:=d;exact QA l h[b] (g.dh _<|aD Zo)<|hk b Zo d
termination_by a=>a
decreasing_by
 have q:=fl<|aD (show b<A h by omega);simp;omega
def adl(e:aF)(a:aO)(R:(bH.mk e a).sz<=1048576)(y:(bH.mk e a).ok):kW aB 178 [.ag [ae.sl e,aa.sl a]]<|MY e a<|jk e a:=by
 have w:Cl<|.ag [ae.sl e,aa.sl a]:=Cl.bC da;have z:=ahA e a R y;have M:nR e a->∀(d:aa),d∈a->∀f:Nd,hE e a (aa.bd d) f [] 0->az 251 ([]++[f.d]++[]) (B<|!Nd.all oH f):=λp d o f q=>by
  simp only[aY,de];refine(cR) ?_;have:=T4 f<|gS (p.num o q) Zd;exact(ZC)<|Fz.aK C
 simp only[ae.sl,aa.sl]at w z⊢;refine kW.ey [] [.tmp 2,.tmp 3] C C Zk Zt C Zs λt=>?_;simp only[qV,go_sem];refine u' [] z (.c (.cl _ w) .n) ?_;rintro F r⟨j,rfl,g⟩X P;refine(ad @oM) ?_;have G:∀b,F<=b->t<=b:=λb K=>(P b K).1;refine oC (λl=>?_) λl=>?_
 .have i:iz e a=0:=by simpa using l
  have g:=g i;have U:jp e a (a.map aa.bd) [] 0 t (A a) j:=⟨g.len,g.le,g.nodup,λD s=>G D<|g.ge D s,g.qM⟩;have p:=p' ((p0) i) y;have Y:=g.len;have Z:=p.pg.len;have u:=g.all (Nd.all oH) (λV=>gy e a V [] 0) λd ah o s ab=>Uh _ s;refine(ad l) ?_;refine hW (EH j (λf=>!Nd.all oH f) _ [] [] jC Zs Zs λf S=>by
   obtain⟨d,o,q,-⟩:=g.mem S;exact M p d o f q) (.c (ff λf _=>Nd.cl f)<|.c (Cl.ue Zs Zs) .n) ?_
  refine ZS (λm=>?_) λm=>?_
  .have hc:jk e a=9:=by rw[jk,aC<|Yr i,aC<|u.1 m]
   refine(ZN) ?_;exact⟨.tp [.sl 1<|au Nd.d [],I<|jk e a],Fz.lT (.nil 1) AR,Cl.jf da,[],C,λk=>by rw[hc]at k;cases k⟩
  have hc:jk e a=0:=by
   rw[jk,aC<|Yr i,aM];refine My λk=>?_;rw[u.2 k]at m;cases m
  refine(ZN) ?_;exact⟨.tp [.sl 1<|au Nd.d j,I<|jk e a],Fz.lT (.cl _ (ff λf _=>Nd.cl f)) (by rw[hc,i];exact .cl _<|bc _),Cl.jf da,j,C,λ_=>U⟩
 have i:iz e a≠0:=by simpa using l
 have hc:jk e a=iz e a:=by rw[jk,aM i]
 refine(ad l) ?_;exact⟨.tp [.sl 1<|au Nd.d j,I<|jk e a],Fz.lT (.cl _ (ff λf _=>Nd.cl f)) AR,Cl.jf da,j,C,λk=>absurd (hc▸k) i⟩
def YK(e:aF)(a:aO)(U:(bH.mk e a).sz<=1048576)(z:(bH.mk e a).ok):kW aB 116 [.ag [ae.sl e,aa.sl a]]<|MY e a<|gU e a:=by
 have y:Cl<|.ag [ae.sl e,aa.sl a]:=Cl.bC da;have D:=adl e a U z;have P:nR e a->∀(d:aa),d∈a->∀f:Nd,hE e a (aa.bd d) f [] 0->az 180 ([]++[f.d]++[]) (B<|!Nd.all qZ f):=λl d m f q=>by
  simp only[aY,de];refine(dH) ?_;exact(nl<|WC f (gS (l.num m q) Zd)<|QA l _ (l.sh m) q)<|Fz.aK C
 simp only[ae.sl,aa.sl]at y D⊢;refine kW.ey [] [.tmp 2,.tmp 3] C C Zk Zt C Zs λu=>?_;simp only[qV,go_sem];refine u' [] D (.c (.cl _ y) .n) ?_;rintro G r⟨o,rfl,g⟩Z S;refine(ad @oM) ?_;have K:∀b,G<=b->u<=b:=λb M=>(S b M).1;refine oC (λp=>?_) λp=>?_
 .have i:jk e a=0:=by simpa using p
  have g:=g i;have X:jp e a (a.map aa.bd) [] 0 u (A a) o:=⟨g.len,g.le,g.nodup,λF t=>K F<|g.ge F t,g.qM⟩;have l:=p' ((λj=>p0<|sV j) i) z;have ab:=g.len;have ah:=l.pg.len;have w:=g.all (Nd.all qZ) (λY=>fy e a Y [] 0) λd ak m t R=>Wt _ (l.sh m) t ⟨R,rq,rq⟩;refine(ad p) ?_;refine hW (EH o (λf=>!Nd.all qZ f) _ [] [] jC Zs Zs λf V=>by
   obtain⟨d,m,q,-⟩:=g.mem V;exact P l d m f q) (.c (ff λf _=>Nd.cl f)<|.c (Cl.ue Zs Zs) .n) ?_
  refine ZS (λs=>?_) λs=>?_
  .have hc:gU e a=10:=by rw[gU,aC<|Yr i,aC<|w.1 s]
   refine(ZN) ?_;exact⟨.tp [.sl 1<|au Nd.d [],I<|gU e a],Fz.lT (.nil 1) AR,Cl.jf da,[],C,λj=>by rw[hc]at j;cases j⟩
  have hc:gU e a=0:=by
   rw[gU,aC<|Yr i,aM];refine My λj=>?_;rw[w.2 j]at s;cases s
  refine(ZN) ?_;exact⟨.tp [.sl 1<|au Nd.d o,I<|gU e a],Fz.lT (.cl _ (ff λf _=>Nd.cl f)) (by rw[hc,i];exact .cl _<|bc _),Cl.jf da,o,C,λ_=>X⟩
 have i:jk e a≠0:=by simpa using p
 have hc:gU e a=jk e a:=by rw[gU,aM i]
 refine(ad p) ?_;exact⟨.tp [.sl 1<|au Nd.d o,I<|gU e a],Fz.lT (.cl _ (ff λf _=>Nd.cl f)) AR,Cl.jf da,o,C,λj=>absurd (hc▸j) i⟩
def p4(d b:bq)(a:BA):cZ (d++b) a=(cZ b a).or (cZ d a):=by
 unfold cZ;rw[Au,find?_append]
theorem px{b:bq}(a:gs∉b.map Ev.n):cZ b gs=Q:=by
 unfold cZ;exact Zg
theorem l9{b:bq}{d:Ev}(e:cZ b gs=E d):d∈b/\d.n=gs:=
 ⟨by have a:=x7 e;simpa using a,by have a:=find?_some e;simpa using a⟩
theorem ta{b:bq}(d:gs∈b.map Ev.n):∃y,cZ b gs=E y:=by
 rcases a:cZ b gs with _|y
 .unfold cZ at a;exact Zg
 exact⟨y,C⟩
def J2:∀{t:L}{b:aX}{d:BA},fv t b d->d∉b
 |.mk i v j t k g,b,d,a=>by
  rw[fv,rL]at a;obtain⟨_,rfl,a⟩|⟨f,e,a⟩:=a
  .exact a
  exact λh=>J2 (t:=g[f]) a<|gf _ h
termination_by t=>t
decreasing_by
 have:=fl<|aD e;simp;omega
def Ul{b e:g2->Option ld}:∀{a:List g2},(∀c∈a,b c=e c)->a.mapM b=a.mapM e
 |[],_=>rfl
 |c::a,f=>by rw[om,om,f c Zs,Ul λd g=>f d<|Yr g]
def w9:∀(h:L)(f g:aX)(b:BA),b∉g->(fv h (g++f) b↔fv h f b)
 |.mk j v k h l i,f,g,b,e=>by
  rw[fv,fv,rL,rL];refine Dn (and_congr_right λ_=>⟨λa=>⟨a.1,λq=>a.2<|gq _ q⟩,λa=>⟨a.1,λq=>?_⟩⟩) ⟨λ⟨d,a,q⟩=>⟨d,a,?_⟩,λ⟨d,a,q⟩=>⟨d,a,?_⟩⟩
  .obtain q|q:=ca.1 q
   .exact e q
   exact a.2 q
  .rw[dy]at q;exact(w9 i[d] _ _ b e).1 q
  rw[dy];exact(w9 i[d] _ _ b e).2 q
decreasing_by
 all_goals
  have:=fl<|aD a;simp;omega
def qG{k v:Int}{n:BA}{t:J}{ns:aX}{i:Nat}(b:i<A h1){a:BA}(e:a∉cW k n ns i)(d:fv h1[i] [] a):fv (.mk k v n t ns h1) [] a:=by
 rw[fv,rL];refine aj ⟨i,b,?_⟩;rw[ew,aY];have f:=(w9 h1[i] [] (cW k n ns i) a e).2 d;rwa[de]at f
theorem aaE{v:Int}{b:BA}{a:BA}(g:fv (.mk a3 v b he hH h1) [] a):(a3=1/\b=a)\/∃(d:Nat)(f:d<A h1),a∉cW a3 b hH d/\fv h1[d] [] a:=by
 rw[fv,rL]at g;obtain⟨j,k,-⟩|⟨e,f,i⟩:=g
 .exact aG ⟨j,k⟩
 rw[ew,aY]at i;have h:=J2 i;refine aj ⟨e,f,h,(w9 h1[e] [] (cW a3 b hH e) a h).1 Zg⟩
abbrev gl(e:bq)(x:BA):Option J:=(cZ e x).map Ev.t
theorem ahh{b f d:bq}{a:BA}(h:b.map Ev.n=d.map Ev.n)(i:a∈b.map Ev.n->gl b a=gl d a)(g:a∉b.map Ev.n->gl it a=gl f a):gl (it++b) a=gl (f++d) a:=by
 unfold gl at*;rw[p4,p4];by_cases e:a∈b.map Ev.n
 .have⟨k,j⟩:=ta e;exact Zg
 rw[px e,px (show a∉d.map Ev.n by rw[<-h];exact e),oZ,oZ];exact g e
def w4(a:aF)(b:BA)(d:aX)(e f:Int)(g:BA):(dA a b d e).map Ev.n=(dA a b d f).map Ev.n/\gl (dA a b d e) g=gl (dA a b d f) g:=by
 refine⟨by simp[dA,CW],?_⟩;unfold gl cZ dA;rw[<-uK,<-uK,find?_map,find?_map,Hp,Hp];rfl
def GP{i:aF}{p:aO}:∀(o:L)(r s:bq)(a b:Int),Sh i o->(∀f,fv o [] f->gl r f=gl s f)->bt i p o r a=bt i p o s b
 |.mk z v g o j k,r,s,a,b,q,I=>by
  have y (e:Nat) (m:e<A k) (F G:bq) (a b:Int) (J:F.map Ev.n=cW z g j e) (O:G.map Ev.n=cW z g j e) (P:(∀f,gl F f=gl G f)):bt i p k[e] (r++F) a=bt i p k[e] (s++G) b:=
   GP k[e] _ _ _ _ (q.dh _<|aD m) λf U=>ahh (J.trans O.symm) (λ_=>P f) λD=>I f (qG m (by rwa[<-J]) U)
  have w (e:Nat) (m:e<A k) (a b:Int) (u:cW z g j e=[]):bt i p k[e] r a=bt i p k[e] s b:=by
   have h:=y e m [] [] a b (Yf u) (Yf u) λ_=>C;rwa[de,de]at h
  have x:=q.len;obtain rfl|rfl|rfl|rfl|rfl|rfl|rfl|rfl|rfl|rfl|rfl|⟨V,Z,aa,ab,ad,ae,ah,ak,al,X,Y⟩:=rW z
  case inl=>
   have h:=I g ID;unfold gl at h;simp[bt,kN,h]
  case inr.inl=>simp[bt,kN]
  case inr.inr.inr.inl=>
   obtain⟨l,rfl⟩:=q.one<|aG C;have h:=y 0 Zs [⟨g,o,a⟩] [⟨g,o,b⟩] a b jq jq λf=>by unfold gl cZ;by_cases D:g=f<;>simp[D]
   simp only[fA]at h;simp[bt,kN,oe,h]
  case inr.inr.inr.inr.inr.inl=>
   obtain⟨l,rfl⟩:=q.one<|aj<|aG C;have h:=w 0 Zs (a+1) (b+1) jq;simp only[fA]at h;simp[bt,kN,oe,h]
  case inr.inr.inr.inr.inr.inr.inl=>
   simp[bY,dw]at x;obtain⟨l,d,rfl⟩:=v7 (show A k=2 by omega);rw[qX,qX];have t:=w 0 Zs a b jq;simp only[fA]at t;rw[t];refine eo _ (funext λM=>eo _ (funext λf=>?_));have h:=y 1 Zs [⟨g,f.1,a+f.2⟩] [⟨g,f.1,b+f.2⟩] a b jq jq λam=>by unfold gl cZ;by_cases D:g=am<;>simp[D]
   exact h
  case inr.inr.inr.inr.inr.inr.inr.inr.inl=>
   simp[bY,dw]at x;obtain⟨l,B,rfl⟩:∃l B,k=l::B:=by cases k with
    |nil=>simp at x
    |cons l B=>exact⟨l,B,C⟩
   have u e:cW 9 g j e=[]:=jq;rw[vZ,vZ];have t:=w 0 Zs a b<|u 0;simp only[fA]at t;rw[t];refine eo _ (funext λM=>?_);split
   .refine eo _ (jn λd S=>?_);obtain⟨e,m,rfl⟩:=ec S;exact w (e+1) (Yq m) a b<|u _
   rfl
  case inr.inr.inr.inr.inr.inr.inr.inr.inr.inl=>
   obtain⟨l,rfl⟩:=q.one<|aj<|aj C;have ao:=q.xB C;rw[zW,zW];have K a:(dA i g j a).map Ev.n=j:=by
    have h:(dA i g j a).map Ev.n=(j.zip<|kG i g).map Prod.fst:=by simp[dA,CW]
    rw[h,Hj Zo]
   exact y 0 Zs (dA i g j a) (dA i g j b) a b (by rw[K];simp[cW]) (by rw[K];simp[cW]) λf=>(w4 i g j a b f).2
  case inr.inr.inr.inr.inr.inr.inr.inr.inr.inr.inr=>simp[bY,dw,V,Z,aa,ab,ad,ae,ah,ak,al,X,Y]at x;omega
  all_goals
   rw[ti Zs,ti Zs];refine eo (λan=>Option.bind an _) (Ul λl R=>?_);obtain⟨e,m,rfl⟩:=ec R;exact w e m a b jq
decreasing_by
 have h:=fl<|aD m;simp;omega
def Ug:∀(a:L){z:Nd}{h:bb}{g:Int},Sh a5 a->hE a5 be a z h g->gy a5 be a (h.map Bi.e) g->∀i,fv a [] i->∀b,du h i=E b->g<=b.e.l
 |.mk x v F a G y,_,h,g,o,.mk (al:=al) (bs:=bs) (b:=A) u B p D s,j,i,w,b,q=>by
  rw[xr]at j;obtain⟨rfl,rfl⟩|⟨f,d,t,r⟩:=aaE w
  .have:=j.2.1 C b.e (by rw[xp,q];rfl);omega
  have k:=j.2.2 f d;rw[<-FG p]at k;have m:=Ug y[f] (o.dh _<|aD d) (s f d Zo) k i r b (by
   rw[zL,qP,vG (b:=if eB x f then bs else[]) (by rw[FI o (Yf u) p];exact t),oZ,q])
  unfold ct at m;split at m<;>omega
termination_by a=>a
decreasing_by
 have:=fl<|aD d;simp;omega
mutual
def jF:L->List ByteArray->List ByteArray
 |.mk k _ n _ ns ks,sc=>(if k=1/\n∉sc then[n]else[])++vr k n ns ks 0 sc
def vr(k:Int)(n:ByteArray)(ns:List ByteArray):List L->Nat->List ByteArray->List ByteArray
 |[],_,_=>[]
 |c::cs,i,sc=>jF c (sc++cW k n ns i)++vr k n ns cs (i+1) sc
end
def jV(a:aX)(x:BA):aX:=if x∈a then a else a++[x]
mutual
def SB:∀(t:L)(sc out:List ByteArray),fN t sc out=(jF t sc).foldl jV out
 |.mk k v n ty ns ks,sc,out=>by
  rw[fN,jF,so,SC k n ns ks];congr 1;by_cases h:k=1/\n∉sc
  .rw[aM h];have:k4 sc n=af:=by rw[Hb];exact λq=>h.2 (xc.1 q)
   simp only[h.1,rh,this,CV,kf,oj,foldl_nil,jV];by_cases q:n∈out
   .simp[xc.2 q,q]
   have:k4 out n=af:=by rw[Hb];exact λz=>q (xc.1 z)
   simp[this,q]
  rw[aC h,aC]
  .rfl
  intro q;simp only[cy,ee,oV]at q;exact h ⟨q.1.1,λz=>by rw[xc.2 z]at q;simp at q⟩
def SC(k:Int)(n:ByteArray)(ns:List ByteArray):∀(l:List L)(i:Nat)(sc out:List ByteArray),gW k n ns l i sc out=(vr k n ns l i sc).foldl jV out
 |[],_,_,_=>by rw[gW,vr];rfl
 |c::cs,i,sc,out=>by rw[gW,vr,so,SB c,SC k n ns cs]
end
def E8(d:Int)(e:BA)(f:aX):∀(g:bu)(a:Nat)(sc:aX),vr d e f g a sc=ao (g.mapIdx λb c=>jF c<|sc++cW d e f (a+b))
 |[],_,_=>by rw[vr];rfl
 |c::h,a,sc=>by
  rw[vr,E8 d e f h,mapIdx_cons,dT];congr 3;funext b c;rw[jA,tA 1 b]
theorem aaw(b:g2->Bool)(a:List<|List g2):a.flatten.filter b=ao (a.map<|List.filter b):=cq
theorem UQ:∀(j:L){o:Nd}{d g:bb}{y:Int},Sh a5 j->hE a5 be j o (d++g) y->Ap o (d++g)->
 o.p7.filter (λb=>ah<|b.id∈a7 d)=(jF j (g.map λb=>b.e.n)).filterMap (du d)
 |.mk w v z j U x,_,d,g,y,t,.mk (al:=al) (bs:=bs) (b:=B) J k F I G,r=>by
  rw[Nd.Ge,jF,Hg,filterMap_append];show B.toList.filter _++(ao<|al.map Nd.p7).filter _=_;congr 1
  .rw[k];have R:∀b∈g,b.id∉a7 d:=λb k h=>by
    have a:=r.s;rw[a7,bX,iQ]at a;exact a.2.2 _ h _ (aP.2 ⟨b,k,C⟩) C
   by_cases i:w=1
   .rw[aM i,qP];by_cases h:z∈g.map λb=>b.e.n
    .have⟨V,S,M,O⟩:=zp h;exact Zg
    rw[vG h,aM ⟨i,h⟩,oZ];rcases m:du d z with _|b
    .simp[m]
    have a:=(pv m).1;have a:b.id∈a7 d:=aP.2 ⟨b,a,C⟩;simp[m,a]
   rw[aC i,aC λK=>i K.1];rfl
  rw[E8,aaw,filterMap_flatten,eu];congr 1;refine lX (Yr I) λf D P=>?_;have u:f<A al:=Yq D;have l:f<A x:=Zo;simp only[fk,wo,Ah,ew];have p:=G f l u;rw[zL,dy]at p;have q:=r.dh (if eB w f then bs else[]) AQ al[f]<|aD u;rw[dy]at q;have a:=UQ x[f] (t.dh _<|aD l) p q;rw[a,bX,FI t (Yf J) F]
decreasing_by
 have a:=fl<|aD l;simp;omega
theorem S8(d:Bi->Bool)(o:∀a b:Bi,a.id=b.id->d a=d b):∀(h f e:bb),((h.foldl fh e).filter d).foldl fh f=(h.filter d).foldl fh ((e.filter d).foldl fh f)
 |[],f,e=>rfl
 |a::h,f,e=>by
  rw[oj,S8 d o h,xW];unfold fh;by_cases i:e.any (λg=>g.id==a.id)=W
  .rw[aM i];split
   .rename_i t;rw[oj];have r:(((e.filter d).foldl fh f).any λg=>g.id==a.id)=W:=by
     simp only[m',ot]at i⊢;have⟨g,q,j⟩:=i;have l:a.id∈a7 ((e.filter d).foldl fh f):=S9<|aj<|aP.2 ⟨g,nP.2 ⟨q,cq⟩,j⟩;have⟨s,p,k⟩:=aP.1 l;exact⟨s,p,k⟩
    have m:fh ((e.filter d).foldl fh f) a=(e.filter d).foldl fh f:=aM r;exact(eo (λg=>(h.filter d).foldl fh g) m).symm
   rfl
  exact Zg
theorem Ks{d:bb}(g:(a7 d).Nodup):∀(e a:aX),(∀x∈a,(du d x).isSome=W)->(e.filterMap<|du d).foldl fh (a.filterMap<|du d)=((e.filter λx=>(du d x).isSome).foldl jV a).filterMap (du d)
 |[],a,_=>rfl
 |x::e,a,i=>by
  rw[MG,xW];rcases h:du d x with _|b
  .simp only[Dh,Af,bT];exact Ks g e a i
  simp only[oY,bx,oj];have l:fh (a.filterMap<|du d) b=(jV a x).filterMap (du d):=by
   unfold fh jV;by_cases r:x∈a
   .exact Zg
   rw[aC r,aC]
   .simp[h]
   simp only[m',ot,not_exists,not_and];intro u o k;have⟨j,f,m⟩:=C_.1 o;have⟨p,s⟩:=pv h;have⟨q,t⟩:=pv m;have:=BG g q p k;exact Zg
  rw[l];refine Ks g e _ λj f=>?_;unfold jV at f;split at f
  .exact i j f
  exact Zg
theorem S7(d:ByteArray->Bool):∀(a b:aX),(a.foldl jV b).filter d=(a.filter d).foldl jV (b.filter d)
 |[],b=>rfl
 |x::a,b=>by
  rw[oj,S7 d a,xW];unfold jV;exact Zg
def Nd.bS(x:Nd):List<|Nd×bb:=(x.ks.drop 1).map λc=>if L.kd x.t=9 then(c.ks.headD c,c.bs)else(c,[])
def Nd.cap(x:Nd):bb:=(x.bS.map λp=>(p.1.fU []).filter λb=>!((p.2++p.1.bB).any λz=>z.id==b.id)).flatten.foldl fh []
def bO(ks:bu)(e:bq):aX:=((ks.drop 1).foldl (λo c=>fN c [] o) []).filter λx=>(cZ e x).isSome
theorem Bg:∀(h:L)(g:aX)(b:BA),b∈jF h g↔fv h g b
 |.mk k v n h m f,g,b=>by
  rw[jF,fv,rL,ca,E8,eL];refine Dn Zg ⟨?_,?_⟩
  .rintro⟨l,j,d⟩;obtain⟨a,e,rfl⟩:=ec j;have i:a<A f:=Yq e;rw[wo]at d;exact⟨a,i,(Bg f[a] _ b).1 d⟩
  rintro⟨a,e,d⟩;refine⟨_,aD (n:=a)<|Yq e,?_⟩;rw[wo];exact(Bg f[a] _ b).2 d
decreasing_by
 all_goals
  have:=fl<|aD Zg;simp;omega
def BQ(a:a3=9\/a3=11)(d:BA)(e:aX)(b:Nat):cW a3 d e b=[]:=by obtain rfl|rfl:=a<;>simp[cW]
theorem SD{k:aF}{d v:Int}{r:BA}{f:bu}{id:Nat}{ty:J}{g:Int}{al:eg}{bs t:bb}(z:d=9\/d=11)(P:Sh k<|.mk d v r he hH f)(R:d=9->∀(a:Nat)(o:a<A f),0<a->L.kd f[a]=10)
 (o:hE k be (.mk d v r he hH f) (.mk id (.mk d v r he hH f) ty g al bs Do) t g) (O:Ap (.mk id (.mk d v r he hH f) ty g al bs Do) t) (a:Nat) (y:a<A f) (I:a<A al) (M:0<a):
 ∃(i:L)(u:Nd)(h:bb),(u,h)=(if d=9 then(al[a].ks.headD al[a],al[a].bs)else(al[a],[]))/\hE k be i u (t++h) g/\Ap u (t++h)/\Sh k i/\jF f[a] []=jF i (h.map λb=>b.e.n)/\
  (if d=9 then∃D s B j,f[a]=.mk 10 D s B j [i]/\h.map Bi.e=dA k s j g/\h.map (λb=>b.e.n)=j else i=f[a]/\h=[]):=by
 cases o with|mk ao ae ak an U=>
 have p:=U a y I;have S:eB d a=af:=by obtain rfl|rfl:=z<;>simp[eB]
 have Z:ct d g=g:=by obtain rfl|rfl:=z<;>simp[ct]
 rw[S,aC Zs,Z]at p;have x:=O.dh [] (aj C) al[a]<|aD I;rw[de]at x;have q:=P.dh _<|aD y;obtain rfl|rfl:=z
 .have w:=R C a y M;generalize am:f[a]=ab at p q w;generalize al[a]=u at p x;have⟨aq,D,s,B,j,au⟩:=ab;simp only[L.kd]at w;subst w;obtain⟨i,rfl⟩:=q.one<|aj<|aj C;cases p with|@mk _ _ _ _ _ _ ap av _ ar m ad _ aa ah G Y V=>
  obtain⟨K,rfl⟩:=kw.1 Y;have F:=V 0 Zs Zs;have X:ct 10 g=g:=lI;simp only[eB,rh,Int.reduceEq,Dm,Ay,bx,fA,X]at F;have l:=EU q<|Yf aa;rw[<-G,eu]at l;have l:m.map (λb=>b.e.n)=j:=by
   have o:m.map (λb=>b.e.n)=_:=l;simpa using o
  refine⟨i,K,m,by simp[Nd.ks,Nd.bs],F,x.dh m (aG C) K Zs,q.dh _ Zs,?_,?_⟩
  .rw[jF,E8];simp[cW,l]
  rw[aM C];exact⟨D,s,B,j,C,by rw[G];simp[gw],l⟩
 exact Zg
def foldl_flatMap{Z:Type}(d:Z->ld->Z)(e:g2->List ld):∀(b:List g2)(a:Z),b.foldl (λa x=>(e x).foldl d a) a=(b.map e).flatten.foldl d a
 |[],a=>rfl
 |x::b,a=>by rw[oj,foldl_flatMap d e b,b4,dT,so]
def Ex{h v:Int}{r:BA}{u:J}{t:aX}{e:bu}{id:Nat}{ty:J}{G:Int}{al:eg}{bs j:bb}{w:bq}(aa:h=9\/h=11)(ap:Sh a5<|.mk h v r u t e)(aq:h=9->∀(a:Nat)(O:a<A e),0<a->L.kd e[a]=10)
 (O:hE a5 be (.mk h v r u t e) (.mk id (.mk h v r u t e) ty G al bs Do) j G) (X:Ap (.mk id (.mk h v r u t e) ty G al bs Do) j) (Y:∀f,fv (.mk h v r u t e) [] f->((cZ w f).isSome=(du j f).isSome)):
 (Nd.mk id (.mk h v r u t e) ty G al bs Do).cap=(bO e w).filterMap (du j)/\∀f∈bO e w,(du j f).isSome=W:=by
 have az:A al=A e:=by cases O;assumption
 have ab f (p:f∈ao ((e.drop 1).map λc=>jF c [])):fv (.mk h v r u t e) [] f:=by
  have⟨ad,aA,p⟩:=eL.1 p;obtain⟨c,au,rfl⟩:=aP.1 aA;obtain⟨a,P,rfl⟩:=ec<|uL au;exact qG P (Yx<|BQ aa)<|(Bg _ _ _).1 p
 have ar:bO e w=((ao ((e.drop 1).map λc=>jF c [])).filter λf=>(du j f).isSome).foldl jV []:=by
  unfold bO;have x:(λ(o:aX)(c:L)=>fN c [] o)=λo c=>(jF c []).foldl jV o:=D6;rw[x,foldl_flatMap jV λc=>jF c [],S7,filter_nil];congr 1;exact filter_congr λf p=>Y f<|ab f p
 constructor
 .have Z:∀g:List (bb),g.flatten.foldl fh []=g.foldl (λo ad=>ad.foldl fh o) []:=λg=>JX fh g [];unfold Nd.cap;rw[ar];have I:=Ks X.s (ao ((e.drop 1).map λc=>jF c [])) [] Zs;rw[filterMap_nil]at I;rw[<-I,filterMap_flatten,Z,Z];have av:(Nd.mk id (.mk h v r u t e) ty G al bs Do).bS=(al.drop 1).map λc=>if h=9 then(c.ks.headD c,c.bs)else(c,[]):=C
  rw[av,eu,foldl_map,eu,foldl_map];have step (a:Nat) (P:a<A e) (ax:a<A al) (I:0<a) (o:bb):((λb:Nd×bb=>(b.1.fU []).filter λi=>!((b.2++b.1.bB).any λy=>y.id==i.id)) (if h=9 then(al[a].ks.headD al[a],al[a].bs)else(al[a],[]))).foldl fh o=((jF e[a] []).filterMap<|du j).foldl fh o:=by
   obtain⟨c,y,S,ae,k,l,ak,am,-⟩:=SD aa ap aq O X a P ax I;rw[<-ae];simp only;rw[Nd.B_,S8 (λi=>!((S++y.bB).any λz=>z.id==i.id)) λU b q=>by simp only[q],filter_nil,foldl_nil];have an:y.p7.filter (λi=>!((S++y.bB).any λz=>z.id==i.id))=y.p7.filter λb=>ah<|b.id∈a7 j:=filter_congr λi aB=>by
    have m:=Gf c k i aB;by_cases q:i.id∈a7 j
    .simp only[q,rh,oV,wj,ot];intro z hw w;obtain hw|hw:=ca.1 hw
     .have x:=l.s;rw[a7,bX,iQ]at x;exact x.2.2 _ q _ (aP.2 ⟨z,hw,C⟩) w.symm
     apply l.d _<|y.Kq z hw;rw[w,a7,bX];exact gf _ q
    simp only[q,mw,Mw,m',ot];obtain m|m:=m
    .obtain m|m:=ca.1 m
     .exact absurd (aP.2 ⟨i,m,C⟩) q
     exact⟨i,gf _ m,C⟩
    exact⟨i,gq _ m,C⟩
   rw[an,UQ c ak k l,am]
  have gen:∀(g:eg)(B:bu)(F:g.length=A B)(K:∀(a:Nat)(k:a<g.length)(l:a<A B)(o:bb),((λb:Nd×bb=>(b.1.fU []).filter λi=>!((b.2++b.1.bB).any λy=>y.id==i.id)) (if h=9 then(g[a].ks.headD g[a],g[a].bs)else(g[a],[]))).foldl fh o=((jF B[a] []).filterMap<|du j).foldl fh o)(o:bb),
   g.foldl (λo c=>((λb:Nd×bb=>(b.1.fU []).filter λi=>!((b.2++b.1.bB).any λy=>y.id==i.id)) (if h=9 then(c.ks.headD c,c.bs)else(c,[]))).foldl fh o) o=B.foldl (λo c=>((jF c []).filterMap<|du j).foldl fh o) o:=by
   intro g
   induction g with
   |nil=>intro B F K o;cases B with
    |nil=>rfl
    |cons=>simp at F
   |cons U g R=>
    intro B F K o;obtain _|⟨b,B⟩:=B
    .simp at F
    rw[oj,oj];have V:=K 0 Zs Zs o;simp only[fA]at V;rw[V];exact R B (Yq F) (λa k l o=>K (a+1) (Yq k) (Yq l) o) _
  exact gen (al.drop 1) (e.drop 1) (Yr az) (λa k l o=>by
   rw[sr,sr];exact step (1+a) _ _ Zo o) []
 intro f p;unfold bO at p;have⟨k,l⟩:=nP.1 p;have x:(λ(o:aX)(c:L)=>fN c [] o)=λo c=>(jF c []).foldl jV o:=D6;rw[x,foldl_flatMap jV λc=>jF c []]at k;have ay:∀(D M:aX),f∈D.foldl jV M->f∈M\/f∈D:=λD=>by
  induction D with
  |nil=>exact λM q=>aG q
  |cons U D R=>
   intro M q;obtain q|q:=R _ q
   .unfold jV at q;split at q
    .exact aG q
    obtain q|q:=ca.1 q
    .exact aG q
    simp at q;subst q;exact aj Zs
   exact aj<|Yr q
 obtain q|q:=ay _ _ k
 .cases q
 rw[<-Y f (ab f q)];exact l
def QD{s:St}{b i j h:Nat}{ty d:a6}{S:ax}{f:g2->D}{l:List g2}{a:g2}(q:cE g3 ty=E (d,1,h))(u:aL S s.H d 1 (au f l)<|s.env i)(w:dS s d 1 (s.env j)=E (1,[f a]))(r:cO (f a)=W)
 (p:(A l+1)*h<=140737488355328) (hp:1<=h) (t:b<s.nt) (o:∀H n g,aL [b] H d 1 (au f<|l++[a]) g->(∀e,e≠b->e∉S->H e=s.H e)->c2 ({s with H:=H,n:=n}.put (E b) g)):Ed g3 gt ty i j b c2 s:=
 QE (bD:=au f [a]) q u (ha l) (by simpa[au]using w) kl (by simp[au,r]) (by simpa[au]using p)
  OJ t λH n g k m=>o H n g (by rw[r9];exact k) m
def yh(x:Nd):Prop:=(L.kd x.t=11/\A x.ks=3)\/(L.kd x.t=9/\1<=A x.ks/\∀c∈x.ks.drop 1,∃y,c.ks=[y])
abbrev dK(p:bb):D:=.sl 1<|au Bi.d p
def rC(a:bb):Cl<|dK a:=ff λb _=>Bi.cl b
def Nd.U1(a:Nd):∃b e i j k l m o p q f g h,a.d=.pa a.id [b,e,i,j,k,l,m,o,p,q,f,g,.sl 1<|au Nd.d a.ks,.sl 1<|au Bi.d a.bs,h]:=by
 obtain⟨s,⟨t,v,x,⟨z,B,A⟩,y,D⟩,⟨F,I,G⟩,w,u,bs,r⟩:=a;simp only[Nd.d,L.ds,J.ds,bg,aY,Nd.ja,Nd.id,Nd.ks,Nd.bs];exact⟨_,_,_,_,_,_,_,_,_,_,_,_,_,C⟩
def SA(x:Nd)(D:yh x)(U:A x.ks<=1048576):az 183 [x.d]<|.tp [.sl 1<|au Nd.d<|x.bS.map Prod.fst,.sl 1<|au dK<|x.bS.map Prod.snd]:=by
 obtain⟨i,⟨u,v,Z,⟨aK,aN,aM⟩,aJ,aO⟩,⟨aP,aR,aQ⟩,l,g,bs,ae⟩:=x;have D:(u=11/\A g=3)\/(u=9/\1<=A g/\∀e∈g.drop 1,∃j,e.ks=[j]):=D;have U:A g<=1048576:=U;have ar:(Nd.mk i (.mk u v Z (.mk aK aN aM) aJ aO) (.mk aP aR aQ) l g bs ae).bS=(g.drop 1).map λe=>if u=9 then(e.ks.headD e,e.bs)else(e,[]):=C
 have lM:cE aB 149=E (156,1,8):=Zk;have G:cE aB 152=E (210,1,24):=Zk;rw[ar,eu,eu];have f1:1<=A g->((1:Int)<=(A g:Int))=True:=λI=>dM Zo;have J:((0:Int)<=1)=True:=Zs;have aa:Int.toNat 1=1:=C;have V:Y (A g) (au Nd.d g)=au Nd.d g:=dj (by rw[fg];omega);refine(ki [] [.tmp 2,.tmp 3]) ?_;simp only[Nd.d,Nd.ja,go_sem];obtain⟨rfl,am⟩|⟨rfl,al,ax⟩:=D
 .refine(ZN)<|pe [0,1,2,3,4,6,5,7] [] [] fb Zk ?_;have B:=f1 Zo;have aI:si aB 210=[bp]:=Zk;have aq:(g.drop 1).map (Prod.fst∘λe:Nd=>if(11:Int)=9 then(e.ks.headD e,e.bs)else(e,[]))=g.drop 1:=by simp[CW]
  simp only[B,J,aa,V,aI,G,aq,zK,go_sem];refine⟨Zd,Fz.lT (.cl _ (ff λj _=>Nd.cl j)) ?_⟩;obtain⟨a,b,e,rfl⟩:=TZ am;refine Fz.ms 17 ⟨0,210,1,[bp,bp],Q⟩ [[.sl 1 []],[.sl 1 []]] (λ_ _=>.sc<|.slice Q 0 0) bF C Zd (λi r o=>by obtain _|_|i:=i<;>simp at o<;>subst o<;>rfl) (λi r p d o q=>?_) λi r p d o q=>?_
  .obtain _|_|i:=i<;>simp at o<;>subst o<;>obtain _|p:=p<;>simp at q<;>simp
  obtain _|_|i:=i<;>simp at o<;>subst o<;>obtain _|p:=p<;>simp at q<;>subst q<;>exact .nil 1
 have B:=f1 al;have ap:A (au Nd.d<|g.drop 1)=A (g.drop 1):=fg _ _;simp only[B,J,aa,V,zK,ap,go_sem];generalize ao:g.drop 1=k at*;have a8:A k<=1048576:=by rw[<-ao,C9];omega
 refine lp 24 (A k) [22,23] (λm env w Z ab=>aL [36] w 156 1 (au Nd.d ((Y m k).map λe=>e.ks.headD e)) (env 2)/\aL [43] w 210 1 (au dK ((Y m k).map λe=>e.bs)) (env 3)) ⟨aG ⟨C,C⟩,aG ⟨C,C⟩⟩ ?_;rintro m env w a' ab aU a9⟨s,t⟩;obtain⟨bd,y⟩:=Zx<|env 2;obtain⟨bf,z⟩:=Zx<|env 3;rw[y]at s;rw[z]at t;refine ZL (λbw=>?_) λI=>?_
 .have ak:=jx (f:=Nd.d) bw;obtain⟨j,X⟩:=ax _<|aD bw;obtain⟨aV,aW,a0,a1,a2,a3,a4,a5,a6,a7,aX,aY,aZ,P⟩:=Nd.U1 k[m];rw[X]at P;have av:(au Nd.d [j])[0]?=E [Nd.d j]:=C;obtain⟨F,R⟩:∃F,j.d=.pa j.id F:=by obtain⟨_,_,_,_,_,_,_,_,_,_,_,_,_,ah⟩:=Nd.U1 j;exact⟨_,ah⟩
  have ay:(Y (m+1) k).map (λe=>e.ks.headD e)=(Y m k).map (λe=>e.ks.headD e)++[j]:=by rw[dm bw,bX];simp[X]
  have aC:(Y (m+1) k).map (λe=>e.bs)=(Y m k).map (λe=>e.bs)++[k[m].bs]:=wH;refine(ad<|JJ ak P)<|rH (.bS [0,1,2,3,4,5,6,9,10,11,12,13] 7 (.bS [] 8 (.fin [14,15,16,17]) 14<|.fin [8,15,16,17]) 14<|.fin [7,8,15,16,17]) [] [] fb Zk ?_;simp only[av,R,y,z,IY,go_sem];refine⟨⟨?_,?_⟩,?_⟩
  all_goals
   refine QD (S:=[36]) (f:=Nd.d) (l:=(Y m k).map λe=>e.ks.headD e) (a:=j) lM (by simp only[aw,bx,bT,bj,e7,eQ];exact s.aA bF) (by simp[aw,dS,ai,R]) (Nd.one j) ch Zd (by show 36<47;decide) λaS ba bc aF O=>?_;have L:=O 42 Zd Zd;have M:=O 43 Zd Zd;simp only[a_,bN,dG,bj,dv]at L M;refine(ad @IY)<|QD (S:=[43]) (f:=dK) (l:=(Y m k).map λe=>e.bs) (a:=k[m].bs) G (by simp only[aw,bx,bT,bj,e7,eQ];exact t.aA<|Yu M) (by simp[aw,dS,ai,L]) C ch Zd (by show 43<47;decide) λaT bb be aH an=>?_;have K:=an 36 Zd Zd;simp only[a_,dG,bj,dv]at K;refine(ZN) ?_;refine dI ⟨?_,?_⟩
   .rw[ay];simpa[aw]using aF.aA (Yr K)
   rw[aC];simpa[aw]using aH
 obtain rfl:m=A k:=Zo;rw[cc]at s t;simp only[I,y,z,go_sem];refine Fz.lT (mQ s λj _=>Nd.cl j) (mQ t λj _=>rC j)
def eh(i:Int):O:=.mk 1 i [] []
def f'(k:Int)(i:Nat):Nat:=if(k=9\/k=11)/\0<i then 1 else 0
def ix(k:Int)(l:ax):ax:=l.mapIdx λi b=>f' k i+b
def cK(k:Int)(l:ax)(m i:Nat):Nat:=m+(Y i<|ix k l).sum
mutual
def L.bf:L->Nat
 |.mk k _ _ _ _ ks=>(ix k (L.pT ks)).sum
def L.pT:List L->List Nat
 |[]=>[]
 |c::cs=>L.bf c::L.pT cs
end
def L.sO:∀a:bu,L.pT a=a.map L.bf
 |[]=>rfl
 |c::b=>by rw[L.pT,L.sO b];rfl
mutual
def Nd.bf:Nd->Nat
 |.mk _ t _ _ ks _ _=>(ix (L.kd t) (Nd.pT ks)).sum
def Nd.pT:List Nd->List Nat
 |[]=>[]
 |c::cs=>Nd.bf c::Nd.pT cs
end
def Nd.sO:∀a:eg,Nd.pT a=a.map Nd.bf
 |[]=>rfl
 |c::b=>by rw[Nd.pT,Nd.sO b];rfl
def k6(e:bq)(x:BA):Nat:=e.reverse.findIdx λv=>ah<|v.n=x
def ie(vs:ax)(j:Nat):Nat:=vs.reverse.findIdx λi=>ah<|i=j
def mO(ds:aO)(e:bq)(x:BA):O:=if(cZ e x).isSome then eh (k6 e x)else .mk 11 (eV ds x) [] []
def nf(ds:aO)(e:bq)(l:Int)(x:BA):O:=if(cZ e x).any (λv=>ah<|v.l=l+1)then .mk 6 0 [] [mO ds e x]else mO ds e x
def nc(h:O)(l:cm):O:=l.foldl (λh a=>.mk 5 0 [] [h,a]) h
def fM(V:List ae):L->bq
 |.mk k _ n _ ns _=>if k=10 then dA V n ns 0 else[]
def jv(a:bq)(x:BA):BA:=if x∈a.map Ev.n then nE else x
def iv(a vs:bq)(l:Int):bq:=
 a++(vs.map (λv:Ev=>if v.l=l+1 then(⟨nE,mW v.t,0⟩:Ev)else⟨jv a v.n,v.t,0⟩)++(vs.filter λv=>ah<|v.l=l+1).map λv=>⟨jv a v.n,v.t,1⟩)
def gk(n:Nat):List Bool->Nat->Nat->List Int
 |[],_,_=>[]
 |b::l,i,j=>if b then((n:Int)+j-1-i)::gk n l (i+1) (j+1)else gk n l (i+1) j
def nw:Nat->O->O
 |0,c=>c
 |n+1,c=>.mk 4 0 [] [nw n c]
def oF(a:IL)(c:O):O:=a.foldr (λi c=>.mk 7 0 [] [eh i,c]) c
def nJ(V:aF)(k v:Int)(n:BA):Int:=if k=8 then kH 0 V n else v
abbrev AG:=bq->Int->Nat->O×cm
def ig(k:Int)(i:Nat):Prop:=(k=9\/k=11)/\0<i
def j_(V:aF)(ds:aO)(k:Int)(n:BA)(t:J)(ns:aX)(ks:bu)(cs:ax)(a:List AG)(e:bq)(l:Int)(m i:Nat):O×cm:=
 if ig k i then a.getD i (λ_ _ _=>(eh 0,[])) (iv ((ks[i]?.map<|fM V).getD []) ((bO ks e).filterMap<|cZ e) l) 0 (cK k cs m i+1)
 else a.getD i (λ_ _ _=>(eh 0,[])) (cU V ds k n t ns ks e l i) (ct k l) (cK k cs m i)
def q'(V:aF)(ks:bu)(e:bq)(l:Int)(i:Nat)(c:O):O:=
 nw (A ((ks[i]?.map<|fM V).getD [])+A ((bO ks e).filterMap<|cZ e)) (oF (gk (A<|(bO ks e).filterMap<|cZ e) (((bO ks e).filterMap<|cZ e).map λv=>ah<|v.l=l+1) 0 0) c)
def tj(V:aF)(ds:aO)(k v:Int)(n:BA)(t:J)(ns:aX)(ks:bu)(cs:ax)(a:List AG):AG:=λe l m=>
 if k=10 then a.getD 0 (λ_ _ _=>(eh 0,[])) e l m else
 (if k=1 then mO ds e n
  else if k=9\/k=11 then nc (O.mk (if k=9 then 9 else 10) 0 ((range' 1<|A a-1).map λi=>((A ds+cK k cs m i:Nat):Int)) [(j_ V ds k n t ns ks cs a e l m 0).1]) ((bO ks e).map<|nf ds e l)
  else .mk k (nJ V k v n) [] ((cz<|A a).map λi=>(j_ V ds k n t ns ks cs a e l m i).1),
  ao ((cz<|A a).map λi=>(if ig k i then[q' V ks e l i (j_ V ds k n t ns ks cs a e l m i).1]else[])++(j_ V ds k n t ns ks cs a e l m i).2))
mutual
def cV(V:List ae)(ds:List aa):L->AG
 |.mk k v n t ns ks=>tj V ds k v n t ns ks (L.pT ks) (uD V ds ks)
def uD(V:List ae)(ds:List aa):List L->List AG
 |[]=>[]
 |c::cs=>cV V ds c::uD V ds cs
end
def zY(a:aF)(b:aO):∀d:bu,uD a b d=d.map (cV a b)
 |[]=>rfl
 |c::e=>by rw[uD,zY a b e];rfl
abbrev yn:=List Nat->Nat->O
def pS(bK:Int)(vs:ax)(b:Bi):O:=if b.e.l=bK+1 then .mk 6 0 [] [eh<|ie vs b.id]else eh (ie vs b.id)
def vY(k:Int)(n:BA)(ns:aX)(bs:bb)(cs:ax)(a:List yn)(vs:ax)(m i:Nat):O:=
 a.getD i (λ_ _=>eh 0) (if cW k n ns i=[]then vs else vs++a7 bs) (cK k cs m i)
def CI(V:List ae)(ds:List aa)(t:L)(b:Option Bi)(bs d:List Bi)(bK:Int)(cs:List Nat)(a:List yn):yn:=λvs m=>
 match t with
 |.mk k v n _ ns _=>
  if k=1 then(match b with|some b=>eh (ie vs b.id)|none=>.mk 11 (eV ds n) [] [])
  else if k=9\/k=11 then nc (O.mk (if k=9 then 9 else 10) 0 ((range' 1<|A a-1).map λi=>((A ds+cK k cs m i:Nat):Int)) [vY k n ns bs cs a vs m 0]) (d.map<|pS bK vs)
  else .mk k (nJ V k v n) [] ((cz<|A a).map λi=>vY k n ns bs cs a vs m i)
mutual
def kr(V:List ae)(ds:List aa):Nd->yn
 |.mk id t ty l ks bs b=>CI V ds t b bs (Nd.mk id t ty l ks bs b).cap l (Nd.pT ks) (GS V ds ks)
def GS(V:List ae)(ds:List aa):List Nd->List yn
 |[]=>[]
 |c::cs=>kr V ds c::GS V ds cs
end
def GU(a:aF)(b:aO):∀d:eg,GS a b d=d.map (kr a b)
 |[]=>rfl
 |c::e=>by rw[GS,GU a b e];rfl
abbrev Rt:=Nd×List Bi×Nd
def zJ(x:Nd)(a:List<|List Rt):List Rt:=ao (a.mapIdx λi r=>(if ig (L.kd x.t) i then(x.bS[i-1]?).toList.map λp=>(p.1,p.2,x)else[])++r)
mutual
def Nd.fC:Nd->List Rt
 |.mk id t ty l ks bs b=>zJ (.mk id t ty l ks bs b) (Nd.GA ks)
def Nd.GA:List Nd->List (List Rt)
 |[]=>[]
 |c::cs=>c.fC::Nd.GA cs
end
def Nd.VF:∀a:eg,Nd.GA a=a.map Nd.fC
 |[]=>rfl
 |c::b=>by rw[Nd.GA,Nd.VF b];rfl
def gb(bK:Int)(o:Nat->Nat):List Bi->Nat->List Nat
 |[],_=>[]
 |b::bs,j=>if b.e.l=bK+1 then o j::gb bK o bs (j+1)else b.id::gb bK o bs j
def cj(bK:Int)(a:bb):bb:=a.filter λb=>ah<|b.e.l=bK+1
def oz(V:aF)(ds:aO)(r:Rt)(o:bi)(m:Nat):O:=
 nw (A r.2.1+A r.2.2.cap) (oF ((cz<|A<|cj r.2.2.l r.2.2.cap).map λj=>((ie (a7 r.2.1++gb r.2.2.l o r.2.2.cap 0++Y j (a7<|cj r.2.2.l r.2.2.cap)) (o j):Nat):Int))
  (kr V ds r.1 (a7 r.2.1++(gb r.2.2.l o r.2.2.cap 0++a7 (cj r.2.2.l r.2.2.cap))) m))
def rB(V:aF)(ds:aO)(o:Nat->bi)(a:List Rt)(m:Nat):cm:=(a.zipIdx m).map λp=>oz V ds p.1 (o p.2)<|p.2+1
def xi(b:am∉i4):ie (gt++i4) am=A i4+ie gt am:=by
 unfold ie;rw[Au,Hh,aC]
 .rw[MN,tA]
 rw[Hi];rintro⟨e,d,a⟩;simp only[ee]at a;subst a;exact b<|Yq d
def BH(a:am∈i4):ie (gt++i4) am=ie i4 am:=by
 unfold ie;rw[Au,Hh,aM];rw[Hi];exact⟨am,Yq a,Zs⟩
def Km(a:gs∉ro.map Ev.n):k6 (it++ro) gs=A ro+k6 it gs:=by
 unfold k6;rw[Au,Hh,aC]
 .rw[MN,tA]
 rw[Hi];rintro⟨d,b,it⟩;simp only[ee]at it;subst it;exact a<|aP.2 ⟨d,Yq b,C⟩
def Kn(a:gs∈ro.map Ev.n):k6 (it++ro) gs=k6 ro gs:=by
 unfold k6;rw[Au,Hh,aM];rw[Hi];obtain⟨v,b,rfl⟩:=aP.1 a;exact⟨v,Yq b,Zs⟩
def JQ{f:g2->Bool}{g:ld->Bool}:∀{e:List g2}{B:List ld},e.length=A B->(∀(d:Nat)(i:d<e.length)(j:d<A B),f e[d]=g B[d])->e.findIdx f=B.findIdx g
 |[],[],_,_=>rfl
 |a::e,b::B,k,h=>by
  rw[wk,wk,show f a=g b from h 0 Zs Zs,JQ (Yq k) λd i j=>h (d+1) (Yq i)<|Yq j]
def S4{b:ax}{B:bq}(f:b.length=A B)(h:∀(a:Nat)(d:a<b.length)(e:a<A B),b[a]=am↔(B[a]).n=gs):ie b am=k6 B gs:=by
 refine JQ (Yr f) λa d e=>?_;rw[MM,MM];have g:=h (b.length-1-a) (Ys d)<|Ys e;simp only[f]at g⊢;exact lD.2 g
def abq:∀{d:bb}{f:BA}{b:Bi},(a7 d).Nodup->du d f=E b->ie (a7 d) b.id=k6 (d.map Bi.e) f:=by
 intro d f b k a;unfold du at a;unfold ie k6 a7;unfold a7 at k;rw[<-uK,<-uK];have g:(d.reverse.map Bi.id).Nodup:=by rw[uK];exact(reverse_perm _).nodup_iff.2 k
 generalize d.reverse=h at*
 induction h with
 |nil=>cases a
 |cons i h o=>
  rw[b4,b4,wk,wk];rw[find?_cons]at a;by_cases j:i.e.n=f
  .simp only[j,rh]at a⊢;cases a;simp
  simp only[j,mw]at a⊢;rw[b4,lg]at g;have m:=x7 a;have p:i.id≠b.id:=λl=>g.1 (l▸aP.2 ⟨b,m,C⟩);simp only[p,mw,cond_false];rw[o a g.2]
def xP(a:Int)(f:bi):∀(d:bb)(e:Nat),A (gb a f d e)=A d
 |[],_=>rfl
 |b::bs,e=>by rw[gb];split<;>simp[xP a f bs]
def CQ(d:Int)(m:bi):∀(h:bb)(f a:Nat)(q:a<A h)(r:a<A (gb d m h f)),(h[a].e.l=d+1/\∃k,f<=k/\(gb d m h f)[a]=m k)\/(h[a].e.l≠d+1/\(gb d m h f)[a]=h[a].id)
 |b::bs,f,0,_,_=>by
  unfold gb;by_cases g:b.e.l=d+1
  .left;simp[g];exact⟨f,bJ _,C⟩
  right;simp[g]
 |b::bs,f,a+1,q,r=>by
  have o:a<A bs:=Yq q;by_cases g:b.e.l=d+1
  .obtain⟨i,k,j,p⟩|⟨i,j⟩:=CQ d m bs (f+1) a o (by rw[xP];exact o)
   .left;refine⟨Yq i,k,Zo,?_⟩;simp only[gb,g,bx,jm];exact p
   right;refine⟨Yq i,?_⟩;simp only[gb,g,bx,jm];exact j
  obtain⟨i,k,j,p⟩|⟨i,j⟩:=CQ d m bs f a o (by rw[xP];exact o)
  .left;refine⟨Yq i,k,j,?_⟩;simp only[gb,g,bT,jm];exact p
  right;refine⟨Yq i,?_⟩;simp only[gb,g,bT,jm];exact j
def WR(f:Int)(e:bi)(j:a0∈gb f e i9 am):(∃a,am<=a/\a0=e a)\/∃b∈i9,b.id=a0:=by
 obtain⟨i,g,rfl⟩:=ec j;have h:i<A i9:=by rwa[xP]at g
 obtain⟨_,a,d,k⟩|⟨_,d⟩:=CQ f e i9 am i h g
 .exact aG ⟨a,d,k⟩
 exact aj ⟨_,aD h,d.symm⟩
def E_(f:Int)(d:bi)(s:∀g a,d g=d a->g=a)(p:Nat):∀(j:bb)(pre:ax)(g a:Nat),(∀b∈j,∀o,d o≠b.id)->p=g+A j->
 (cz<|A<|cj f j).map (λh=>(((a+h)+ie (pre++gb f d j a) (d<|a+h):Nat):Int))=gk p (j.map λb=>ah<|b.e.l=f+1) g a
 |[],pre,g,a,_,_=>rfl
 |b::bs,pre,g,a,x,r=>by
  have q b (k:b∈bs):∀o,d o≠b.id:=x b<|Yr k;by_cases i:b.e.l=f+1
  .have k:cj f (b::bs)=b::cj f bs:=by simp[cj,i]
   rw[k,dC,Ar,b4,eu,b4,gk];simp only[i,rh,bx];have m:gb f d (b::bs) a=d a::gb f d bs (a+1):=by rw[gb,aM i]
   congr 1
   .rw[m,show pre++d a::gb f d bs (a+1)=(pre++[d a])++gb f d bs (a+1)by simp,oX,xi,xP]
    .have t:ie (pre++[d a]) (d a)=0:=by rw[BH Zs];simp[ie,wk]
     rw[t];simp at r;omega
    intro h;obtain⟨o,B,w⟩|⟨z,y,u⟩:=WR f d h
    .have t:=s _ _ w;omega
    exact q z y a u.symm
   rw[<-(E_ f d s p bs (pre++[d a]) (g+1) (a+1) q<|Ys r)];refine jn λh _=>?_;simp only[Ah,m];rw[show pre++d a::gb f d bs (a+1)=(pre++[d a])++gb f d bs (a+1)by simp,show a+h.succ=a+1+h by omega]
  have k:cj f (b::bs)=cj f bs:=by simp[cj,i]
  have m:gb f d (b::bs) a=b.id::gb f d bs a:=by rw[gb,aC i]
  rw[k,b4,gk];simp only[i,mw,Af,bT];rw[<-(E_ f d s p bs (pre++[b.id]) (g+1) a q<|Ys r)];refine jn λh _=>?_;rw[m,show pre++b.id::gb f d bs a=(pre++[b.id])++gb f d bs a by simp]
def Nd.o8(x:Nd):x.bf=(ix (L.kd x.t)<|x.ks.map Nd.bf).sum:=by cases x;rw[Nd.bf,Nd.sO];rfl
def L.o8{v:Int}:L.bf (.mk a3 v gs he hH h1)=(ix a3<|h1.map L.bf).sum:=by rw[L.bf,L.sO]
def I8:∀(b:L){g:Nd}{h:bb}{f:Int},hE a5 be b g h f->g.bf=L.bf b
 |.mk l v q b r e,_,h,f,.mk (al:=al) (bs:=bs) p m o k hk=>by
  rw[Nd.o8,L.o8];show(ix l<|al.map Nd.bf).sum=_;congr 2;refine lX (Yr k) λa i j=>?_;have d:a<A e:=Yq j;rw[fk,fk];exact I8 e[a]<|hk a d<|Yq i
decreasing_by
 have:=fl<|aD d;simp;omega
def Nd.Gz(a:Nd):a.fC=zJ a (a.ks.map Nd.fC):=by cases a;rw[Nd.fC,Nd.VF];rfl
def w8(a:Nd):A a.bS=A a.ks-1:=by simp[Nd.bS]
def pB(d:Int)(b:Nat):f' d b=if ig d b then 1 else 0:=by
 unfold f';by_cases a:ig d b
 .rw[aM a];exact aM a
 rw[aC a];exact aC a
def LF(a:Nd)(d:List<|List Rt)(h:A d=A a.ks):(d.mapIdx λb r=>(if ig (L.kd a.t) b then(a.bS[b-1]?).toList.map λe=>((e.1,e.2,a):Rt)else[])++r).map A=ix (L.kd a.t) (d.map A):=by
 refine lX (by simp[ix]) λb f i=>?_;have j:b<A a.ks:=Ys f;simp only[fk,wo,ix,b9,pB];congr 1;split
 .rename_i g;rw[bL (by rw[w8];have:=g.2;omega)];simp
 rfl
def zI:∀a:Nd,A a.fC=a.bf:=λa=>by
 have e b (d:b∈a.ks):A b.fC=b.bf:=zI b;rw[Nd.Gz,Nd.o8,zJ,x0,LF a _ Zs,eu];congr 2;exact jn e
decreasing_by exact Nd.lt d
theorem W':∀(b:List<|List g2)(m:Nat),b.flatten.zipIdx m=ao (b.mapIdx λd a=>a.zipIdx<|m+((b.take d).map A).sum)
 |[],m=>rfl
 |a::b,m=>by
  rw[dT,zipIdx_append,W' b,mapIdx_cons,dT];exact Zg
def X2(e:aF)(f:aO)(h:Nat->bi)(x:Nd)(g:Nat):
 rB e f h x.fC g=ao ((cz<|A x.ks).map λa=>(if ig (L.kd x.t) a then((x.bS[a-1]?).toList.map λb=>oz e f (b.1,b.2,x) (h<|cK (L.kd x.t) (x.ks.map Nd.bf) g a)<|cK (L.kd x.t) (x.ks.map Nd.bf) g a+1)else[])++
  rB e f h ((x.ks[a]?.map Nd.fC).getD []) (cK (L.kd x.t) (x.ks.map Nd.bf) g a+f' (L.kd x.t) a)):=by
 rw[Nd.Gz,zJ,rB,W',map_flatten];congr 1;refine lX Zs λa u k=>?_;have m:a<A x.ks:=Yq k;rw[fk,wo,wo,fk,fk,Ao];have o:(List.map A<|Y a<|List.mapIdx (λa r=>(if ig (L.kd x.t) a then(x.bS[a-1]?).toList.map λb=>((b.1,b.2,x):Rt)else[])++r)<|x.ks.map Nd.fC).sum=(Y a<|ix (L.kd x.t)<|x.ks.map Nd.bf).sum:=by
  rw[su,LF x _ Zs,eu];congr 3;exact jn λs _=>zI s
 have p:g+(List.map A<|Y a<|List.mapIdx (λa r=>(if ig (L.kd x.t) a then(x.bS[a-1]?).toList.map λb=>((b.1,b.2,x):Rt)else[])++r)<|x.ks.map Nd.fC).sum=cK (L.kd x.t) (x.ks.map Nd.bf) g a:=Yf o;rw[show((x.ks[a]?.map Nd.fC).getD [])=(x.ks[a]).fC by simp[m]];have q (i B:List Rt) (j:Nat):((i++B).zipIdx j).map (λb=>oz e f b.1 (h b.2)<|b.2+1)=(i.zipIdx j).map (λb=>oz e f b.1 (h b.2)<|b.2+1)++rB e f h B (j+i.length):=by
  rw[zipIdx_append,bX];rfl
 rw[p,q];by_cases d:ig (L.kd x.t) a
 .have l:a-1<A x.bS:=by rw[w8];have:=d.2;omega
  rw[aM d,aM d,pB,aM d,bL l];rfl
 rw[aC d,aC d,pB,aC d];rfl
theorem Sh.case{v:Int}(d:Sh a5<|.mk a3 v gs he hH h1)(a:Nat)(f:a<A h1):L.kd h1[a]=10↔a3=9/\0<a:=by
 have b:=(lN d.gd).1;simp only[qe,hT,gN,cy]at b;have e:=b.2;simp only[np,ee]at e;exact Zg
def ado(a:iC gs=W):gs≠nE:=by
 rintro rfl;simp[iC,jX,F8]at a
def Fe:∀(a:L){i:aX}{e:BA},Sh a5 a->fv a i e->e≠nE
 |.mk l v m a o k,i,e,f,b=>by
  rw[fv,rL]at b;obtain⟨rfl,rfl,-⟩|⟨j,h,b⟩:=b
  .have d:=(lN f.gd).1;simp only[qe,hT,gN,cy]at d;have g:=d.1.2.1.1.1;simp only[l_,Ay,bx]at g;exact ado g
  exact Fe k[j] (f.dh _<|aD h) b
termination_by a=>a
decreasing_by
 have d:=fl<|aD h;simp;omega
structure Cx (V:List ae) (ds:List aa) (t:L) (nd:Nd) (sc:List Bi) (bK:Int):Prop where
 sh:Sh V t
 is:hE V ds t nd sc bK
 ap:Ap nd sc
 lv:gy V ds t (sc.map Bi.e) bK
 ge:∀b∈sc,b.e.l<=bK+1
theorem X1{d:J×Int}(a:jj he=E d):d.2=0\/d.2=1:=by
 have⟨f,g,e⟩:=he;rw[jj]at a;split at a
 .obtain _|⟨b,e⟩:=e
  .cases a
  simp at a;subst a;exact aj C
 exact Zg
theorem aag{V:aF}{ds:aO}{k:Int}{n:BA}{t:J}{ns:aX}{ks:bu}{e:bq}{l:Int}:∀v∈gw V ds k n t ns ks e l,v.l<=l+1:=λv a=>by
 unfold gw at a;split at a
 .simp at a;subst a;simp;omega
 split at a
 .simp only[aP,MW]at a;obtain⟨f,b,rfl⟩:=a;obtain⟨d,-,b⟩:=kU.1 b;have:=X1 b;simp only;omega
 split at a
 .simp only[dA,aP]at a;exact Zg
 cases a
theorem Cx.dh{V:aF}{ds:aO}{k v:Int}{n:BA}{t:J}{ns:aX}{ks:bu}{id:Nat}{ty:J}{f:Int}{al:eg}{bs i:bb}(p:Cx V ds (.mk k v n t ns ks) (.mk id (.mk k v n t ns ks) ty f al bs Do) i f)(d:Nat)(h:d<A ks)(o:d<A al):
 Cx V ds ks[d] al[d] (i++if eB k d then bs else[]) (ct k f):=by
 have⟨q,r,s,j,u⟩:=p;cases r with|mk B a w z x=>
 rw[xr]at j;have m:=x d h o;have g:=j.2.2 d h;rw[<-FG w]at g;rw[zL]at m g;have y:f<=ct k f:=DQ;refine⟨q.dh _<|aD h,m,s.dh _ AQ _<|aD o,g,λb a=>?_⟩;obtain a|a:=ca.1 a
 .have:=u b a;omega
 split at a
 .have:=aag (V:=V) (ds:=ds) (k:=k) (n:=n) (t:=t) (ns:=ns) (ks:=ks) (e:=i.map Bi.e) (l:=f) b.e Zg;omega
 cases a
structure Rl (t:L) (sc:List Bi) (bK:Int) (vs:List Nat) (e:bq) (l:Int):Prop where
 get:∀x,fv t [] x->∀b,du sc x=E b->b.id∈vs/\ie vs b.id=k6 e x/\∃v,cZ e x=E v/\v.t=b.e.t/\v.l+bK=b.e.l+l
 no:∀x,fv t [] x->du sc x=Q->cZ e x=Q
def Rl.BN(d:Rl n8 i9 a3 gt it g1){a:BA}(f:fv n8 [] a):(cZ it a).isSome=(du i9 a).isSome:=by
 rcases e:du i9 a with _|b
 .rw[d.no a f e];rfl
 obtain⟨-,-,v,g,-⟩:=d.get a f b e;rw[g];rfl
def Rl.ty(d:Rl n8 i9 a3 gt it g1){a:BA}(g:fv n8 [] a):gl (i9.map Bi.e) a=gl it a:=by
 unfold gl;rw[xp,Hp];rcases f:du i9 a with _|b
 .rw[d.no a g f];rfl
 obtain⟨-,-,v,i,h,-⟩:=d.get a g b f;rw[i];simp[h]
theorem aah{p:aF}{r:aO}{a v:Int}{f:BA}{o:J}{j:aX}{u:bu}{id:Nat}{ty:J}{g:Int}{al:eg}{bs B:bb}(M:Cx p r (.mk a v f o j u) (.mk id (.mk a v f o j u) ty g al bs Do) B g){s:bq}{h:Int}(X:Rl (.mk a v f o j u) B g gt s h)(L:a≠10)(i:Nat)(ae:i<A u):
 (cW a f j i=[]/\(if eB a i then bs else[])=[]/\cU p r a f o j u s h i=s/\ct a g-g=ct a h-h)\/
 (cW a f j i=[f]/\(∃b,(if eB a i then bs else[])=[b]/\bs=[b]/\b.e.n=f/\cU p r a f o j u s h i=s++[⟨f,b.e.t,b.e.l-g+h⟩])/\ct a g=g/\ct a h=h):=by
 have⟨G,O,Z,aa,ab⟩:=M;cases O with|mk y ad x ak ah=>
 by_cases D:a=4
 .subst D;right;obtain⟨b,rfl⟩:∃b,bs=[b]:=kw.1 (by have k:=eo A x;simpa[gw]using k);have k:b.e=⟨f,o,g⟩:=by simpa[gw]using x
  refine⟨jq,⟨b,by simp[eB],C,Yw k,?_⟩,lI,lI⟩;simp[cU,eB,gw,k]
 by_cases F:a=7/\i=1
 .obtain⟨rfl,rfl⟩:=F;right;have U:=G.len;simp[bY,dw]at U;obtain⟨w,d,rfl⟩:=v7 (show A u=2 by omega);have P:bt p r w (B.map Bi.e) g=bt p r w s h:=GP w _ _ _ _ (G.dh _ Zs) λm z=>X.ty<|qG (i:=0) Zs jq z;rw[qX]at y;have⟨Y,I,y⟩:=kU.1 y;obtain⟨m,z,-⟩:=kU.1 y;have R:gw p r 7 f o j [w,d] (B.map Bi.e) g=[⟨f,m.1,g+m.2⟩]:=by simp[gw,I,z]
  have S:gw p r 7 f o j [w,d] s h=[⟨f,m.1,h+m.2⟩]:=by simp[gw,<-P,I,z]
  rw[R]at x;obtain⟨b,rfl⟩:∃b,bs=[b]:=kw.1 (by have k:=eo A x;simpa using k);have k:b.e=⟨f,m.1,g+m.2⟩:=Yq x;refine⟨jq,⟨b,by simp[eB],C,Yw k,?_⟩,lI,lI⟩;have V:h+m.2=g+m.2-g+h:=Zo;simp[cU,eB,S,k,V]
 left;have K:eB a i=af:=by simp only[eB,jo];rintro(q|q|q);exact D q;exact L q;exact F q
 refine⟨by unfold cW;rw[aC Zg,aC L],Yf K,by rw[cU,K];rfl,?_⟩;unfold ct;split<;>omega
theorem Rl.dh{g v:Int}{k:BA}{s:aX}{m:bu}{id:Nat}{ty:J}{o:Int}{al:eg}{bs y:bb}(O:Cx a5 be (.mk g v k he s m) (.mk id (.mk g v k he s m) ty o al bs Do) y o){x:Int}(r:Rl (.mk g v k he s m) y o gt it x)(Y:g≠10)(j:Nat)(q:j<A m)(aa:j<A al):
 Rl m[j] (y++if eB g j then bs else[]) (ct g o) (if cW g k s j=[]then gt else gt++a7 bs) (cU a5 be g k he s m it x j) (ct g x):=by
 obtain⟨p,z,u,w⟩|⟨p,⟨b,z,u,w,S⟩,U,V⟩:=aah O r Y j q
 .rw[p,z,u,aM C,de];refine⟨λf i b I=>?_,λf i I=>r.no f (qG q (Yx p) i) I⟩;have⟨B,D,v,F,G,P⟩:=r.get f (qG q (Yx p) i) b I;exact⟨B,D,v,F,G,Zo⟩
 rw[p,z,S,aC Zs,U,V,u];have X:∀L∈y,L.id≠b.id:=λL Z h=>by
  have K:=O.ap.d b.id (by rw[Nd.mL];simp[Nd.bs,u]);exact K<|aP.2 ⟨L,Z,h⟩
 refine⟨λf i M a=>?_,λf i a=>?_⟩
 .rw[qP]at a;by_cases h:f=k
  .subst h;have R:du [b] f=E b:=by simp[du,w]
   rw[R]at a;have a:=a;cases a;refine⟨rq,?_,⟨f,b.e.t,b.e.l-o+x⟩,by simp[cZ],C,wF⟩;rw[BH rq,Kn Zs];simp[ie,k6,a7,wk]
  rw[vG (b:=[b]) (by simp[w,h]),oZ]at a;have⟨B,D,v,F,G,P⟩:=r.get f (qG q Zg i) M a;refine⟨gf _ B,?_,v,?_,G,P⟩
  .rw[xi (by simpa[a7]using(X M (pv a).1)),Km<|Yq h,D];simp[a7]
  rw[p4,px<|Yq h,oZ,F]
 rw[qP,Option.or_eq_none_iff]at a;have h:f≠k:=by rintro rfl;have K:=a.1;simp[du,w]at K
 rw[p4,px<|Yq h,oZ];exact r.no f (qG q Zg i) a.2
theorem Sz:∀(b a:aX),a.Nodup->(b.foldl jV a).Nodup
 |[],a,d=>d
 |x::b,a,d=>by
  apply Sz b _;unfold jV;split
  .exact d
  exact Zg
def Yn(b:bu)(a:bq):(bO b a).Nodup:=by
 unfold bO;have d:(λ(o:aX)(c:L)=>fN c [] o)=λo c=>(jF c []).foldl jV o:=D6;rw[d,foldl_flatMap jV λc=>jF c []];exact List.Nodup.sublist filter_sublist<|Sz _ _ Zs
theorem Up:∀(d e:aX)(b:BA),b∈d.foldl jV e↔b∈e\/b∈d
 |[],e,b=>by simp
 |a::d,e,b=>by
  rw[oj,Up d];unfold jV;split
  .exact Zg
  exact Zg
theorem nA{b:bu}:gs∈bO b it↔(cZ it gs).isSome=W/\∃(a:Nat)(h:a<A b),0<a/\fv b[a] [] gs:=by
 unfold bO;have d:(λ(o:aX)(c:L)=>fN c [] o)=λo c=>(jF c []).foldl jV o:=D6;rw[d,foldl_flatMap jV λc=>jF c [],mem_filter,Up,and_comm];refine and_congr_right λ_=>⟨λh=>?_,λ⟨a,h,l,g⟩=>aj ?_⟩
 .obtain h|h:=h
  .cases h
  have⟨m,k,e⟩:=eL.1 h;obtain⟨c,f,rfl⟩:=aP.1 k;obtain⟨a,i,rfl⟩:=ec f;rw[sr]at e;exact⟨1+a,Ys i,Zo,(Bg _ _ _).1 e⟩
 refine eL.2 ⟨jF b[a] [],aP.2 ⟨b[a],?_,C⟩,(Bg _ _ _).2 g⟩;have j:a-1<A (b.drop 1):=co;have d:(b.drop 1)[a-1]=b[a]:=Zg;rw[<-d];exact aD j
def s0{b:g2->Option ld}{d:g2->ld}:∀{a:List g2},(∀x∈a,b x=E (d x))->a.filterMap b=a.map d
 |[],_=>rfl
 |x::a,e=>by rw[MG,e x Zs,b4,s0 λg f=>e g<|Yr f]
def Rl.root{k v:Int}{n:BA}{t:J}{ns:aX}{G:bu}{id:Nat}{ty:J}{i:Int}{al:eg}{bs ak:bb}(bf:k=9\/k=11)(aV:Cx a5 be (.mk k v n t ns G) (.mk id (.mk k v n t ns G) ty i al bs Do) ak i){O:bq}{ad:Int}(bk:Rl (.mk k v n t ns G) ak i gt O ad)
 {g:ByteArray->Bi} {B:ByteArray->Ev} (aq:∀a∈bO G O,du ak a=E (g a)) (bd:∀a∈bO G O,cZ O a=E (B a)) {K:bi} (bF:∀X,∀a∈bO G O,K X≠(g a).id)
 {au:L} {x:bb} {F:bq} (ao:Cx a5 be au m5 (ak++x) i) (br:∀b∈x,b.e.l=i) (bt:∀a,gl (x.map Bi.e) a=gl F a) (aY:F.map Ev.n=x.map λb=>b.e.n) (bo:∀v∈F,v.l=0) (bG:∀X,K X∉a7 x)
 (bz:∀a,fv au [] a->a∉x.map (λb=>b.e.n)->∃(d:Nat)(aV:d<A G),0<d/\fv G[d] [] a):
 Rl au (ak++x) i (a7 x++(gb i K ((bO G O).map g) 0++a7 (cj i<|(bO G O).map g))) (iv F ((bO G O).map B) ad) 0:=by
 have an a (j:a∈bO G O):(g a).id∈a7 ak/\(g a).e.n=a/\(B a).n=a/\(B a).t=(g a).e.t/\(B a).l+i=(g a).e.l+ad:=by
  have⟨u,d,q,a8,aR⟩:=nA.1 j;have bB:=qG (k:=k) (v:=v) (n:=n) (t:=t) (ns:=ns) q (Yx<|BQ bf) aR;obtain⟨-,-,w,y,p,aa⟩:=bk.get a bB _<|aq a j;rw[bd a j]at y;cases y;exact⟨aP.2 ⟨_,(pv<|aq a j).1,C⟩,(pv<|aq a j).2,(l9<|bd a j).2,p,aa⟩
 have bc a (j:a∈bO G O):((B a).l=ad+1↔(g a).e.l=i+1):=Yo<|(an a j).2.2.2.2;have bY:=Yn G O;generalize bn:bO G O=f at*;have aQ:cj i (f.map g)=(f.filter λa=>ah<|(g a).e.l=i+1).map g:=by unfold cj;rw[filter_map];rfl
 have bg:((f.map B).filter λv=>ah<|v.l=ad+1)=(f.filter λa=>ah<|(g a).e.l=i+1).map B:=by
  rw[filter_map];congr 1;exact filter_congr λa j=>by simp only[Ah,bc a j]
 have a9:∀z∈x,z.id∉a7 ak:=λz bN o=>by
  have r:=ao.ap.s;rw[a7,bX,iQ]at r;exact r.2.2 _ o _ (aP.2 ⟨z,bN,C⟩) C
 have bv:(a7 x).Nodup:=by
  have r:=ao.ap.s;rw[a7,bX,iQ]at r;exact r.2.1
 have bH:(a7 ak).Nodup:=aV.ap.s;have aZ a (j:a∈f) P (aT:P∈f) (o:(g a).id=(g P).id):a=P:=by
  have r:=BG bH (pv<|aq a j).1 (pv<|aq P aT).1 o;rw[<-(an a j).2.1,<-(an P aT).2.1,r]
 have aK a:a∈F.map Ev.n↔a∈x.map λb=>b.e.n:=Yw aY;have ab a (j:a≠nE) P (aT:P∈f):(jv F (B P).n=a↔P=a/\a∉x.map λb=>b.e.n):=by
  rw[(an P aT).2.2.1];unfold jv;split
  .rename_i o;exact⟨λz=>absurd z.symm j,λz=>absurd ((aK P).1 o) (z.1▸z.2)⟩
  rename_i o;exact⟨λz=>⟨z,z▸λw=>o<|(aK P).2 w⟩,λz=>z.1⟩
 let R:bq:=(f.map B).map λv:Ev=>if v.l=ad+1 then(⟨nE,mW v.t,0⟩:Ev)else⟨jv F v.n,v.t,0⟩
 let M:bq:=((f.map B).filter λv=>ah<|v.l=ad+1).map λv=>⟨jv F v.n,v.t,1⟩
 have bp:iv F (f.map B) ad=F++(R++M):=C;have av:A R=A f:=by simp[R]
 have aL (d:Nat) (u:d<A R) (y:d<A f):R[d]=if(g f[d]).e.l=i+1 then⟨nE,mW (B f[d]).t,0⟩else⟨jv F (B f[d]).n,(B f[d]).t,0⟩:=by
  simp only[R,fk,bc _<|aD y]
 have ay:∀(d:Nat)(u:d<A M)(y:d<A (f.filter λa=>ah<|(g a).e.l=i+1)),M[d]=⟨jv F (B (f.filter λa=>ah<|(g a).e.l=i+1)[d]).n,(B (f.filter λa=>ah<|(g a).e.l=i+1)[d]).t,1⟩:=λd u y=>by
  simp only[M,bg,fk]
 have az:A M=A (f.filter λa=>ah<|(g a).e.l=i+1):=by simp[M,bg]
 have aW a (j:a≠nE):(a∈R.map Ev.n↔a∈f/\(g a).e.l≠i+1/\a∉x.map λb=>b.e.n):=by
  rw[wq];constructor
  .rintro⟨d,q,m⟩;have aA:d<A f:=by simpa[av]using q
   rw[fk,aL d (Yq q) aA]at m;split at m
   .exact absurd m.symm j
   rename_i o;have⟨S,Z⟩:=(ab a j _<|aD aA).1 m;exact⟨S▸aD aA,S▸o,Z⟩
  rintro⟨u,y,p⟩;obtain⟨d,q,rfl⟩:=ec u;refine⟨d,by simpa[av]using q,?_⟩;rw[fk,aL d ((Yy av) q) q,aC y];exact(ab _ j _<|aD q).2 ⟨C,p⟩
 have aN a (j:a≠nE):(a∈M.map Ev.n↔a∈f/\(g a).e.l=i+1/\a∉x.map λb=>b.e.n):=by
  rw[wq];constructor
  .rintro⟨d,q,m⟩;have aA:d<A (f.filter λa=>ah<|(g a).e.l=i+1):=by simpa[az]using q
   rw[fk,ay d (Yq q) aA]at m;have⟨Y,aU⟩:=nP.1<|aD aA;have⟨S,Z⟩:=(ab a j _ Y).1 m;rw[S]at Y aU;exact⟨Y,Yq aU,Z⟩
  rintro⟨u,y,p⟩;have bD:a∈f.filter λa=>ah<|(g a).e.l=i+1:=nP.2 ⟨u,Yq y⟩;have⟨d,q,m⟩:=ec bD;refine⟨d,by simpa[az]using q,?_⟩;rw[fk,ay d ((Yy az) q) q,m];exact(ab _ j _ u).2 ⟨C,p⟩
 have bl:A (gb i K (f.map g) 0)=A R:=by rw[xP,av,bE]
 have a1:A (a7<|cj i<|f.map g)=A M:=by rw[aQ,az];simp[a7]
 have bJ X (aS:X∈gb i K (f.map g) 0):(∃ae,X=K ae)\/∃a∈f,(g a).id=X:=by
  obtain⟨ae,_,o⟩|⟨b,D,o⟩:=WR i K aS
  .exact aG ⟨ae,o⟩
  obtain⟨a,j,rfl⟩:=aP.1 D;exact aj ⟨a,j,o⟩
 have bh X (aS:X∈a7 (cj i<|f.map g)):∃a∈f,(g a).e.l=i+1/\(g a).id=X:=by
  rw[aQ]at aS;have⟨b,D,o⟩:=aP.1 aS;obtain⟨a,j,rfl⟩:=aP.1 D;have⟨Y,aU⟩:=nP.1 j;exact⟨a,Y,Yq aU,o⟩
 rw[bp];constructor
 .intro a j b D;have I:=Fe au ao.sh j;rw[qP]at D;by_cases o:a∈x.map λb=>b.e.n
  .have⟨bm,aI,m,S⟩:=zp o;rw[m]at D;have D:E bm=E b:=D;cases D;have aB:a∉(R++M).map Ev.n:=by
    rw[bX,ca];rintro(z|z)
    .exact((aW a I).1 z).2.2 o
    exact((aN a I).1 z).2.2 o
   have bI:b.id∉gb i K (f.map g) 0++a7 (cj i<|f.map g):=by
    rw[ca];rintro(z|z)
    .obtain⟨ae,Z⟩|⟨w,U,Z⟩:=bJ _ z
     .exact bG ae (Z▸aP.2 ⟨b,aI,C⟩)
     exact a9 b aI (Z▸(an w U).1)
    obtain⟨w,U,-,Z⟩:=bh _ z;exact a9 b aI (Z▸(an w U).1)
   refine⟨gf _<|aP.2 ⟨b,aI,C⟩,?_,?_⟩
   .rw[xi bI,Km aB,b9,b9,bl,a1,abq bv m];congr 1;unfold k6;refine JQ ?_ λd u y=>?_
    .have r:=eo A aY;simpa using r.symm
    have p:(F.map Ev.n).reverse=(x.map λb=>b.e.n).reverse:=by rw[aY]
    rw[<-uK,<-uK]at p;have aa:(x.map Bi.e).reverse.map Ev.n=F.reverse.map Ev.n:=by
     rw[p,<-uK,eu];rfl
    have r:=eo (λz=>z[d]?) aa;simp only[fP,bL u,bL y,eE,eH]at r;simp only[r]
   rw[p4,px aB,oZ];have u:=bt a;unfold gl at u;rw[xp,m]at u;rcases a0:cZ F a with _|w
   .rw[a0]at u;cases u
   rw[a0]at u;refine⟨w,C,Yq u.symm,?_⟩;rw[bo w (l9 a0).1,br b aI];omega
  rw[vG o,oZ]at D;have⟨d,q,a8,aR⟩:=bz a j o;have bA:=qG (k:=k) (v:=v) (n:=n) (t:=t) (ns:=ns) q (Yx<|BQ bf) aR;have V:a∈f:=by
   rw[<-bn,nA];exact⟨by rw[bk.BN bA,D];rfl,d,q,a8,aR⟩
  have m:g a=b:=by have r:=aq a V;rw[D]at r;cases r;rfl
  have⟨bP,bQ,bR,a4,bT⟩:=an a V;have bV:i<=b.e.l:=Ug au ao.sh ao.is ao.lv a j b (by rw[qP,vG o,oZ,D]);have bW:b.e.l<=i+1:=aV.ge b (pv D).1;have bU:a∉F.map Ev.n:=λz=>o<|(aK a).1 z;by_cases am:b.e.l=i+1
  .have aH:a∈M.map Ev.n:=(aN a I).2 ⟨V,(Yy m) am,o⟩;have bM:a∈f.filter λa=>ah<|(g a).e.l=i+1:=nP.2 ⟨V,by rw[m];simpa using am⟩;have a_:b.id∈a7 (cj i<|f.map g):=by
    rw[aQ];exact aP.2 ⟨g a,aP.2 ⟨a,bM,C⟩,Yw m⟩
   refine⟨gq _<|gq _ a_,?_,?_⟩
   .rw[<-dy,<-dy,BH a_,Kn aH];refine S4 a1 λd u y=>?_;have p:d<A (f.filter λa=>ah<|(g a).e.l=i+1):=by rw[<-az];exact y
    obtain⟨Y,-⟩:=nP.1<|aD p;rw[ay d y p];have aa:(a7<|cj i<|f.map g)[d]=(g<|(f.filter λa=>ah<|(g a).e.l=i+1)[d]).id:=by
     simp only[aQ,a7,fk]
    rw[aa,ab a I _ Y,<-m];exact⟨λz=>⟨aZ _ Y _ V z,o⟩,λz=>Yw z.1⟩
   have⟨w,U⟩:=ta aH;rw[p4,p4,U,Dk,Dk];have⟨a3,ar⟩:=l9 U;obtain⟨d,q,rfl⟩:=ec a3;have p:d<A (f.filter λa=>ah<|(g a).e.l=i+1):=by rw[<-az];exact q
   obtain⟨Y,-⟩:=nP.1<|aD p;rw[ay d q p]at ar;refine⟨M[d],C,?_,?_⟩
   .rw[ay d q p,((ab a I _ Y).1 ar).1,a4,m]
   rw[ay d q p,am];simp only;omega
  have aH:a∉M.map Ev.n:=λz=>am (by have r:=((aN a I).1 z).2.1;rwa[m]at r);have aB:a∈R.map Ev.n:=(aW a I).2 ⟨V,(Yy m) am,o⟩;have bx:b.id∉a7 (cj i<|f.map g):=λz=>by
   have⟨w,U,bK,S⟩:=bh _ z;have r:=aZ w U a V (by rw[S,m]);subst r;exact am (by rw[<-m];exact bK)
  have⟨a2,bC,a6⟩:=ec V;have ba:b.id∈gb i K (f.map g) 0:=by
   have p:a2<A (f.map g):=Yq bC;have aa:a2<A (gb i K (f.map g) 0):=by rw[xP];exact p
   obtain⟨z,-⟩|⟨-,z⟩:=CQ i K (f.map g) 0 a2 p aa
   .rw[fk,a6,m]at z;exact absurd z am
   rw[fk,a6,m]at z;rw[<-z];exact aD aa
  refine⟨gq _<|gf _ ba,?_,?_⟩
  .rw[<-dy,<-dy,xi bx,Km aH,a1,BH ba,Kn aB];congr 1;refine S4 bl λd u y=>?_;have p:d<A f:=by rw[<-av];exact y
   rw[aL d y p];obtain⟨z,ae,-,S⟩|⟨z,S⟩:=CQ i K (f.map g) 0 d (Yq p) u
   .rw[fk]at z;rw[S,aM z];exact⟨λw=>absurd (show K ae=(g a).id by rw[m];exact w)<|bF ae a V,λw=>absurd w.symm I⟩
   rw[fk]at z;rw[S,aC z,fk,ab a I _<|aD p,<-m];exact⟨λw=>⟨aZ _ (aD p) _ V w,o⟩,λw=>Yw w.1⟩
  have⟨w,U⟩:=ta aB;rw[p4,p4,px aH,oZ,U,Dk];have⟨a3,ar⟩:=l9 U;obtain⟨d,q,rfl⟩:=ec a3;have p:d<A f:=by rw[<-av];exact q
  have aJ:=aL d q p;rw[aJ]at ar;split at ar
  .exact absurd ar.symm I
  rename_i z;rw[aC z]at aJ;refine⟨R[d],C,?_,?_⟩
  .rw[aJ,((ab a I _<|aD p).1 ar).1,a4,m]
  rw[aJ];simp only;omega
 intro a j D;have I:=Fe au ao.sh j;rw[qP,Option.or_eq_none_iff]at D;have⟨a',bw⟩:=D;have o:a∉x.map λb=>b.e.n:=λz=>by
  obtain⟨w,-,m,-⟩:=zp z;rw[m]at a';cases a'
 have bj:a∉f:=λz=>by have r:=aq a z;rw[bw]at r;cases r
 rw[p4,p4,px λz=>bj ((aN a I).1 z).1,px λz=>bj ((aW a I).1 z).1,px λz=>o<|(aK a).1 z];rfl
def L5{v:Int}{a:Int}:cV a5 be (.mk 10 v gs he hH [n8]) it a am=cV a5 be n8 it a am:=by
 rw[cV,tj,zY];simp
def afs{v:Int}{a:Nd}{e:Int}(b:hE a5 be (.mk 10 v gs he hH [n8]) a i9 e):a.fC=(a.ks.headD a).fC:=by
 cases b with|mk i f g d h=>
 obtain⟨j,rfl⟩:=kw.1 d;rw[Nd.Gz];simp[zJ,ig,Nd.ks,Nd.t,L.kd]
theorem getD_map{b:g2->ld}{a:List g2}(e:am<A a)(d:ld):(a.map b).getD am d=b a[am]:=cq
def ag9{a v:Int}{e:BA}{b:Option Bi}{bs i:bb}{h:Int}{d:List yn}{f:ax}:CI a5 be (.mk a v e he hH h1) b bs i h gt d f am=
 if a=1 then(match b with|some b=>eh (ie f b.id)|none=>.mk 11 (eV be e) [] [])
 else if a=9\/a=11 then nc (O.mk (if a=9 then 9 else 10) 0 ((range' 1<|A d-1).map λg=>((A be+cK a gt am g:Nat):Int)) [vY a e hH bs gt d f am 0]) (i.map<|pS h f)
 else .mk a (nJ a5 a v e) [] ((cz<|A d).map λg=>vY a e hH bs gt d f am g):=rfl
def VD{o:aF}{R:aO}{m v:Int}{u:BA}{B:J}{w:aX}{a:bu}{id:Nat}{ty:J}{d:Int}{al:eg}{bs z:bb}{K:Option Bi}(U:m=9\/m=11)(t:Cx o R (.mk m v u B w a) (.mk id (.mk m v u B w a) ty d al bs K) z d){D:bq}{aJ:Int}(aB:Rl (.mk m v u B w a) z d gt D aJ)
 (i:Nat) (hi:i<A a) (ae:i<A al) (S:0<i):
 ∃(s:L)(y:Nd)(q:bb),(y,q)=(if m=9 then(al[i].ks.headD al[i],al[i].bs)else(al[i],[]))/\(if m=9 then∃I r F p,a[i]=.mk 10 I r F p [s]else s=a[i])/\L.kd s≠10/\Cx o R s y (z++q) d/\
  (∀b∈q,b.id∈(Nd.mk id (.mk m v u B w a) ty d al bs K).ids)/\(∀M∈y.ids,M∈(Nd.mk id (.mk m v u B w a) ty d al bs K).ids)/\A (fM o a[i])=A q/\
  ∀Z:Nat->Nat,(∀M,∀b∈(Nd.mk id (.mk m v u B w a) ty d al bs K).cap,Z M≠b.id)->(∀M,Z M∉a7 q)->Rl s (z++q) d (a7 q++(gb d Z (Nd.mk id (.mk m v u B w a) ty d al bs K).cap 0++a7 (cj d (Nd.mk id (.mk m v u B w a) ty d al bs K).cap))) (iv (fM o a[i]) ((bO a D).filterMap<|cZ D) aJ) 0:=by
 have ak:=t.sh;have aA y (hy:y∈al) i (hi:i∈y.ids):i∈(Nd.mk id (.mk m v u B w a) ty d al bs K).ids:=PZ;obtain⟨s,y,q,O,aK,aL,aN,-,g⟩:=SD U t.sh (λj i hi S=>(t.sh.case i hi).2 ⟨j,S⟩) t.is t.ap i hi ae S;have⟨au,aS⟩:=Ex U t.sh (λj i hi S=>(t.sh.case i hi).2 ⟨j,S⟩) t.is t.ap λf G=>aB.BN G
 let ao:ByteArray->Bi:=λf=>(du z f).getD ⟨0,⟨nE,lf,0⟩⟩
 let aq:ByteArray->Ev:=λf=>(cZ D f).getD ⟨nE,lf,0⟩
 have ay f (G:f∈bO a D):du z f=E (ao f):=by
  have k:=aS f G;have⟨b,hb⟩:=sx.1 k;simp[ao,hb]
 have az f (G:f∈bO a D):cZ D f=E (aq f):=by
  have⟨b,hb⟩:=sx.1 (nA.1 G).1;simp[aq,hb]
 rw[s0 ay]at au;rw[s0 az];have ah:gy o R a[i] (z.map Bi.e) d:=by
  have k:=(xr.1 t.lv).2.2 i hi;have aa:cU o R m u B w a (z.map Bi.e) d i=z.map Bi.e:=by obtain rfl|rfl:=U<;>simp[cU,eB]
  have ab:ct m d=d:=by obtain rfl|rfl:=U<;>simp[ct]
  rwa[aa,ab]at k
 have aU:L.kd s≠10:=by
  split at g
  .obtain⟨I,r,F,p,j,-⟩:=g;have aH:=ak.dh _<|aD hi;rw[j]at aH;have k:=aH.case 0 Zs;simp only[fA]at k;rw[Ne,k];simp
  rename_i x;rw[g.1,Ne,ak.case i hi];exact λj=>x j.1
 have ar b (hb:b∈q):b.e.l=d:=by
  split at g
  .obtain⟨I,r,F,p,-,j,-⟩:=g;have k:b.e∈dA o r p d:=by rw[<-j];exact aP.2 ⟨b,hb,C⟩
   simp only[dA,aP]at k;obtain⟨X,-,D⟩:=k;rw[<-D]
  rw[g.2]at hb;cases hb
 have Y:(∀f,gl (q.map Bi.e) f=gl (fM o a[i]) f)/\(fM o a[i]).map Ev.n=q.map (λb=>b.e.n)/\∀v∈fM o a[i],v.l=0:=by
  split at g
  .have⟨I,r,F,p,j,V,an⟩:=g;have ad:fM o a[i]=dA o r p 0:=by rw[j];simp[fM]
   rw[ad];refine⟨λf=>(Yy V)<|(w4 o r p d 0 f).2,?_,λv aI=>?_⟩
   .rw[(w4 o r p 0 d nE).1,<-V,eu];rfl
   simp only[dA,aP]at aI;obtain⟨X,-,D⟩:=aI;rw[<-D]
  rename_i x;have ad:fM o a[i]=[]:=by
   have k:L.kd a[i]≠10:=by rw[Ne,ak.case i hi];exact λj=>x j.1
   generalize a[i]=X at k;have⟨a0,a1,a2,a3,a4,a5⟩:=X;simp only[L.kd]at k;simp[fM,k]
  rw[ad,g.2];simp
 have av:Cx o R s y (z++q) d:=by
  refine⟨aN,aK,aL,?_,λb hb=>?_⟩
  .split at g
   .have⟨I,r,F,p,j,V,an⟩:=g;rw[j,xr]at ah;have k:=ah.2.2 0 Zs;simp only[fA]at k;have aa:cU o R 10 r F p [s] (z.map Bi.e) d 0=(z++q).map Bi.e:=by simp[cU,eB,gw,V]
    have ab:ct 10 d=d:=lI;rwa[aa,ab]at k
   rw[g.1,g.2,de];exact ah
  obtain hb|hb:=ca.1 hb
  .exact t.ge b hb
  have k:=ar b hb;omega
 have aR b (hb:b∈q):b.id∈(Nd.mk id (.mk m v u B w a) ty d al bs K).ids:=by
  split at g
  .rename_i x;rw[aM x]at O;have k:=(yb O).2;apply aA _ (aD ae) _;rw[Nd.mL,<-k];exact Nv
  rw[g.2]at hb;cases hb
 have aZ M (P:M∈y.ids):M∈(Nd.mk id (.mk m v u B w a) ty d al bs K).ids:=by
  apply aA _ (aD ae) _;by_cases x:m=9
  .rw[aM x]at O;rw[(yb O).1]at P;rcases am:al[i].ks with _|⟨X,a8⟩
   .rw[am]at P;exact P
   rw[am]at P;rw[Nd.mL,am];exact mo _<|gq _<|eL.2 ⟨X.ids,Zs,P⟩
  rw[aC x]at O;rw[(yb O).1]at P;exact P
 have aT f (G:fv s [] f) (aV:f∉q.map (λb=>b.e.n)):∃(i:Nat)(a6:i<A a),0<i/\fv a[i] [] f:=by
  refine⟨i,hi,S,?_⟩;split at g
  .have⟨I,r,F,p,j,V,an⟩:=g;rw[j];exact qG (i:=0) Zs (by rw[show cW 10 r p 0=p by simp[cW],<-an];exact aV) G
  rw[<-g.1];exact G
 have aQ:if m=9 then∃I r F p,a[i]=.mk 10 I r F p [s]else s=a[i]:=by
  split at g
  .rename_i x;rw[aM x];obtain⟨I,r,F,p,j,-⟩:=g;exact⟨I,r,F,p,j⟩
  rename_i x;rw[aC x];exact g.1
 rw[au];exact⟨s,y,q,O,aQ,aU,av,aR,aZ,by have k:=eo A Y.2.1;simpa using k,λZ aW aY=>Rl.root U t aB ay az (λj f G=>aW j _<|aP.2 ⟨f,G,C⟩) av ar Y.1 Y.2.1 Y.2.2 aY aT⟩
def L6{V:aF}{ds:aO}(u:Nat->bi)(a2:∀h a aB,u h a=u h aB->a=aB):∀(r:L){F:Nd}{w:bb}{p:Int}{I:ax}{g:bq}{m:Int}(s:Nat),L.kd r≠10->Cx V ds r F w p->Rl r w p I g m->
 (∀h a,u h a∉F.ids/\u h a∉a7 w)->kr V ds F I s=(cV V ds r g m s).1/\rB V ds u F.fC s=(cV V ds r g m s).2
 |.mk f v o r t d,F,w,p,I,g,m,s,aA,D,P,O=>by
  have aA:f≠10:=aA;have X:=D.sh;obtain⟨id,ty,al,bs,B,rfl,ae,bh⟩:∃id ty al bs B,F=.mk id (.mk f v o r t d) ty p al bs B/\A al=A d/\B=if f=1 then du w o else Q:=by
   cases D.is with|mk bD hb bB ae bC=>exact⟨_,_,_,_,_,C,ae,hb⟩
  have ay:al.map Nd.bf=d.map L.bf:=by
   refine lX (Yr ae) λa K aJ=>?_;have hi:a<A d:=Yq aJ;rw[fk,fk];exact I8 d[a] (D.dh a hi<|Yq K).is
  have bo y (hy:y∈al) a (hi:a∈y.ids):a∈(Nd.mk id (.mk f v o r t d) ty p al bs B).ids:=PZ;have bn b (hb:b∈bs):b.id∈(Nd.mk id (.mk f v o r t d) ty p al bs B).ids:=by
   rw[Nd.mL];exact Nv
  have aW:∀(S:bb),(∀b∈S,b.id∈(Nd.mk id (.mk f v o r t d) ty p al bs B).ids)->∀h a,u h a∉a7 (w++S):=λS be h a q=>by
   rw[a7,bX]at q;obtain q|q:=ca.1 q
   .exact(O h a).2 q
   have⟨b,hb,g⟩:=aP.1 q;exact(O h a).1 (g▸be b hb)
  have a5:∀(a:Nat)(hi:a<A d)(j:L),(j=d[a]\/∃au am ar an,d[a]=.mk 10 au am ar an [j])->∀{F:Nd}{w:bb}{p:Int}{I:ax}{g:bq}{m:Int}(s:Nat),L.kd j≠10->Cx V ds j F w p->Rl j w p I g m->
   (∀h a,u h a∉F.ids/\u h a∉a7 w)->kr V ds F I s=(cV V ds j g m s).1/\rB V ds u F.fC s=(cV V ds j g m s).2:=λa hi j bj=>L6 u a2 j
  have a0 (a:Nat) (hi:a<A d) (z:a<A al) (ak:Nat) (M:¬ig f a):kr V ds al[a] (if cW f o t a=[]then I else I++a7 bs) ak=(cV V ds d[a] (cU V ds f o r t d g m a) (ct f m) ak).1/\rB V ds u al[a].fC ak=(cV V ds d[a] (cU V ds f o r t d g m a) (ct f m) ak).2:=by
   refine a5 a hi _ (aG C) ak ?_ (D.dh a hi z) (P.dh D aA a hi z) λh q=>⟨λG=>(O h q).1<|bo _ (aD z) _ G,aW _ (by split;exact bn;simp) h q⟩;rw[Ne,X.case a hi];exact λq=>M ⟨aG q.1,q.2⟩
  have bv:∀(x:f=9\/f=11)(a:Nat)(hi:a<A d)(z:a<A al)(h:Nat),0<a->
   (Nd.mk id (.mk f v o r t d) ty p al bs B).bS[a-1]?.toList.map (λaq=>oz V ds (aq.1,aq.2,Nd.mk id (.mk f v o r t d) ty p al bs B) (u h)<|h+1)=[q' V d g m a (cV V ds d[a] (iv (fM V d[a]) ((bO d g).filterMap<|cZ g) m) 0<|h+1).1]/\
   rB V ds u al[a].fC (h+1)=(cV V ds d[a] (iv (fM V d[a]) ((bO d g).filterMap<|cZ g) m) 0<|h+1).2:=λx a hi z h aa=>by
   have⟨j,y,S,Z,ab,br,bk,aU,bz,bg,a4⟩:=VD x D P a hi z aa;have⟨ad,aK⟩:=Ex x X (λq a hi aa=>(X.case a hi).2 ⟨q,aa⟩) D.is D.ap λi k=>P.BN k
   let J:ByteArray->Bi:=λi=>(du w i).getD ⟨0,⟨nE,lf,0⟩⟩
   let aI:ByteArray->Ev:=λi=>(cZ g i).getD ⟨nE,lf,0⟩
   have U i (k:i∈bO d g):du w i=E (J i):=by
    have R:=aK i k;have⟨b,hb⟩:=sx.1 R;simp[J,hb]
   have az i (k:i∈bO d g):cZ g i=E (aI i):=by
    have⟨b,hb⟩:=sx.1 (nA.1 k).1;simp[aI,hb]
   rw[s0 U]at ad;rw[s0 az];rw[ad,s0 az]at a4;have a6:j=d[a]\/∃au am ar an,d[a]=.mk 10 au am ar an [j]:=by
    split at ab
    .exact aj ab
    exact aG ab
   have bu:=a4 (u h) (λq b hb G=>(O h q).2 (by
    obtain⟨i,k,rfl⟩:=aP.1 hb;exact G▸aP.2 ⟨_,(pv<|U i k).1,C⟩)) (λq G=>by
    have⟨b,hb,g⟩:=aP.1 G;exact(O h q).1 (g▸aU b hb))
   have aZ:=a5 a hi j a6 (h+1) br bk bu λh q=>⟨λG=>(O h q).1<|bz _ G,aW S aU h q⟩;have bw (aR:bq):cV V ds d[a] aR 0 (h+1)=cV V ds j aR 0 (h+1):=by
    obtain q|⟨au,am,ar,an,q⟩:=a6
    .rw[q]
    rw[q,L5]
   rw[bw,<-aZ.1,<-aZ.2];have bl:(Nd.mk id (.mk f v o r t d) ty p al bs B).bS[a-1]?=E (y,S):=by
    show((al.drop 1).map λj=>if f=9 then(j.ks.headD j,j.bs)else(j,[]))[a-1]?=_;rw[fP,An,show 1+(a-1)=a by omega,bL z,eE,Z]
   refine⟨?_,?_⟩
   .rw[bl];simp only[MX,b4,eO,Al,i'];have bd:(Nd.mk id (.mk f v o r t d) ty p al bs B).l=p:=C;unfold oz q';simp only[bd,ad];have bc:((d[a]?.map<|fM V).getD [])=fM V d[a]:=Yf<|bL hi;rw[bc,s0 az,bg,bE,bE];congr 2;have aV b (hb:b∈(bO d g).map J):b.id∈a7 w:=by
     obtain⟨i,k,rfl⟩:=aP.1 hb;exact aP.2 ⟨_,(pv<|U i k).1,C⟩
    have M:=E_ p (u h) (a2 h) (A<|(bO d g).map J) ((bO d g).map J) (a7 S) 0 0 (λb hb q G=>(O h q).2 (G▸aV b hb)) Zs;rw[bE]at M;have bm:(((bO d g).map J).map λb=>ah<|b.e.l=p+1)=((bO d g).map aI).map λv=>ah<|v.l=m+1:=by
     rw[eu,eu];refine jn λi k=>?_;obtain⟨aB,aN,-,aL⟩:=(nA.1 k).2;obtain⟨-,-,aQ,av,a_,ba⟩:=P.get i (qG aN (Yx<|BQ x) aL) _<|U i k;rw[az i k]at av;cases av;simp only[Ah];exact lD.2 Zo
    rw[bm]at M;rw[<-M];refine jn λq a3=>?_;have a3:q<A (cj p<|(bO d g).map J):=Yq a3;rw[ew,xi]
    .have R:A (Y q<|a7<|cj p<|(bO d g).map J)=q:=by simp[a7];omega
     rw[R]
    intro G;have⟨b,hb,a9⟩:=aP.1<|tv G;exact(O h q).2 (a9▸aV b (nP.1 hb).1)
   by_cases a8:f=9
   .rw[aM a8]at Z ab;have⟨au,am,ar,an,q⟩:=ab;have aX:=(D.dh a hi z).is;rw[q]at aX;rw[afs aX,(yb Z).1]
   rw[aC a8]at Z;rw[(yb Z).1]
  have aS:∀a,a<A d->j_ V ds f o r t d (d.map L.bf) (d.map<|cV V ds) g m s a=if bA:a<A d then(if ig f a then cV V ds d[a] (iv (fM V d[a]) ((bO d g).filterMap<|cZ g) m) 0 (cK f (d.map L.bf) s a+1)else cV V ds d[a] (cU V ds f o r t d g m a) (ct f m) (cK f (d.map L.bf) s a))else(eh 0,[]):=λa hi=>by
   rw[dif_pos hi,j_,getD_map hi,bL hi];rfl
  have aT:∀a(hi:a<A d),¬ig f a->vY f o t bs (d.map L.bf) (al.map<|kr V ds) I s a=(j_ V ds f o r t d (d.map L.bf) (d.map<|cV V ds) g m s a).1:=λa hi M=>by
   rw[aS a hi,dif_pos hi,aC M,vY,getD_map Zo];exact(a0 a hi Zo _ M).1
  rw[kr,ag9,GU,Nd.sO,ay,cV,tj,zY,L.sO,aC aA];refine⟨?_,?_⟩
  .simp only[bE,ae];by_cases aH:f=1
   .subst aH;rw[aM C,aM C,bh,aM C];have k:fv (.mk 1 v o r t d) [] o:=ID;unfold mO;rcases a1:du w o with _|b
    .rw[P.no o k a1];rfl
    obtain⟨-,K,aQ,aJ,-⟩:=P.get o k b a1;rw[aJ,<-K];rfl
   rw[aC aH,aC aH];by_cases x:f=9\/f=11
   .rw[aM x,aM x];have bt:0<A d:=by
     have R:=X.len;obtain rfl|rfl:=x<;>simp[bY,dw]at R<;>omega
    rw[aT 0 bt λq=>Yo q.2];congr 1;have⟨ad,aK⟩:=Ex x X (λq a hi aa=>(X.case a hi).2 ⟨q,aa⟩) D.is D.ap λi k=>P.BN k;have U i (k:i∈bO d g):du w i=E ((du w i).getD ⟨0,⟨nE,lf,0⟩⟩):=by
     have⟨b,hb⟩:=sx.1<|aK i k;simp[hb]
    rw[ad,s0 U,eu];refine jn λi k=>?_;obtain⟨aB,aN,-,aL⟩:=(nA.1 k).2;obtain⟨-,K,aQ,av,a_,ba⟩:=P.get i (qG aN (Yx<|BQ x) aL) _<|U i k;have bp:(aQ.l=m+1)↔(((du w i).getD ⟨0,⟨nE,lf,0⟩⟩).e.l=p+1):=Zo;simp only[Ah,pS,nf,mO,av,Option.any_some,oY,bx,ee,bp,K]
   rw[aC x,aC x];congr 1;exact jn λa hi=>aT a (Yq hi) λq=>x q.1
  rw[X2];show ao ((cz<|A al).map λa=>(if ig f a then _ else[])++_)=_;simp only[bE,ae];congr 1;refine jn λa hi=>?_;have hi:a<A d:=Yq hi;have z:a<A al:=Zo;rw[aS a hi,dif_pos hi];have a':(((Nd.mk id (.mk f v o r t d) ty p al bs B).ks[a]?.map Nd.fC).getD [])=al[a].fC:=by
   show((al[a]?.map Nd.fC).getD [])=_;rw[bL z];rfl
  rw[a'];show(if ig f a then _ else[])++rB V ds u al[a].fC (cK f (al.map Nd.bf) s a+f' f a)=_;rw[pB];by_cases j:ig f a
  .simp only[aM j];have R:=bv j.1 a hi z (cK f (d.map L.bf) s a) j.2;rw[<-R.1,<-R.2,ay];show List.map (λaq:Nd×bb=>oz V ds (aq.1,aq.2,_) (u<|cK f (al.map Nd.bf) s a)<|cK f (al.map Nd.bf) s a+1) _++_=_;rw[ay]
  simp only[aC j,aY,oX];rw[ay];exact(a0 a hi z _ j).2
decreasing_by
 have K:=fl<|aD hi;obtain q|⟨_,_,_,_,q⟩:=bj
 .rw[q];simp;omega
 rw[q]at K;simp at K⊢;omega
def ly(p:Nd×bb)(b:Bi):Bool:=!((p.2++p.1.bB).any λz=>z.id==b.id)
def rE(l:List<|Nd×bb)(o:bb):bb:=l.foldl (λo p=>((p.1.fU []).filter<|ly p).foldl fh o) o
def Ew(a:Nd):a.cap=rE a.bS []:=by
 unfold Nd.cap rE;rw[JX,foldl_map];rfl
def Kr:∀(d a:bb),(d.foldl fh a).length<=A a+A d
 |[],a=>by simp
 |b::d,a=>by
  rw[oj];have:=Kr d<|fh a b;have e:A (fh a b)<=A a+1:=by unfold fh;split<;>simp
  simp only[dC];omega
def A7{n:Nat}:∀(d:List<|Nd×bb)(b:bb),(∀a∈d,a.1.num<=n)->A (rE d b)<=A b+A d*n
 |[],b,_=>by simp[rE]
 |a::d,b,e=>by
  unfold rE;rw[oj];have f:=A7 d (((a.1.fU []).filter<|ly a).foldl fh b) λi h=>e i<|Yr h;unfold rE at f;have j:=Kr ((a.1.fU []).filter<|ly a) b;have k:A ((a.1.fU []).filter<|ly a)<=A (a.1.fU []):=qi _ _;have g:=Nd.Cb a.1 [];have l:=e a Zs;simp only[gR,ew]at g;rw[dC,sv];omega
def Bk{a:Nd}(k:yh a):∀e∈a.bS,e.1.num<=a.num/\A e.2<=a.num:=by
 intro e h;unfold Nd.bS at h;obtain⟨b,g,rfl⟩:=aP.1 h;have m:=(@Nd.oL a).2.2 b<|uL g;obtain⟨d,-⟩|⟨d,-,j⟩:=k
 .rw[aC (by rw[d];decide)];exact⟨wF,Zs⟩
 rw[aM d];obtain⟨l,i⟩:=j b g;have f:=@Nd.oL b;have o:=f.2.2 l<|Yx i;simp only[i,tu];exact⟨Zo,Yo f.2.1⟩
def Kt(a:Nd)(b:Bi)(F:0<=a.l)(G:a.l<=1048576):az 127 [a.d,b.d]<|B<|ah<|b.e.l=a.l+1:=by
 obtain⟨j,k,o,p,q,r,s,t,u,w,m,I,K,M,g⟩:=Nd.Ce a;obtain⟨y,z,A,D,f⟩:=Bi.Ce b;have i:cb.wrap (a.l+1)=a.l+1:=dE _ Zo;exact(cR)<|(fQ<|JJ g<|JJ f i)<|Fz.aK (by rw[oi];simp)
def UC(l:bb)(D:A l<=1099511627776):az 184 [dK l]<|.sl 1<|au S (l.map λb=>b.e.n):=by
 have p:cE aB 75=E (9,1,16):=Zk;refine(ki [1000018] [.tmp 2]) ?_;simp only[dK,fg Bi.d l,go_sem];refine lp 8 (A l) [6,7] (λg env j G o=>aL [18] j 9 1 (au S ((Y g l).map λb=>b.e.n))<|env 3) (aG ⟨C,C⟩) λg env j I o u F hx=>?_;obtain⟨L,i⟩:=Zx<|env 3;rw[i]at hx;refine ZL (λm=>?_) λq=>?_
 .have k:=jx (f:=Bi.d) m;obtain⟨w,x,y,z,r⟩:=Bi.vN l[g];rw[r]at k;refine(ad<|JJ i k)<|GK.cM (pR (S:=[18]) (f:=S) (l:=(Y g l).map λb=>b.e.n) (a:=l[g].e.n) p yz hF C ch Zd λt J K s B=>?_);refine(ZN) ?_;refine dI ?_;rw[dm m,bX];simpa[aw]using s
 obtain rfl:g=A l:=Zo;rw[cc]at hx;exact(ad<|JJ q i)<|mQ hx λM _=>bc _
def Yt(m:Nd)(ak:yh m)(a2:m.num<=1048576):az 182 [m.d]<|dK m.cap:=by
 have a0:=(@Nd.oL m).1;have aU:=SA m ak Zo;have R:=Bk ak;have aV:A m.bS<=1048576:=Yo<|w8 m;have a6:=Nd.cl m;rw[Ew];generalize m.bS=l at*;have ap:A (au Nd.d<|l.map Prod.fst)=A l:=kl;have an:cE aB 210=E (211,1,8):=Zk;refine(ki [1000051] [.tmp 2])<|(bQ ap)<|lp 18 (A l) [5,16,17] (λj env q n u=>aL [51] q 211 1 (au Bi.d<|rE (Y j l) [])<|env 3) (aG ⟨C,C⟩) λj env q al u am a4 k=>?_;obtain⟨aI,o⟩:=Zx<|env 3;rw[o]at k;refine ZL (λs=>?_) λz=>?_
 .have w:(au Nd.d<|l.map Prod.fst)[j]?=E [Nd.d l[j].1]:=by simp[au,s]
  have y:(au dK<|l.map Prod.snd)[j]?=E [dK l[j].2]:=by simp[au,s]
  obtain⟨ab,Z⟩:=R _<|aD s;have P:=A7 (n:=1048576) (Y j l) [] λG F=>Yo<|(R G<|tv F).1;have a5:A (Y j l)<=1048576:=DM;have B:rE (Y (j+1) l) []=((l[j].1.fU []).filter<|ly l[j]).foldl fh (rE (Y j l) []):=by
   rw[dm s];unfold rE;rw[so];rfl
  generalize aS:rE (Y j l) []=p at*;obtain⟨⟨i,f⟩,F⟩:∃G,G=l[j]:=⟨_,C⟩;rw[<-F]at w y ab Z B;simp only at w y ab Z B;have aW:=Nd.zk i;have ax:=Nd.Cb i [];simp only[gR,ew]at ax;have aZ:=inner i Zo;have ar:=(K_ i Zo [] ch).sp da (ha _) (ff λm _=>Bi.cl m) ⟨_,func260,C,C⟩;have M:=RM [f,i.bB] Zs ch;simp only[dT,fX,de]at M;have ay:=λb=>EF (f++i.bB) b m_;have r:∀l,Cl<|.sl 1<|au Bi.d l:=λl=>ff λi _=>Bi.cl i;refine(uZ w) ?_;simp only[y,dK,go_sem];refine(ZC) ?_;refine ir [29] M (.c (Fz.aq (ob:=⟨al 29,210,1,[.sl 1<|au Bi.d f,.sl 1<|au Bi.d i.bB],Q⟩) yu C C Zd C (ha _) kl (by simp[au,-db];exact⟨r _,r _⟩)) .n) (r _) ?_;simp only[go_sem];refine mB ar ?_;generalize a3:i.fU []=e at*;refine(ZN)<|lp 34 (A e) [5,16,17,18,8,32,33] (λg env q n u=>aL [51] q 211 1 (au Bi.d<|((Y g e).filter<|ly (i,f)).foldl fh p)<|env 3) (by simpa[aw,o]using k.aA pN) ?_;clear k o;rintro g env q al u am a1 k;obtain⟨aI,o⟩:=Zx<|env 3;rw[o]at k;refine ZL (λV=>?_) λz=>?_
  .have ao:=jx (f:=Bi.d) V;have aF:(Y (g+1) e).filter (ly (i,f))=(Y g e).filter (ly (i,f))++(if ly (i,f) e[g]=W then[e[g]]else[]):=by
    rw[dm V,Hg,xW];rfl
   have D:((Y (g+1) e).filter<|ly (i,f)).foldl fh p=(if ly (i,f) e[g]=W then fh (((Y g e).filter<|ly (i,f)).foldl fh p) e[g]else((Y g e).filter<|ly (i,f)).foldl fh p):=by
    rw[aF,so];split<;>rfl
   have aX:=Kr ((Y g e).filter<|ly (i,f)) p;have aY:A ((Y g e).filter<|ly (i,f))<=A e:=gS (qi _ _) DM;have av:=λb=>EF (((Y g e).filter<|ly (i,f)).foldl fh p) b (by unfold aE;simp at P;omega);generalize ((Y g e).filter<|ly (i,f)).foldl fh p=U at*;refine(ad ao)<|hW (ay e[g]) (.c (r _)<|.c (Bi.cl _) .n) ?_;cases X:(f++i.bB).any λI=>I.id==e[g].id with
   |true=>
    have t:ly (i,f) e[g]=af:=by unfold ly;simp only[X];rfl
    refine(ZN) ?_;refine dI ?_;rw[D,t];simpa[aw,o]using k
   |false=>
    have t:ly (i,f) e[g]=W:=by unfold ly;simp only[X];rfl
    refine(ad o) ?_;refine A2 (av e[g]) (.c (mQ (k.aA Zs) λ_ _=>Bi.cl _)<|.c (.cl _<|Bi.cl _) .n) C ?_;cases ah:U.any λI=>I.id==e[g].id with
    |true=>
     refine(ZN) ?_;refine dI ?_;rw[D,t,aM C,show fh U e[g]=U from aM ah];simpa[aw,o]using k
    |false=>
     obtain⟨aN,aO,aP,aQ,K⟩:=Bi.vN e[g];refine(ad<|JJ o K)<|GK.cM (pR (S:=[51]) (f:=Bi.d) (l:=U) (a:=e[g]) an (by simp only[aw,bx,bT,bj,e7,eQ];exact k.aA bF) (by simp[aw,dS,ai,K]) (Bi.one _) (Ys P) Zd λaK a7 a8 aH aR=>?_);refine(ZN) ?_;refine dI ?_;rw[D,t,aM C,show fh U e[g]=U++[e[g]]from aC<|Yx ah];simpa[aw]using aH
  obtain rfl:g=A e:=Zo;rw[cc]at k;exact(ad z)<|dI (by rw[B];simpa[aw,o]using k)
 obtain rfl:j=A l:=Zo;rw[cc]at k;exact(ad<|JJ z o)<|mQ k λi _=>Bi.cl i
def JS(x:Nd)(a:List<|Nat->List (Nd×ax))(m:Nat):List<|Nd×ax:=
 (if L.kd x.t=9\/L.kd x.t=11 then[(x,(range' 1<|A a-1).map<|cK (L.kd x.t) (x.ks.map Nd.bf) m)]else[])++
  ao ((cz<|A a).map λi=>a.getD i (λ_=>[])<|cK (L.kd x.t) (x.ks.map Nd.bf) m i+f' (L.kd x.t) i)
mutual
def Nd.gj:Nd->Nat->List (Nd×List Nat)
 |.mk id t ty l ks bs b=>JS (.mk id t ty l ks bs b) (Nd.E4 ks)
def Nd.E4:List Nd->List (Nat->List (Nd×List Nat))
 |[]=>[]
 |c::cs=>Nd.gj c::Nd.E4 cs
end
def Nd.Sl:∀a:eg,Nd.E4 a=a.map Nd.gj
 |[]=>rfl
 |c::b=>by rw[Nd.E4,Nd.Sl b];rfl
def Nd.aau(a:Nd)(b:Nat):a.gj b=JS a (a.ks.map Nd.gj) b:=by cases a;rw[Nd.gj,Nd.Sl];rfl
def ls(x:Nd)(m q:Nat):List<|Nd×ax:=ao ((cz q).map λi=>((x.ks[i]?).map λc=>c.gj<|cK (L.kd x.t) (x.ks.map Nd.bf) m i+f' (L.kd x.t) i).getD [])
def g_(x:Nd)(q:Nat):List Rt:=ao<|Y q ((x.ks.map Nd.fC).mapIdx λi r=>(if ig (L.kd x.t) i then(x.bS[i-1]?).toList.map λp=>((p.1,p.2,x):Rt)else[])++r)
def rJ(a:Nd)(d:Nat):a.gj d=(if L.kd a.t=9\/L.kd a.t=11 then[(a,(range' 1<|A a.ks-1).map<|cK (L.kd a.t) (a.ks.map Nd.bf) d)]else[])++ls a d (A a.ks):=by
 rw[Nd.aau,JS,ls,bE];congr 2;refine jn λe b=>?_;have b:e<A a.ks:=Yq b;rw[getD_map b,bL b];rfl
def Gy(a:Nd):a.fC=g_ a (A a.ks):=by
 rw[Nd.Gz,zJ,g_,dj Zs]
def Be{a:Nd}{b:Nat}(d:b<A a.ks):ls a am (b+1)=ls a am b++(a.ks[b]).gj (cK (L.kd a.t) (a.ks.map Nd.bf) am b+f' (L.kd a.t) b):=by
 rw[ls,wv,bX,eR,b4,eO,bL d];simp[ls]
def Cw{a:Nd}{b:Nat}(e:b<A a.ks):g_ a (b+1)=g_ a b++((if ig (L.kd a.t) b then(a.bS[b-1]?).toList.map λd=>((d.1,d.2,a):Rt)else[])++(a.ks[b]).fC):=by
 rw[g_,dm<|Yq e,eR];simp[g_]
def GB(a:Nd):g_ a 0=[]:=by simp[g_]
def E5(b:Nd)(a:Nat):ls b a 0=[]:=by simp[ls]
def xJ(a:Nd)(b d:Nat):b+A (g_ a d)=cK (L.kd a.t) (a.ks.map Nd.bf) b d:=by
 unfold g_ cK;rw[x0,su,LF a _ Zs,eu];congr 4;exact jn λe _=>zI e
def LG(x:Nd){q:Nat}:A (g_ x q)<=x.bf:=by
 have a:=xJ x 0 q;rw[Nd.o8];unfold cK at a;have b:(Y q (ix (L.kd x.t)<|x.ks.map Nd.bf)++(ix (L.kd x.t)<|x.ks.map Nd.bf).drop q).sum=_+_:=tx;rw[qj]at b;omega
def Rc{b e:Nd}(d:L.kd b.t=10)(a:b.ks=[e])(f:Nat):b.gj f=e.gj f/\b.fC=e.fC/\b.bf=e.bf:=by
 refine⟨?_,?_,?_⟩
 .rw[rJ,d,a];simp[ls,a,d,cK,ix,f']
 .rw[Gy,a];simp[g_,a,d,ig]
 rw[Nd.o8,d,a];simp[ix,f']
theorem JT:∀(d:Nd)(a:Nat),∀r∈d.gj a,r.1.id∈d.ids:=λd a r b=>by
 have g:∀e∈d.ks,∀a,∀r∈e.gj a,r.1.id∈e.ids:=λe f a=>JT e a;rw[rJ]at b;rw[Nd.mL];obtain b|b:=ca.1 b
 .exact Zg
 unfold ls at b;exact Zg
decreasing_by exact Nd.lt f
def kP(b:Nat):aN:=.pointer<|some ⟨b,0,Q⟩
abbrev o1(n:Nat):D:=I (n:Int)
abbrev kA:=Nat×Nd×ax
def eZ(r:kA):D:=.pa r.1 [r.2.1.d,dK r.2.1.cap,.sl 1<|au o1 r.2.2]
def aeS{b:Nat}(a:∀d∈a9,Cl d):Cl<|.pa b a9:=.pa _ _ λf d e=>a d<|fE e
def E0(r:kA):Cl<|eZ r:=aeS<|hD.all<|.c (Nd.cl _)<|.c (rC _)<|.c (ff λ_ _=>bc _) Zc
def Nd.RV(a:Nd):∃e,a.d=.pa a.id e:=by obtain⟨f,h,ty,e,g,bs,b⟩:=a;exact⟨_,by rw[Nd.d];rfl⟩
def Az(T:cG)(H:a')(b:Nat)(c:D):Prop:=
 (∃q l r,c=.pa q (.pa b l::r)/\Cl c)\/∃t g ob l r,T t/\c=.rf t g 0/\H t=E ob/\ob.gen=g/\ob.keys=Q/\ob.cells=.pa b l::r/\Cl (.pa b l)
def Az.rV{b:Nat}(a:Az n6 bv.H b eq):Fw.rV bv eq=E b:=by
 obtain⟨k,h,r,rfl,-⟩|⟨l,i,j,h,r,-,rfl,d,e,f,g,-⟩:=a
 .rfl
 unfold Fw.rV;simp only[d,e,f,g,kV,bx]
def lH(T:cG)(H:a')(is:ax)(cs:DL):Prop:=A is=A cs/\∀(i b:Nat)(c:D),is[i]?=E b->cs[i]?=E c->Az T H b c
def lH.tail{b:Nat}{a:D}(d:lH n6 fd (b::gt) (a::a9)):Az n6 fd b a/\lH n6 fd gt a9:=
 ⟨d.2 0 b a C C,by have h:=d.1;simpa using h,λg b a e f=>d.2 (g+1) b a (Yq e)<|Yq f⟩
def To{T:cG}{b:Nat}:∀{d:ax}{e:DL},lH T bv.H d e->b∉d->mM bv b (d.map kP) e=E Q
 |[],[],_,_=>rfl
 |[],h::e,a,_=>by have g:=a.1;simp at g
 |i::d,[],a,_=>by have g:=a.1;simp at g
 |i::d,h::e,a,f=>by
  simp only[cF,lh]at f;obtain⟨j,k⟩:=a.tail;simp only[b4,kP,mM,j.rV,bx,f.1,bT];rw[To k f.2];rfl
def Tn{T:cG}{b:Nat}:∀{e:ax}{f:DL}{d:Nat},lH T bv.H e f->e.Nodup->e[d]?=E b->mM bv b (e.map kP) f=E (E d)
 |[],_,d,_,_,a=>by simp at a
 |i::e,[],d,g,_,_=>by have o:=g.1;simp at o
 |i::e,p::f,d,g,h,a=>by
  obtain⟨k,l⟩:=g.tail;simp only[b4,kP,mM,k.rV,bx];cases d with
  |zero=>simp at a;subst a;simp
  |succ d=>
   have a:e[d]?=E b:=Yq a;rw[lg]at h;have m:b≠i:=λj=>h.1 (j▸fE a);rw[aC m,Tn l h.2 a];rfl
def lH.mono(d:lH n6 fd gt a9)(e:∀a,n6 a->xs a/\hO a=fd a):lH xs hO gt a9:=
 ⟨d.1,λi b g j k=>by
  obtain o|⟨a,h,m,l,r,f,p,q,s⟩:=d.2 i b g j k
  .exact aG o
  exact aj ⟨a,h,m,l,r,(e a f).1,p,(e a f).2.trans q,s⟩⟩
def lH.add{cs:DL}{b:Nat}{c:D}(e:lH n6 fd gt cs)(l:Az n6 fd b c):lH n6 fd (gt++[b])<|cs++[c]:=by
 refine⟨Yr e.1,λf h i a d=>?_⟩;by_cases g:f<A gt
 .rw[lY g]at a;rw[lY (by rw[<-e.1];exact g)]at d;exact e.2 f h i a d
 rw[kR Zo]at a;rw[kR (by rw[<-e.1];omega),<-e.1]at d;obtain⟨j,-⟩:=dX.1 a;have k:f-(A gt)=0:=Ys j;rw[k]at a d;simp at a d;subst a;subst d;exact l
structure kC (V:List ae) (ds:List aa) (T:Nat->Prop) (H:Nat->Option Ob) (f gm:Nat) (e8:List Rt) (is:List Nat) (cs:List D):Prop where
 ob:∃a e b aq,H 21=E ⟨f,155,6,[ae.sl V,aa.sl ds,a,e,b,.mp 19 gm],Q⟩/\aL [126] H 294 4 aq a/\A aq=A e8/\(∀r∈aq,A r=4/\∀d∈r,Cl d)/\
  aL [137] H 156 1 (au Nd.d (e8.map Prod.fst)) e/\aL [147] H 210 1 (au dK (e8.map λr=>r.2.1)) b
 hm:H 19=E ⟨gm,0,1,cs,E (is.map kP)⟩
 B2:lH T H is cs
variable {H1:List Rt}
def kC.aA{H H':a'}(k:kC a5 be n6 H am a0 H1 gt a9)(l:H' 21=H 21)(m:H' 19=H 19)(o:H' 126=H 126)(p:H' 137=H 137)(q:H' 147=H 147)(r:∀a,n6 a->xs a/\H' a=H a):kC a5 be xs H' am a0 H1 gt a9:=by
 obtain⟨⟨t,w,u,s,d,e,f,g,h,i⟩,b,j⟩:=k;exact⟨⟨t,w,u,s,l.trans d,e.aA<|Yr o,f,g,h.aA<|Yr p,i.aA<|Yr q⟩,m.trans b,j.mono r⟩
def adx{f:D}{p:bi}(k:aL gt fd am a0 ip f)(i:∀a∈gt,p a=a)(m:∀r∈ip,∀d∈r,Cl d):aL gt (λa=>(fd<|p a).map<|Ob.aS p) am a0 ip f/\f.aS p=f:=by
 obtain⟨l,rfl⟩|⟨a,j,h,rfl,q⟩:=k
 .exact⟨aG ⟨l,C⟩,C⟩
 refine⟨aj ⟨a,j,h,C,?_⟩,by rw[D.aS,i a h]⟩;simp only[i a h,q,eE,Ob.aS];congr 2;have t:∀e:DL,(∀d∈e,Cl d)->e.map (D.aS p)=e:=λe o=>by
  exact(jn (g:=id) λd b=>D.iE<|o d b).trans Zs
 exact t _ λd b=>by obtain⟨r,s,b⟩:=eL.1 b;exact m r s d b
def kC.aS{cs:DL}{p:bi}(k:∀m,p (p m)=m)(I:p 21=21)(j:p 19=19)(J:p 126=126)(K:p 137=137)(L:p 147=147)
 (G:kC a5 be n6 fd am a0 H1 gt cs):kC a5 be (λd=>n6<|p d) (λd=>(fd<|p d).map<|Ob.aS p) am a0 H1 gt<|cs.map<|D.aS p:=by
 obtain⟨⟨U,X,V,S,q,s,t,h,u,w⟩,b,i⟩:=G;obtain⟨z,A⟩:=adx s (p:=p) (Yr J) λr M=>(h r M).2;obtain⟨d1,d2⟩:=FY u (p:=p) (Yr K) Nd.cl;obtain⟨B,C⟩:=FY w (p:=p) (Yr L) rC;refine⟨⟨U,X,V,S,by simp only[I,q,eE,Ob.aS,b4,eO,A,d2,C,D.iE<|ae.db a5,D.iE<|aa.db be,D.aS,j],z,t,h,d1,B⟩,by simp only[j,b,eE,Ob.aS],?_⟩;refine⟨by rw[bE];exact i.1,λl x ah R a=>?_⟩;rw[fP]at a;rcases e:cs[l]? with _|y
 .rw[e]at a;cases a
 rw[e]at a;simp only[eE,eH]at a;subst a;obtain⟨P,g,r,rfl,f⟩|⟨d,F,O,g,r,Y,rfl,z3,Z,ab,ad,o⟩:=i.2 l x y R e
 .exact aG ⟨P,g,r,D.iE f,by rw[D.iE f];exact f⟩
 refine aj ⟨p d,F,O.aS p,g,r.map<|D.aS p,by simpa only[k]using Y,by rw[D.aS],by simp only[k,z3,eE],Z,ab,?_,o⟩;simp only[Ob.aS,ad,b4,D.iE o]
def TD(d t:Nat):Prop:=∃j,j<d/\t=1000+2*j
def hR(d x:Nat):Nat:=if x=48 then 1000+2*d else if x=1000+2*d then 48 else if x=103 then 1001+2*d else if x=1001+2*d then 103 else x
def LZ(d a:Nat):hR d (hR d a)=a:=by
 unfold hR
 repeat' split
 all_goals omega
def vW{d a:Nat}(b:a≠48)(e:a≠103)(f:a<1000+2*d):hR d a=a:=by
 unfold hR;rw[aC b,aC Zo,aC e,aC Zo]
abbrev TF(d t:Nat):Prop:=TD d t\/t=48
def M4(d f:Nat):TF d (hR d f)↔TD (d+1) f:=by
 unfold TF TD;constructor
 .rintro(⟨b,g,e⟩|e)
  .have a:=LZ d f;rw[e,vW Zo Zo Zo]at a;exact⟨b,Zo,a.symm⟩
  have a:=LZ d f;rw[e]at a;exact⟨d,Zo,by rw[<-a];simp[hR]⟩
 rintro⟨b,g,rfl⟩;by_cases h:b=d
 .subst h;right;simp[hR]
 left;exact⟨b,Zo,vW Zo Zo Zo⟩
def uP(V:aF)(ds:aO)(x:Nd):Prop:=∀(d:Nat)(e:Int)(s:St)(dst:ON)(K:aU)(b gm:Nat)(e8:List Rt)(is:ax)(cs:DL),
 kC V ds (TD d) s.H b gm e8 is cs->(∀j∈x.ids,j∉is)->A e8+x.bf<=1000000->
 (∀H n(a:List kA),a.map Prod.snd=x.gj (A e8)->kC V ds (TD d) H b gm (e8++x.fC) (is++a.map λr=>r.2.1.id) (cs++a.map eZ)->(∀t,1000<=t->t<1000+2*d->H t=s.H t)->K ({s with H:=H,n:=n}.put dst<|.tp []))->
 er aB s 117 [.rf 21 b 0,I e,x.d] dst K
def Ob.me(e:∀b,g8 (g8 b)=b)(a:sC):(a.map<|Ob.aS g8).map (Ob.aS g8)=a:=by
 obtain _|f:=a
 .rfl
 obtain⟨g,i,k,h,j⟩:=f;simp only[eE,Ob.aS,eu];congr 2;exact(jn (g:=id) λd _=>D.me e d).trans Zs
def Sj{f:Nd}(V:uP a5 be f){d:Nat}{e:St}{h gm:Nat}{e8:List Rt}{is:ax}{cs:DL}
 (F:kC a5 be (TF d) e.H h gm e8 is cs) (P:∀X∈f.ids,X∉is) (R:A e8+f.bf<=1000000)
 (B:∀H n(j:List kA),j.map Prod.snd=f.gj (A e8)->kC a5 be (TF d) H h gm (e8++f.fC) (is++j.map λr=>r.2.1.id) (cs++j.map eZ)->(∀a,1000<=a->a<1000+2*d->H a=e.H a)->H 48=e.H 48->H 103=e.H 103->c2 ({e with H:=H,n:=n}.put g7<|.tp [])):
 er aB e 117 [.rf 21 h 0,I a3,f.d] g7 c2:=by
 have b:=LZ d;have o:hR d 21=21:=vW Zd Zd Zo;have w:hR d 19=19:=vW Zd Zd Zo;have s:hR d 126=126:=vW Zd Zd Zo;have t:hR d 137=137:=vW Zd Zd Zo;have u:hR d 147=147:=vW Zd Zd Zo;have L:D.hP (hR d) [.rf 21 h 0,I a3,f.d]=[.rf 21 h 0,I a3,f.d]:=by
  have z:D.aS (hR d) (.rf 21 h 0)=.rf 21 h 0:=by rw[D.aS,o]
  rw[D.hP,D.hP,D.hP,D.hP,z,D.iE<|bc _,D.iE<|Nd.cl f]
 have K:(λa=>TF d<|hR d a)=TD (d+1):=by funext a;exact propext<|M4 d a
 have J:(λa=>TD (d+1)<|hR d a)=TF d:=by funext a;exact propext<|(M4 d _).symm.trans<|Yw b
 have q:=F.aS b o w s t u;rw[K]at q;refine A5 (hR d) b ?_;rw[L];refine V (d+1) a3 (e.aS<|hR d) g7 _ h gm e8 is (cs.map<|D.aS<|hR d) q P R λH n j O G l=>?_;have k:=G.aS b o w s t u;rw[J]at k;have M:(cs.map (D.aS<|hR d)++j.map eZ).map (D.aS<|hR d)=cs++j.map eZ:=by
  rw[bX,eu,eu];congr 1
  .exact(jn (g:=id) λx _=>D.me b x).trans Zs
  exact jn λr _=>D.iE<|E0 r
 rw[M]at k;have m:∀a,(e.aS<|hR d).H a=(e.H<|hR d a).map (Ob.aS<|hR d):=λa=>C;rw[St.vR];have y:({e.aS (hR d)with H:=H,n:=n}:St).aS (hR d)={e with H:=λa=>(H<|hR d a).map (Ob.aS<|hR d),n:=λa=>n (hR d a)}:=by
  simp only[St.aS,St.mk.injEq,i'];funext Y;exact D.me b _
 rw[y,D.iE<|Cl.jf Zs];refine B _ _ j O k (λa S U=>?_) ?_ ?_
 .have i:=vW Zo Zo U;simp only[i];rw[l a S Zo,m,i,Ob.me b]
 .have i:hR d 48=1000+2*d:=by simp[hR]
  have p:hR d (1000+2*d)=48:=by rw[<-i];exact b 48
  simp only[i];rw[l _ Zo Zo,m,p,Ob.me b]
 have i:hR d 103=1001+2*d:=by unfold hR;rw[aC Zd,aC Zo,aM C]
 have p:hR d (1001+2*d)=103:=by rw[<-i];exact b 103
 simp only[i];rw[l _ Zo Zo,m,p,Ob.me b]
def Vr:d_ g3 bv []=E (.tp []):=cQ C C
def aL.len{P:aH}{S:ax}{t:a6}(b:aL S fd am a0 ip eq)(a:jl P t=1):xn P t eq=E (I (A ip:Nat)):=by
 obtain⟨rfl,rfl⟩|⟨g,d,f,rfl,e⟩:=b
 .simp only[xn,a,bx];rfl
 simp only[xn,a,bx]
def YQ(a:List Bool)(i:A a<=1099511627776):az 185 [.sl 1<|au B a]<|.sl 1<|au B a:=by
 have g:gE aB 185 [.sl 1<|au B a] 4 1<|au B a:=by
  obtain _|⟨b,a⟩:=a
  .refine gE.none HG λk l=>?_;refine gE.ey [] [.tmp 2] C C Zk Zt C Zs kl<|(ZN) ?_;exact⟨kT _,aj ⟨7,⟨0,4,1,[],Q⟩,C,C,C,C,⟨[],C⟩,C⟩⟩
  have e:=Cy (f:=B) (λ_=>C) (b::a);simp only[dC]at i;have j:=fg B (b::a);have d:=LI (f:=B) (λ_=>bc _) (b::a);simp only[au,b4,dC]at e j d⊢;refine gE.ey [] [.tmp 2] C C Zk Zt C Zs d<|(ad e) ?_;exact⟨⟨Zo,l3⟩,aj ⟨7,⟨0,4,1,_,Q⟩,Zs,C,C,C,⟨[],Zs⟩,C⟩⟩
 exact g.sp<|ha _
def Nd.U0(a:Nd):∃e g h i j k m o p f,a.d=.pa a.id [I<|L.kd a.t,e,g,h,i,j,k,m,o,p,f,I a.l,.sl 1<|au Nd.d a.ks,.sl 1<|au Bi.d a.bs,bd a.b]:=by
 obtain⟨q,⟨r,v,w,⟨y,A,z⟩,x,B⟩,⟨D,G,F⟩,u,s,bs,b⟩:=a;simp only[Nd.d,L.ds,J.ds,bg,aY,Nd.ja,Nd.id,Nd.t,L.kd,Nd.l,Nd.ks,Nd.bs,Nd.b];exact⟨_,_,_,_,_,_,_,_,_,_,C⟩
def FC(d:v3∈m5.ks):∀a∈v3.ids,a∈m5.ids:=λa b=>by
 rw[Nd.mL];exact mo _<|gq _<|eL.2 ⟨_,aP.2 ⟨v3,d,C⟩,b⟩
def JV:∀{d:List (List g2)}{i j:Nat}{a:g2},d.flatten.Nodup->(e:i<A d)->(h:j<A d)->a∈d[i]->a∈d[j]->i=j
 |[],_,_,_,_,e,_,_,_=>by simp at e
 |x::d,0,0,a,b,e,h,f,g=>rfl
 |x::d,0,j+1,a,b,e,h,f,g=>by
  rw[dT,iQ]at b;exact absurd C (b.2.2 a f a<|eL.2 ⟨_,aD<|Yq h,g⟩)
 |x::d,i+1,0,a,b,e,h,f,g=>by
  rw[dT,iQ]at b;exact absurd C (b.2.2 a g a<|eL.2 ⟨_,aD<|Yq e,f⟩)
 |x::d,i+1,j+1,a,b,e,h,f,g=>by
  rw[dT,iQ]at b;rw[JV b.2.1 (Yq e) (Yq h) f g]
variable {ai3:List kA}
def Sm{d:Nd}(h:d.ids.Nodup){b:Nat}(q:b<A d.ks)(l:ai3.map Prod.snd=ls d am b):∀j∈(d.ks[b]).ids,j∉ai3.map λr=>r.2.1.id:=λj m p=>by
 obtain⟨r,s,rfl⟩:=aP.1 p;have e:r.2∈ls d am b:=by rw[<-l];exact aP.2 ⟨r,s,C⟩
 unfold ls at e;obtain⟨t,o,f⟩:=eL.1 e;obtain⟨i,g,rfl⟩:=aP.1 o;have g:i<b:=Yq g;rw[bL Zo]at f;have k:=JT _ _ _ f;rw[Nd.mL,lg,iQ]at h;have:=JV (i:=i) (j:=b) (a:=r.2.1.id) h.2.2.1 ch (Yq q) (Yq k)<|Yq m;omega
def Sn(a:m5.ids.Nodup)(f:v3∈m5.ks):∀b∈v3.ids,b≠m5.id:=λb e d=>by
 rw[Nd.mL,lg]at a;exact a.1 (d▸gq _ (eL.2 ⟨_,aP.2 ⟨v3,f,C⟩,e⟩))
def Cv{x:Nd}{q:Nat}(d:q<A x.ks):A (g_ x q)+(if ig (L.kd x.t) q then 1 else 0)+(x.ks[q]).bf<=x.bf:=by
 have a:=LG x (q:=q+1);rw[Cw d]at a;simp only[b9,zI]at a;split
 .rename_i b;rw[aM b,bL (by rw[w8];have:=b.2;omega)]at a;simp at a;omega
 rename_i b;rw[aC b]at a;simp at a;omega
def aap(a:Nd)(o:L.kd a.t≠9)(m:L.kd a.t≠11)(ab:a.ids.Nodup)(aK:A a.ks<=1048576)(ae:∀ak∈a.ks,uP a5 be ak):uP a5 be a:=by
 intro d u s aI am j w M ah O U aa aL B;obtain⟨ap,ar,av,ax,ay,az,aA,aB,aH,aq,X⟩:=Nd.U0 a;have l:∀K,¬ig (L.kd a.t) K:=λK q=>by obtain q|q:=q.1;exact o q;exact m q
 have f9:(L.kd a.t !=9)=W:=Yr o;have f11:(L.kd a.t !=11)=W:=Yr m;rw[rJ,Gy,aC (by rintro(q|q);exact o q;exact m q),aY]at B;rw[X];refine sQ [] [] C C Zk Zt C Zs ?_;simp only[f9,f11,fg Nd.d a.ks,go_sem];refine fG 35 (A a.ks) (λq=>mx 157 s.N s.T [(0,.rf 21 j 0),(1,I u),(33,.sl 1<|au Nd.d a.ks),(34,I<|A a.ks)] λP i=>∃e:List kA,e.map Prod.snd=ls a (A M) q/\kC a5 be (TD d) i j w (M++g_ a q) (ah++e.map λr=>r.2.1.id) (O++e.map eZ)/\∀b,1000<=b->b<1000+2*d->i b=s.H b) C
  ⟨C,C,C,ow,[],by simp[E5],by simpa[GB]using U,λ_ _ _=>C⟩ ?_
 rintro q P i aN ao an aM⟨rfl,rfl,e,k,D,F⟩;refine ZL (λg=>?_) λS=>?_
 .have J:=aD g;have V:=Cv g;rw[aC<|l q]at V;refine(ad<|jx (f:=Nd.d) g) ?_;refine aj<|aj (ae _ J d u _ _ _ j w _ _ _ D (λp G z=>?_) wG λal aP R Y aJ Z=>?_)
  .obtain z|z:=ca.1 z
   .exact aa p (FC J p G) z
   exact Sm ab g k p G z
  refine(ZN) ?_;refine nM ⟨C,C,C,bU,e++R,?_,?_,λb x y=>(Z b x y).trans<|F b x y⟩
  .rw[bX,k,Y,Be g,b9,xJ,pB,aC<|l q,oX]
  rwa[Cw g,aC<|l q,aY,<-dy,bX,bX,<-dy,<-dy]
 obtain rfl:q=A a.ks:=Zo;exact(ad S)<|B _ _ e k D F
def lH.Qn:∀(d:List kA){e:ax}{a:DL},lH n6 fd e a->lH n6 fd (e++d.map λr=>r.2.1.id) (a++d.map eZ)
 |[],e,a,h=>Yq h
 |r::d,e,a,h=>by
  obtain⟨g,f⟩:=Nd.RV r.2.1;have i:=lH.Qn d<|h.add (b:=r.2.1.id) (c:=eZ r)<|aG ⟨r.1,g,_,by rw[eZ,f],E0 r⟩;rw[b4,b4];simpa using i
def AE{d a:Nat}(b:TD d a):1000<=a/\a<1000+2*d:=by obtain⟨f,e,rfl⟩:=b;omega
def kC.start{d:Nat}{e a:a'}{j h g b:Nat}{cs i r:DL}{ob:Ob}(B:kC a5 be (TD d) e j h H1 gt cs)(u:a 21=e 21)(x:a 126=e 126)(y:a 137=e 137)(z:a 147=e 147)(D:∀f,1000<=f->a f=e f)
 (w:a 19=E ⟨h,0,1,cs++[.rf 48 g 0],E<|(gt++[b]).map kP⟩) (A:a 48=E ob) (I:ob.gen=g) (J:ob.keys=Q) (F:ob.cells=.pa b i::r) (G:Cl<|.pa b i):kC a5 be (TF d) a j h H1 (gt++[b])<|cs++[.rf 48 g 0]:=by
 obtain⟨⟨L,O,M,K,l,m,o,p,q,s⟩,P,t⟩:=B;exact⟨⟨L,O,M,K,u.trans l,m.aA<|Yr x,o,p,q.aA<|Yr y,s.aA<|Yr z⟩,w,
  (t.mono λf k=>⟨aG k,D f (AE k).1⟩).add (aj ⟨48,g,ob,i,r,aj C,C,A,I,J,F,G⟩)⟩
def kC.keep{d:Nat}{a b:a'}{g h:Nat}(p:kC a5 be (TF d) a g h H1 gt a9)(i:b 21=a 21)(j:b 19=a 19)(k:b 126=a 126)(l:b 137=a 137)(m:b 147=a 147)(o:b 48=a 48)(q:∀e,1000<=e->b e=a e):kC a5 be (TF d) b g h H1 gt a9:=
 p.aA i j k l m λe f=>⟨f,by obtain f|rfl:=f;exact q e (AE f).1;exact o⟩
theorem lH.ai(k:lH n6 fd gt a9)(D:∀a,n6 a->hO a=fd a\/∃e f,fd a=E e/\hO a=E f/\f.gen=e.gen/\f.keys=e.keys/\f.cells.head?=e.cells.head?):lH n6 hO gt a9:=
 ⟨k.1,λF b w B C=>by
  obtain G|⟨a,j,e,l,r,h,o,p,q,s,t,u⟩:=k.2 F b w B C
  .exact aG G
  obtain x|⟨K,m,i,y,z,A,d⟩:=D a h
  .exact aj ⟨a,j,e,l,r,h,o,x.trans p,q,s,t,u⟩
  rw[p]at i;cases i;rw[t]at d;rcases g:m.cells with _|⟨J,I⟩
  .rw[g]at d;cases d
  rw[g]at d;simp only[C8,eH]at d;exact aj ⟨a,j,m,l,I,h,o,y,z.trans q,A.trans s,by rw[g,d],u⟩⟩
def afD(a b:List g2)(e d:g2):(a++[e]++b).set (A a) d=a++[d]++b:=by
 rw[dy,dy,Dd _ _<|bJ _,pJ];rfl
def aaN(a d:List g2)(b:g2):(a++[b]++d)[A a]?=E b:=by
 rw[dy,kR<|bJ _,pJ];rfl
def afr{a:Nd}(k:L.kd a.t=a3)(o:yh a)(p:a3=9->∀m∈a.ks.drop 1,L.kd m.t=10){b:Nat}(i:b<A a.bS)(w:b+1<A a.ks):(a.bS[b]).1.fC=(a.ks[b+1]).fC/\(∀d,(a.bS[b]).1.gj d=(a.ks[b+1]).gj d)/\(a.bS[b]).1.bf=(a.ks[b+1]).bf/\∀u∈(a.bS[b]).1.ids,u∈(a.ks[b+1]).ids:=by
 have r:b<A (a.ks.drop 1):=co;have h:(a.ks.drop 1)[b]=a.ks[b+1]:=by rw[sr];congr 1;omega
 have s:a.bS[b]=if L.kd a.t=9 then((a.ks[b+1]).ks.headD a.ks[b+1],(a.ks[b+1]).bs)else(a.ks[b+1],[]):=by
  rw[<-h];exact fk _
 rw[s,k];have l:a.ks[b+1]∈a.ks.drop 1:=h▸aD r;by_cases e:a3=9
 .obtain⟨j,-⟩|⟨-,-,q⟩:=o
  .rw[k,e]at j;exact absurd j Zd
  obtain⟨x,g⟩:=q _ l;have f:=λd=>Rc (p e _ l) g d;simp only[e,bx,g,tu];exact⟨(f 0).2.1.symm,λd=>(f d).1.symm,(f 0).2.2.symm,FC<|Yx g⟩
 rw[aC e];exact⟨C,λ_=>C,C,λ_ i=>i⟩
def Gk{s:St}{a:Option D}{d:D}(b:a=E d)(e:c2<|s.put g7 d):nC s g7 c2 a:=(Yy b) e
def aaq{aI:aF}{aK:aO}(x:Nd){aH:Int}(P:L.kd x.t=aH)(bo:aH=9\/aH=11)(ar:yh x)(dk:aH=9->∀cQ∈x.ks.drop 1,L.kd cQ.t=10)(dA:0<=x.l)(ek:x.l<=1000)(bq:x.ids.Nodup)(dJ:x.num<=1048576)
 (dX:∀co,x.ks.head?=E co->uP aI aK co) (dY:∀j∈x.bS,uP aI aK j.1):uP aI aK x:=by
 intro d aV o ed ec aX gm e8 is cs ax bm el b0;have dw:A x.ks<=1048576:=by have:=(@Nd.oL x).1;omega
 have Z:0<A x.ks:=by obtain⟨-,am⟩|⟨-,am,-⟩:=ar<;>omega
 obtain⟨ao,du,cd⟩:∃ao,x.ks.head?=E ao/\x.ks[0]?=E ao:=by
  rcases dx:x.ks with _|⟨a,l⟩
  .rw[dx]at Z;simp at Z
  exact⟨a,C,C⟩
 have aS:x.ks[0]=ao:=by rw[bL Z]at cd;exact Aw cd
 have cb:ao∈x.ks:=aS▸aD Z;have ds:A x.bS=A x.ks-1:=w8 x;obtain⟨cv,cx,cy,cz,cA,cB,cC,cD,cF,cw,a2⟩:=Nd.U0 x;rw[P]at a2;have a6:=Nd.cl x;have dj:=Yt x ar dJ;have dq:=SA x ar dw;have aR:=λb=>Kt x b dA Zo;have b8:=A7 (n:=1048576) x.bS [] λj ab=>by have:=(Bk ar j ab).1;omega
 rw[<-Ew]at b8;have ei:A x.bS*1048576<=1048576*1048576:=wy _ Zo;simp only[gR,ew]at b8;have dH:=UC x.cap Zo;have b7:=YQ (x.cap.map λb=>ah<|b.e.l=x.l+1) ch;have aQ:∀bu,ig aH bu↔0<bu:=λbu=>⟨λq=>q.2,λq=>⟨bo,q⟩⟩;obtain⟨bw,bA,bz,aq,aP,bk,al,br,b3,b2⟩:=ax.ob;have c5:=ax.hm;have dD:∀bv:St,(∀g,1000<=g->bv.H g=o.H g)->mM bv x.id (is.map kP) cs=E Q:=λbv dU=>To (T:=TD d) (ax.B2.mono λg R=>⟨R,dU g (AE R).1⟩)<|bm x.id (by rw[Nd.mL];simp);rw[a2]at a6 dj dq aR;rw[rJ,Gy,P,aM bo]at b0;have dF:zr aB 153=E (.pointer Q):=Zk;have cU:cE aB 288=E (4,1,1):=Zk;have cW:cE aB 217=E (3,1,8):=Zk;have cT:cE aB 89=E (294,4,80):=Zk;have cX:cE aB 149=E (156,1,8):=Zk;have cV:cE aB 152=E (210,1,24):=Zk;have dB:A cs=A is:=ax.B2.1.symm;rw[a2];obtain⟨G,M⟩:∃G:D,G=.pa x.id [I aH,cv,cx,cy,cz,cA,cB,cC,cD,cF,cw,I x.l,.sl 1 (au Nd.d x.ks),.sl 1 (au Bi.d x.bs),bd x.b]:=⟨_,C⟩;refine sQ [48,1000069,1000071,1000088] [] C C Zk Zt C Zs ?_;obtain rfl|rfl:=bo
 all_goals
  refine(bQ<|JJ aP<|JJ c5 dF) ?_;rw[dD _ λg R=>by simp only[ai];rw[aC Zo,aC Zo]];simp only[dK,go_sem];refine⟨dB,?_⟩;refine fG 60 (A x.cap) (λq=>mx 157 o.N o.T [(0,.rf 21 aX 0),(1,I aV),(2,G),(8,.rf 48 (o.n 48) 0),(58,.sl 1<|au Bi.d x.cap),(59,I<|A x.cap)] λenv p=>kC aI aK (TF d) p aX gm e8 (is++[x.id]) (cs++[.rf 48 (o.n 48) 0])/\p 48=E ⟨o.n 48,219,3,[G,dK x.cap,bp],Q⟩/\
   (∀g,1000<=g->g<1000+2*d->p g=o.H g)/\aL [69] p 4 1 (au B ((Y q x.cap).map λb=>ah<|b.e.l=x.l+1)) (env 9)) C
   ⟨C,C,C,by simp[aw,ej,M],?_,by simp[ai,M],λg i m=>by simp only[ai];rw[aC Zo,aC Zo,aC Zo],aG ⟨C,C⟩⟩ ?_
  .refine ax.start bF bF bF bF (λg i=>by simp only[ai];rw[aC Zo,aC Zo,aC Zo]) (by simp[ai,kP]) (ob:=⟨o.n 48,219,3,[G,dK x.cap,bp],Q⟩) (by simp[ai,M]) C C (by rw[M]) a6
  rintro q env p dZ T cu dQ⟨rfl,rfl,K,w,V,az⟩;obtain⟨eB,aW⟩:=Zx<|env 9;rw[aW]at az;refine ZL (λy=>?_) λam=>?_
  .have a':=jx (f:=Bi.d) y;have aR:=aR x.cap[q];rw[<-M]at aR;refine(ad<|JJ aW a') ?_;refine hW aR (.c (by rw[M];exact a6)<|.c (Bi.cl _) .n) ?_;refine(ZN) ?_;refine GK.cM<|pR (S:=[69]) (f:=B) (l:=(Y q x.cap).map λb=>ah<|b.e.l=x.l+1) (a:=ah<|x.cap[q].e.l=x.l+1) cU (by simp only[aw,bx,bT,bj,e7,eQ,reduceCtorEq];exact az.aA bF) hF C ch Zd ?_;intro cq d' eu dV da;have U:∀g,g≠69->g≠68->cq g=p g:=λg i m=>by rw[da g i (by simpa using i)];simp only[ai];rw[aC m,aC m]
   refine(ZN) ?_;refine gY y ⟨C,C,C,bU,K.keep (U _ Zd Zd) (U _ Zd Zd) (U _ Zd Zd) (U _ Zd Zd) (U _ Zd Zd) (U _ Zd Zd) λg i=>U g Zo Zo,(U _ Zd Zd).trans w,λg i m=>(U g Zo Zo).trans<|V g i m,?_⟩;rw[dm y,bX];simpa[aw]using dV
  obtain rfl:q=A x.cap:=Zo;rw[cc]at az;refine(ad am) ?_;generalize eh:(x.cap.map λb=>ah<|b.e.l=x.l+1)=aU at az b7;refine GK.nY [69] 9 (.sl 1<|au B aU) (by simp only[aw,bT,bj,aW,e7,eQ,reduceCtorEq];exact mQ (az.aA o4) λ_ _=>bc _) (ff λ_ _=>bc _) ?_;have a':(au Nd.d x.ks)[0]?=E [ao.d]:=by rw[jx Z,aS]
  refine(ad<|JJ M a') ?_;have u:∀g,g≠69->aT [69] p g=p g:=λg am=>by simp[aT,am]
  have b6:=Cv (x:=x) Z;rw[aC (by rw[P,aQ];simp),aS,GB]at b6;refine aj<|aj (Sj (dX ao du) (d:=d) (gm:=gm) (e8:=e8) (is:=is++[x.id]) (cs:=cs++[.rf 48 (o.n 48) 0]) (K.keep (u _ Zd) (u _ Zd) (u _ Zd) (u _ Zd) (u _ Zd) (u _ Zd) λg i=>u g Zo) (λX a4 z=>?_) (by simp at b6;omega) λcr d' cY b' b1 b_ bW _=>?_)
  .obtain z|z:=ca.1 z
   .exact bm X (FC cb X a4) z
   exact Sn bq cb X a4 (by simpa using z)
  have w:=bW.trans<|(u 48 Zd).trans w;have V:∀g,1000<=g->g<1000+2*d->cr g=o.H g:=λg i m=>(b_ g i m).trans<|(u g Zo).trans<|V g i m;refine(ZN) ?_;have dn:A (x.bS.map Prod.fst)=A x.bS:=kl;refine(bQ dn) ?_;refine fG 87 (A x.bS) (λq=>mx 157 o.N o.T [(0,.rf 21 aX 0),(1,I aV),(2,G),(8,.rf 48 (o.n 48) 0),(9,.sl 1<|au B aU),(13,.sl 1<|au dK<|x.bS.map Prod.snd),(85,.sl 1<|au Nd.d<|x.bS.map Prod.fst),(86,I<|A x.bS)] λenv p=>∃(s:List kA)(a7:D),s.map Prod.snd=ls x (A e8) (q+1)/\
   kC aI aK (TF d) p aX gm (e8++g_ x (q+1)) (is++[x.id]++s.map λr=>r.2.1.id) (cs++[.rf 48 (o.n 48) 0]++s.map eZ)/\p 48=E ⟨o.n 48,219,3,[G,dK x.cap,a7],Q⟩/\(∀g,1000<=g->g<1000+2*d->p g=o.H g)/\
   aL [103] p 3 1 (au o1<|(range' 1 q).map<|cK (L.kd x.t) (x.ks.map Nd.bf)<|A e8) a7) C
   ⟨C,C,C,by simp[aw,M],cY,.sc<|.slice Q 0 0,?_,?_,w,V,aG ⟨C,C⟩⟩ ?_
  .rw[b',Be Z,E5,aY,aS,P];simp[cK,f']
  .rw[Cw Z,GB,P,aC<|Yx aQ,aY,aY,aS];exact b1
  clear w V b1 K az bW b_ b' aW u;rintro q env p dZ T cu dQ⟨rfl,rfl,s,a7,a3,K,w,V,bt⟩;refine(ZN) ?_;by_cases y:q<A x.bS
  .refine GK.cM ?_;have bl:ah ((q:Int)<(A x.bS:Nat))=W:=Yq y;obtain⟨j,ab⟩:∃j,j=x.bS[q]:=⟨_,C⟩;have cZ:(au Nd.d<|x.bS.map Prod.fst)[q]?=E [j.1.d]:=by simp[au,y,ab]
   have bI:(au dK<|x.bS.map Prod.snd)[q]?=E [dK j.2]:=by simp[au,y,ab]
   have dI:=UC j.2<|Yo<|(Bk ar j (ab▸aD y)).2;obtain⟨bw,bA,bz,aq,aP,bk,al,br,b3,b2⟩:=K.ob;refine(ad<|JJ bl cZ)<|dP [48,21] []<|(ad<|JJ aP w)<|Gk (d:=I (A (e8++g_ x (q+1)):Nat)) ?_ ?_
   .rw[<-al];obtain⟨c0,rfl⟩|⟨g,ee,-,rfl,-⟩:=bk
    .rw[c0];rfl
    rfl
   simp only[aP,w,jt,go_sem];have dh:A (e8++g_ x (q+1))=cK (L.kd x.t) (x.ks.map Nd.bf) (A e8) (q+1):=by rw[b9,xJ]
   have eg:q<=1048576:=Zo;refine js (S:=[103]) (aq:=au o1<|(range' 1 q).map<|cK (L.kd x.t) (x.ks.map Nd.bf)<|A e8) (bD:=au o1 [A<|e8++g_ x (q+1)]) Zs cW (by simp only[aw,bx,bT,bj,e7,eQ,reduceCtorEq];exact bt.aA bF) (ha _) Im kl C (by simp[au];omega) (by simp[au];unfold aE;omega) (by show 103<157;decide) λbB ep ex cg dc=>?_;rw[<-r9]at cg;obtain⟨an,_⟩|⟨t1,ba,F,rfl,dL⟩:=cg
   .simp[au]at an
   simp only[dg]at F;subst F;have av:∀g,g≠103->g≠102->bB g=p g:=λg i m=>by rw[dc g i<|Yq i];simp only[ai];rw[aC m,aC m]
   have c8:=(av 48 Zd Zd).trans w;have bb:=(av 21 Zd Zd).trans aP;refine(ad c8)<|lq [0,1,2,3,4,5,6,7,8,9,11,12,13,14,16,10,15,17,18,19,20,21,22,23] [48,21] [] ?_;simp only[bb,bI,dK,go_sem];refine(nl dI) ?_;refine(nl dH) ?_;refine hW b7 (.c (ff λ_ _=>bc _) .n)<|(ad<|JJ bb @jt) ?_;have dT:∀r∈aq,A r=4:=λr ak=>(br r ak).1;have eo:A aq<=1000000:=by rw[al,b9];have:=LG x (q:=q+1);omega
   refine js (S:=[126]) (aq:=aq) (bD:=[[I aV,.sl 1<|au S (j.2.map λb=>b.e.n),.sl 1<|au S (x.cap.map λb=>b.e.n),.sl 1<|au B aU]]) Zs cT (by simp only[aw,bx,bT,bj,e7,eQ,reduceCtorEq];exact bk.aA<|Yu<|av 126 Zd Zd) dT hF Zs C ch m_ (by show 126<157;decide) λbE eq ey dW bi=>?_;obtain⟨an,_⟩|⟨t1,bJ,F,rfl,dM⟩:=dW
   .simp at an
   simp only[dg]at F;subst F;have a0:∀g,g≠126->g≠125->g≠48->bE g=bB g:=λg i m ap=>by rw[bi g i<|Yq i];simp only[ai];rw[aC m,aC m,aC ap]
   have bY:=bi 48 Zd Zd;have bV:=bi 21 Zd Zd;simp only[a_,bN,dG,bj,dv,bb]at bY bV;refine(ad bV)<|rH (.bS [0,1,2,3,4,5,6,9,10,11,12,13,14,15,16] 7 (.bS [] 8 (.fin [17,18,19,20,21,22,23,24]) 17<|.fin [8,18,19,20,21,22,23,24]) 17<|.fin [7,8,18,19,20,21,22,23,24]) [21] [] fb Zk ?_;obtain⟨lp,a5⟩:=Nd.RV j.1;simp only[bI,a5,dK,jt,go_sem];refine⟨⟨?_,?_⟩,?_⟩
   all_goals
    refine js (S:=[137]) (aq:=au Nd.d<|(e8++g_ x (q+1)).map Prod.fst) (bD:=au Nd.d [j.1]) Zs cX (by simp only[aw,bx,bT,bj,e7,eQ,reduceCtorEq];exact b3.aA (by simp[ai,a0 137 Zd Zd Zd,av 137 Zd Zd])) (ha _) (by simp[aw,dS,ai,au,a5]) kl (by simp[au,a5,cO]) (by simp[au]at al⊢;omega) (by simp[au]at al⊢;unfold aE;omega) (by show 137<157;decide) λct er ez ci a1=>?_;rw[<-r9]at ci;obtain⟨an,_⟩|⟨t1,bK,F,rfl,dN⟩:=ci
    .simp[au]at an
    simp only[dg]at F;subst F;have bP:=a1 146 Zd Zd;have be:=a1 21 Zd Zd;simp only[a_,bN,dG,bj,dv]at bP be;refine(ad<|JJ be @jt)<|js (S:=[147]) (aq:=au dK ((e8++g_ x (q+1)).map λr=>r.2.1)) (bD:=au dK [j.2]) Zs cV (by
     simp only[aw,bx,bT,bj,e7,eQ,reduceCtorEq];refine b2.aA ?_;simp only[dg,kg];have bR:=a1 147 Zd Zd;simp only[a_,dG,bj,dv]at bR;simp only[a_,dG,bj,dv,bR,a0 147 Zd Zd Zd,av 147 Zd Zd]) (ha _) (by simp[aw,dS,ai,au,bP]) kl (by simp[au,cO]) (by simp[au]at al⊢;omega) (by simp[au]at al⊢;unfold aE;omega) (by show 147<157;decide) ?_
    intro a8 es eA cj dd;rw[<-r9]at cj;obtain⟨an,_⟩|⟨t1,bO,F,rfl,dO⟩:=cj
    .simp[au]at an
    simp only[dg]at F;subst F;have bh:∀g,g≠147->g≠146->a8 g=ct g:=λg i m=>by
     rw[dd g i<|Yq i]
     try simp only[ai,m,bT]
    have aZ:∀g,g≠147->g≠146->g≠137->g≠136->g≠21->a8 g=bE g:=λg i m ap c7 c'=>by
     rw[bh g i m,a1 g ap<|Yq ap];simp only[ai,m,c7,c',bT]
    have c6:=(bh 21 Zd Zd).trans be;refine(ad c6) ?_;have ay:q+1<A x.ks:=Zo;have ce:=aD ay;obtain⟨ck,cm,eb,cn⟩:=afr P ar dk y ay;rw[<-ab]at ck cm eb cn;have di:=Cv ay;rw[aM (by rw[P,aQ];omega)]at di;rw[<-a5];have bg:∀g,(g<100\/1000<=g)->g≠48->g≠21->a8 g=p g:=λg i m ap=>by
     rw[aZ g Zo Zo Zo Zo ap,a0 g Zo Zo m,av g Zo Zo]
    have bZ:=(aZ 48 Zd Zd Zd Zd Zd).trans bY;have c3:=(aZ 126 Zd Zd Zd Zd Zd).trans dM;have c4:=(bh 137 Zd Zd).trans dN;have c2:=(aZ 103 Zd Zd Zd Zd Zd).trans<|(a0 103 Zd Zd Zd).trans dL;have bG:(e8++g_ x (q+1)++[((j.1,j.2,x):Rt)]).map Prod.fst=(e8++g_ x (q+1)).map Prod.fst++[j.1]:=Zs;have bH:(e8++g_ x (q+1)++[((j.1,j.2,x):Rt)]).map (λr=>r.2.1)=(e8++g_ x (q+1)).map (λr=>r.2.1)++[j.2]:=Zs;refine aj<|aj (Sj (dY j (ab▸aD y)) (d:=d) (gm:=gm) (e8:=e8++g_ x (q+1)++[(j.1,j.2,x)]) (is:=is++[x.id]++s.map λr=>r.2.1.id) (cs:=cs++[.rf 48 (o.n 48) 0]++s.map eZ) ?_ (λX a4 z=>?_) ?_ λa9 et aN dp ef dt c9 c1=>?_)
    .refine⟨⟨.ms 126 bJ _,.ms 137 bK _,.ms 147 bO _,aq++[[I aV,.sl 1<|au S (j.2.map λb=>b.e.n),.sl 1<|au S (x.cap.map λb=>b.e.n),.sl 1<|au B aU]],my,aj ⟨126,bJ,Zs,C,by simp only[a_,dG,bj,dv];exact c3⟩,by simp[al];omega,λr ak=>?_,aj ⟨137,bK,Zs,Yr bG,by simp only[a_,dG,bj,dv];rw[bG];exact c4⟩,aj ⟨147,bO,Zs,Yr bH,by simp only[a_,dG,bj,dv];rw[bH];exact dO⟩⟩,?_,?_⟩
     .obtain ak|ak:=ca.1 ak
      .exact br r ak
      simp only[dg]at ak;subst ak;refine⟨C,?_⟩;simp only[bM];exact⟨bc _,ff λ_ _=>bc _,ff λ_ _=>bc _,ff λ_ _=>bc _,Zs⟩
     .simp only[a_,dG,bj,dv];exact(bg 19 Zd Zd Zd).trans K.hm
     refine K.B2.ai λg R=>?_;obtain R|rfl:=R
     .have:=(AE R).1;left;simp only[ai];rw[aC Zo,aC Zo];exact bg g Zo Zo Zo
     right;exact⟨_,⟨o.n 48,219,3,[G,dK x.cap,.ms 103 ba<|A<|(range' 1 q).map (cK (L.kd x.t) (x.ks.map Nd.bf)<|A e8)++[A<|e8++g_ x (q+1)]],Q⟩,w,by simp only[a_,dG,bj,dv];exact bZ,C,C,C⟩
    .have bn:=cn X a4;obtain z|z:=ca.1 z
     .obtain z|z:=ca.1 z
      .exact bm X (FC ce X bn) z
      exact Sn bq ce X bn<|Yq z
     exact Sm bq ay a3 X bn z
    .simp only[b9,dC,gR];omega
    refine(ZN) ?_;have df:=xJ x (A e8)<|q+1;have cf:(range' 1<|q+1).map (cK (L.kd x.t) (x.ks.map Nd.bf)<|A e8)=(range' 1 q).map (cK (L.kd x.t) (x.ks.map Nd.bf)<|A e8)++[A<|e8++g_ x (q+1)]:=by
     rw[range'_concat,bX];simp only[b4,eO,Nat.one_mul,dh,tA 1 q]
    refine nM ⟨C,C,C,bU,s++aN,.ms 103 ba<|A<|(range' 1 q).map (cK (L.kd x.t) (x.ks.map Nd.bf)<|A e8)++[A<|e8++g_ x (q+1)],?_,?_,?_,λg i m=>?_,aj ⟨103,ba,Zs,Yx cf,?_⟩⟩
    .rw[bX,a3,dp,Be ay,cm,pB,aM (by rw[P,aQ];omega)];congr 2;simp only[b9,dC,gR]at df⊢;omega
    .have cS:e8++g_ x (q+1+1)=e8++g_ x (q+1)++[(j.1,j.2,x)]++j.1.fC:=by
      rw[Cw ay,aM (by rw[P,aQ];omega),ck];simp only[Nat.add_sub_cancel,bL y,<-ab,MX,b4,eO,dy]
     have de:is++[x.id]++(s++aN).map (λr:kA=>r.2.1.id)=is++[x.id]++s.map (λr=>r.2.1.id)++aN.map λr=>r.2.1.id:=Zs;have c_:cs++[.rf 48 (o.n 48) 0]++(s++aN).map eZ=cs++[.rf 48 (o.n 48) 0]++s.map eZ++aN.map eZ:=Zs;rwa[cS,de,c_]
    .refine(show a9 48=_ from c9).trans ?_;simp only[a_,dG,bj,dv];exact bZ
    .show a9 g=_;rw[dt g i m];simp only[ai];rw[aC Zo,aC Zo,bg g Zo Zo Zo];exact V g i m
    show a9 103=_;rw[c1];simp only[a_,dG,bj,dv];rw[c2,cf]
  have dR:q=A x.bS:=Zo;subst dR;have bl:ah ((A x.bS:Int)<(A x.bS:Nat))=af:=Zs;have dz:A x.bS+1=A x.ks:=Zo;rw[dz]at a3 K;rw[ds]at bt;have u:∀g,g≠103->aT [103] p g=p g:=λg am=>by simp[aT,am]
  refine GK.n4<|GK.uf [103] 48 2 _ a7 (.sl 1<|au o1<|(range' 1<|A x.ks-1).map<|cK (L.kd x.t) (x.ks.map Nd.bf)<|A e8) w Zd C (mQ (bt.aA o4) λ_ _=>bc _) (ff λ_ _=>bc _) (GK.Vf 48 19 (A cs) ⟨o.n 48,219,3,[G,dK x.cap,.sl 1<|au o1<|(range' 1<|A x.ks-1).map<|cK (L.kd x.t) (x.ks.map Nd.bf)<|A e8],Q⟩ _ bF C Zs (by simp only[bM];exact⟨by rw[M];exact a6,rC _,ff λ_ _=>bc _,Zs⟩) (by simp only[a_,dG,bj,dv,u];exact K.hm) Zd (by rw[show cs++[D.rf 48 (o.n 48) 0]++s.map eZ=cs++[D.rf 48 (o.n 48) 0]++s.map eZ from C];exact aaN _ _ _) λb en=>?_);simp only[bl,afi,afD,go_sem];refine b0 _ _ ((b,x,(range' 1<|A x.ks-1).map<|cK (L.kd x.t) (x.ks.map Nd.bf)<|A e8)::s) (by rw[b4,a3,P];rfl) ?_ λg i m=>?_
  .have dr:∀r:kA,r=(b,x,(range' 1<|A x.ks-1).map<|cK (L.kd x.t) (x.ks.map Nd.bf)<|A e8)->eZ r=.pa b [G,dK x.cap,.sl 1<|au o1<|(range' 1<|A x.ks-1).map<|cK (L.kd x.t) (x.ks.map Nd.bf)<|A e8]:=λr cR=>by rw[cR,eZ,a2,M]
   obtain⟨bw,bA,bz,aq,cG,cH,cI,cJ,cN,cP⟩:=K.ob;refine⟨⟨bw,bA,bz,aq,?_,cH.aA pN,cI,cJ,cN.aA pN,cP.aA pN⟩,?_,?_⟩
   .simp only[ai,aT,dg,bj,bT];exact cG
   .simp only[bN,b4,dr _ C];simp
   refine lH.Qn _ (ax.B2.mono λg R=>⟨R,?_⟩);obtain⟨d_,ea⟩:=AE R;simp only[ai,aT,dg];rw[aC Zo,aC Zo,aC Zo,aC Zo];exact V g d_ ea
  simp only[ai,aT,dg];rw[aC Zo,aC Zo,aC Zo,aC Zo];exact V g i m
def M3(y:Nd):Prop:=((L.kd y.t=9\/L.kd y.t=11)->yh y/\(L.kd y.t=9->∀c∈y.ks.drop 1,L.kd c.t=10))/\0<=y.l/\y.l<=1000
abbrev Wf(x:Nd):Prop:=Nd.all (λy=>ah<|M3 y) x=W
def Wf.own(a:Wf m5):M3 m5/\∀b∈m5.ks,Wf b:=by
 rw[Wf,Nd.all_eq,cy,en,ee]at a;exact a
def FH:∀(f:L){B:Nd}{D:bb}{k:Int},Sh a5 f->hE a5 be f B D k->0<=k->k+f.num<=1000->Wf B
 |.mk r v ah f am j,_,D,k,h,.mk (al:=al) (bs:=bs) (b:=S) (ty:=ty) (id:=id) ab X Y Z y,G,m=>by
  rw[Wf,Nd.all_eq,cy,en,ee];refine⟨⟨λq=>?_,G,by rw[L.num]at m;simp only[Nd.l];omega⟩,λF J=>?_⟩
  .have q:r=9\/r=11:=q;have z:=h.len;have w:∀(a:Nat)(m:a<A j)(V:a<A al),r=9->0<a->L.kd al[a].t=10/\∃F,al[a].ks=[F]:=λa s M O P=>by
    have o:=(h.case a s).2 ⟨O,P⟩;have d:=y a s M;have u:=h.dh _<|aD s;generalize j[a]=R at o d u;obtain⟨ad,ap,ak,ao,an,ae⟩:=R;simp only[L.kd]at o;subst o;obtain⟨e,rfl⟩:=u.one<|aj<|aj C;generalize al[a]=aq at d;cases d with|mk _ _ _ I _=>
    exact⟨C,kw.1 I⟩
   have x:∀e∈al.drop 1,∃(a:Nat)(U:a<A al),0<a/\al[a]=e:=λe g=>by
    obtain⟨a,d,rfl⟩:=ec g;exact⟨1+a,Ys d,Zo,by rw[sr]⟩
   refine⟨?_,λK e g=>?_⟩
   .obtain rfl|rfl:=q
    .refine aj ⟨C,?_,λe g=>?_⟩
     .simp[bY,dw]at z;show 1<=A al;omega
     obtain⟨a,d,p,rfl⟩:=x e g;exact(w a Zo d C p).2
    refine aG ⟨C,?_⟩;simp[bY,dw]at z;show A al=3;omega
   obtain⟨a,d,p,rfl⟩:=x e g;exact(w a Zo d K p).1
  obtain⟨a,d,rfl⟩:=ec J;have d:a<A al:=d;have i:a<A j:=Zo;have aa:=L.jw<|aD i;rw[L.num]at m;refine FH j[a] (h.dh _<|aD i) (y a i d) ?_ ?_<;>unfold ct<;>split<;>omega
termination_by f=>f
decreasing_by
 have:=fl<|aD i;simp;omega
def find(b:Nd)(D:Wf b)(B:b.num<=1048576)(h:b.ids.Nodup):uP a5 be b:=by
 obtain⟨⟨w,x,y⟩,o⟩:=D.own;have k:=@Nd.oL b;have s:∀a∈b.ks,a.ids.Nodup:=λa d=>by
  rw[Nd.mL,lg,iQ]at h;exact B4 h.2.2.1<|aP.2 ⟨a,d,C⟩
 have l:∀a∈b.ks,uP a5 be a:=λa d=>find a (o a d) (Yo<|k.2.2 a d)<|s a d;by_cases g:L.kd b.t=9\/L.kd b.t=11
 .obtain⟨p,z⟩:=w g;refine aaq b C g p z x y h B (λa d=>l a<|mem_of_mem_head? d) λF u=>?_;unfold Nd.bS at u;obtain⟨e,q,rfl⟩:=aP.1 u;have f:=uL q;obtain⟨j,-⟩|⟨j,-,A⟩:=p
  .rw[aC (by rw[j];decide)];exact l e f
  rw[aM j];obtain⟨a,d⟩:=A e q;have i:a∈e.ks:=Yx d;have r:=s e f;simp only[d,tu];refine find a ((o e f).own.2 a i) (by have:=k.2.2 e f;have:=(@Nd.oL e).2.2 a i;omega) ?_;rw[Nd.mL,lg,iQ]at r;exact B4 r.2.2.1<|aP.2 ⟨a,i,C⟩
 exact aap b (λm=>g<|aG m) (λm=>g<|aj m) h (Yo k.1) l
termination_by b
decreasing_by
 .exact Nd.lt d
 exact Nat.lt_trans (Nd.lt i)<|Nd.lt f
def AZ:∀f:Nd,f.bf+1<=f.num:=λf=>by
 have p:∀e∈f.ks,e.bf+1<=e.num:=λe i=>AZ e;rw[Nd.o8];obtain⟨a,l,ty,g,k,bs,b⟩:=f;rw[Nd.num];have r:∀(g:eg)(h:Int)(d:Nat),(∀e∈g,e.bf+1<=e.num)->((g.map Nd.bf).mapIdx λa b=>f' h (d+a)+b).sum<=Nd.aZ g:=λg h=>by
  induction g with
  |nil=>intro d _;simp[Nd.aZ]
  |cons m t q=>
   intro d j;have u:=j m Zs;have w:=q (d+1) λe i=>j e<|Yr i;have x:f' h d<=1:=by unfold f';split<;>omega
   rw[b4,mapIdx_cons,kS,Nd.aZ];have o:(λa b=>f' h (d+(a+1))+b)=λa b=>f' h (d+1+a)+b:=by funext a b;rw[show d+(a+1)=d+1+a by omega]
   rw[o,oX];omega
 have s:=r k (L.kd l) 0 p;simp only[ew]at s;show(ix (L.kd l)<|k.map Nd.bf).sum+1<=_;unfold ix;omega
termination_by f=>f
decreasing_by exact Nd.lt i
def gu(l:eg):List Rt:=ao<|l.map Nd.fC
def jT:List Nd->Nat->List (Nd×List Nat)
 |[],_=>[]
 |x::l,m=>x.gj m++jT l (m+x.bf)
def tN:∀a:eg,A (gu a)=(a.map Nd.bf).sum
 |[]=>rfl
 |x::a=>by
  have b:=tN a;unfold gu at b⊢;rw[b4,dT,b9,b,zI,b4,kS]
def Qx:∀(a:eg)(d:Nd)(b:Nat),jT (a++[d]) b=jT a b++d.gj (b+A (gu a))
 |[],d,b=>by simp[jT,gu]
 |y::a,d,b=>by
  rw[bg,jT,Qx a d,jT,dy];congr 3;rw[tN,tN,b4,kS];omega
def Qt:∀(a:eg)(b:Nat),∀r∈jT a b,∃x∈a,r.1.id∈x.ids
 |[],b,r,h=>On
 |x::a,b,r,h=>by
  rw[jT]at h;obtain h|h:=ca.1 h
  .exact⟨x,Zs,JT x b r h⟩
  obtain⟨e,d,h⟩:=Qt a _ r h;exact⟨e,Yr d,h⟩
def ad2{g:aF}{e:aO}(aL:(bH.mk g e).sz<=1048576)(ak:(bH.mk g e).ok){s:St}{dst:ON}{K:aU}
 (ax:gU g e≠0->∀n,K<|{s with n:=n}.put dst<|.tp [.sc<|.pointer Q,bp,I<|gU g e])
 (ay:gU g e=0->∀H n b am S av(l:List kA),jp g e (e.map aa.bd) [] 0 am (A e) b->l.map Prod.snd=jT b 0->kC g e (TD 0) H S av (gu b) (l.map λr=>r.2.1.id) (l.map eZ)->K ({s with H:=H,n:=n}.put dst<|.tp [.rf 21 S 0,.sl 1<|au Nd.d b,I 0])):
 er aB s 73 [.ag [ae.sl g,aa.sl e]] dst K:=by
 have X:Cl<|.ag [ae.sl g,aa.sl e]:=Cl.bC da;have al:=YK g e aL ak;have U:ae.sl g=.sl 2 (ae.ab g):=C;have V:aa.sl e=.sl 12 (aa.ab e):=C;rw[U,V]at X al⊢;refine sQ [21] [.tmp 2,.tmp 3,.tmp 4] C C Zk Zt C Zs<|(ZN)<|u' [] al (.c (.cl _ X) .n) ?_;rintro an r⟨b,rfl,q⟩a0 a3;refine lm @oM (λt=>?_) λt=>?_
 .have u:gU g e≠0:=by simpa using t
  exact(ZN)<|ax u _
 have u:gU g e=0:=by simpa using t
 have q:=q u;have D:=p' (p0<|sV<|vj u) ak;have P:=q.len;have a2:=D.pg.len;have ah:∀m∈b,m.num<=640/\Wf m/\m.ids.Nodup:=λm o=>by
  obtain⟨d,M,w,y⟩:=q.mem o;refine⟨D.num M w,FH _ (D.sh M) w (sm _) (by have:=(D.bd d M).2.2;omega),y⟩
 have aA:∀z:eg,(∀m∈z,m∈b)->A (gu z)<=A z*640:=λz P=>by
  rw[tN]
  induction z with
  |nil=>simp
  |cons F aV aM=>
   have w:=(ah F<|P F Zs).1;have y:=AZ F;have aW:=aM λm o=>P m (by simp[o]);rw[b4,kS,dC];omega
 refine(ZN) ?_;refine fG 24 (A b) (λk=>mx 36 s.N s.T [(7,.rf 21 (s.n 21) 0),(22,.sl 1<|au Nd.d b),(23,I<|A b),(5,.sl 1<|au Nd.d b)] λap H=>∃(l:List kA),l.map Prod.snd=jT (Y k b) 0/\kC g e (TD 0) H (s.n 21) (s.n 19) (gu<|Y k b) (l.map λr=>r.2.1.id) (l.map eZ)) C
  ⟨C,C,C,ow,[],C,⟨⟨.sc<|.slice Q 0 0,.sc<|.slice Q 0 0,.sc<|.slice Q 0 0,[],by simp[ai,U,V],aG ⟨C,C⟩,C,Zs,aG ⟨C,C⟩,aG ⟨C,C⟩⟩,ep,⟨C,Zs⟩⟩⟩ ?_
 rintro k ap H a5 aT aS a4⟨rfl,rfl,l,B,G⟩;refine ZL (λp=>?_) λt=>?_
 .have ar:=jx (f:=Nd.d) p;obtain⟨a7,aN,aQ⟩:=ah _<|aD p;have az:=aA (Y k b) λm o=>tv o;have aZ:=AZ b[k];refine(ad ar) ?_;refine aj<|aj (find _ aN Zo aQ 0 k _ _ _ _ _ _ _ _ G (λj aI R=>?_) (by rw[ij]at az;have R:min k (A b)<=8:=Zo;have:=wy 640 R;omega) λaR a6 aq aC aX _=>?_)
  .obtain⟨r,aK,rfl⟩:=aP.1 R;have w:r.2∈jT (Y k b) 0:=by rw[<-B];exact aP.2 ⟨r,aK,C⟩
   obtain⟨m,o,y⟩:=Qt _ _ _ w;obtain⟨i,aH,rfl⟩:=ec o;rw[getElem_take]at y;have a1:i<k:=Ys aH;have Z:=q.nodup;simp only[jb,eO,aY]at Z;have:=JV (i:=i) (j:=k) (a:=r.2.1.id) Z ch (Yq p) (Yq y)<|Yq aI;omega
  refine(ZN) ?_;refine gY p ⟨C,C,C,bU,l++aq,?_,?_⟩
  .rw[bX,B,aC,dm p,Qx,ew]
  have ao:gu (Y (k+1) b)=gu (Y k b)++b[k].fC:=by
   unfold gu;rw[dm p,bX,eR];simp only[b4,eO,dT,fX,de]
  rwa[ao,bX,bX]
 obtain rfl:k=A b:=Zo;rw[cc]at B G;exact(ad t)<|ay u _ _ b an _ _ l q B G
mutual
def cD:J->J
 |.mk k n ks=>if k=4 then(y7 ks).headD (.mk 0 nE [])else .mk k n (y7 ks)
def y7:List J->List J
 |[]=>[]
 |c::cs=>cD c::y7 cs
end
def ES:∀a:dp,y7 a=a.map cD
 |[]=>rfl
 |c::b=>by rw[y7,ES b];rfl
mutual
def dW:J->Prop
 |.mk k n ks=>A ks<=1000/\(k=4->1<=A ks)/\Bf ks
def Bf:List J->Prop
 |[]=>True
 |c::cs=>dW c/\Bf cs
end
def w5:∀a:dp,Bf a↔∀d∈a,dW d
 |[]=>by simp[Bf]
 |c::b=>by rw[Bf,w5 b];simp
def jE:∀(e:J)(h:dW e),dW (cD e)
 |.mk o p g,h=>by
  rw[dW,w5]at h;have d:∀a∈g,dW<|cD a:=λa b=>jE a<|h.2.2 a b;rw[cD,ES];split
  .rename_i f
   match g,h,d with
   |c::m,_,d=>exact d c Zs
   |[],h,_=>have i:=h.2.1 f;simp at i
  rename_i f;rw[dW,w5];refine⟨Yr h.1,λk=>absurd k f,λa b=>?_⟩;obtain⟨l,j,rfl⟩:=aP.1 b;exact d l j
termination_by e=>e
decreasing_by
 have i:=fl b;simp;omega
theorem rK:∀b:J,fY b=W->dW b
 |.mk k l i,e=>by
  rw[fY,J.bh,cy]at e;have h:∀d∈i,fY d=W:=by
   have g:=e.2;rwa[J.i1,en]at g
  have a:=e.1;unfold ii at a;rw[dW,w5];refine⟨?_,λj=>?_,λd f=>rK d<|h d f⟩
  .repeat' split at a
   all_goals simp at a
   all_goals first|omega|simp[a]|simp_all
  subst j;simp at a;omega
termination_by b=>b
decreasing_by
 have g:=fl f;simp;omega
def R8(p:J)(G:dW p):az 188 [.ag p.ds]<|.ag (cD p).ds:=by
 have aP:∀d:J,SizeOf.sizeOf d<SizeOf.sizeOf p->dW d->az 188 [.ag d.ds] (.ag (cD d).ds):=λd hx aI=>R8 d aI;obtain⟨M,R,P⟩:=p;have aF:cE aB 88=E (99,3,48):=Zk;refine(ia [1] [.cell 2 99])<|l' (λg=>g.nt=34/\g.env 1=.rf 1 0 0/\g.env 2=.rf 2 0 0/\(∃c,g.H 2=E ⟨0,99,3,c,Q⟩/\A c=3)/\∃e o a,g.H 1=E ⟨0,99,3,[I e,S o,.sl 3<|J.ab a],Q⟩/\dW (.mk e o a)/\cD (.mk e o a)=cD (.mk M R P)/\SizeOf.sizeOf (J.mk e o a)<=SizeOf.sizeOf (J.mk M R P))
  (λg=>match g.H 1 with|some aR=>SizeOf.sizeOf aR.cells|none=>0) ⟨C,bU,bU,⟨_,l4,C⟩,M,R,P,ep,G,C,bJ _⟩ ?_
 rintro⟨V,r,ax,aW,U,ay⟩⟨rfl,t,F,⟨w,m,ak⟩,e,o,a,y,aK,ao,ar⟩;simp only at t F m y;have B:=aK;rw[dW,w5]at B;refine lm (JJ t y) (λf=>?_) λf=>?_
 .have f:e=4:=by simpa using f
  subst f;obtain⟨c,s,rfl⟩:∃c s,a=c::s:=by
   match a,B.2.1 C with
   |c::s,_=>exact⟨c,s,C⟩
  have u:(J.ab (c::s))[0]?=E c.ds:=C;obtain⟨i,l,j⟩:=c;simp only[t,y,u,go_sem];unfold F9;refine⟨⟨C,Ye t,Ye F,⟨w,Yu m,ak⟩,i,l,j,ep,B.2.2 _ Zs,?_,?_⟩,?_⟩
  .rw[<-ao];conv=>rhs;rw[cD,y7,aM C]
   rfl
  .simp at ar⊢;omega
  simp[ai,J.ab,J.ds];omega
 have f:e≠4:=by simpa using f
 rw[<-ao,cD,aC f,ES];simp only[t,y,J.b6 a,go_sem];refine fG 21 (A a) (λq=>Fw.fF 34 [(2,.rf 2 0 0),(3,.rf 3 (ax 3) 0),(19,.sl 3<|J.ab a),(20,I<|A a)] λV r aQ U=>r 2=E ⟨0,99,3,w,Q⟩/\∃d,r 3=E ⟨ax 3,99,3,[I e,S o,d],Q⟩/\aL [30] r 99 3 (J.ab<|(Y q a).map cD) d) C
  ⟨C,Ye F,Yu m,_,AO,aG ⟨C,C⟩⟩ ?_
 rintro q V r aQ U ay aU⟨m,d,z,hx⟩;refine ZL (λK=>?_) λG=>?_
 .have u:=J.bV a q K;have ap:=aD K;have av:=aP a[q] (by have:=fl ap;simp at ar⊢;omega)<|B.2.2 _ ap;have am:=J.cl a[q];rcases al:a[q]with⟨i,l,j⟩
  rw[al]at u av am;simp only[J.ds]at u av am;refine(ad u)<|dP [3,5] []<|(bQ<|JJ z @jt) ?_;have aO:J.ab ((Y (q+1) a).map cD)=J.ab ((Y q a).map cD)++[(cD<|.mk i l j).ds]:=by
   simp only[J.cu];rw[dm K,al];simp
  have an:=J.bP<|cD<|.mk i l j;have aN:((cD<|.mk i l j).ds).all cO=W:=by rw[en];exact J.one _
  have vB:A (J.ab<|(Y q a).map cD)=q:=DN;generalize cD (.mk i l j)=aH at*;refine(ad<|JJ z an)<|js (S:=[30]) (aq:=J.ab<|(Y q a).map cD) (bD:=[aH.ds]) Zs aF yz (J.hQ _) (by simp[aw,dS,ai,an]) Zs (Yq aN) (by rw[vB];show(q+1)*48<=_;omega) D2 (by show 30<34;decide) λaS aV aX au ah=>?_;obtain⟨aT,rfl,-⟩:=eG au Zs;have Z:=ah 3 Zd Zd;have X:=ah 2 Zd Zd;simp only[a_,dG,bj,dv,m,z]at Z X;refine(ad Z) ?_;refine nM ⟨C,bU,Yu X,_,my,?_⟩;rw[aO];refine aL.aA au ?_;simp[ai]
 obtain rfl:q=A a:=Zo;rw[cc]at hx;obtain⟨aY,aZ,a0,rfl⟩:∃D b c,w=[D,b,c]:=by
  match w,ak with
  |[D,b,c],_=>exact⟨D,b,c,C⟩
 simp only[G,m,z,go_sem];refine⟨n9 hx,Fz.Qo (.cl _<|bc _) (.cl _<|bc _)<|(aL.fz (hx.aA bF) Zd (J.hQ _)<|J.dl _)⟩
termination_by SizeOf.sizeOf p
decreasing_by exact hx
structure bZ where
 c:O
 ty:List J
def bo(t:bZ):DL:=t.c.ds++[.sl 3<|J.ab t.ty]
def agl(a:bZ):A (bo a)=5:=by obtain⟨⟨e,b,f,d⟩,g⟩:=a;rfl
def eK(a:bZ):∀d∈bo a,Cl d:=λd b=>by
 obtain h|h:=ca.1 b
 .exact O.cl _ d h
 simp only[dg]at h;subst h;exact J.db a.ty
def zU(a:bZ):(bo a).all cO=W:=by obtain⟨⟨e,b,f,d⟩,g⟩:=a;rfl
def qd(a:List bZ):∀r∈a.map bo,A r=5:=by
 simp only[aP];rintro r⟨b,-,rfl⟩;exact agl b
def qc(a:List bZ):∀r∈a.map bo,∀d∈r,Cl d:=by
 simp only[aP];rintro r⟨b,-,rfl⟩;exact eK b
def Fz.oy(f:qo fd a9 g6):Fz fd (.ag a9)<|.ag g6:=.ag _ _ f.len.symm λb d i a e=>by
 induction f generalizing b with
 |n=>simp at a
 |c g _ h=>
  cases b with
  |zero=>simp at a e;subst a;subst e;exact g
  |succ b=>exact h b (Yq a)<|Yq e
def RT(a:Int):az 186 [I a]<|.ag [I 1,I a,bm [],.sl 4 []]:=by
 exact(ia [] [.cell 2 112])<|Fz.oy<|.c (.cl _<|bc _)<|.c (.cl _<|bc _)<|.c (.nil 1)<|.c (.nil 4) .n
def abo{B:ax}{a:Nat}(b:a∉B):ie (gt++a::B) a=A B:=by
 rw[show gt++a::B=(gt++[a])++B by simp,xi b,BH Zs];simp[ie,wk]
def indexOf(a:bb)(b:Bi)(B:b.id∈a7 a)(F:A a<=1000000):az 187 [dK a,b.d]<|I (ie (a7 a) b.id:Nat):=by
 have w:∀e:Nat,e<=1000000->cb.wrap ((e:Int)-1)=(e:Int)-1:=λe k=>dE _ Zo;have P:∀e:Nat,e<=A a->cb.wrap ((A a:Int)-1-((e:Int)-1))=((A a-e:Nat):Int):=λe k=>wI;have y:=w (A a) F;refine(cR) ?_;simp only[dK,y,go_sem];refine l' (λj=>j.nt=24/\j.env 0=.sl 1 (au Bi.d a)/\j.env 1=b.d/\∃e:Nat,e<=A a/\j.env 5=I ((e:Int)-1)/\b.id∉a7 (a.drop e)) (λj=>match j.env 5 with|.sc (.int _ L)=>(L+1).toNat|_=>0)
  ⟨C,ow,ow,A a,bJ _,bU,rq⟩ ?_
 rintro⟨ab,R,ah,ak,U,S⟩⟨rfl,l,m,e,ae,i,o⟩;simp only at l m i;refine lm i (λk=>?_) λk=>?_
 .have q:0<e:=by simp at k;omega
  obtain⟨g,rfl⟩:∃g,e=g+1:=⟨e-1,Zo⟩;have u:g<A a:=Zo;have K:((g+1:Nat):Int)-1=(g:Int):=Zo;have p:=jx (f:=Bi.d) u;obtain⟨V,X,Z,aa,r⟩:=Bi.vN b;obtain⟨d0,d1,d2,d3,G⟩:=Bi.vN a[g];rw[G]at p;have x:=P (g+1) Zo;have O:=w g Zo;rw[K]at x i;simp only[l,m,i,p,r,go_sem];have t:a7 (a.drop g)=a[g].id::a7 (a.drop<|g+1):=by unfold a7;rw[ml u];rfl
  cases s:a[g].id==b.id
  .have J:a[g].id≠b.id:=by simpa using s
   refine(ad<|JJ i O) ?_;unfold F9;refine⟨⟨C,Ye l,by simp[aw,m,r],g,Zo,bU,?_⟩,bU⟩;rw[t,cF,lh];exact⟨λz=>J z.symm,o⟩
  have D:a[g].id=b.id:=by simpa using s
  simp only[l,i,y,x,go_sem];refine Fz.di ?_;have M:a7 a=a7 (Y g a)++b.id::a7 (a.drop<|g+1):=by
   rw[<-D,<-t];unfold a7;rw[<-bX,qj]
  rw[M,abo o];simp[a7]
 have q:e=0:=by simp at k;omega
 subst q;exact absurd B o
def ZF(a:Int):az 122 [I a]<|I (if 2<=a/\a<=7 then a else 8):=by
 refine(dH) ?_;by_cases e:2<=a/\a<=7
 .rw[aM e];have f:a=2\/a=3\/a=4\/a=5\/a=6\/a=7:=Zo;obtain rfl|rfl|rfl|rfl|rfl|rfl:=f<;>simp only[go_sem]<;>exact Fz.di C
 rw[aC e];have b:∀d:Int,2<=d->d<=7->(a==d)=af:=λd g h=>co;simp only[b 2 Zd Zd,b 3 Zd Zd,b 4 Zd Zd,b 5 Zd Zd,b 6 Zd Zd,b 7 Zd Zd,go_sem];exact Fz.di C
def made(K v:Int)(p:IL)(ty:J)(al:List bZ)(aR:dW ty)(aS:∀M∈al,M.ty≠[])(a3:A al<=1000)(aU:(al.map λM=>A M.ty).sum<=2000000000000){m:D}(aN:m=bp\/(m=.sl 4 []/\al=[])):
 az 119 [.ag [I K,I v,bm p,m],.ag ty.ds,.sl 5<|al.map bo] (.ag<|bo ⟨.mk K v p<|al.map bZ.c,cD ty::ao (al.map bZ.ty)⟩):=by
 have lM:cE aB 51=E (112,4,64):=Zk;have aM:cE aB 88=E (99,3,48):=Zk;have aQ:=R8 ty aR;have aO:=J.cl ty;generalize cD ty=g at*;obtain⟨a8,a',a9⟩:=ty;simp only[J.ds]at aQ aO;refine(ki [3,1000024,1000029] [.cell 6 114])<|(bQ<|J.bP g)<|lp 15 (A al) [3,6,13,14] (λq t f aX aC=>(∃c,f 6=E ⟨0,114,5,c,Q⟩/\A c=5)/\(∃j,f 3=E ⟨0,112,4,[I K,I v,bm p,j],Q⟩/\((aL [24] f 112 4 (O.ab<|(Y q al).map bZ.c) j)\/(j=.sl 4 []/\al=[])))/\aL [12,29] f 99 3 (J.ab (g::ao ((Y q al).map bZ.ty))) (t 7)) ⟨⟨_,AO,C⟩,⟨m,by simp[ai,bm],by obtain rfl|h:=aN;exact aG (aG ⟨C,C⟩);exact aj h⟩,aj ⟨12,_,Zs,by simp[aw];exact⟨C,C⟩,by simp[ai,J.ab]⟩⟩ ?_;rintro q t f aX aC a0 a4⟨⟨c6,ah,J8⟩,⟨j,G,hx⟩,i⟩;generalize s:t 7=be;rw[s]at i;refine ZL (λbw=>?_) λh=>?_
 .have hx:aL [24] f 112 4 (O.ab<|(Y q al).map bZ.c) j:=by
   obtain hx|⟨-,w⟩:=hx
   .exact hx
   subst w;simp at bw
  have u:(al.map bo)[q]?=E (bo al[q]):=Yr bw;have B:=aS _<|aD bw;have F:(Y (q+1) al).map bZ.c=(Y q al).map bZ.c++[al[q].c]:=wH;have l:ao ((Y (q+1) al).map bZ.ty)=ao ((Y q al).map bZ.ty)++al[q].ty:=OR;have ar:A (ao<|(Y q al).map bZ.ty)+A al[q].ty<=2000000000000:=by
   rw[<-b9,<-l];have P:A (ao<|(Y (q+1) al).map bZ.ty)<=A (ao<|al.map bZ.ty):=P6;refine gS P ?_;rw[x0,eu];exact aU
  rcases aT:al[q]with⟨⟨aH,aK,aF,aI⟩,o⟩
  rw[aT]at u B F l ar;simp only[bo,O.ds,bg,aY]at u B F l ar;have ap:A (O.ab<|(Y q al).map bZ.c)=q:=DO;refine(ad<|JJ u G)<|GK.cM (eC.eS (S:=[24]) (aq:=O.ab<|(Y q al).map bZ.c) (bD:=[(O.mk aH aK aF aI).ds]) lM yz (O.hQ _) (by simp[aw,dS,ai,O.ds,bm]) Zs (by rfl) (by rw[ap];show(q+1)*64<=_;omega) (by rw[ap];show q+1<=aE;unfold aE;omega) λaZ a6 bb au k=>?_);obtain⟨a1,rfl,-⟩:=eG au Zs;have X:=k 3 Zd Zd;have ak:=k 6 Zd Zd;have an:=k 9 Zd Zd;have R:=k 12 Zd Zd;have V:=k 29 Zd Zd;simp only[a_,bN,dG,bj,dv,ah,G]at X ak an R V;simp only[s,X,an,go_sem];have ax:A (J.ab (g::ao ((Y q al).map bZ.ty)))=A (ao<|(Y q al).map bZ.ty)+1:=by rw[J.b6];rfl
  refine GK.cM (eC.eS (S:=[12,29]) (aq:=J.ab (g::ao ((Y q al).map bZ.ty))) (bD:=J.ab o) aM (by simp only[aw,bx,bT,bj,e7,eQ];exact i.aA (by simp[ai,R,V])) (J.hQ _) qu (by rw[J.b6];exact uJ.2 B) OQ
   (by rw[ax,J.b6];omega) (by rw[ax,J.b6];unfold aE;omega) λay a7 bd aV y=>?_)
  have Z:=y 3 Zd Zd;have am:=y 6 Zd Zd;have U:=y 24 Zd Zd;simp only[a_,bN,dG,bj,dv,ak]at Z am U;refine(ZN) ?_;refine dI ⟨⟨c6,Yr am,J8⟩,⟨_,by simp only[Z];rfl,aG ?_⟩,?_⟩
  .rw[F];simpa[O.cu]using au.aA (H':=ay) (Yr U)
  rw[l,<-bg];have P:J.ab ((g::ao ((Y q al).map bZ.ty))++o)=J.ab (g::ao ((Y q al).map bZ.ty))++J.ab o:=by simp[J.cu]
  rw[P];simpa[aw]using aV.sub (S':=[12,29]) Zs
 obtain rfl:q=A al:=Zo;rw[cc]at hx i;obtain⟨bf,bh,bi,bk,bl,rfl⟩:∃a b c d e,c6=[a,b,c,d,e]:=HT;have aW:cO j=W:=by
  obtain hx|⟨rfl,-⟩:=hx
  .exact n9 hx
  rfl
 have a5:=n9 i;have av:=i;obtain⟨w,-⟩|⟨ba,a2,-,rfl,-⟩:=i
 .simp[J.ab]at w
 simp only[h,s,ah,G,bo,go_sem];refine⟨aW,Fz.oy<|.c (.cl _<|bc _)<|.c (.cl _<|bc _)<|.c (.cl _<|kY _)<|.c ?_<|.c ?_ .n⟩
 .obtain hx|⟨rfl,rfl⟩:=hx
  .exact aL.fz (aL.aA hx bF) Zd (O.hQ _)<|O.dl _
  exact .cl _<|Cl.jd Zs
 rw[J.b6,dC]at av;exact aL.fz (aL.aA av bF) Zd (J.hQ _)<|J.dl _
structure gL (c:O) (n:Nat) (t:bZ):Prop where
 c:t.c=c
 ne:t.ty≠[]
 len:A t.ty<=n
 fn:∀x∈t.ty.head?,dW x
def sE(c:O)(n:Nat)(d:D):Prop:=∃t,d=.ag (bo t)/\gL c n t
def aay{b:J}(a:dW he)(d:dW b):dW<|mX he b:=by
 rw[dW,w5];exact⟨Zs,Zs,by simp[a,d]⟩
def w6{l:dp}{r:J}(b:∀a∈l,dW a)(e:dW r):dW<|iZ l r:=by
 induction l with
 |nil=>exact e
 |cons d l g=>exact aay (b d Zs) (g λa f=>b a<|Yr f)
def Bi.zC(b:Bi):∃a f g h i,b.e.t=.mk a f g/\b.d=.pa b.id [h,I a,S f,.sl 3<|J.ab g,i]:=by
 obtain⟨j,f,⟨a,l,m⟩,k⟩:=b;exact⟨_,_,_,_,_,C,C⟩
def Nd.U2(a:Nd):∃b f e g h i j k m o p q r s,a.ty=.mk b f e/\a.d=.pa a.id [g,h,i,j,k,m,o,p,I b,S f,.sl 3<|J.ab e,I a.l,q,r,s]:=by
 obtain⟨u,⟨b,v,f,⟨y,A,z⟩,x,B⟩,⟨D,G,F⟩,w,e,bs,t⟩:=a;exact⟨_,_,_,_,_,_,_,_,_,_,_,_,_,_,C,C⟩
def Fz.tk{v:Int}:Fz fd (.ag [I a3,I v,bp,bp])<|.ag [I a3,I v,bm [],bp]:=
 Fz.oy (.c (.cl _<|bc _)<|.c (.cl _<|bc _)<|.c (.nil 1)<|.c (.cl _<|bc _) .n)
def Fz.aQ{g a:Nat}{al:List bZ}(b:fd am=E ⟨g,114,5,ao<|al.map bo,Q⟩)(d:a=A (al.map bo)):Fz fd (.ms am g a)<|.sl 5<|al.map bo:=
 Fz.aq b C C Zd d (qd al) C (qc al)
def WJ(a:bb)(b:Bi)(l:b.id∈a7 a)(r:A a<=1000000)(p:dW b.e.t):az 118 [dK a,b.d]<|.ag<|bo ⟨eh (ie (a7 a) b.id:Nat),[cD b.e.t]⟩:=by
 have q:=indexOf a b l r;have m:=Bi.cl b;obtain⟨g,j,i,u,w,s,o⟩:=Bi.zC b;have f:=made 1 (ie (a7 a) b.id:Nat) [] b.e.t [] p Zs Zs Zs<|aj ⟨C,C⟩;rw[s]at f⊢;rw[o]at q m⊢;simp only[J.ds]at f;refine(ia [] [.cell 4 114])<|lq [0,1,4,5,6,7,2,3,8,9] [] []<|(ZC)<|(nl<|RT _) ?_;refine ir [] f (.c (.cl _<|Cl.bC da)<|.c (.cl _<|Cl.bC<|J.cl<|.mk g j i)<|.c (.nil 5) .n) (Cl.bC<|eK _) ?_;simp only[bo,aT,fX,go_sem];exact .cl _<|Cl.bC<|eK ⟨eh (ie (a7 a) b.id:Nat),[cD<|.mk g j i]⟩
def ahx(f:bZ){d:dp}(h:f.ty=he::d):az 191 [.ag<|bo f]<|.ag he.ds:=by
 obtain⟨⟨j,l,i,k⟩,ty⟩:=f;obtain rfl:ty=he::d:=h;obtain⟨a,e,b⟩:=he;have g:(J.ab (.mk a e b::d))[0]?=E [I a,S e,.sl 3<|J.ab b]:=C;refine(ki [] [.cell 2 99]) ?_;simp only[bo,g,go_sem];exact .cl _<|Cl.bC<|J.cl<|.mk a e b
def gL.step{a b:bZ}{l:cm}(e:gL (nc n5 l) (am+3*a0) a)(d:gL wp 2 b)(f:dW he):gL (nc n5<|l++[wp]) (am+3*(a0+1)) ⟨.mk 5 0 [] [a.c,b.c],he::(a.ty++b.ty)⟩:=by
 refine⟨?_,Zs,?_,Yr f⟩
 .rw[e.c,d.c];simp[nc]
 have g:=e.len;have h:=d.len;simp;omega
def XA(aZ:D)(aU:Nat)(x:Nd)(aV:ax)(ao:bZ)(j:bb)(aF:∀b∈x.cap,b.id∈a7 j/\dW b.e.t)(bg:dW x.ty)(a4:0<=x.l)(bB:x.l<=1000)(bF:A x.cap<=1000000)(bi:A j<=1000000){c:O}{m:Nat}(be:gL c m ao)(bG:m<=1000000000000){H0:a'}:
 kz aB [] H0 121 [aZ,eZ (aU,x,aV),.ag<|bo ao,dK j] (sE (nc c<|x.cap.map<|pS x.l<|a7 j)<|m+3*A x.cap):=by
 obtain⟨B,G,F,b0,bp,bq,br,bs,bt,bu,bv,bx,bz,bA,bk,o⟩:=Nd.U2 x;have a6:=Nd.cl x;have aA:=λb=>Kt x b a4 Zo;have aI:=λav=>J1 (x.cap.drop av) x.ty Io;have aH:=λav=>w6 (l:=(x.cap.drop av).map λb=>b.e.t) (λbK bj=>by obtain⟨b,P,rfl⟩:=aP.1 bj;exact(aF b<|uL P).2) bg;rw[bk]at aI aH;rw[o]at a6 aA;obtain⟨⟨a9,bh,a8,a_⟩,bf⟩:=ao;refine kz.ey [6] [.cell 8 114] C C Zk Zt C Zs Zs λX aY aX=>?_;simp only[eZ,dK,bo,o,go_sem];refine jH 17 (A x.cap) (λq=>mx 59 aX aY [(1,eZ (aU,x,aV)),(3,dK j),(6,.rf 6 (X 6) 0),(8,.rf 8 (X 8) 0),(15,dK x.cap),(16,I<|A x.cap)] λa0 Z=>(∃R,Z 6=E ⟨X 6,114,5,bo R,Q⟩/\gL (nc c<|(Y q x.cap).map<|pS x.l<|a7 j) (m+3*q) R)/\∃c8,Z 8=E ⟨X 8,114,5,c8,Q⟩/\A c8=5) C
  ⟨C,C,C,by simp[aw,ej,eZ,o],⟨⟨.mk a9 bh a8 a_,bf⟩,AP,by simpa[nc]using be⟩,_,AO,C⟩ ?_
 rintro q⟨a0,Z,ay,bJ,bn,bl⟩bH M⟨rfl,rfl,rfl,aL,⟨R,z,ht⟩,c8,U,rP⟩;simp only[bM]at M aL z U;obtain⟨K,ah,y,ak,ab,ad,-⟩:=aL;refine dN (JJ M ad) (λbw=>?_) λa3=>?_
 .have a2:=jx (f:=Bi.d) bw;have bd:=aD bw;obtain⟨a5,az⟩:=aF _ bd;have aR:(Y (q+1) x.cap).map (pS x.l<|a7 j)=(Y q x.cap).map (pS x.l<|a7 j)++[pS x.l (a7 j) x.cap[q]]:=wH;have bD:=aA x.cap[q];have bI:=WJ j x.cap[q] a5 bi az;have aK:=aI<|q+1;have V:=aH<|q+1;have bE:=Bi.cl x.cap[q];have aO:(au Bi.d x.cap).drop (q+1)=au Bi.d (x.cap.drop<|q+1):=zK _ _;have aS:Y (A x.cap) (au Bi.d x.cap)=au Bi.d x.cap:=dj Zs;have f1:((q:Int)+1<=(A x.cap:Int))=True:=dM Zo;have f0:((0:Int)<=(q:Int)+1)=True:=dM Zo;have aW:cb.wrap ((q:Int)+1)=(q:Int)+1:=dE _ Zo;have t1:Int.toNat ((q:Int)+1)=q+1:=C;simp only[M,ah,ab,a2,eZ,o,dK,go_sem];refine(ZC) ?_;generalize aN:ie (a7 j) x.cap[q].id=k at*;have ap:=jE _ az;generalize cD x.cap[q].e.t=i at*;simp only[K,eZ,o,dK,bo,eh,go_sem];refine(ZC) ?_;obtain⟨⟨r,w,p,s⟩,u⟩:=R;refine fx (λP=>?_) λP=>?_
  .refine(ZN)<|p3 (.bS [0,1,3] 2 (.fin [4,5,6]) 4<|.fin [2,5,6]) [11] []<|(ZN) ?_;have ba:=made 6 0 [] i [⟨eh (k:Nat),[i]⟩] ap Zs Zs Zs<|aG C;have ar:gL (pS x.l (a7 j) x.cap[q]) 2 ⟨.mk 6 0 [] [eh (k:Nat)],[cD i,i]⟩:=⟨by rw[pS,aM<|Yq P,aN],Zs,Zs,by simp;exact jE _ ap⟩;refine⟨?_,?_⟩
   all_goals
    have:=ahx ⟨eh (k:Nat),[i]⟩ C;refine(ZC) ?_;refine ir [35] ba (.c Fz.tk<|.c (.cl _<|Cl.bC<|J.cl _)<|.c (Fz.aQ (g:=ay 35) (al:=[⟨eh (k:Nat),[i]⟩]) Ip C) .n) (Cl.bC<|eK _) ?_;generalize cD i=S at*;simp only[aT,bo,eh,dT,fX,go_sem];refine p3 (.bS [0,1,2,3,4,5,6,7,8,9,10,11,12,13,14,16,17] 15 (.fin [18,19,20]) 18<|.fin [15,19,20]) [6,11] [] ?_;simp only[K,y,z,eZ,o,dK,aW,f0,f1,t1,aO,aS,aT,bo,go_sem];have aq:=made 5 0 [] (iZ ((x.cap.drop<|q+1).map λb=>b.e.t)<|.mk B G F) [⟨.mk r w p s,u⟩,⟨.mk 6 0 [] [eh (k:Nat)],[S,i]⟩] V (by simp;exact ht.ne) Zs D3<|aG C;refine⟨?_,?_⟩
    all_goals
     refine mB aK ?_;have an:=gL.step ht ar<|jE _ V;generalize cD (iZ ((x.cap.drop<|q+1).map λb=>b.e.t)<|.mk B G F)=am at*;generalize iZ ((x.cap.drop<|q+1).map λb=>b.e.t) (.mk B G F)=a1 at*;simp only[go_sem];refine ir [55] aq (.c Fz.tk<|.c (.cl _<|Cl.bC<|J.cl _)<|.c (Fz.aQ (g:=ay 55) (al:=[⟨.mk r w p s,u⟩,⟨.mk 6 0 [] [eh (k:Nat)],[S,i]⟩]) Ip C) .n) (Cl.bC<|eK _) ?_;simp only[M,y,z,aT,bo,eh,dT,fX,go_sem];refine nM ⟨C,C,C,by simp[aw,K,ah,y,ak,ab,ad,eZ,o],⟨⟨.mk 5 0 [] [.mk r w p s,(⟨.mk 6 0 [] [eh (k:Nat)],[S,i]⟩:bZ).c],am::(u++(⟨.mk 6 0 [] [eh (k:Nat)],[S,i]⟩:bZ).ty)⟩,by simp[ai,O.ds,eh,bm],?_⟩,c8,by simp[ai,aT,U],rP⟩;rw[aR];exact an
  have ar:gL (pS x.l (a7 j) x.cap[q]) 2 ⟨eh (k:Nat),[i]⟩:=⟨by rw[pS,aC<|Yq P,aN],Zs,Zs,by simp;exact ap⟩;simp only[go_sem];refine p3 (.bS [0,1,2,3,4,5,6,7,8,9,10,11,12,13,14,16,17] 15 (.fin [18,19,20]) 18<|.fin [15,19,20]) [6,11] [] ?_;simp only[K,y,z,eZ,o,dK,aW,f0,f1,t1,aO,aS,bo,go_sem];have aq:=made 5 0 [] (iZ ((x.cap.drop<|q+1).map λb=>b.e.t)<|.mk B G F) [⟨.mk r w p s,u⟩,⟨eh (k:Nat),[i]⟩] V (by simp;exact ht.ne) Zs D3<|aG C;refine⟨?_,?_⟩
  all_goals
   refine mB aK ?_;have an:=gL.step ht ar<|jE _ V;generalize cD (iZ ((x.cap.drop<|q+1).map λb=>b.e.t)<|.mk B G F)=am at*;generalize iZ ((x.cap.drop<|q+1).map λb=>b.e.t) (.mk B G F)=a1 at*;simp only[go_sem];refine ir [55] aq (.c Fz.tk<|.c (.cl _<|Cl.bC<|J.cl _)<|.c (Fz.aQ (g:=ay 55) (al:=[⟨.mk r w p s,u⟩,⟨eh (k:Nat),[i]⟩]) Ip C) .n) (Cl.bC<|eK _) ?_;simp only[M,y,z,aT,bo,eh,dT,fX,go_sem];refine nM ⟨C,C,C,by simp[aw,K,ah,y,ak,ab,ad,eZ,o],⟨⟨.mk 5 0 [] [.mk r w p s,(⟨eh (k:Nat),[i]⟩:bZ).c],am::(u++(⟨eh (k:Nat),[i]⟩:bZ).ty)⟩,by simp[ai,O.ds,eh,bm],?_⟩,c8,by simp[ai,aT,U],rP⟩;rw[aR];exact an
 obtain rfl:q=A x.cap:=Zo;rw[cc]at ht;obtain⟨⟨r,w,p,s⟩,u⟩:=R;obtain⟨bL,bN,bO,bP,bQ,rfl⟩:∃a b c d e,c8=[a,b,c,d,e]:=HU;simp only[a3,y,ak,z,U,bo,go_sem];exact⟨Cl.bC<|eK ⟨.mk r w p s,u⟩,⟨.mk r w p s,u⟩,C,ht⟩
abbrev LT:ax:=[19,21,126,137,147]
structure LS (V:List ae) (ds:List aa) (a:List Nat) (H0:Nat->Option Ob) (e gm:Nat) (e8:List Rt) (b:List kA):Prop where
 st:kC V ds (TD 0) H0 e gm e8 (b.map λr=>r.2.1.id) (b.map eZ)
 m19:19∈a
 m21:21∈a
 sub:∀t∈a,t∈LT
 bB:∀t∈a,∀ob,H0 t=E ob->∀d∈ob.cells,In a d
 nd:(b.map λr=>r.2.1.id).Nodup
abbrev qq(V:aF)(ds:aO)(a:ax)(H0:a')(b:Nat)(x:Nd)(vars:bb)(m:Nat):Prop:=
 kz aB a H0 74 [.rf 21 b 0,x.d,dK vars] (sE (kr V ds x (a7 vars) m)<|10000000*x.num)
abbrev oT(k:Int)(n:BA)(ns:aX)(vars bs:bb)(i:Nat):bb:=if cW k n ns i=[]then vars else vars++bs
def WE{bs:bb}:a7 (oT a3 gs hH i9 bs am)=if cW a3 gs hH am=[]then a7 i9 else a7 i9++a7 bs:=by
 unfold oT;split<;>simp[a7]
def aec{j:aO}{i:ax}{g:a'}(r:LS a5 j i g am a0 H1 ai3)(aC:A j<=1000)
 {id:Nat} {v:Int} {k:BA} {a ty:J} {u:Int} {al:eg} {bs l:bb} {G:Nat} (F:dW ty) (V:∀b,Do=E b->b.id∈a7 l/\dW b.e.t) (an:A l<=1000000):
 qq a5 j i g am (.mk id (.mk 1 v k a hH h1) ty u al bs Do) l G:=by
 obtain⟨⟨aM,aP,aN,aL,R,-⟩,aA,-⟩:=r.st;have ah:=r.sub;have ao:=r.m21;have Z:=Bd a5 j k jC;obtain⟨I,M,K⟩:=a;obtain⟨o,q,p⟩:=ty;have aD:1<=(Nd.mk id (.mk 1 v k (.mk I M K) hH h1) (.mk o q p) u al bs Do).num:=by rw[Nd.num];omega
 generalize U:10000000*(Nd.mk id (.mk 1 v k (.mk I M K) hH h1) (.mk o q p) u al bs Do).num=av at*;unfold qq;rw[U];refine kz.ey [] [.cell 6 114] C C Zk Zt C Zs r.bB λaK au ar=>?_;have y:∀a∈i,b5 i g a=g a:=λa f=>by simp[b5,f]
 have S:=(y 21 ao).trans R;have D:∀(s:a'),(∀a,a≠6->s a=b5 i g a)->∀a∈i,s a=g a:=λs P a f=>by rw[P a (by have ap:=ah a f;simp at ap;omega),y a f]
 generalize b5 i g=aq at*;simp only[Nd.d,Nd.ja,go_sem];rw[kr];simp only[CI,bx];cases Do with
 |some b=>
  obtain⟨X,B⟩:=V b C;obtain⟨aH,G,aI,ay,az,aB,z⟩:=Bi.zC b;have ak:=WJ l b X an B;have Y:=Bi.cl b;have w:=jE _ B;rw[z]at ak Y;generalize cD b.e.t=m at*;simp only[bd,z,go_sem];refine(ZC) ?_;simp only[bo,eh,go_sem];exact⟨Cl.bC<|eK ⟨eh (ie (a7 l) b.id:Nat),[m]⟩,⟨⟨eh (ie (a7 l) b.id:Nat),[m]⟩,C,C,Zs,co,Yr w⟩,D _ λa f=>Yr f⟩
 |none=>
  have ab:=made 11 (eV j k) [] (.mk o q p) [] F Zs Zs Zs<|aG C;have w:=jE _ F;generalize cD (.mk o q p)=m at*;simp only[bd,go_sem];refine lq [0,1,2,3,4,5,6,7,8,11,12,13,14,9,10,15,16] [21] []<|(ad S)<|hW Z (iT)<|(ZN)<|ir [] ab (.c Fz.tk<|.c (.cl _<|Cl.bC<|J.cl<|.mk o q p)<|.c (.nil 5) .n) (Cl.bC<|eK _) ?_;simp only[bo,aT,fX,go_sem];exact⟨Cl.bC<|eK ⟨.mk 11 (eV j k) [] [],[m]⟩,⟨⟨.mk 11 (eV j k) [] [],[m]⟩,C,C,Zs,co,Yr w⟩,D _ λa f=>Yr f⟩
def gL.kids{l:List bZ}{k v:Int}{d:IL}{m:Nat}(a:l.map bZ.c=v1)(f:(l.map λe=>A e.ty).sum+1<=m)(b:dW he):gL (.mk k v d v1) m ⟨.mk k v d<|l.map bZ.c,he::ao (l.map bZ.ty)⟩:=by
 refine⟨Yw a,Zs,?_,Yr b⟩;rwa[dC,x0,eu]
theorem two{G:aU}(a:aU)(b:∀d,a d->G d)(e:a bv)(f:a g9):G bv/\G g9:=⟨b _ e,b _ f⟩
def YO(l:bb)(a:A l<=aE):az 125 [.sl 1<|au Bi.d l]<|.cs 1<|au Bi.d l:=Nu
def aed{l:aF}{R:aO}{LL:ax}{H0:a'}{U aV:Nat}(ak:LS l R LL H0 U aV H1 ai3)(bh:A l<=1000)(aW:∀d∈l,A (ae.cs d)<=1000)
 {id:Nat} {k v:Int} {n:BA} {t ty:J} {ns:aX} {w:bu} {D:Int} {al:eg} {bs vars:bb} {m:Nat} (bk:2<=k/\k<=8) (ap:dW ty) (bq:A vars<=1000000) (Bq:A bs<=1000000) (bl:A al<=1000) (SQ:∀g,cW k n ns g≠[]->bs≠[])
 (bn:(Nd.mk id (.mk k v n t ns w) ty D al bs Do).num<=100000)
 (ug:∀(g:Nat)(j:g<A al),qq l R LL H0 U al[g] (oT k n ns vars bs g)<|cK k (al.map Nd.bf) m g):
 qq l R LL H0 U (.mk id (.mk k v n t ns w) ty D al bs Do) vars m:=by
 obtain⟨⟨br,bv,bt,aq,ah,-⟩,bd,-⟩:=ak.st;have a2:=ak.sub;have a3:=ak.m21;have bi:=y8 l n Zo λd hd=>Yo<|aW d hd;obtain⟨K,P,M⟩:=t;obtain⟨p,u,s⟩:=ty;have aa6:=λg=>I6 k v n K P M ns w g;have be:Cl<|.ag<|L.ds<|.mk k v n (.mk K P M) ns w:=Cl.bC<|L.cl _;have aN:az 122 [I k]<|I k:=by
  have i:=ZF k;by_cases ar:k=8
  .subst ar;exact i
  rwa[aM Zo]at i
 have f1:(k==1)=af:=co;have f9:(k==9)=af:=co;have f11:(k==11)=af:=co;obtain⟨X,S0⟩:∃X:Nat->O,∀(g:Nat)(j:g<A al),X g=kr l R al[g] (a7 (oT k n ns vars bs g)) (cK k (al.map Nd.bf) m g):=
  ⟨λg=>if j:g<A al then kr l R al[g] (a7<|oT k n ns vars bs g) (cK k (al.map Nd.bf) m g)else eh 0,λg j=>by simp only[dif_pos j]⟩
 have hr:kr l R (.mk id (.mk k v n (.mk K P M) ns w) (.mk p u s) D al bs Do) (a7 vars) m=.mk k (nJ l k v n) [] ((cz<|A al).map X):=by
  rw[kr];simp only[CI];rw[aC Zo,aC Zo,GU,Nd.sO,bE];congr 1;refine jn λg am=>?_;have am:g<A al:=Yq am;unfold vY;rw[getD_map am,S0 g am,WE]
 have an:∀q,Nd.aZ (Y q al)+1<=(Nd.mk id (.mk k v n (.mk K P M) ns w) (.mk p u s) D al bs Do).num:=λq=>by
  rw[Nd.num];have i:∀(B:eg)(q:Nat),Nd.aZ (Y q B)<=Nd.aZ B:=λB=>by
   induction B with
   |nil=>intro q;simp
   |cons c aU aH=>
    intro q;cases q with
    |zero=>simp[Nd.aZ]
    |succ q=>rw[jz,Nd.aZ,Nd.aZ];have i:=aH q;omega
  have i:=i al q;omega
 have abj:∀(q:Nat)(j:q<A al),Nd.aZ (Y (q+1) al)=Nd.aZ (Y q al)+al[q].num:=λq j=>by
  have i:∀B aI,Nd.aZ (B++[aI])=Nd.aZ B+aI.num:=λB aI=>by
   induction B with
   |nil=>simp[Nd.aZ]
   |cons c aU aH=>rw[bg,Nd.aZ,aH,Nd.aZ];omega
  rw[dm j,i]
 unfold qq;rw[hr];generalize (Nd.mk id (.mk k v n (.mk K P M) ns w) (.mk p u s) D al bs Do).num=aK at*;have lM:cE aB 107=E (114,5,88):=Zk;refine kz.ey [1000179,1000185] [.cell 6 114] C C Zk Zt C Zs ak.bB λo aS aR=>?_;have aa4:∀t∈LL,b5 LL H0 t=H0 t:=λt ht=>by simp[b5,ht]
 have qI:∀t∈LL,t≠6/\t≠12/\t≠173/\t≠178/\t≠184/\t≠185:=λt ht=>by have i:=a2 t ht;simp at i;omega
 generalize b5 LL H0=ba at*;simp only[Nd.d,Nd.ja,f1,f9,f11,go_sem];refine p3 (.bS [0,1,2,3,4,6,7,8,9,10] 5 (.fin [11,12,13]) 12<|.fin [5,11,13]) [] []<|(ZN)<|And.imp (λj=>hW aN iT j) (λj=>hW aN iT j)<|(ZN)<|two (G:=qD _ _ _) (mx 194 aR aS [(0,.rf 21 U 0),(1,(Nd.mk id (.mk k v n (.mk K P M) ns w) (.mk p u s) D al bs Do).d),(2,dK vars),(6,.rf 6 (o 6) 0),(12,.rf 12 (o 12) 0)] λenv H=>(∃c6,H 6=E ⟨o 6,114,5,c6,Q⟩/\A c6=5)/\H 12=E ⟨o 12,112,4,[I k,I v,bp,bp],Q⟩/\∀t∈LL,H t=H0 t) ?_ ?_ ?_
 .rintro⟨env,H,n',aQ,ab,Z⟩⟨rfl,rfl,rfl,F,⟨c6,h6,J8⟩,rN,ph⟩;simp only[bM]at F h6 rN ph;obtain⟨e0,e1,e2,e6,vo,-⟩:=F;have ah:=(ph 21 a3).trans ah;simp only[Nd.d,L.ds,J.ds,bg,aY,Nd.ja]at e1;refine fx (λj=>?_) λj=>?_
  .have ar:k=8:=by simpa using j
   simp only[e0,e1,ah,go_sem];refine sX [21] [] fb Zk<|(bQ<|JJ e0<|JJ e1<|JJ ah<|JJ vo rN)<|jH 158 (A al) (λq=>mx 194 Z ab [(0,.rf 21 U 0),(1,(Nd.mk id (.mk k v n (.mk K P M) ns w) (.mk p u s) D al bs Do).d),(2,dK vars),(6,.rf 6 (o 6) 0),(12,.rf 12 (o 12) 0),(156,.sl 1<|au Nd.d al),(157,I<|A al)] λenv H=>(H 6=E ⟨o 6,114,5,c6,Q⟩/\H 12=E ⟨o 12,112,4,[I k,I<|kH 0 l n,bp,bp],Q⟩/\∀t∈LL,H t=H0 t)/\∃tl:List bZ,aL [185] H 114 5 (tl.map bo) (env 15)/\tl.map bZ.c=(cz q).map X/\(∀t∈tl,t.ty≠[])/\(tl.map λt=>A t.ty).sum<=10000000*Nd.aZ (Y q al)) C
    ⟨C,C,C,by simp[aw,e0,e1,e2,e6,vo,Nd.d,L.ds,J.ds,Nd.ja,bG],⟨Yu h6,ep,λt ht=>by obtain⟨z1,z2,-⟩:=qI t ht;simp[ai,z2,ph t ht]⟩,[],IC,C,Zs,Zs⟩ ?_
   obtain⟨a4,a5,a6,a8,a9,rfl⟩:∃a b c d e,c6=[a,b,c,d,e]:=HT;rintro q⟨env,H,n',aQ,ab,Z⟩a1 xb⟨rfl,rfl,rfl,F,⟨h6,rN,ph⟩,tl,hx,hc,Fv,aD⟩;simp only[bM]at xb F h6 rN ph hx;obtain⟨e0,e1,e2,e6,vo,JN,EN,-⟩:=F;obtain⟨W4,wY⟩:=Zx<|env 15;rw[wY]at hx;simp only[Nd.d,L.ds,J.ds,bg,aY,Nd.ja]at e1;have BE:A tl=q:=by have i:=eo A hc;simpa using i
   refine dN (JJ xb EN) (λbw=>?_) λj=>?_
   .exact Z1
   obtain rfl:q=A al:=Zo;rw[cc]at aD;have ay:=made k (kH 0 l n) [] (.mk p u s) tl ap Fv Zo (by have i:=an (A al);rw[cc]at i;omega)<|aG C;have av:=gL.kids (k:=k) (v:=kH 0 l n) (d:=[]) (m:=10000000*aK) hc (by have i:=an (A al);rw[cc]at i;omega)<|jE _ ap;generalize cD (.mk p u s)=V at*;refine(ad j)<|dP [12] [] ?_;simp only[e1,vo,wY,rN,go_sem];refine ir [185] ay (.c Fz.tk<|.c (.cl _<|Cl.bC<|J.cl<|.mk p u s)<|.c (aL.fz (hx.aA o4) Zd (qd _)<|qc _) .n) (Cl.bC<|eK _) ?_;simp only[e6,h6,aT,bo,go_sem];have hv:nJ l k v n=(kH 0 l n):=by simp[nJ,ar]
   rw[hv];exact⟨Cl.bC<|eK ⟨.mk k (kH 0 l n) []<|tl.map bZ.c,V::ao (tl.map bZ.ty)⟩,⟨⟨.mk k (kH 0 l n) []<|tl.map bZ.c,V::ao (tl.map bZ.ty)⟩,C,av⟩,λt ht=>by obtain⟨z1,z2,z3,z4,z5,z6⟩:=qI t ht;simp[z1,z6,ph t ht]⟩
  have a0:k≠8:=by simpa using j
  refine(ad e1)<|jH 158 (A al) (λq=>mx 194 Z ab [(0,.rf 21 U 0),(1,(Nd.mk id (.mk k v n (.mk K P M) ns w) (.mk p u s) D al bs Do).d),(2,dK vars),(6,.rf 6 (o 6) 0),(12,.rf 12 (o 12) 0),(156,.sl 1<|au Nd.d al),(157,I<|A al)] λenv H=>(H 6=E ⟨o 6,114,5,c6,Q⟩/\H 12=E ⟨o 12,112,4,[I k,I<|v,bp,bp],Q⟩/\∀t∈LL,H t=H0 t)/\∃tl:List bZ,aL [185] H 114 5 (tl.map bo) (env 15)/\tl.map bZ.c=(cz q).map X/\(∀t∈tl,t.ty≠[])/\(tl.map λt=>A t.ty).sum<=10000000*Nd.aZ (Y q al)) C
   ⟨C,C,C,by simp[aw,e0,e1,e2,e6,vo,Nd.d,L.ds,J.ds,Nd.ja,bG],⟨Yr h6,Yr rN,λt ht=>by obtain⟨z1,z2,-⟩:=qI t ht;simp[ph t ht]⟩,[],IC,C,Zs,Zs⟩ ?_
  obtain⟨a4,a5,a6,a8,a9,rfl⟩:∃a b c d e,c6=[a,b,c,d,e]:=HT;rintro q⟨env,H,n',aQ,ab,Z⟩a1 xb⟨rfl,rfl,rfl,F,⟨h6,rN,ph⟩,tl,hx,hc,Fv,aD⟩;simp only[bM]at xb F h6 rN ph hx;obtain⟨e0,e1,e2,e6,vo,JN,EN,-⟩:=F;obtain⟨W4,wY⟩:=Zx<|env 15;rw[wY]at hx;simp only[Nd.d,L.ds,J.ds,bg,aY,Nd.ja]at e1;have BE:A tl=q:=by have i:=eo A hc;simpa using i
  refine dN (JJ xb EN) (λbw=>?_) λj=>?_
  .exact Z1
  obtain rfl:q=A al:=Zo;rw[cc]at aD;have ay:=made k (v) [] (.mk p u s) tl ap Fv Zo (by have i:=an (A al);rw[cc]at i;omega)<|aG C;have av:=gL.kids (k:=k) (v:=v) (d:=[]) (m:=10000000*aK) hc (by have i:=an (A al);rw[cc]at i;omega)<|jE _ ap;generalize cD (.mk p u s)=V at*;refine(ad j)<|dP [12] [] ?_;simp only[e1,vo,wY,rN,go_sem];refine ir [185] ay (.c Fz.tk<|.c (.cl _<|Cl.bC<|J.cl<|.mk p u s)<|.c (aL.fz (hx.aA o4) Zd (qd _)<|qc _) .n) (Cl.bC<|eK _) ?_;simp only[e6,h6,aT,bo,go_sem];have hv:nJ l k v n=(v):=by simp[nJ,a0]
  rw[hv];exact⟨Cl.bC<|eK ⟨.mk k (v) []<|tl.map bZ.c,V::ao (tl.map bZ.ty)⟩,⟨⟨.mk k (v) []<|tl.map bZ.c,V::ao (tl.map bZ.ty)⟩,C,av⟩,λt ht=>by obtain⟨z1,z2,z3,z4,z5,z6⟩:=qI t ht;simp[z1,z6,ph t ht]⟩
 .exact Pq
 exact Pq
def sE.mono{d:D}(b:sE n5 am d)(i:am<=a0):sE n5 a0 d:=by
 obtain⟨j,a,e,f,g,h⟩:=b;exact⟨j,a,e,f,gS g i,h⟩
def LS.find{a:List kA}(d:LS a5 be gt fd am a0 H1 a){b:kA}(e:a[a2]?=E b)(g:St):mM g b.2.1.id ((a.map λr=>r.2.1.id).map kP) (a.map eZ)=E (E a2):=
 Tn (T:=TD 0) (d.st.B2.mono λj f=>by obtain⟨i,h,-⟩:=f;omega) d.nd (Yr e)
def aee{ak:aF}{j:aO}{P:ax}{H0:a'}{aS cq:Nat}(am:LS ak j P H0 aS cq H1 ai3)(dd:A j<=1000)
 {id:Nat} {o v:Int} {ar:BA} {a ty:J} {av:aX} {w:Int} {al:eg} {bs u:bb} {M ce R:Nat} {k:Nd} (ap:k=.mk id (.mk o v ar a av h1) ty w al bs Do) (hk:o=9\/o=11) (cb:dW ty) (cS:A u<=1000000)
 (cz:0<=w) (cA:w<=1000) (b2:∀b∈k.cap,b.id∈a7 u/\dW b.e.t) (cH:A k.cap<=1000000) (bi:0<A al) (df:A al<=1000) (b_:k.num<=100000) (cM:∀R,cK o (al.map Nd.bf) M R<=1000000)
 (b6:ai3[ce]?=E (R,k,(range' 1<|A al-1).map<|cK o (al.map Nd.bf) M))
 (bl:qq ak j P H0 aS al[0] u<|cK o (al.map Nd.bf) M 0):qq ak j P H0 aS k u M:=by
 obtain⟨⟨dn,dq,dp,aq,bR,-⟩,cw,-⟩:=am.st;have cQ:=am.sub;have cg:=am.m21;have cY:=am.m19;have bk:=λcZ=>am.find b6 cZ;have b3:(ai3.map eZ)[ce]?=E (eZ (R,k,(range' 1<|A al-1).map<|cK o (al.map Nd.bf) M)):=by rw[fP,b6];rfl
 have cG:cW o ar av 0=[]:=by unfold cW;obtain rfl|rfl:=hk<;>simp
 have cd:k.d=(Nd.mk id (.mk o v ar a av h1) ty w al bs Do).d:=Yw ap;have cT:k.id=id:=Yf ap;have br:k.l=w:=Yf ap;have cU:k.ty=ty:=Yf ap;have cJ:al[0].num+1<=k.num:=by rw[ap,Nd.num];have s:=Nd.jw (aD bi);omega
 generalize bn:(range' 1<|A al-1).map (cK o (al.map Nd.bf) M)=i at*;have cN:∀g∈i,g<=1000000:=by rw[<-bn];intro g cC;obtain⟨b,-,rfl⟩:=aP.1 cC;exact cM b
 have dg:A i<=1000:=by rw[<-bn];simp;omega
 have q:kr ak j k (a7 u) M=nc (O.mk (if o=9 then 9 else 10) 0 (i.map λg=>((A j+g:Nat):Int)) [kr ak j al[0] (a7 u)<|cK o (al.map Nd.bf) M 0]) (k.cap.map<|pS w<|a7 u):=by
  rw[ap,kr];simp only[CI];rw[aC Zo,aM hk,GU,Nd.sO,bE,<-bn,eu];unfold vY;rw[getD_map bi,aM cG];rfl
 have cP:=b_;generalize cB:k.num=bL at cJ b_ cP;have aU:=λ(cu:a')(b4:bZ){ck:O}{cf:Nat}(ca:gL ck cf b4)(aV:cf<=1000000000000)=>XA (.rf 21 aS 0) R k i b4 u b2 (cU▸cb) (br▸cz) (br▸cA) cH cS ca aV (H0:=cu);rw[br]at aU;have de:=J1 k.cap ty Zo;have b7:=w6 (l:=k.cap.map λb=>b.e.t) (λba ad=>by obtain⟨b,cF,rfl⟩:=aP.1 ad;exact(b2 b cF).2) cb;unfold qq;rw[q,cB,cd];rw[cT]at bk;rw[qq]at bl;obtain⟨bt,bz,bv⟩:=a;obtain⟨ay,aH,az⟩:=ty;generalize kr ak j al[0] (a7 u) (cK o (al.map Nd.bf) M 0)=ch at*;have cn:(au Nd.d al)[0]?=E [Nd.d al[0]]:=jx bi;have lM:cE aB 110=E (2,1,8):=Zk;have b':zr aB 153=E (.pointer Q):=Zk;have da:aa.sl j=.sl 12 (aa.ab j):=C;refine kz.ey [] [.cell 6 114] C C Zk Zt C Zs am.bB λa9 cj ci=>?_;have bh:∀a∈P,b5 P H0 a=H0 a:=λa m=>by simp[b5,m]
 have bU:=(bh 21 cg).trans bR;have bQ:=(bh 19 cY).trans cw;have ao:∀a∈P,a≠6/\a≠8/\a≠11/\a≠89/\a≠90/\a≠112:=λa m=>by have s:=cQ a m;simp at s;omega
 generalize b5 P H0=c7 at*;have f1:(o==1)=af:=co;have an:eZ (R,k,i)=.pa R [(Nd.mk id (.mk o v ar (.mk bt bz bv) av h1) (.mk ay aH az) w al bs Do).d,dK k.cap,.sl 1<|au o1 i]:=by unfold eZ;rw[cd]
 have cI:=Nd.cl<|Nd.mk id (.mk o v ar (.mk bt bz bv) av h1) (.mk ay aH az) w al bs Do;rw[an]at aU;simp only[Nd.d,L.ds,J.ds,bg,aY,Nd.ja]at an cI aU;simp only[Nd.d,Nd.ja,f1,go_sem];obtain hk|hk:=hk;have f9:(o==9)=W:=Yr hk;have f11:(o==11)=af:=Yr hk;rw[aM hk];simp only[f9,f11,bU,bQ,b',bk,b3,an,dK,go_sem];generalize (9:Int)=K
 rotate_left
 have f9:(o==9)=af:=Yr hk;have f11:(o==11)=W:=Yr hk;rw[aC Zo];simp only[f9,f11,bU,bQ,b',bk,b3,an,dK,go_sem];generalize (10:Int)=K
 all_goals
  refine jH 75 (A i) (λp=>mx 194 ci cj [(0,.rf 21 aS 0),(1,(Nd.mk id (.mk o v ar (.mk bt bz bv) av h1) (.mk ay aH az) w al bs Do).d),(2,dK u),(6,.rf 6 (a9 6) 0),(7,eZ (R,k,i)),(8,.rf 8 (a9 8) 0),(73,.sl 1<|au o1 i),(74,I<|A i)] λcm aK=>(∃bA bH bI bJ bK,aK 6=E ⟨a9 6,114,5,[bA,bH,bI,bJ,bK],Q⟩)/\(∃ba,aK 8=E ⟨a9 8,112,4,[I K,I 0,ba,bp],Q⟩/\aL [90] aK 2 1 (au I ((Y p i).map λg=>((A j+g:Nat):Int))) ba)/\∀a∈P,aK a=H0 a) C
   ⟨C,C,C,by simp[aw,ej,Nd.d,L.ds,J.ds,Nd.ja,bG,an],⟨_,_,_,_,_,AO⟩,⟨.sc<|.slice Q 0 0,ep,aG ⟨C,C⟩⟩,λa m=>by obtain⟨U,ah,-⟩:=ao a m;simp[ai,U,ah,bh a m]⟩ ?_
  rintro p⟨cm,aK,dh,dj,c9,c8⟩ca a4⟨rfl,rfl,rfl,b8,⟨bA,bH,bI,bJ,bK,a3⟩,⟨ba,a5,ad⟩,X⟩;simp only[bM]at a4 b8 a3 a5 ad X;obtain⟨aN,bd,a0,be,aR,a1,bO,bP,-⟩:=b8;have bV:=(X 21 cg).trans bR;simp only[Nd.d,L.ds,J.ds,bg,aY,Nd.ja]at bd;refine dN (JJ a4 bP) (λbw=>?_) λct=>?_
  .have cr:=jx (f:=o1) bw;have dc:=cN _<|aD bw;have cR:(Y (p+1) i).map (λg=>((A j+g:Nat):Int))=(Y p i).map (λg=>((A j+g:Nat):Int))++[((A j+i[p]:Nat):Int)]:=wH;have c5:=wrap_add (A j) i[p] Zo;have b9:A (au I ((Y p i).map λg=>((A j+g:Nat):Int)))=p:=by simp[au];omega
   simp only[a4,bO,cr,go_sem];refine dP [8,21] [] ?_;simp only[aN,a1,a5,bV,c5,jt,go_sem];refine js (S:=[90]) (aq:=au I ((Y p i).map λg=>((A j+g:Nat):Int))) (bD:=au I [((A j+i[p]:Nat):Int)]) Zs lM (by simp only[aw,bx,bT,bj];exact ad.aA bF) (ha _) Im kl C (by rw[b9];show(p+1)*8<=_;omega) (by rw[b9];show p+1<=aE;unfold aE;omega) (by show 90<194;decide) λc6 di dk a8 a6=>?_;rw[<-r9]at a8;obtain⟨c_,rfl,-⟩:=eG a8 kl;have bY:=a6 8 Zd Zd;have bW:=a6 6 Zd Zd;have cy:=a6 21 Zd Zd;simp only[a_,dG,bj,dv,a3,a5,bV]at bW bY cy;simp only[a4,a1,bY,go_sem];refine nM ⟨C,C,C,by simp[aw,aN,bd,a0,be,aR,a1,bO,bP,Nd.d,L.ds,J.ds,Nd.ja,bG],⟨bA,bH,bI,bJ,bK,Yu bW⟩,⟨_,my,?_⟩,λa m=>?_⟩
   .rw[cR];rw[fg]at a8;refine aL.aA a8 ?_;simp[ai]
   obtain⟨U,ah,z3,aZ,V,aI⟩:=ao a m;have s:=a6 a V<|Yq V;simp only[a_ _ _ aZ]at s;simp only[a_ _ _ ah];exact s.trans<|X a m
  obtain rfl:p=A i:=Zo;rw[cc]at ad;rw[an]at aR;simp only[ct,dK,go_sem];refine rH (.bS [0,1,2,3,4,5,6,7,8,10,11,12,13,14,15,16,17] 9 (.bS [] 18 (.bS [] 19 (.bS [] 20 (.fin [21,22]) 21<|.fin [20,22]) 21<|.fin [19,20,22]) 21<|.fin [18,19,20,22]) 21<|.fin [9,18,19,20,22]) [8] [] fb Zk ?_;simp only[aN,bd,a0,aR,a1,a5,cn,go_sem];have b1:=jE _ b7;have b0:=λ(t0:bZ)(cv:t0.ty≠[])(cx:A t0.ty<=2000000000000)=>made K 0 (i.map λg=>((A j+g:Nat):Int)) (iZ (k.cap.map λb=>b.e.t)<|.mk ay aH az) [t0] b7 (Yq cv) Zs (by simpa using cx)<|aG C;generalize cD (iZ (k.cap.map λb=>b.e.t)<|.mk ay aH az)=a2 at*;generalize iZ (k.cap.map λb=>b.e.t) (.mk ay aH az)=c' at*;refine⟨?_,?_⟩
  .refine(ZC) ?_;refine⟨?_,?_⟩
   all_goals
    refine aj<|aj (bl _ _ _ (λa m=>by obtain⟨U,ah,z3,aZ,V,aI⟩:=ao a m;simp[ai,z3,X a m]) λcV r q Z=>?_);obtain⟨⟨⟨z,F,y,B⟩,D⟩,rfl,G⟩:=q;have aV:=b0 ⟨.mk z F y B,D⟩ G.ne (by have s:=G.len;omega);have bq:gL (O.mk K 0 (i.map λg=>((A j+g:Nat):Int)) [ch]) (1+10000000*al[0].num) ⟨.mk K 0 (i.map λg=>((A j+g:Nat):Int)) [.mk z F y B],a2::D⟩:=⟨by rw[<-G.c],Zs,by have s:=G.len;simp at s⊢;omega,by simp[b1]⟩;simp only[bo,go_sem]
    (repeat' apply And.intro)
    all_goals
     refine ir [112,90] aV (.c (Fz.oy<|.c (.cl _<|bc _)<|.c (.cl _<|bc _)<|.c (mQ (S:=[90]) (ad.aA yu) λ_ _=>bc _)<|.c (.cl _<|bc _) .n)<|.c (.cl _<|Cl.bC<|J.cl _)<|.c (Fz.aQ (al:=[⟨.mk z F y B,D⟩]) DP C) .n) (Cl.bC<|eK _) ?_;simp only[aN,a0,aR,aT,bo,dT,fX,go_sem];refine aj<|aj (aU (λ_=>Q) ⟨.mk K 0 (i.map λg=>((A j+g:Nat):Int)) [.mk z F y B],a2::D⟩ bq Zo _ _ _ Zs λcX r q Z=>?_);have aW:=sE.mono q (show _<=10000000*bL by omega);obtain⟨⟨⟨c1,c4,c0,c2⟩,c3⟩,rfl,-⟩:=q;simp only[bo,O.ds,bg,aY]at aW Z;simp only[be,a3,aT,bo,go_sem];exact⟨Z,aW,λa m=>by obtain⟨U,ah,z3,aZ,V,aI⟩:=ao a m;simp[U,z3,V,aI,X a m]⟩
  refine(ZC) ?_;refine aj<|aj (bl _ _ _ (λa m=>by obtain⟨U,ah,z3,aZ,V,aI⟩:=ao a m;simp[ai,z3,X a m]) λcV r q Z=>?_);obtain⟨⟨⟨z,F,y,B⟩,D⟩,rfl,G⟩:=q;have aV:=b0 ⟨.mk z F y B,D⟩ G.ne<|Yo G.len;have bq:gL (O.mk K 0 (i.map λg=>((A j+g:Nat):Int)) [ch]) (1+10000000*al[0].num) ⟨.mk K 0 (i.map λg=>((A j+g:Nat):Int)) [.mk z F y B],a2::D⟩:=⟨by rw[<-G.c],Zs,by have s:=G.len;simp at s⊢;omega,Yr b1⟩;simp only[bo,go_sem]
  (repeat' apply And.intro)
  all_goals
   refine ir [112,90] aV (.c (Fz.oy<|.c (.cl _<|bc _)<|.c (.cl _<|bc _)<|.c (mQ (S:=[90]) (ad.aA yu) λ_ _=>bc _)<|.c (.cl _<|bc _) .n)<|.c (.cl _<|Cl.bC<|J.cl _)<|.c (Fz.aQ (al:=[⟨.mk z F y B,D⟩]) DP C) .n) (Cl.bC<|eK _) ?_;simp only[aN,a0,aR,aT,bo,dT,fX,go_sem];refine aj<|aj (aU (λ_=>Q) ⟨.mk K 0 (i.map λg=>((A j+g:Nat):Int)) [.mk z F y B],a2::D⟩ bq Zo _ _ _ Zs λcX r q Z=>?_);have aW:=sE.mono q (show _<=10000000*bL by omega);obtain⟨⟨⟨c1,c4,c0,c2⟩,c3⟩,rfl,-⟩:=q;simp only[bo,O.ds,bg,aY]at aW Z;simp only[be,a3,aT,bo,go_sem];exact⟨Z,aW,λa m=>by obtain⟨U,ah,z3,aZ,V,aI⟩:=ao a m;simp[U,z3,V,aI,X a m]⟩
abbrev qm(x:Nd):Prop:=Nd.all (λy=>ah (J.w y.ty/\∀b∈y.bs,J.w b.e.t)) x=W
def qm.own{a:Nd}(d:qm a):(J.w a.ty/\∀b∈a.bs,J.w b.e.t)/\∀f∈a.ks,qm f:=by
 rw[qm,Nd.all_eq,cy,en,ee]at d;exact d
def Te(j:gT a5 be):∀(g:L){y:Nd}{h:bb}{q:Int}{z:aX},hE a5 be g y h q->TC a5 be g z->(∀b∈h,J.w b.e.t)->qm y
 |.mk U v V g X k,_,h,q,z,.mk (al:=al) (bs:=bs) (b:=aa) (ty:=ty) (id:=id) P f K ah O,d,p=>by
  have u:∀B∈h.map Bi.e,J.w B.t:=λB R=>by obtain⟨b,f,rfl⟩:=aP.1 R;exact p b f
  have s:∀b∈bs,J.w b.e.t:=λb f=>by
   have a:b.e∈gw a5 be U V g X k (h.map Bi.e) q:=by rw[<-K];exact aP.2 ⟨b,f,C⟩
   unfold gw at a;split at a
   .rename_i F;simp only[dg]at a;rw[a];have f3:=d.form.2.2.1;exact⟨by simp only[lB,F,h7,bx,cy]at f3;exact f3.1,by have r:=d.ok;rw[L.ok]at r;exact r.2.1⟩
   split at a
   .obtain⟨Y,x,D⟩:=aP.1 a;rw[MW]at x;obtain⟨Z,G,I⟩:=kU.1 x;obtain⟨ab,l,M⟩:=kU.1 G;rw[<-D]
    match k,l,d with
    |ad::ae,l,d=>
     cases l;exact G' (uC j _ (d.dh 0 Zs) u M) (i:=Y.2) I
   split at a
   .exact xR j _ a
   cases a
  rw[qm,Nd.all_eq,cy,en,ee];refine⟨⟨uC j _ d u P,s⟩,λak S=>?_⟩;obtain⟨i,m,rfl⟩:=ec S;have m:i<A al:=m;have o:i<A k:=Zo;exact Te j k[i] (O i o m) (d.dh i o) (by split;exact λb f=>(ca.1 f).elim (p b) (s b);exact p)
termination_by g=>g
decreasing_by
 have r:=fl<|aD o;simp;omega
def Rb{a v:Int}{d:BA}{e:aX}{id:Nat}{ty:J}{f:Int}{al:eg}{bs k:bb}(o:a=9\/a=11)(g:Cx a5 be (.mk a v d he e h1) (.mk id (.mk a v d he e h1) ty f al bs Do) k f)
 {w:Int} (q:Rl (.mk a v d he e h1) k f gt it w):∀b∈(Nd.mk id (.mk a v d he e h1) ty f al bs Do).cap,b.id∈gt/\b∈k:=λb m=>by
 obtain⟨t,z⟩:=Ex o g.sh (λx h i l=>(g.sh.case h i).2 ⟨x,l⟩) g.is g.ap λr j=>q.BN j;rw[t]at m;obtain⟨r,j,p⟩:=C_.1 m;obtain⟨-,h,i,l,u⟩:=nA.1 j;have s:cW a d e h=[]:=by unfold cW;obtain rfl|rfl:=o<;>simp
 refine⟨(q.get r (by rw[fv,rL];exact aj ⟨h,i,by rw[ew,s,de];exact u⟩) b p).1,?_⟩;have y:=x7 p;simpa using y
def L8{p:aF}{z:aO}(K:gT p z)(ar:A p<=1000)(ap:∀d∈p,A (ae.cs d)<=1000)(P:LS p z gt fd am a0 H1 ai3):
 ∀(g:L){u:Nd}{D vars:bb}{h:Int}{V:bq}{l:Int}(B:Nat),L.kd g≠10->Cx p z g u D h->Rl g D h (a7 vars) V l->(∀b∈D,J.w b.e.t)->qm u->(∀O∈u.gj B,O∈ai3.map Prod.snd)->0<=h->h+g.num<=1000->u.num<=1000->A vars+u.num<=1000000->B+u.bf<=10000->
  qq p z gt fd am u vars B
 |.mk a v n g k i,u,D,vars,h,V,l,B,R,F,Z,aa,a2,av,ah,ak,bd,bg,a_=>by
  have R:a≠10:=R;have M:=F.sh;obtain⟨id,ty,al,bs,m,rfl,S,an⟩:∃id ty al bs m,u=.mk id (.mk a v n g k i) ty h al bs m/\A al=A i/\m=if a=1 then du D n else Q:=by
   cases F.is with|mk aI j ao S aX=>exact⟨_,_,_,_,_,C,S,j⟩
  have aU:bs.map Bi.e=gw p z a n g k i (D.map Bi.e) h/\bt p z (.mk a v n g k i) (D.map Bi.e) h=E ty:=by
   cases F.is with|mk aI j ao S aX=>exact⟨ao,aI⟩
  obtain⟨⟨U,aJ⟩,aK⟩:=a2.own;simp only[Nd.ty,Nd.bs,Nd.ks]at U aJ aK;have aH:=@Nd.oL<|.mk id (.mk a v n g k i) ty h al bs m;simp only[Nd.bs,Nd.ks]at aH;have be:1<=a/\a<=11:=by
   have y:=M.len;unfold dw at y;by_cases q:1<=a/\a<=11
   .exact q
   rw[aC Zo,aC Zo,aC Zo,aC Zo,aC Zo,aC Zo]at y;simp[bY]at y;omega
  by_cases aY:a=1
  .subst aY;rw[aM C]at an;refine aec P (Yo K.len) (rK _ U.1) (λb j=>?_) Zo;rw[an]at j;exact⟨(Z.get n ID b j).1,rK _ (aa b (by have y:=x7 j;simpa using y)).1⟩
  have aA:∀(f:Nat)(o:f<A al),(a=9\/a=11->f=0)->qq p z gt fd am al[f] (oT a n k vars bs f) (cK a (al.map Nd.bf) B f):=λf o ay=>by
   have I:f<A i:=Zo;have aV:Rl i[f] (D++if eB a f then bs else[]) (ct a h) (a7<|oT a n k vars bs f) (cU p z a n g k i V l f)<|ct a l:=by
    rw[WE];exact Z.dh F R f I o
   have ba:=aH.2.2 _<|aD o;have bc:=L.jw<|aD I;rw[L.num]at ak;refine L8 K ar ap P i[f] _ ?_ (F.dh f I o) aV (λb j=>?_) (aK _<|aD o) (λO X=>?_) ?_ ?_ Zo ?_ ?_
   .rw[Ne,M.case f I];rintro⟨q,a5⟩;exact absurd (ay<|aG q) Zo
   .obtain j|j:=ca.1 j
    .exact aa b j
    split at j
    .exact aJ b j
    cases j
   .refine av O ?_;rw[rJ];refine gq _<|eL.2 ⟨_,aP.2 ⟨f,oo.2 o,C⟩,?_⟩;simp only[Nd.ks,Nd.t,L.kd,bL o,eE,kx];rw[show f' a f=0 by unfold f';rw[aC];rintro⟨q,a5⟩;have y:=ay q;omega,oX];exact X
   .unfold ct;split<;>omega
   .unfold ct;split<;>omega
   .have s:=@Nd.oL<|.mk id (.mk a v n g k i) ty h al bs m;have y:A (oT a n k vars bs f)<=A vars+A bs:=by unfold oT;split<;>simp
    have ad:al[f].num+A bs+1<=(Nd.mk id (.mk a v n g k i) ty h al bs m).num:=by rw[Nd.num];have y:=Nd.jw (aD o);omega
    omega
   have r:=Cv (x:=.mk id (.mk a v n g k i) ty h al bs m) (q:=f) o;have s:=xJ (.mk id (.mk a v n g k i) ty h al bs m) B f;simp only[Nd.ks,Nd.t,L.kd]at r s;omega
  by_cases G:a=9\/a=11
  .have Y:=M.len;have az:0<A al:=by
    rw[S];obtain rfl|rfl:=G<;>simp[bY,dw]at Y<;>omega
   have aZ:((Nd.mk id (.mk a v n g k i) ty h al bs m),(range' 1<|A al-1).map<|cK a (al.map Nd.bf) B)∈ai3.map Prod.snd:=av _ (by
    have aQ:L.kd (Nd.mk id (.mk a v n g k i) ty h al bs m).t=9\/L.kd (Nd.mk id (.mk a v n g k i) ty h al bs m).t=11:=G;rw[rJ,aM aQ];exact gf _<|dg.2 C)
   obtain⟨⟨f,O⟩,X,au⟩:=aP.1 aZ;obtain⟨bh,aW⟩:=jg.1 X;simp only at au;subst au;have aq:=Rb G F Z;have a1:oT a n k vars bs 0=vars:=by unfold oT;rw[aM (by unfold cW;obtain rfl|rfl:=G<;>simp)]
   have aB:=aA 0 az λ_=>C;rw[a1]at aB;refine aee P (Yo K.len) C G (rK _ U.1) Zo ah Zo (λb j=>⟨(aq b j).1,rK _ (aa b (aq b j).2).1⟩) ?_ az Zo Zo (λf=>?_) aW aB
   .have aR:=((FH _ M F.is ah ak).own.1.1 G).1;rw[Ew];have r:=A7 (n:=1000) (Nd.mk id (.mk a v n g k i) ty h al bs m).bS [] λa4 K=>Yo<|(Bk aR a4 K).1;have s:=w8<|.mk id (.mk a v n g k i) ty h al bs m;have ad:A (Nd.mk id (.mk a v n g k i) ty h al bs m).bS<=1000:=by simp only[Nd.ks]at s;omega
    simp only[gR,ew]at r;omega
   have s:=xJ (.mk id (.mk a v n g k i) ty h al bs m) B f;have ad:=LG (.mk id (.mk a v n g k i) ty h al bs m) (q:=f);simp only[Nd.ks,Nd.t,L.kd]at s;omega
  refine aed P ar ap Zo (rK _ U.1) Zo Zo Zo (λf j aN=>?_) Zo λf o=>aA f o λq=>absurd q G;subst aN;obtain⟨r,s⟩:=aU;unfold cW at j;by_cases aL:a=4
  .unfold gw at r;rw[aM aL]at r;simp at r
  have ab:a=7:=by
   by_cases ab:a=7
   .exact ab
   rw[aC Zo,aC R]at j;exact absurd C j
  subst ab;have Y:=M.len;simp[bY,dw]at Y;obtain⟨a8,a9,rfl⟩:=v7 (l:=i) Zo;simp only[bt,kN,oe,C0]at s;rw[aC Zd,aC Zd,aC Zd,aC Zd,aM trivial]at s;obtain⟨a6,aS,aT⟩:=kU.1 s;obtain⟨bi,a3,-⟩:=kU.1 aT;unfold gw at r;rw[aC aL,aM C]at r;simp[aS,a3]at r
termination_by g=>g
decreasing_by
 have y:=fl<|aD I;simp;omega
section
def abD(a:ax)(v:Nat)(l:A a<=aE):az 264 [.sl 1<|au o1 a,I v]<|I<|fT (λe=>e==v) a:=by
 unfold aE at l;refine(dH)<|lp 8 (A a) [0,1,7] (λb _ _ _ _=>(Y b a).any (λe=>e==v)=af) Zs ?_;rintro b q m s p o r hp;refine ZL (λd=>?_) λi=>?_
 .have j:((v:Int)==(a[b]:Int))=(a[b]==v):=by rw[oi];simp;omega
  simp only[jx (f:=o1) d,j,go_sem];cases g:a[b]==v
  .refine(ZN) ?_;refine dI ?_;rw[o6 d,hp,uI,<-g]
  exact(ZN)<|Fz.di (n3 d hp g).symm
 have vA:b=A a:=Zo;exact(ad i)<|Fz.di<|HY
def Zw(a:ax)(v:Nat)(e:A a<=aE):az 192 [.sl 1<|au o1 a,I v]<|B<|ah<|v∈a:=by
 have d:ah (v∈a)=a.any λb=>b==v:=by rw[oi];simp
 rw[d];exact(dH)<|hW (abD a v e) (.c (ff λb _=>bc _)<|.c (bc _) .n)<|(ZN)<|Fz.aK<|zj a
def X0{a:Array MapEntry}(h:(a.toList.map (·.born)).Nodup){b d:Nat}{f:b<a.size}{g:d<a.size}(e:a[b].born=a[d].born):b=d:=by
 have i:a.toList.Pairwise λj k=>j.born≠k.born:=by rw[List.Nodup,Aq]at h;exact h
 obtain q|q|q:=Hn b d
 .exact absurd e<|wt.1 i b d (Yq f) (Yq g) q
 .exact q
 exact absurd e.symm<|wt.1 i d b (Yq g) (Yq f) q
attribute [local semireducible] St.put
def aaA{G:ax}{F:a'}{j:List kA}(L:LS a5 be G F am a0 H1 j){J:kA}(a2:J∈j){k:Nat}(a8:k∈J.2.2)(hu:∀w∈j,k∈w.2.2->w=J)(a9:∀w∈j,A w.2.2<=1000):
 kz aB G F 126 [.rf 21 am 0,I k] λd=>d=eZ J:=by
 obtain⟨⟨bX,bZ,bY,bP,aT,-⟩,aR,-⟩:=L.st;have U:∀ab∈G,b5 G F ab=F ab:=λab bl=>by simp[b5,bl]
 have aU:=(U 21 L.m21).trans aT;have aS:=(U 19 L.m19).trans aR;refine kz.US [.tmp 4] C C Zk Zt C Zs L.bB λbn aM aL=>?_;generalize b5 G F=aJ at*;intro bR aK aQ bx bQ ba;have bm:(aB).underlying 153=E (.map 156 216):=Zk;refine wp_seq<|wp_region_list (Ab 1 (K:=nQ aJ bn 23 aM aL [(0,.rf 21 am 0),(1,I k)]) ba (by simp only[z_,Aa,nQ,go_sem]) λbp bz av bd=>?_);obtain⟨e,f,g,h,i,a⟩:=bd;obtain⟨m,o,s,z,q,p⟩:=bp;simp only at e f g h i;subst e;subst f;subst g;subst h;subst i;simp only[bM]at a;obtain⟨ad,l,-⟩:=a;refine wp_seq<|wp_seq<|wp_region_list (Ab 4 (K:=nQ o s 23 q p [(1,I k),(10,.mp 19 a0)]) av (by simp only[z_,Aa,nQ,ad,aU,go_sem];simp[l]) λbq bA ay bf=>?_);clear av ad l;obtain⟨e,f,g,h,i,a⟩:=bf;obtain⟨m,o,s,z,q,p⟩:=bq;simp only at e f g h i;subst e;subst f;subst g;subst h;subst i;simp only[bM]at a;obtain⟨l,ae,-⟩:=a;refine ais C ay C bm aS C ae Zs λbC bT r b S bK az ap=>wp_block<|aiv (λseen bo=>nQ o s 23 q p [(1,I k),(11,.sc<|.pointer<|some ⟨r,0,Q⟩)] bo/\∀(D:Nat)(bN:D<S.size),S[D].born∈seen.toList->∀w,j[D]?=E w->k∉w.2.2) ?_ az ap ⟨by simp[nQ,St.put,aw,l],Zs⟩;clear az ap ay l ae;intro seen br bD bU aA X⟨bg,ar⟩;obtain⟨e,f,g,h,i,a⟩:=bg;obtain⟨m,o,s,z,q,p⟩:=br;simp only at e f g h i;subst e;subst f;subst g;subst h;subst i;simp only[bM]at a;obtain⟨l,u,-⟩:=a;have bO:S.size=A j:=by have R:=X.len;simpa using R.symm
 refine wp_seq<|wp_region_list (aiq C aA X C (show St.ev _ (.tmp 11)=_ from u) (λaX aN Z=>?_) λt aq aN bV Z Y a_=>?_)
 .obtain⟨t,aq,a7⟩:=ec a2;exact absurd a8<|ar t Zo (aX _ Zs) J (by rw[bL aq,a7])
 refine Ab 1 (K:=nQ o s 23 q p [(1,I k),(11,.sc<|.pointer<|some ⟨r,0,Q⟩),(13,.sc<|.bool W)]) Z (by simp only[z_,Aa,nQ,go_sem];simp[l,u]) λbs bE aa bh=>?_;clear Z aA X l u;obtain⟨e,f,g,h,i,a⟩:=bh;obtain⟨m,o,s,z,q,p⟩:=bs;simp only at e f g h i;subst e;subst f;subst g;subst h;subst i;simp only[bM]at a;obtain⟨l,u,ak,-⟩:=a;refine wp_seq<|wp_cond_true (Lw aa (x:=.tmp 13) ak)<|wp_skip<|wp_block<|wp_seq<|wp_region_list ?_;have M:t<A j:=Zo;have aZ:(j.map eZ)[t]?=E (eZ j[t]):=Yr M;refine aip C aa Y C (show St.ev _ (.tmp 11)=_ from u) aZ λbF aC=>Ab 2 (K:=nQ o s 23 q p [(1,I k),(11,.sc<|.pointer<|some ⟨r,0,Q⟩),(6,eZ j[t])]) aC (by simp only[z_,Aa,nQ,go_sem];simp[l,u]) λbt bG aH bi=>?_;clear aC aa l u ak;obtain⟨e,f,g,h,i,a⟩:=bi;obtain⟨m,o,s,z,q,p⟩:=bt;simp only at e f g h i;subst e;subst f;subst g;subst h;subst i;simp only[bM]at a;obtain⟨l,u,y,-⟩:=a;refine wp_seq<|wp_region_list (Ab 5 (K:=nQ o s 23 q p [(1,I k),(11,.sc<|.pointer<|some ⟨r,0,Q⟩),(6,eZ j[t]),(19,.sl 1<|au o1 j[t].2.2),(20,I k)]) aH (by simp only[z_,Aa,nQ,eZ,l,y,go_sem];simp[u,eZ]) λbu bH aI bj=>?_);clear aH l u y;obtain⟨e,f,g,h,i,a⟩:=bj;obtain⟨m,o,s,z,q,p⟩:=bu;simp only at e f g h i;subst e;subst f;subst g;subst h;subst i;simp only[bM]at a;obtain⟨l,u,y,al,an,-⟩:=a;refine aio C aI C (aW:=[]) (aV:=[]) (r:=B<|ah<|k∈j[t].2.2) C ?_ λbI bW aY P=>?_
 .show yd _ _ _ _ [m 19,m 20] _;have R:m 19=_:=al;have R:m 20=_:=an;simp only[*];refine aG ⟨Zw j[t].2.2 k (by have R:=a9 _ (aD M);unfold aE;omega),λD d a1=>hD.all (.c (ff λ_ _=>bc _)<|.c (bc _) .n) d<|fE a1⟩
 have a3:nQ o s 23 q p [(1,I k),(11,.sc<|.pointer<|some ⟨r,0,Q⟩),(6,eZ j[t]),(21,B<|ah<|k∈j[t].2.2)]<|St.put ⟨m,o,s,23,q,p⟩ (E 21)<|B<|ah<|k∈j[t].2.2:=by simp[nQ,St.put,aw,l,u,y]
 clear aI l u y al an;generalize (St.put ⟨m,o,s,23,q,p⟩ (E 21)<|B<|ah<|k∈j[t].2.2)=bv at*;obtain⟨e,f,g,h,i,a⟩:=a3;obtain⟨m,o,s,z,q,p⟩:=bv;simp only at e f g h i;subst e;subst f;subst g;subst h;subst i;simp only[bM]at a;obtain⟨l,u,y,ao,-⟩:=a;by_cases O:k∈j[t].2.2
 .refine wp_cond_true (Lw P (x:=.tmp 21) (by show m 21=_;rw[show m 21=_ from ao];simp[O]))<|wp_seq<|wp_region_list (Ab 2 (K:=nQ o s 23 q p [(4,eZ j[t])]) P (by simp only[z_,Aa,nQ,go_sem];simp[y]) λbw bJ bb bk=>?_);obtain⟨e,f,g,h,i,a⟩:=bk;obtain⟨m,o,s,z,q,p⟩:=bw;simp only at e f g h i;subst e;subst f;subst g;subst h;subst i;simp only[bM]at a;obtain⟨aP,-⟩:=a;refine wp_ret<|.inr ⟨Zs,⟨m,o,s,23,q,p⟩,aQ,aK,?_,bb⟩;rw[Ly];simp only[aP,go_sem];exact⟨E0 _,Yw<|hu _ (aD M) O,U⟩
 refine wp_cond_false (Lw P (x:=.tmp 21) (by show m 21=_;rw[show m 21=_ from ao];simp[O]))<|wp_skip<|aG ⟨C,_,_,P,Y.below aY,⟨⟨C,C,C,C,C,by simp[l,u]⟩,λD a4 hm w V=>?_⟩,a_⟩;simp only[Array.toList_push,ca,dg]at hm;obtain hm|hm:=hm
 .exact ar D a4 hm w V
 have a6:=X0 Y.nd<|Yq hm;subst a6;rw[bL M]at V;cases V;exact O
attribute [local irreducible] St.put
end
structure Good (V:List ae) (ds:List aa) (nd:Nd) (m:Nat) (r:Rt) (p:Nat):Prop where
 cx:∃(c:L)(sc:List Bi)(d:bq),L.kd c≠10/\Cx V ds c r.1 (sc++r.2.1) r.2.2.l/\(∀b∈sc++r.2.1,J.w b.e.t)/\(∀b∈r.2.2.cap,b∈sc)/\r.2.2.l+c.num<=1000/\
  ∀o:Nat->Nat,(∀j,∀b∈r.2.2.cap,o j≠b.id)->(∀j,o j∉a7 r.2.1)->Rl c (sc++r.2.1) r.2.2.l (a7 r.2.1++(gb r.2.2.l o r.2.2.cap 0++a7 (cj r.2.2.l r.2.2.cap))) d 0
 w:qm r.1
 wn:qm r.2.2
 l0:0<=r.2.2.l
 n1:r.1.num+A r.2.1<=nd.num
 nx:r.2.2.num<=nd.num
 sub:∀f∈r.1.gj (p+1),f∈nd.gj m
 own:∃a,(r.2.2,a)∈nd.gj m/\p∈a
 le:m<=p/\p+1+r.1.bf<=m+nd.bf
 cl:A r.2.2.cap<=409600
def Good.lift{b nd:Nd}{m:Nat}{r:Rt}{f:Nat}(h:Good a5 be b am r f)(e:∀a∈b.gj am,a∈nd.gj m)(d:b.num<=nd.num)(l:m<=am/\am+b.bf<=m+nd.bf):Good a5 be nd m r f:=
 ⟨h.cx,h.w,h.wn,h.l0,gS h.n1 d,gS h.nx d,λa k=>e a<|h.sub a k,by obtain⟨g,i,j⟩:=h.own;exact⟨g,e _ i,j⟩,Yo h.le,h.cl⟩
def rz(l:ax)(j:Nat):Nat:=l.sum+1+j
def sN{l:ax}{j:Nat}:rz l j∉l:=λh=>by
 have a:∀(l:ax)(d:Nat),d∈l->d<=l.sum:=λl d h=>by
  induction l with
  |nil=>cases h
  |cons b l e=>rw[kS];obtain rfl|h:=cF.1 h;omega;have a:=e h;omega
 have a:=a l _ h;unfold rz at a;omega
def LH(aa:gT a5 be):∀(d:L){nd:Nd}{O:bb}{aR:ax}{f:Int}{ap:bq}{aN:Int}(m:Nat),L.kd d≠10->Cx a5 be d nd O f->Rl d O f aR ap aN->(∀b∈O,J.w b.e.t)->qm nd->0<=f->f+d.num<=1000->nd.num<=640->
 ∀(k:Nat)(r:Rt),nd.fC[k]?=E r->Good a5 be nd m r (m+k)
 |.mk a v n d j g,nd,O,aR,f,ap,aN,m,an,B,ao,aA,aJ,ae,a0,bx=>by
  have an:a≠10:=an;have aH:=B.sh;obtain⟨id,ty,al,bs,i,rfl,Y⟩:∃id ty al bs i,nd=.mk id (.mk a v n d j g) ty f al bs i/\A al=A g:=by
   cases B.is with|mk bh p a1 Y a9=>exact⟨_,_,_,_,_,C,Y⟩
  obtain⟨⟨bi,aK⟩,ab⟩:=aJ.own;simp only[Nd.ty,Nd.bs,Nd.ks]at bi aK ab;have ay:=@Nd.oL<|.mk id (.mk a v n d j g) ty f al bs i;simp only[Nd.bs,Nd.ks]at ay;rw[L.num]at a0;have bm:∀q,q<=A al->∀(k:Nat)(r:Rt),(g_ (.mk id (.mk a v n d j g) ty f al bs i) q)[k]?=E r->Good a5 be (.mk id (.mk a v n d j g) ty f al bs i) m r (m+k):=by
   intro q
   induction q with
   |zero=>intro _ k r o;simp[GB]at o
   |succ q bl=>
    intro ba k r o;have y:q<A al:=ba;have D:q<A g:=Zo;have Z:=aD y;have bv:=ay.2.2 _ Z;have bw:=L.jw<|aD D;have a':=xJ (.mk id (.mk a v n d j g) ty f al bs i) m q;have V:=Cv (x:=.mk id (.mk a v n d j g) ty f al bs i) (q:=q) y;simp only[Nd.ks,Nd.t,L.kd]at a';have S:∀K∈al[q].gj (cK a (al.map Nd.bf) m q+f' a q),K∈(Nd.mk id (.mk a v n d j g) ty f al bs i).gj m:=λK s=>by
     rw[rJ];refine gq _<|eL.2 ⟨_,aP.2 ⟨q,oo.2 y,C⟩,?_⟩;simp only[Nd.ks,Nd.t,L.kd,bL y,eE,kx];exact s
    rw[Cw y]at o;by_cases a6:k<A (g_ (.mk id (.mk a v n d j g) ty f al bs i) q)
    .rw[lY a6]at o;exact bl Zo k r o
    rw[kR Zo]at o;by_cases s:ig (L.kd (Nd.mk id (.mk a v n d j g) ty f al bs i).t) q
    .have X:a=9\/a=11:=s.1;obtain⟨z,P,G,R,U,av,au,bt,bz,bu,az⟩:=VD X B ao q D y s.2;have bd:f' a q=1:=by rw[pB,aM (show ig a q from s)]
     rw[aM s]at o V;simp only[Nd.ks]at o V;rw[bd]at S;obtain⟨aS,bo,bN,aT,bp,bO,bP,a3⟩:(∀m,al[q].gj m=P.gj m)/\al[q].fC=P.fC/\al[q].bf=P.bf/\qm P/\(∀b∈G,J.w b.e.t)/\P.num+A G<=al[q].num/\z.num<=g[q].num/\SizeOf.sizeOf z<SizeOf.sizeOf (L.mk a v n d j g):=by
      have aI:=fl<|aD D;by_cases aQ:a=9
      .rw[aM aQ]at R U;obtain⟨bM,bH,bK,bI,ad⟩:=U;have am:=(B.dh q D y).is;have aL:=(ab _ Z).own;have M:∃u,al[q].ks=[u]/\L.kd al[q].t=10:=by
        rw[ad]at am;generalize al[q]=I at am;cases am with|mk bh p a1 Y a9=>
        obtain⟨u,rfl⟩:=kw.1 Y;exact⟨u,C,C⟩
       obtain⟨u,M,bk⟩:=M;obtain⟨rfl,rfl⟩:=yb R;have bj:al[q].ks.headD al[q]=u:=Yf M;rw[bj];have ah:=Rc bk M;refine⟨λm=>(ah m).1,(ah 0).2.1,(ah 0).2.2,aL.2 u<|Yx M,aL.1.2,?_,?_,?_⟩
       .have F:∀I:Nd,I.ks=[u]->u.num+A I.bs<=I.num:=λI aq=>by
         obtain⟨bA,bB,bC,bD,bE,bF,bG⟩:=I;simp only[Nd.ks]at aq;subst aq;rw[Nd.num,Nd.aZ,Nd.aZ];simp only[Nd.bs];omega
        exact F _ M
       .rw[ad,L.num,L.aZ,L.aZ];omega
       rw[ad]at aI;simp at aI⊢;omega
      rw[aC aQ]at R U;obtain⟨rfl,rfl⟩:=yb R;subst U;exact⟨λ_=>C,C,C,ab _ Z,Zs,Zs,bJ _,co⟩
     have aB:∀b∈O++G,J.w b.e.t:=λb p=>(ca.1 p).elim (aA b)<|bp b;have a4:(Nd.mk id (.mk a v n d j g) ty f al bs i).bS[q-1]?=E (P,G):=by
      show((al.drop 1).map λz=>if a=9 then(z.ks.headD z,z.bs)else(z,[]))[q-1]?=_;have F:=s.2;rw[fP,An,show 1+(q-1)=q by omega,bL y,eE,R]
     rw[a4]at o;simp only[MX,b4,eO,bg,aY]at o;have a2:A (Nd.mk id (.mk a v n d j g) ty f al bs i).cap<=409600:=by
      have aX:=((FH _ aH B.is ae sH).own.1.1 X).1;rw[Ew];have aU:=A7 (n:=640) (Nd.mk id (.mk a v n d j g) ty f al bs i).bS [] λbn aa=>Yo<|(Bk aX bn aa).1;have aV:=w8<|.mk id (.mk a v n d j g) ty f al bs i;have br:A (Nd.mk id (.mk a v n d j g) ty f al bs i).bS<=640:=by simp only[Nd.ks]at aV;omega
      simp only[gR,ew]at aU;omega
     by_cases a8:k=A (g_ (.mk id (.mk a v n d j g) ty f al bs i) q)
     .rw[a8,pJ]at o;simp only[MJ,eH]at o;subst o;have a_:m+k=cK a (al.map Nd.bf) m q:=Zo;rw[a_];refine⟨⟨z,O,_,av,au,aB,λb p=>(Rb X B ao b p).2,by simp only[Nd.l];omega,az⟩,aT,aJ,ae,wF,bJ _,λK s=>S K<|(Yy aS) s,⟨_,by
       have aW:L.kd (Nd.mk id (.mk a v n d j g) ty f al bs i).t=9\/L.kd (Nd.mk id (.mk a v n d j g) ty f al bs i).t=11:=X;rw[rJ,aM aW];exact gf _<|dg.2 C,aP.2 ⟨q,?_,C⟩⟩,wF,a2⟩
      rw[mem_range'_1];have F:=s.2;exact⟨Zo,by simp only[Nd.ks];omega⟩
     rw[show k-(A<|g_ (.mk id (.mk a v n d j g) ty f al bs i) q)=(k-(A<|g_ (.mk id (.mk a v n d j g) ty f al bs i) q)-1)+1 by omega,xY,bo]at o;have ar:∀k,rz (a7 (Nd.mk id (.mk a v n d j g) ty f al bs i).cap++a7 G) k∉a7 (Nd.mk id (.mk a v n d j g) ty f al bs i).cap++a7 G:=λk=>sN;have ak:=LH aa z (cK a (al.map Nd.bf) m q+1) av au (az (rz<|a7 (Nd.mk id (.mk a v n d j g) ty f al bs i).cap++a7 G) (λk b p u=>ar k<|(Yy u)<|gf _<|aP.2 ⟨b,p,C⟩) λk u=>ar k<|gq _ u) aB aT ae Zo Zo _ r o;have F:=ak.lift (nd:=.mk id (.mk a v n d j g) ty f al bs i) (m:=m) (λK s=>S K<|(Yy aS) s) Zo Zo;rwa[show cK a (al.map Nd.bf) m q+1+(k-(A<|g_ (.mk id (.mk a v n d j g) ty f al bs i) q)-1)=m+k by omega]at F
    rw[aC s]at o V;rw[aY]at o;simp only[Nd.ks]at o V;have bc:f' a q=0:=by rw[pB,aC (show¬ig a q from s)]
    rw[bc,oX]at S;have ak:=LH aa g[q] (cK a (al.map Nd.bf) m q) (by rw[Ne,aH.case q D];exact λu=>s ⟨aG u.1,u.2⟩) (B.dh q D y) (ao.dh B an q D y) (λb p=>by
     obtain p|p:=ca.1 p
     .exact aA b p
     split at p
     .exact aK b p
     cases p) (ab _ Z) DQ DQ Zo _ r o
    have F:=ak.lift (nd:=.mk id (.mk a v n d j g) ty f al bs i) (m:=m) S Zo Zo;rwa[show cK a (al.map Nd.bf) m q+(k-(A<|g_ (.mk id (.mk a v n d j g) ty f al bs i) q))=m+k by omega]at F
  intro k r o;rw[Gy]at o;exact bm (A al) (bJ _) k r o
termination_by d=>d
decreasing_by
 all_goals first|exact a3|(have F:=fl (aD D);simp;omega)
end
end Go.Fw
