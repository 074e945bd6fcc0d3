/- A part of the proof about CompileMain. No condition. -/
import Derived.OwnWalkIn
import Derived.TacticsInMore
import Derived.LoopNIn
import Derived.LoopIn
import Derived.Shelf.SortG.Plain
import Derived.Shelf.SortG.SortNone
import Derived.Shelf.SlicesG.CompactI
import Derived.KernelRfl
import Derived.Shelf.SlGeneric
import Derived.Ground.SlgnProg
import Derived.Test.YtblbcplhbjkkjaaGreatM01
import Derived.Test.YtblbcplhbjkkjaaGreatM02
import Derived.Test.YtblbcplhbjkkjaaGreatM03
set_option maxRecDepth 100000
set_option maxHeartbeats 8000000
set_option linter.unusedSimpArgs false
set_option linter.unusedVariables false
set_option linter.defProp false
open Go.Proofs.Tryz
open Go.Proofs (AnyG.slices_Compact_int AnyG.slices_Compact_int_empty AnyG.slices_Sort_int AnyG.slices_Sort_int_none enters_of)
open List
open Bool renaming false->af,true->W
open Decidable renaming decide->ah
open Go renaming Code->dJ,Func->hC,FuncId->bI,Oper->dU,Program->aH,TypeId->a6,Value->aN,World->a8,maxLen->aE
open Go.IntKind renaming i64->cb
open Go.IntWalk renaming i64_in->dE
open Go.Proofs.Tryz renaming prog->aB
open List renaming flatten->ao,length->A,range->cz,replicate->fu,take->Y
open Nat renaming reduceEqDiff->bj
open Option renaming none->Q,some->E
open Or renaming inl->aG,inr->aj
namespace Go.Fw
noncomputable section
open Classical
attribute [local irreducible] St.put
structure uS (r:Rt) (o:Nat->Nat):Prop where
 inj:∀i j,o i=o j->i=j
 cap:∀j,∀b∈r.2.2.cap,o j≠b.id
 Sx:∀j,o j∉a7 r.2.1
variable {gt:ax}{am a0 a2 a4 ce go:Nat}{g8:bi}{a5:aF}{be:aO}{m5:Nd}{n6:cG}{fd hO m3:a'}{H1:List Rt}{ai3:List kA}{g3:aH}{c2:aU}{g7:ON}{a3 g1:Int}{n8:L}{v1:cm}{n5 wp:O}{it:bq}{gs:BA}{g5:bI}{a9:DL}{ajc:Nat → D → Prop}{g2 ld:Type}{eq hw:D}{he m9 u8:J}{hH:aX}{ai2:dp}{h1:bu}{n7:dJ}{bv:St}{i3:cf}{s2:Ob}{up:List (List Pt)}{v0 aig:Pt}{g0 i5:List Ag}{m7:a8}{m8:aN}{ai4 ajm:Nat × Nat}{If:IL}{ip:cB}
def El(a:rz gt am=rz gt a0):am=a0:=by unfold rz at a;omega
def uS.gk{r:Rt}(d:uS r g8):((cz<|A<|cj r.2.2.l r.2.2.cap).map λh=>((ie (a7 r.2.1++gb r.2.2.l g8 r.2.2.cap 0++Y h (a7<|cj r.2.2.l r.2.2.cap)) (g8 h):Nat):Int))=gk (A r.2.2.cap) (r.2.2.cap.map λb=>ah<|b.e.l=r.2.2.l+1) 0 0:=by
 rw[<-E_ r.2.2.l g8 d.inj (A r.2.2.cap) r.2.2.cap (a7 r.2.1) 0 0 (λb f j=>d.cap j b f) Zs];refine jn λa g=>?_;have g:a<A (cj r.2.2.l r.2.2.cap):=Yq g;rw[ew,xi]
 .have k:A (Y a<|a7<|cj r.2.2.l r.2.2.cap)=a:=by simp[a7];omega
  rw[k]
 intro m;obtain⟨b,f,i⟩:=aP.1<|tv m;exact d.cap a b (nP.1 f).1 i.symm
def Good.any{r:Rt}(k:Good a5 be m5 am r a0){a e:bi}(b:uS r a)(h:uS r e)(f:Nat):oz a5 be r a f=oz a5 be r e f:=by
 obtain⟨j,p,q,m,l,-,-,-,o⟩:=k.cx;have i:=λ(a:bi)(b:uS r a)=>(L6 (λ_ d=>rz (r.1.ids++a7 (p++r.2.1)) d) (λ_ d s=>El) j f m l (o a b.cap b.Sx) λt d=>⟨λg=>sN<|gf _ g,λg=>sN<|gq _ g⟩).1;unfold oz;rw[b.gk,h.gk,i a b,i e h]
def ady(h:kC a5 be n6 fd am a0 H1 (ai3.map λr=>r.2.1.id)<|ai3.map eZ):∃j:ax,19∈j/\21∈j/\(∀b∈j,b∈LT)/\∀b∈j,∀g,fd b=E g->∀d∈g.cells,In j d:=by
 obtain⟨⟨ad,ak,ah,l,L,O,-,m,V,R⟩,K,-⟩:=h;have o:∀{S q t:Nat}{l:cB}{p:D},aL [S] fd q t l p->(∀r∈l,∀d∈r,Cl d)->∃i:ax,(∀b∈i,b=S)/\(∀k:ax,(∀b∈i,b∈k)->In k p)/\∀b∈i,∀g,fd b=E g->∀d∈g.cells,Cl d:=by
  intro S q t l p U P;obtain⟨-,rfl⟩|⟨b,Z,a,rfl,X⟩:=U
  .exact⟨[],Zs,λk _=>(bc _).bB,Zs⟩
  simp only[dg]at a;subst a;refine⟨[b],Zs,λk M=>.ms _ _<|M b Zs,λab s g f d e=>?_⟩;simp only[dg]at s;subst s;rw[X]at f;cases f;obtain⟨r,m,e⟩:=eL.1 e;exact P r m d e
 obtain⟨i,w,x,y⟩:=o O λr h=>(m r h).2;obtain⟨B,z,A,C⟩:=o V λr h d e=>by obtain⟨Y,-,rfl⟩:=aP.1 h;simp at e;subst e;exact Nd.cl _
 obtain⟨u,F,G,I⟩:=o R λr h d e=>by obtain⟨Y,-,rfl⟩:=aP.1 h;simp at e;subst e;exact rC _
 refine⟨19::21::(i++(B++u)),Zs,Zs,λb a=>?_,λb a g f d e=>?_⟩
 .simp only[cF,ca]at a;obtain rfl|rfl|a|a|a:=a
  .simp
  .simp
  .rw[w b a];simp
  .rw[z b a];simp
  rw[F b a];simp
 simp only[cF,ca]at a;obtain rfl|rfl|a|a|a:=a
 .rw[K]at f;cases f;obtain⟨J,-,rfl⟩:=aP.1 e;exact(E0 J).bB
 .rw[L]at f;cases f;simp only[cF,dt,gD]at e;obtain rfl|rfl|rfl|rfl|rfl|rfl:=e
  .exact(ae.db a5).bB
  .exact(aa.db be).bB
  .exact x _ λb a=>Yr a
  .exact A _ λb a=>Yr a
  .exact G _ λb a=>Yr a
  exact .mp _ Zs
 .exact(y b a g f d e).bB
 .exact(C b a g f d e).bB
 exact(I b a g f d e).bB
section
open Go.RowKit
attribute [local go_sem] Oper.semAt_some
def XG:Dp aB 193 5 λe=>.agg #[e 0,e 1,e 2,e 3,e 4]:=by
 refine⟨enters_of func193 Zk C,λS x y U len A b d us l t o hlen s i q h0=>callsIn_of_wp func193 C trivial ?_ C⟩;simp only[ntmps193,tw,dC,gR,Nat.reduceAdd,Nat.reduceSub,Ms,Mt,push_toArray,MD,aY,bg];have F:=(i 0 o h0).1
 gi_wp2
 gi_loopw [3] (λf wr=>∃k,l k wr/\((k=len/\f=.int .i64 (-1))\/∃m:Nat,m+1+k=len/\f=.int .i64 m)) λf _=>(intOf f+1).toNat
 case atStart=>
  exact IK
 case round=>
  obtain⟨k,g,r⟩:=hrel;obtain⟨G,a⟩:=i k _ g;obtain⟨rfl,rfl⟩|⟨m,O,rfl⟩:=r
  .gi_wp2
   go_end0
   exact⟨⟨_,C⟩,aG g⟩
  have I:wr.cell? ⟨b,d+m*5,Q⟩=E (us m 0):=by simpa using a m 0 Zo Zo
  have J:wr.cell? ⟨b,d+m*5+1,Q⟩=E (us m 1):=by simpa using a m 1 Zo Zo
  have K:wr.cell? ⟨b,d+m*5+2,Q⟩=E (us m 2):=by simpa using a m 2 Zo Zo
  have L:wr.cell? ⟨b,d+m*5+3,Q⟩=E (us m 3):=by simpa using a m 3 Zo Zo
  have M:wr.cell? ⟨b,d+m*5+4,Q⟩=E (us m 4):=by simpa using a m 4 Zo Zo
  obtain rfl:=s Zo;have j:=q k wr Zo g;rw[show len-1-k=m by omega]at j;obtain⟨D,V,w,z,R,p⟩:=j;have P:m<len:=Zo
  gi_wp2
  refine p.mono ?_;rintro B u(⟨rfl,J6⟩|⟨rfl,J7⟩)
  .gi_wp2
   exact Iu
  gi_wp2
  exact HK
def XJ(l:List bZ):az 129 [.sl 5<|l.map bo]<|.fn 193 [] [.cp [.sl 5<|l.map bo]]:=by
 refine(dH) ?_;exact .cl _ (.fn _ [] _ Zs λb d a=>by match b,a with|0,a=>cases a;exact hD.cp (.c (Cl.jd (qc l)) .n))
end
def fI(bK:Int):List Bi->List Bi->List Bi
 |[],_=>[]
 |b::bs,ar=>if b.e.l=bK+1 then ar.headD b::fI bK bs ar.tail else b::fI bK bs ar
def G7{bK:Int}{b:Bi}:∀(f d h:bb),A d=A (cj bK f)->fI bK (f++[b]) (d++h)=fI bK f d++fI bK [b] h
 |[],d,h,g=>by
  have k:d=[]:=by simpa[cj]using g
  subst k;rfl
 |c::f,d,h,g=>by
  rw[bg,fI,fI];by_cases i:c.e.l=bK+1
  .have j:cj bK (c::f)=c::cj bK f:=by simp[cj,i]
   rw[j]at g
   match d,g with
   |a::d,g=>
    rw[aM i,aM i];simp only[bg,tu,tail_cons];rw[G7 f d h<|Yq g]
  have j:cj bK (c::f)=cj bK f:=by simp[cj,i]
  rw[j]at g;rw[aC i,aC i,G7 f d h g];rfl
def Jd(a:Int)(d:bb)(b:Bi):cj a (d++[b])=cj a d++(if b.e.l=a+1 then[b]else[]):=by
 unfold cj;rw[Hg];congr 1;by_cases f:b.e.l=a+1<;>simp[f]
def xQ{bK:Int}:∀(d a:bb),A (fI bK d a)=A d
 |[],_=>rfl
 |b::bs,a=>by rw[fI];split<;>simp[xQ bs]
def Mj{f:Int}{o:bi}:∀(q d:bb)(m:Nat),A d=A (cj f q)->(∀(k:Nat)(g:k<A d),o (m+k)=d[k].id)->a7 (fI f q d)=gb f o q m
 |[],_,_,_,_=>rfl
 |b::bs,d,m,g,j=>by
  rw[fI,gb];by_cases i:b.e.l=f+1
  .have p:cj f (b::bs)=b::cj f bs:=by simp[cj,i]
   rw[p]at g
   match d,g,j with
   |a::d,g,j=>
    rw[aM i,aM i];have r:=j 0 Zs;have h:=Mj bs d (m+1) (Yq g) λk s=>by have h:=j (k+1) (Yq s);simpa[jA,tA 1]using h
    simp only[a7,tu,tail_cons,b4]at h⊢;rw[h];simp at r;rw[r]
  have p:cj f (b::bs)=cj f bs:=by simp[cj,i]
  rw[p]at g;rw[aC i,aC i];have h:=Mj bs d m g j;simp only[a7,b4]at h⊢;rw[h]
def ad3{r:Rt}{ar:ax}(q:ar.Nodup)(o:∀f∈ar,∀b∈r.2.2.cap,f≠b.id)(p:∀f∈ar,f∉a7 r.2.1):∃m,uS r m/\∀(a:Nat)(d:a<A ar),m a=ar[a]:=by
 let B:=ar++(a7 r.2.2.cap++a7 r.2.1)
 refine⟨λa=>if d:a<A ar then ar[a]else rz B a,⟨λa j d=>?_,λj b i e=>?_,λj e=>?_⟩,λa d=>Yr d⟩
 .have k:∀(a:Nat)(d:a<A ar),ar[a]∈B:=λa d=>gf _<|aD d;split at d<;>split at d
  .rename_i g h;exact(getElem_inj q).1 d
  .rename_i g h;exact absurd (d▸k a g) sN
  .rename_i g h;exact absurd (d▸k j h) sN
  exact El d
 .split at e
  .exact o _ (aD _) b i e
  exact sN (l:=B) (j:=j) (e▸gq _ (gf _<|aP.2 ⟨b,i,C⟩))
 split at e
 .exact p _ (aD _) e
 exact sN (l:=B) (j:=j)<|gq _<|gq _ e
def ahQ(a:bb)(b:Bi)(D:b.id∈a7 a)(I:A a<=1000000)(G:dW b.e.t){t g z:Nat}{H0:a'}(q:t≠4)(i:H0 t=E ⟨g,211,1,ao<|au Bi.d a,Q⟩)(K:z=A (au Bi.d a)):
 kz aB [t] H0 118 [.ms t g z,b.d] λr=>r=.ag (bo ⟨eh (ie (a7 a) b.id:Nat),[cD b.e.t]⟩):=by
 have o:=indexOf a b D I;have l:=Bi.cl b;obtain⟨u,B,w,V,X,P,hd⟩:=Bi.zC b;have f:=made 1 (ie (a7 a) b.id:Nat) [] b.e.t [] G Zs Zs Zs<|aj ⟨C,C⟩;rw[P]at f⊢;rw[hd]at o l⊢;simp only[J.ds]at f;refine kz.ey [] [.cell 4 114] C C Zk Zt C Zs ?_ λY U S=>?_
 .intro Z s ob p d F;simp only[dg]at s;subst s;rw[i]at p;cases p;obtain⟨r,M,m⟩:=eL.1 F;obtain⟨y,-,rfl⟩:=aP.1 M;simp only[dg]at m;subst m;exact(Bi.cl y).bB
 have j:b5 [t] H0 t=H0 t:=o4;generalize b5 [t] H0=R at*;refine(ZN)<|lq [0,1,4,5,6,7,2,3,8,9] [] []<|(ZN) ?_;refine A2 o (.c (Fz.aq (ob:=⟨g,211,1,ao<|au Bi.d a,Q⟩) (by simp[ai,q,j,i]) C C Zd K (ha _) C OS)<|.c (.cl _ l) .n) C<|(ZN)<|(nl<|RT _) ?_;refine ir [] f (.c (.cl _<|Cl.bC da)<|.c (.cl _<|Cl.bC<|J.cl<|.mk u B w)<|.c (.nil 5) .n) (Cl.bC<|eK _) ?_;simp only[bo,aT,fX,go_sem];refine⟨Cl.bC<|eK ⟨eh (ie (a7 a) b.id:Nat),[cD<|.mk u B w]⟩,C,?_⟩;simp[q,j]
def GK.Xx{b:St}{e f d p g:Nat}{ty k:a6}{bD:cB}(x:f≠d)(hi:cE g3 ty=E (k,g,p))(s:b.env f=bp)(D:dS b k g (b.env d)=E (A bD,ao bD))(F:bD=[]->b.env d=.sl g [])(l:bD.flatten.all cO=W)
 (w:A bD*p<=140737488355328) (y:A bD<=aE)
 (r:∀H n i q,(∀j,j≠d->q j=b.env j)->aL [e] H k g bD i->(bD=[]->i=bp)->(∀h,h≠e->H h=b.H h)->c2 ({b with env:=q,H:=H,n:=n}.put (E e) i)):
 GK (eC g3 gt (.call ⟨.builtin .append,#[.tmp f,.tmp d],#[ty,ty]⟩) (E e) c2) b:=by
 by_cases m:bD=[]
 .subst m;have t:∀v,(v=.slice Q 0 0\/∃a c,v=.slice (E a) 0 c)->eC g3 gt (.call ⟨.builtin .append,#[.tmp f,.tmp d],#[ty,ty]⟩) (E e) c2 {b with env:=aw b.env d (.sc v)}:=λv hv=>by
   show n_ e c2<|hA g3 gt _ e<|.call ⟨.builtin .append,#[.tmp f,.tmp d],#[ty,ty]⟩;have e1:aw b.env d (.sc v) f=bp:=by simp only[aw];rw[aC x];exact s
   have e2:aw b.env d (.sc v) d=.sc v:=bU;have z:hA g3 gt {b with env:=aw b.env d (.sc v)} e (.call ⟨.builtin .append,#[.tmp f,.tmp d],#[ty,ty]⟩)=E (True,{b with env:=aw b.env d (.sc v)},.sc<|.slice Q 0 0):=No;rw[z];exact⟨trivial,r b.H b.n _ _ (λj B=>Ye B) .nil (λ_=>C) λ_ _=>C⟩
  exact GK.empty d g (F C) (t _<|aG C) λa c=>t _<|aj ⟨a,c,C⟩
 exact GK.cM (eC.eS (S:=[]) (aq:=[]) hi (aG ⟨C,s⟩) Zs D (uJ.2 m) l (Yq w) (Yq y) λH n i l u=>r H n i b.env (λ_ _=>C) (Yq l) (λo=>absurd o m) λh o=>u h o Zs)
def YT{e:St}{a:bb}{v:D}(u:aL gt e.H 211 1 (au Bi.d a) v)(w:a=[]->v=bp)(o:5∉gt)(I:7∉gt)(J:A a<=2000000)
 (j:∀H n k,aL [7] H 211 1 (au Bi.d a) k->(∀b,b≠7->b≠5->H b=e.H b)->c2 ({e with H:=H,n:=n}.put g7 k)):er aB e 128 [v] g7 c2:=by
 have lM:cE aB 210=E (211,1,8):=Zk;refine sQ [1000007] [.tmp 2] C C Zk Zt C Zs ?_;obtain⟨m,rfl⟩|⟨b,G,s,rfl,r⟩:=u
 .exact(ZN)<|j _ _ _ (aG ⟨m,C⟩) λb _ _=>C
 have q:a≠[]:=λg=>by have B:=w g;cases B
 have t:b≠5:=λg=>o (g▸s);have f:=fg Bi.d a;refine(ZN)<|GK.cM (eC.eS (S:=[5]) (aq:=[]) (bD:=au Bi.d a) lM (aj ⟨5,e.n 5,Zs,bU,ep⟩) Zs (by simp[aw,dS,ai,t,r,kM,f]) ((Yy f)<|uJ.2 q) OU (by rw[f];simp;omega) (by rw[f];unfold aE;simp;omega) λF K L x p=>(ZN) ?_);refine j _ _ _ (Yq x) λy l i=>?_;rw[p y l<|Yq i];simp[ai,i]
section
def qa(p:bi)(H:a'):Nat->sC:=λt=>(H<|p t).map<|Ob.aS p
def Vn{p:bi}(b:∀d,p (p d)=d)(a:a'):qa p (qa p a)=a:=by
 funext e;show((a<|p<|p e).map _).map _=_;rw[b];exact Ob.me b _
def adF{p:bi}(b:∀a,p (p a)=a)(bK:ax):(bK.map p).map p=bK:=by
 rw[eu];conv=>rhs;rw[<-map_id bK]
 exact jn λa _=>b a
def ai1{p:bi}:∀{a:DL},(∀d∈a,Cl d)->a.map (D.aS p)=a
 |[],_=>rfl
 |d::a,h=>by rw[b4,D.iE<|h d Zs,ai1 λe b=>h e<|Yr b]
def In.aS{p:bi}{bK:ax}{d:D}(a:In bK d):In (bK.map p)<|d.aS p:=by
 induction a with
 |sc v=>exact .sc v
 |any=>exact .any
 |sl o _ ih=>rw[D.aS];exact .sl _ λi r l d h1 j=>by obtain⟨m,e,rfl⟩:=Gs h1;obtain⟨d0,h,rfl⟩:=qU j;exact ih i m l d0 e h
 |cs o _ ih=>rw[D.aS];exact .cs _ (by rw[D.aS]at ih;exact ih)
 |ag _ ih=>rw[D.aS];exact .ag λi d h1=>AS
 |tp _ ih=>rw[D.aS];exact .tp λi d h1=>AS
 |cp _ ih=>rw[D.aS];exact .cp λi d h1=>AS
 |pa b _ ih=>rw[D.aS];exact .pa _ λi d h1=>AS
 |rf g s a=>rw[D.aS];exact .rf _ _ (Hk a)
 |ms g q a=>rw[D.aS];exact .ms _ _ (Hk a)
 |mp g a=>rw[D.aS];exact .mp _ (Hk a)
 |fn f _ _ ih k=>rw[D.aS];exact .fn _ (λi d h1=>AS) λi d h1=>by obtain⟨d0,e,rfl⟩:=qU h1;exact k i d0 e
def abK{p:bi}(o:∀i,p (p i)=i){bK:ax}{e:a'}(h:∀b∈bK,∀a,e b=E a->∀d∈a.cells,In bK d):∀b∈bK.map p,∀a,qa p e b=E a->∀d∈a.cells,In (bK.map p) d:=by
 intro b q a g d l;obtain⟨t0,k,rfl⟩:=aP.1 q;simp only[qa,o]at g;obtain⟨r,j,rfl⟩:=jP.1 g;obtain⟨d0,m,rfl⟩:=aP.1 l;exact In.aS<|h t0 k r j d0 m
section
variable{P:aH}{bK:ax}{H0:a'}{f:bI}{ar:DL}{aI:D->Prop}{p:bi}
def Vp(e:∀d,p (p d)=d){b:St}(g:∀a∈bK.map p,b.H a=qa p H0 a):∀a∈bK,(b.aS p).H a=H0 a:=λa h=>by
 show(b.H<|p a).map (Ob.aS p)=_;rw[g _<|Hk h];have i:=Ax (Vn e H0) a;exact i
def vR(h:∀e,p (p e)=e)(a:St)(n:bi)(d:ON){r:D}(g:Cl r):(({a.aS p with n:=n}:St).put d r).aS p=({a with n:=λi=>n (p i)}:St).put d r:=by
 rw[St.vR,D.iE g];congr 1;have b:=St.me h a;obtain⟨m,j,o,q,l,k⟩:=a;simp only[St.aS,St.mk.injEq]at b⊢;exact⟨b.1,b.2.1,trivial,trivial,trivial,trivial⟩
def kz.aS(a:∀g,p (p g)=g)(h:kz P bK H0 f ar aI)(j:D.hP p ar=ar):kz P (bK.map p) (qa p H0) f ar aI:=λe b o l i=>
 A5 p a (by rw[j];exact h (e.aS p) b _ (Vp a l) λm r k d=>by rw[vR a e m b d];exact i _ r k d)
def tC.aS(a:∀g,p (p g)=g)(h:tC P bK H0 f ar aI)(k:D.hP p ar=ar):tC P (bK.map p) (qa p H0) f ar aI:=λe b q j m i=>
 A5 p a (by rw[k];exact h (e.aS p) b _ j (Vp a m) λo r l d=>by rw[vR a e o b d];exact i _ r l d)
end
def mg(x:Nat):Nat:=if x=19 then 919 else if x=919 then 19 else x
def CE(a:Nat):mg (mg a)=a:=by
 unfold mg;by_cases b:a=19
 .subst b;rfl
 by_cases d:a=919
 .subst d;rfl
 simp[b,d]
def Xr(g:View)(us:Nat->aN)(r:DL)(i:A r=5)(e:∀(h:Nat)(d:D),r[h]?=E d->Rd g d (us h)):Rd g (.ag r)<|.agg #[us 0,us 1,us 2,us 3,us 4]:=
 .ag r [us 0,us 1,us 2,us 3,us 4] i λj d v b a=>by
  match j,a with
  |0,a=>cases a;exact e 0 d b
  |1,a=>cases a;exact e 1 d b
  |2,a=>cases a;exact e 2 d b
  |3,a=>cases a;exact e 3 d b
  |4,a=>cases a;exact e 4 d b
end
def Mk{h:Int}:∀(f a:bb),A a=A (cj h f)->∀i∈a,i∈fI h f a
 |[],a,g,i,d=>by
  have m:a=[]:=by simpa[cj]using g
  rw[m]at d;cases d
 |c::f,a,g,i,d=>by
  rw[fI];by_cases j:c.e.l=h+1
  .have k:cj h (c::f)=c::cj h f:=by simp[cj,j]
   rw[k]at g;rw[aM j]
   match a,g,d with
   |b::a,g,d=>
    obtain rfl|d:=cF.1 d
    .simp
    exact mo _<|Mk f a (Yq g) i d
  have k:cj h (c::f)=cj h f:=by simp[cj,j]
  rw[k]at g;rw[aC j];exact mo _<|Mk f a g i d
def WS:∀(d a:bb),∀b∈fI a3 d a,b∈d\/b∈a
 |[],_,b,h=>by simp[fI]at h
 |c::d,a,b,h=>by
  have j (e:Bi) (f:bb) (l:(e=c\/e∈a)) (m:(∀i∈f,i∈a)) (h:b∈e::fI a3 d f):b∈c::d\/b∈a:=by
   obtain rfl|h:=cF.1 h
   .exact l.imp (λk=>Yr k) id
   exact(WS d f b h).imp (mo _)<|m b
  rw[fI]at h;split at h
  .refine j _ _ ?_ (λi g=>mem_of_mem_tail g) h;obtain _|⟨e,a⟩:=a
   .exact aG C
   exact aj Zs
  exact j _ _ (aG C) (λi g=>g) h
def adi(b:IL)(a:O):oF b a=(b.map eh).foldr (λd a=>.mk 7 0 [] [d,a]) a:=by unfold oF;rw[foldr_map]
def Bi.aeA(b:Bi):∃a f g,b.e.t=.mk a f g/\b.d=.pa b.id [S b.e.n,I a,S f,.sl 3<|J.ab g,I b.e.l]:=by
 have⟨h,j,⟨a,f,k⟩,i⟩:=b;exact⟨_,_,_,C,C⟩
def branch{Z:aF}{aX:aO}(gk:gT Z aX)(fN:A Z<=1000)(fJ:∀d∈Z,A (ae.cs d)<=1000){az:ax}{U:a'}{bY eb:Nat}{F:List Rt}{cw:List kA}(bh:LS Z aX az U bY eb F cw)
 {cX:Nd} {dD B:Nat} {r:Rt} (R:Good Z aX cX dD r B) (hC:cX.num<=1000) (dq:F[B]?=E r) (hB:dD+cX.bf<=10000) (eV:∀f∈cX.gj dD,f∈cw.map Prod.snd)
 (fY:∀bV∈cw,A bV.2.2<=1000) (gi:∀f∈cw,∀bV∈cw,B∈f.2.2->B∈bV.2.2->bV=f) (gh:uS r g8):
 tC aB az U 75 [.rf 21 bY 0,I B] (sE (oz Z aX r g8<|B+1) 1000000000000):=by
 have eR:∀{f:bI}{ar:DL}{dV:D->Prop},kz aB az U f ar dV->D.hP mg ar=ar->kz aB (az.map mg) (qa mg U) f ar dV:=λk u=>kz.aS CE k u
 suffices k:tC aB (az.map mg) (qa mg U) 75 [.rf 21 bY 0,I B] (sE (oz Z aX r g8<|B+1) 1000000000000)by
  have:=tC.aS CE k C;rwa[adF CE,Vn CE]at this
 have⟨P,X,i⟩:=r;have⟨gU,cS,bq⟩:=R.own;have⟨⟨du,f0⟩,es,et⟩:=aP.1<|eV _ cS;simp only at et;subst et;obtain⟨⟨g3,g5,g4,aq,b2,-,hF,-,fy,fw⟩,-,-⟩:=bh.st;have S2:B<A F:=(dX.1 dq).1;have gC:∃g,g5=.ms 137 g (A F)/\U 137=E ⟨g,156,1,ao<|au Nd.d<|F.map Prod.fst,Q⟩:=by
  have⟨g,e,k⟩:=eG fy OT;exact⟨g,by simpa[au]using e,k⟩
 have gB:∃g,g4=.ms 147 g (A F)/\U 147=E ⟨g,210,1,ao<|au dK (F.map λr=>r.2.1),Q⟩:=by
  have⟨g,e,k⟩:=eG fw OT;exact⟨g,by simpa[au]using e,k⟩
 obtain⟨c9,rfl,c_⟩:=gC;obtain⟨c8,rfl,dc⟩:=gB;have cf:=bh.m21;have dI:147∈az:=by
  have:=bh.bB 21 cf _ b2 (.ms 147 c8<|A F) Zs;cases this with|ms _ _ k=>exact k
 have dH:137∈az:=by
  have:=bh.bB 21 cf _ b2 (.ms 137 c9<|A F) Zs;cases this with|ms _ _ k=>exact k
 have fS:=eR (aaA bh es bq (λbV G K=>gi _ es bV G bq K) fY) C;have fU:=abK CE bh.bB;have aK:∀t∈az.map mg,t=919\/t=21\/t=126\/t=137\/t=147:=λt ht=>by
  obtain⟨bu,gt,rfl⟩:=aP.1 ht;have:=bh.sub bu gt;simp at this;obtain rfl|rfl|rfl|rfl|rfl:=this<;>simp[mg]
 replace cf:21∈az.map mg:=aP.2 ⟨_,cf,C⟩;replace dH:137∈az.map mg:=aP.2 ⟨_,dH,C⟩;replace dI:147∈az.map mg:=aP.2 ⟨_,dI,C⟩;replace b2:qa mg U 21=E ⟨bY,155,6,[ae.sl Z,aa.sl aX,g3.aS mg,.ms 137 c9<|A F,.ms 147 c8<|A F,.mp 919 eb],Q⟩:=by
  show(U 21).map _=_;rw[b2];simp only[eE,Ob.aS,b4,eO,D.iE<|ae.db Z,D.iE<|aa.db aX,D.aS];rfl
 replace c_:qa mg U 137=E ⟨c9,156,1,ao<|au Nd.d<|F.map Prod.fst,Q⟩:=by
  show(U 137).map _=_;rw[c_];simp only[eE,Ob.aS,kM,eu];congr 2;exact jn λP _=>D.iE<|Nd.cl _
 replace dc:qa mg U 147=E ⟨c8,210,1,ao<|au dK (F.map λr=>r.2.1),Q⟩:=by
  show(U 147).map _=_;rw[dc];simp only[eE,Ob.aS,kM,eu];congr 2;exact jn λP _=>D.iE<|rC _
 generalize hv:az.map mg=a6 at*;generalize hu:qa mg U=H0 at*;have fH:(ao<|au dK (F.map λr=>r.2.1))[B]?=E (dK X):=by rw[kM,eu,fP,dq];rfl
 have fL:(ao<|au Nd.d<|F.map Prod.fst)[B]?=E P.d:=by rw[kM,eu,fP,dq];rfl
 have hz:A (ao<|au dK (F.map λr=>r.2.1))=A F:=by rw[kM];simp
 have hA:A (ao<|au Nd.d<|F.map Prod.fst)=A F:=by rw[kM];simp
 have eN:((B:Int)<(A F:Int))=True:=dM Zo;have eM:((0:Int)<=(B:Int))=True:=dM Zo;obtain⟨aR,aV,aU,b0,g_,ha,hb,hc,he,hf,hg,hi,a8,bH,eX,cy⟩:=Nd.U2 i;have cQ:dW i.ty:=rK _ R.wn.own.1.1.1;have lM:cE aB 210=E (211,1,8):=Zk;refine tC.Gg [19,68,1000129,1000039,1000069,1000072,1000076,1000080,1000084,1000103,1000107,1000109,1000119] [.cell 4 114] C C Zk Zt C Zs fU λbs fc=>?_;have cJ:∀t∈a6,b5 a6 H0 t=H0 t:=λt ht=>by simp[b5,ht]
 have fu:=(cJ 21 cf).trans b2;have ft:=(cJ 147 dI).trans dc;generalize b5 a6 H0=g9 at*;refine(ZN) ?_;refine aj<|aj (fS _ _ _ (λt ht=>by have:=aK t ht;simp[ai];rw[aC Zo,aC Zo];exact cJ t ht) λbt d hd hy=>?_);subst hd;simp only[eZ,cy,fu,ft,eN,eM,fH,mn,h_,go_sem];have hw:A X<=1000:=by have:=R.n1;simp only at this;omega
 have fK:=R.cl;simp only at fK;refine GK.Xx (bD:=au Bi.d X) Zd lM fR (by simp[aw,dS,kM,dK]) (λq=>by simp[aw,dK,q]) OU (by rw[fg];omega) (by rw[fg];unfold aE;omega) λfa hG hQ hj b3 cS gx cI=>?_;have dP:=b3 0 Zd;have c0:=b3 1 Zd;have c1:=b3 4 Zd;have c2:=b3 5 Zd;have dQ:=b3 6 Zd;have dL:=cI 4 Zd;have dO:=cI 6 Zd;have e_:∀t∈a6,fa t=H0 t:=λt ht=>by
  have G:=aK t ht;rw[cI t Zo];simp only[ai]
  repeat rw[aC Zo]
  exact cJ t ht
 simp only[aw,bx,reduceCtorEq,bT,bj,ej,C0,MI,bN,a_,dG,dv]at dP c0 c1 c2 dQ dL dO;clear b3 cI;simp only[c2,dK,go_sem];refine fG 45 (A i.cap) (λq=>mx 146 fc [] [(0,.rf 21 bY 0),(1,I B),(4,.rf 4 (bs 4) 0),(5,eZ (du,i,gU)),(6,.rf 6 (bt 6) 0),(43,dK i.cap),(44,I<|A i.cap)] λenv m=>(∃bv bw bz bA bG,m 4=E ⟨bs 4,114,5,[bv,bw,bz,bA,bG],Q⟩)/\m 6=E ⟨bt 6,99,3,[I aR,S aV,.sl 3<|J.ab aU],Q⟩/\(∀t∈a6,m t=H0 t)/\
  ∃ar:bb,A ar=A (cj i.l<|Y q i.cap)/\(a7 ar).Nodup/\(∀a∈a7 ar,∀b∈i.cap,a≠b.id)/\(∀a∈a7 ar,a∉a7 X)/\(∀a∈ar,dW a.e.t)/\aL [39,80,84] m 211 1 (au Bi.d<|X++fI i.l (Y q i.cap) ar) (env 7)/\(X++fI i.l (Y q i.cap) ar=[]->env 7=bp)/\aL [72] m 211 1 (au Bi.d<|cj i.l<|Y q i.cap) (env 8)/\aL [76] m 211 1 (au Bi.d ar) (env 9)) C
  ⟨C,C,C,by simp[aw,dP,c0,c1,c2,dQ,eZ,cy,dK],⟨_,_,_,_,_,dL⟩,dO,e_,[],C,rq,rq,rq,Zs,by simpa[aw,fI]using cS.sub Zs,(λe=>by simp only[aw];exact gx (by simp[fI]at e;rw[e];rfl)),by simpa[aw,cj,au]using .inl ⟨C,C⟩,by simpa[aw,au]using .inl ⟨C,C⟩⟩ ?_
 clear dP c0 c1 c2 dQ dL dO e_ cS;rintro q env m ce dY fd b8⟨rfl,rfl,⟨bv,bw,bz,bA,bG,bd⟩,be,a2,ar,bl,c4,c5,c6,cA,bk,cT,br,b_⟩;obtain⟨hM,aZ⟩:=Zx<|env 7;obtain⟨e9,bR⟩:=Zx<|env 8;obtain⟨e',ba⟩:=Zx<|env 9;rw[aZ]at bk cT;rw[bR]at br;rw[ba]at b_;refine ZL (λaI=>?_) λk=>?_
 .have ea:=jx (f:=Bi.d) aI;obtain⟨cB,cF,cC,fE,cK⟩:=Bi.aeA i.cap[q];have fD:=Kt i i.cap[q] R.l0 (by obtain⟨aW,e8,dR,-,-,-,-,k,-⟩:=R.cx;simp only at k;omega);have fF:=Bi.cl i.cap[q];have fM:=Nd.cl i;have b':Y (q+1) i.cap=Y q i.cap++[i.cap[q]]:=dm aI;rw[cK]at ea fF;rw[cK,cy]at fD;rw[cy]at fM;simp only[ea,eZ,cy,dK,go_sem];refine(ZC) ?_;refine fx (λa5=>?_) λa5=>?_
  .have a5:i.cap[q].e.l=i.l+1:=by simpa using a5
   refine(ZD) ?_;refine GK.ptr 12 68 (ce 68) ⟨ce 68,230,5,[S i.cap[q].e.n,I cB,S cF,.sl 3<|J.ab cC,I i.cap[q].e.l],Q⟩ fR bF C C Zs da λa9 gd=>?_;obtain⟨eB,eF,-⟩:=gd;have ge:∀b∈i.cap,a9≠b.id:=λb y e=>eB 43 (by
    simp only[aw,bT,bj,e7,eQ,bx,reduceCtorEq];exact .sl (d:=b.d) (r:=[b.d]) (aP.2 ⟨b,y,C⟩) Zs (by rw[e];obtain⟨_,_,_,_,k⟩:=Bi.vN b;rw[k];exact .here _))
   have dk:∀{S:ax}{l:bb}{v:D},aL S m 211 1 (au Bi.d l) v->68∉S->∀b∈l,a9≠b.id:=λ{S l v}fV fv b y e=>by
    obtain⟨b1,-⟩|⟨t,g,ht,-,gg⟩:=fV
    .have:l=[]:=by have:=eo A b1;simpa[au]using this
     rw[this]at y;cases y
    have ef:t≠68:=λq=>fv (q▸ht);refine eF t _ (by simp only[ai];rw[aC ef,aC ef];exact gg) b.d (by rw[kM];exact aP.2 ⟨b,y,C⟩) ?_;rw[e];obtain⟨_,_,_,_,k⟩:=Bi.vN b;rw[k];exact .here _
   have gc:a9∉a7 ar:=λk=>by obtain⟨b,y,e⟩:=aP.1 k;exact dk b_ Zd b y e.symm
   have ga:a9∉a7 X:=λk=>by obtain⟨b,y,e⟩:=aP.1 k;exact dk bk Zd b (gf _ y) e.symm
   clear eB eF dk
   let aN:Bi:=⟨a9,⟨i.cap[q].e.n,.mk cB cF cC,i.cap[q].e.l⟩⟩
   have eI:aN.d=.pa a9 [S i.cap[q].e.n,I cB,S cF,.sl 3<|J.ab cC,I i.cap[q].e.l]:=C;have hx:A (cj i.l<|Y q i.cap)<=1000000:=by
    have:=qi (λb:Bi=>ah<|b.e.l=i.l+1)<|Y q i.cap;unfold cj;rw[ij]at this;omega
   have cR:=xQ (bK:=i.l) (Y q i.cap) ar;rw[ij]at cR;refine(ad bR) ?_;refine GK.cM (pR (S:=[72]) (f:=Bi.d) (l:=cj i.l<|Y q i.cap) (a:=i.cap[q]) lM ((Pa)<|br.aA pN) (by simp[aw,dS,ai,cK]) (Bi.one _) Zo Zd λco gP cZ bq a4=>(ad ba) ?_);refine GK.cM (pR (S:=[76]) (f:=Bi.d) (l:=ar) (a:=aN) lM (by simp only[aw,bx,bT,bj,e7,eQ,reduceCtorEq];exact b_.aA (by have:=a4 76 Zd Zd;simp[ai,aT]at this⊢;exact this)) (by simp[aw,dS,ai,eI]) (Bi.one _) Zo Zd λdU hH hR gy eg=>(ad aZ) ?_);have cP:∀t,t≠76->t≠75->t≠72->t≠71->t≠68->dU t=m t:=λt a8 bH bO cr fh=>by
    rw[eg t a8<|Yq a8];simp only[a_ _ _ bH];rw[a4 t bO<|Yq bO];simp[ai,aT,cr,fh]
   refine GK.cM (pR (S:=[39,80,84]) (f:=Bi.d) (l:=X++fI i.l (Y q i.cap) ar) (a:=aN) lM ((Pa)<|bk.aA<|Yu cP) (by simp[aw,dS,ai,eI]) (Bi.one _) wG Zd λc3 gQ g2 dt dd=>?_);have a3:∀t,t≠80->t≠79->t≠39->t≠84->c3 t=dU t:=λt a8 bH bO cr=>by
    rw[dd t a8 (by simp[a8,bO,cr])];simp only[a_ _ _ bH]
   refine(ZN) ?_;refine gY aI ⟨C,C,C,by simp[aw,dK],⟨bv,bw,bz,bA,bG,(a3 4 Zd Zd Zd Zd).trans<|(cP 4 Zd Zd Zd Zd Zd).trans bd⟩,(a3 6 Zd Zd Zd Zd).trans<|(cP 6 Zd Zd Zd Zd Zd).trans be,λt ht=>by have G:=aK t ht;exact(a3 t Zo Zo Zo Zo).trans<|(cP t Zo Zo Zo Zo Zo).trans<|a2 t ht,ar++[aN],?_,?_,?_,?_,?_,?_,(λe=>OV),?_,?_⟩
   .rw[b',Jd,aM a5];simp[bl]
   .rw[show a7 (ar++[aN])=a7 ar++[a9]by simp[a7,aN],iQ];exact⟨c4,Zs,λa u b y=>by simp at y;subst y;exact λe=>gc (e▸u)⟩
   .intro a u;rw[show a7 (ar++[aN])=a7 ar++[a9]by simp[a7,aN]]at u;obtain u|u:=ca.1 u
    .exact c5 a u
    simp at u;subst u;exact ge
   .intro a u;rw[show a7 (ar++[aN])=a7 ar++[a9]by simp[a7,aN]]at u;obtain u|u:=ca.1 u
    .exact c6 a u
    simp at u;subst u;exact ga
   .intro a u;obtain u|u:=ca.1 u
    .exact cA a u
    simp at u;subst u;show dW<|.mk cB cF cC;rw[<-fE];obtain⟨aW,e8,dR,-,-,G,K,-⟩:=R.cx;exact rK _ (G _<|gf _<|K _<|aD aI).1
   .rw[b',G7 _ _ _ bl,<-dy];have:fI i.l [i.cap[q]] [aN]=[aN]:=by simp[fI,a5]
    rw[this];simpa[aw]using dt.sub Zs
   .rw[b',Jd,aM a5];simpa[aw]using bq.aA (by simp[a3,eg,ai])
   simpa[aw]using gy.aA (Yr a3)
  have a5:i.cap[q].e.l≠i.l+1:=by simpa using a5
  have cR:=xQ (bK:=i.l) (Y q i.cap) ar;rw[ij]at cR;have er:cj i.l (Y q i.cap++[i.cap[q]])=cj i.l (Y q i.cap):=by rw[Jd,aC a5,de]
  refine(ad aZ) ?_;refine GK.cM (pR (S:=[39,80,84]) (f:=Bi.d) (l:=X++fI i.l (Y q i.cap) ar) (a:=i.cap[q]) lM ((Pa)<|bk.aA bF) (by simp[aw,dS,ai,cK]) (Bi.one _) wG Zd λc3 gQ g2 dt dd=>?_);have a3:∀t,t≠84->t≠83->t≠39->t≠80->c3 t=m t:=λt a8 bH bO cr=>by
   rw[dd t a8 (by simp[a8,bO,cr])];simp only[a_ _ _ bH]
  refine(ZN) ?_;refine gY aI ⟨C,C,C,by simp[aw,dK],⟨bv,bw,bz,bA,bG,(a3 4 Zd Zd Zd Zd).trans bd⟩,(a3 6 Zd Zd Zd Zd).trans be,λt ht=>by have G:=aK t ht;exact(a3 t Zo Zo Zo Zo).trans<|a2 t ht,ar,?_,c4,c5,c6,cA,?_,(λe=>OV),?_,?_⟩
  .rw[b',er];exact bl
  .rw[b'];have G:=G7 (bK:=i.l) (b:=i.cap[q]) (Y q i.cap) ar [] bl;rw[de]at G;have:fI i.l [i.cap[q]] []=[i.cap[q]]:=by simp[fI,a5]
   rw[G,this,<-dy];simpa[aw]using dt.sub Zs
  .rw[b',er];simpa[aw,bR]using br.aA (Yr a3)
  simpa[aw,ba]using b_.aA (Yr a3)
 obtain rfl:q=A i.cap:=Zo;rw[cc]at bl bk cT br;have cR:=xQ (bK:=i.l) i.cap ar;refine(ad<|JJ k aZ) ?_;refine aj<|aj (YT bk cT Zd Zd wG λco gP cZ bq a4=>(ZN) ?_);have hr:A (cj i.l i.cap)<=1000000:=by have:=qi (λb:Bi=>ah<|b.e.l=i.l+1) i.cap;unfold cj;omega
 have hs:A (cj i.l i.cap)<=A i.cap:=by unfold cj;exact qi _ _
 refine Gk (d:=I (A (cj i.l i.cap):Nat)) ?_ ?_
 .rw[bR,<-fg Bi.d (cj i.l i.cap)];obtain⟨c',rfl⟩|⟨t,hp,-,rfl,-⟩:=br
  .rw[c'];rfl
  rfl
 have a0:=(a4 4 Zd Zd).trans bd;have ak:=(a4 6 Zd Zd).trans be;have a1:∀t∈a6,co t=H0 t:=λt ht=>by have G:=aK t ht;exact(a4 t Zo Zo).trans<|a2 t ht
 have ec:=bk.aA (H':=co)<|Yr a4;have ed:=br.aA (H':=co)<|Yr a4;have ee:=b_.aA (H':=co)<|Yr a4;refine(ZN) ?_;refine jH 90 (A<|cj i.l i.cap) (λq=>mx 146 fd [] [(0,.rf 21 bY 0),(1,I B),(4,.rf 4 (bs 4) 0),(6,.rf 6 (bt 6) 0),(9,e'),(13,cZ),(88,e9),(89,I<|A<|cj i.l i.cap)] λenv m=>m 4=E ⟨bs 4,114,5,[bv,bw,bz,bA,bG],Q⟩/\m 6=E ⟨bt 6,99,3,[I aR,S aV,.sl 3<|J.ab aU],Q⟩/\(∀t∈a6,m t=H0 t)/\
  aL [72] m 211 1 (au Bi.d<|cj i.l i.cap) e9/\aL [76] m 211 1 (au Bi.d ar) e'/\aL [7] m 211 1 (au Bi.d<|X++fI i.l i.cap ar) cZ/\aL [39,80,84,107] m 211 1 (au Bi.d<|X++fI i.l i.cap ar++Y q (cj i.l i.cap)) (env 7)/\
  ∃j:List bZ,aL [103] m 114 5 (j.map bo) (env 14)/\j.map bZ.c=(cz q).map (λp=>eh (ie (a7<|X++fI i.l i.cap ar++Y p (cj i.l i.cap)) ((a7 ar).getD p 0):Nat))/\∀t∈j,t.ty≠[]/\A t.ty<=1) C
  ⟨C,C,C,by simp[aw,ba,bR],a0,ak,a1,ed,ee,bq,by simpa[aw,aZ]using ec.sub Zs,[],IC,C,Zs⟩ ?_
 clear a0 ak a1 ec ed ee bk cT br b_ a4 bd be a2 aZ bR ba bq;rintro q⟨env,m,e6,gS,dY,fe⟩b8 cH⟨rfl,rfl,rfl,ez,bd,be,a2,dz,dA,cV,cd,j,cU,cW,e4⟩;simp only[bM]at cH ez bd be a2 dz dA cV cd cU;obtain⟨dZ,cG,bQ,bn,ba,bP,d',d_,-⟩:=ez;obtain⟨hO,aZ⟩:=Zx<|env 7;obtain⟨hN,c7⟩:=Zx<|env 14;rw[aZ]at cd;rw[c7]at cU;have dr:A j=q:=by have:=eo A cW;simpa using this
 have fs:cE aB 107=E (114,5,88):=Zk;refine dN (JJ cH d_) (λaI=>?_) λk=>?_
 .have b7:q<A ar:=Zo;obtain⟨hn,rfl,gM⟩:=eG dz (by intro z;have:=eo A z;simp[au]at this;rw[this]at aI;simp at aI);obtain⟨ho,rfl,gN⟩:=eG dA (by intro z;have:=eo A z;simp[au]at this;rw[this]at b7;simp at b7);have fi:(ao<|au Bi.d<|cj i.l i.cap)[q]?=E (Bi.d (cj i.l i.cap)[q]):=by rw[kM];simp[aI]
  have fj:(ao<|au Bi.d ar)[q]?=E (Bi.d ar[q]):=by rw[kM];simp[b7]
  have dC:=fg Bi.d<|cj i.l i.cap;have e5:=fg Bi.d ar;have gG:((q:Int)<(A (cj i.l i.cap):Int))=True:=dM Zo;have gH:((q:Int)<(A ar:Int))=True:=dM Zo;have du:((0:Int)<=(q:Int))=True:=dM Zo;have hk:A (ao<|au Bi.d<|cj i.l i.cap)=A (cj i.l i.cap):=by rw[kM,bE]
  have hl:A (ao<|au Bi.d ar)=A ar:=by rw[kM,bE]
  simp only[cH,aZ,ba,c7,d',gM,gN,dC,gG,gH,du,fi,fj,mn,h_,go_sem];have ep:A (X++fI i.l i.cap ar++Y q (cj i.l i.cap))<=2002000:=Of;have e2:=cd;obtain⟨c',-⟩|⟨t7,bW,go,rfl,gK⟩:=cd
  .exfalso;have b1:=eo A c';simp only[fg,b9,xQ,gR]at b1;have:=qi (λb:Bi=>ah<|b.e.l=i.l+1) i.cap;unfold cj at aI;omega
  have fC:ar[q].id∈a7 (X++fI i.l i.cap ar++Y q (cj i.l i.cap)):=aP.2 ⟨_,gf _<|gq _<|Mk _ _ bl _<|aD b7,C⟩;have gu:=ahQ (X++fI i.l i.cap ar++Y q (cj i.l i.cap)) ar[q] fC Of (cA _<|aD b7) (H0:=m) (t:=t7) (g:=bW) (by rintro rfl;simp at go) gK C;refine aj<|aj (gu _ _ _ Zs λhI gX dp gm=>?_);subst dp;generalize gw:ie (a7<|X++fI i.l i.cap ar++Y q (cj i.l i.cap)) ar[q].id=dJ at*;generalize cD ar[q].e.t=cv at*;simp only[bo,eh,go_sem];refine GK.cM (eC.eS (S:=[103]) (aq:=j.map bo) (bD:=[bo ⟨eh (dJ:Nat),[cv]⟩]) fs ((Pa)<|cU.aA bF) (qd _) (by simp[aw,dS,ai,bo,eh,O.ds,bm]) Zs (Yq<|zU ⟨eh (dJ:Nat),[cv]⟩) (by rw[bE,dr];show(q+1)*88<=_;omega) (by rw[bE,dr];show q+1<=aE;unfold aE;omega) λg7 hJ hS gz ei=>?_);obtain⟨c0,hU,z3,c1,eq⟩:=Bi.vN (cj i.l i.cap)[q];refine(ad<|JJ aZ eq) ?_;rw[fg]at e2;refine GK.cM (pR (S:=[39,80,84,107]) (f:=Bi.d) (l:=X++fI i.l i.cap ar++Y q (cj i.l i.cap)) (a:=(cj i.l i.cap)[q]) lM ((Pa)<|e2.aA<|Yu ei) (by simp[aw,dS,ai,eq]) (Bi.one _) Zo Zd λcq hK hT gA ek=>?_);have b6:∀t,t≠107->t≠106->t≠39->t≠80->t≠84->t≠103->t≠102->cq t=m t:=λt d1 d2 d3 d4 d5 d6 d7=>by
   rw[ek t d1 (by simp[d1,d3,d4,d5])];simp only[a_ _ _ d2];rw[ei t d6<|Yq d6];simp only[a_ _ _ d7]
  refine(ad cH) ?_;refine gY aI ⟨C,C,C,by simp[aw,dZ,cG,bQ,bn,ba,bP,d',d_,dC,e5],(b6 4 Zd Zd Zd Zd Zd Zd Zd).trans bd,(b6 6 Zd Zd Zd Zd Zd Zd Zd).trans be,λt ht=>by have G:=aK t ht;exact(b6 t Zo Zo Zo Zo Zo Zo Zo).trans<|a2 t ht,(by have:=dz.aA (H':=cq) (Yr b6);rwa[dC]at this),(by have:=dA.aA (H':=cq) (Yr b6);rwa[e5]at this),cV.aA (H':=cq)<|Yr b6,?_,j++[⟨eh (dJ:Nat),[cv]⟩],?_,?_,?_⟩
  .rw[dm aI,<-dy];simpa[aw]using gA.sub Zs
  .simpa[aw]using gz.aA (H':=cq) (by intro t ht;simp only[dg]at ht;subst ht;rw[ek 103 Zd Zs];simp[ai])
  .rw[bX,cW,wv,bX];simp only[b4,eO];have:(a7 ar).getD q 0=ar[q].id:=by rw[xX];simp[a7,b7]
   rw[this,gw];rfl
  intro t ht;obtain ht|ht:=ca.1 ht
  .exact e4 t ht
  simp at ht;subst ht;simp
 obtain rfl:q=A (cj i.l i.cap):=Zo;rw[cc]at cd;refine(ad k) ?_;refine GK.nY [39,80,84,107] 7 (dK<|X++fI i.l i.cap ar++cj i.l i.cap) (by simp only[aw,bT,bj,aZ,reduceCtorEq];exact mQ (S:=[39,80,84,107]) (cd.aA o4) λP _=>Bi.cl P) (rC _) ?_;have gW:aT [39,80,84,107] m 21=_:=(by simp[aT]:aT [39,80,84,107] m 21=m 21).trans<|(a2 21 cf).trans b2;have gV:aT [39,80,84,107] m 137=_:=(by simp[aT]:aT [39,80,84,107] m 137=m 137).trans<|(a2 137 dH).trans c_;simp only[dZ,cG,gW,gV,eN,eM,fL,mn,h_,go_sem];obtain⟨o,dn,eJ⟩:=ad3 (r:=(P,X,i)) (ar:=a7 ar) c4 c5 c6;have eW:a7 (fI i.l i.cap ar)=gb i.l o i.cap 0:=Mj (o:=o) i.cap ar 0 bl λgF fT=>by rw[ew,eJ gF (by simpa[a7]using fT)];simp[a7]
 have eA:a7 (X++fI i.l i.cap ar++cj i.l i.cap)=a7 X++(gb i.l o i.cap 0++a7 (cj i.l i.cap)):=by rw[<-eW];simp[a7]
 obtain⟨aW,e8,dR,e0,e1,dx,-,e3,gI⟩:=R.cx;have df:=gI o dn.cap dn.Sx;simp only at df e0 e1 dx e3;rw[<-eA]at df;have gE:=R.n1;have fW:=R.le;simp only at gE fW;have fA:=eR (L8 gk fN fJ bh aW (vars:=X++fI i.l i.cap ar++cj i.l i.cap) (B+1) e0 e1 df dx R.w (λf fQ=>eV f<|R.sub f fQ) R.l0 e3 Zo (by rw[b9,b9];omega) Zo) (by simp only[D.hP,D.iE<|Nd.cl _,D.iE<|rC _];rfl);refine aj<|aj (fA _ _ _ (λt ht=>by have G:=aK t ht;simp only[aT];rw[aC ch];exact a2 t ht) λdF gX dp gm=>?_);obtain⟨⟨⟨fl,fp,fk,fm⟩,fo⟩,rfl,gp⟩:=dp;simp only[bo,go_sem];refine GK.nY [103] 14 (.sl 5<|j.map bo) (by simp only[aw,bT,bj,c7,reduceCtorEq];exact aL.fz (S:=[103]) (cU.aA (by simp[b5,aT,ai])) Zd (qd _)<|qc _) (Cl.jd<|qc j) ?_;refine(ZN) ?_;refine hW (XJ j) (.c (Cl.jd<|qc j) .n) ?_;refine(ZN) ?_;generalize di:X++fI i.l i.cap ar=s;have ep:s.length=A X+A i.cap:=by rw[<-di,b9,xQ]
 have fB:∀b∈s,dW b.e.t:=λb y=>by
  rw[<-di]at y;obtain y|y:=ca.1 y
  .exact rK _ (dx b<|gq _ y).1
  obtain y|y:=WS _ _ b y
  .obtain⟨hh,hL,g6,-,-,cY,g0,-⟩:=R.cx;exact rK _ (cY b<|gf _<|g0 b y).1
  exact cA b y
 have gr:∀p(k:p<A j),∃dw v d dB ty,j[p]=⟨.mk dw v d dB,ty⟩/\ty≠[]/\A ty<=1:=λp k=>by
  have:=e4 _<|aD k;rcases e:j[p]with⟨⟨dw,v,d,dB⟩,ty⟩
  rw[e]at this;exact⟨dw,v,d,dB,ty,C,this.1,this.2⟩
 have dr:A j<=1000000:=by have:=eo A cW;simp at this;omega
 rw[di]at cV;rw[eX]at cQ;refine LB (aq:=j.map bo) (el:=λbu=>.agg #[bu 0,bu 1,bu 2,bu 3,bu 4]) (eD:=.ag) [19,1000129] XG Xr C C (by rw[bE];unfold aE;omega) (qd j) Zk Zk
  (λp H' ce=>(∃t,H' 17=E ⟨dF 17,114,5,bo t,Q⟩/\gL (((j.drop<|A j-p).map bZ.c).foldr (λa aW=>.mk 7 0 [] [a,aW])<|kr Z aX P (a7<|X++fI i.l i.cap ar++cj i.l i.cap)<|B+1) (10000000*P.num+3*p) t)/\H' 6=E ⟨bt 6,99,3,[I aR,S aV,.sl 3<|J.ab aU],Q⟩/\H' 4=E ⟨bs 4,114,5,[bv,bw,bz,bA,bG],Q⟩/\(∀t∈a6,H' t=H0 t)/\aL [7] H' 211 1 (au Bi.d s) cZ) ⟨⟨⟨.mk fl fp fk fm,fo⟩,by simp[aT,ai,bo,O.ds,bm],Yq gp⟩,by simp[aT,ai,be],by simp[aT,ai,bd],λt ht=>by have G:=aK t ht;have K:t≠103/\t≠17/\t≠39/\t≠80/\t≠84/\t≠107:=Zo;simp[aT,ai,K,a2 t ht],cV.aA (by simp[aT,ai])⟩ ?_ ?_
 .rintro p H' ce r cN eU⟨⟨⟨⟨an,ay,am,ap⟩,av⟩,aH,ht⟩,ak,a0,a1,bW⟩;rw[bE]at cN eU;have b8:A j-1-p<A j:=Zo;obtain⟨ci,cn,cg,ck,cm,eP,gl,hE⟩:=gr _ b8;have fO:j.drop (A j-(p+1))=⟨.mk ci cn cg ck,cm⟩::j.drop (A j-p):=by
   rw[show A j-(p+1)=A j-1-p by omega,ml b8,eP,show A j-1-p+1=A j-p by omega]
  obtain rfl:r=bo ⟨.mk ci cn cg ck,cm⟩:=by simpa[b8,eP]using eU.symm
  have f_:=made 7 0 [] (.mk aR aV aU) [⟨.mk ci cn cg ck,cm⟩,⟨.mk an ay am ap,av⟩] cQ (by simp;exact⟨gl,ht.ne⟩) Zs D3<|aG C;have dh:gL (((j.drop<|A j-(p+1)).map bZ.c).foldr (λa aW=>.mk 7 0 [] [a,aW])<|kr Z aX P (a7<|X++fI i.l i.cap ar++cj i.l i.cap)<|B+1) (10000000*P.num+3*(p+1)) ⟨.mk 7 0 [] [.mk ci cn cg ck,.mk an ay am ap],cD (.mk aR aV aU)::(cm++av)⟩:=by
   refine⟨?_,Zs,?_,by simp;exact jE _ cQ⟩
   .rw[fO];simp only[b4,foldr_cons];rw[<-ht.c]
   have:=ht.len;simp at this⊢;omega
  generalize cD (.mk aR aV aU)=cv at*;simp only[bo,O.ds,bg,aY]at aH⊢;simp only[aH,ak,bn,go_sem];refine ir [127] f_ (.c Fz.tk<|.c (.cl _<|Cl.bC<|J.cl<|.mk aR aV aU)<|.c (Fz.aQ (g:=ce 127) (al:=[⟨.mk ci cn cg ck,cm⟩,⟨.mk an ay am ap,av⟩]) DP C) .n) (Cl.bC<|eK _) ?_;simp only[aT,bo,dT,fX,ak,aH,go_sem];refine⟨⟨⟨.mk 7 0 [] [.mk ci cn cg ck,.mk an ay am ap],cv::(cm++av)⟩,C,dh⟩,a0,λt ht=>by have G:=aK t ht;have K:t≠127/\t≠19/\t≠17:=Zo;simp[K,a1 t ht],bW.aA (by simp[aT,ai])⟩
 rintro H' ce⟨⟨⟨⟨an,ay,am,ap⟩,av⟩,aH,ht⟩,ak,a0,a1,bW⟩;have cY:∀q:Nat,q<=2000000->cb.wrap ((q:Int)-1)=(q:Int)-1:=λq k=>dE _ Zo;have g1:=cY s.length Zo;rw[bE,pJ,ra]at ht;simp only[bo,O.ds,bg,aY]at aH;refine(ZN) ?_;refine GK.nY [7] 13 (dK s) (by simp only[aw,bT,bj,bP,reduceCtorEq];exact mQ (S:=[7]) (bW.aA o4) λP _=>Bi.cl P) (rC _) ?_;simp only[dK,g1,go_sem];refine l' (λV=>V.nt=146/\V.N=fe/\V.T=[]/\V.env 13=dK s/\V.env 6=.rf 6 (bt 6) 0/\V.env 17=.rf 17 (dF 17) 0/\V.env 4=.rf 4 (bs 4) 0/\V.H 6=E ⟨bt 6,99,3,[I aR,S aV,.sl 3<|J.ab aU],Q⟩/\V.H 4=E ⟨bs 4,114,5,[bv,bw,bz,bA,bG],Q⟩/\(∀t∈a6,V.H t=H0 t)/\
  ∃q:Nat,q<=s.length/\V.env 20=I ((q:Int)-1)/\∃t,V.H 17=E ⟨dF 17,114,5,bo t,Q⟩/\gL (nw (s.length-q)<|(j.map bZ.c).foldr (λa aW=>.mk 7 0 [] [a,aW])<|kr Z aX P (a7<|X++fI i.l i.cap ar++cj i.l i.cap)<|B+1) (10000000*P.num+3*A j+3*(s.length-q)) t) (λV=>match V.env 20 with|.sc (.int _ gO)=>(gO+1).toNat|_=>0)
  ⟨C,C,C,bU,Ye bn,bU,Ye bQ,by simp[aT,ak],by simp[aT,a0],λt ht=>by have G:=aK t ht;have K:t≠7:=Zo;simp[aT,K,a1 t ht],s.length,bJ _,bU,⟨.mk an ay am ap,av⟩,by simp[aT,aH,bo,O.ds],by simpa[nw]using ht⟩ ?_
 clear ak a0 a1 bW aH ht;rintro⟨env,m,e6,gS,dY,g'⟩⟨rfl,rfl,rfl,bP,bn,ct,bQ,ak,a0,a1,q,b8,cu,⟨⟨an,ay,am,ap⟩,av⟩,aH,ht⟩;simp only at bP bn ct bQ ak a0 a1 cu;simp only[bo,O.ds,bg,aY]at aH;refine lm cu (λk=>?_) λk=>?_
 .have b1:0<q:=by simp at k;omega
  obtain⟨M,rfl⟩:∃B,q=B+1:=⟨q-1,Zo⟩;have eL:((M+1:Nat):Int)-1=(M:Int):=Zo;have gZ:=cY M Zo;rw[eL]at cu;have gn:(au Bi.d s).drop M=au Bi.d (s.drop M):=zK _ _;have gs:Y s.length (au Bi.d s)=au Bi.d s:=dj Zs;have f1:((M:Int)<=(s.length:Int))=True:=dM Zo;have f0:((0:Int)<=(M:Int))=True:=dM Zo;have ex:=J1 (s.drop M) i.ty Io;rw[eX]at ex;have ey:=w6 (l:=(s.drop M).map λb=>b.e.t) (λP gD=>by obtain⟨b,y,rfl⟩:=aP.1 gD;exact fB b<|uL y) cQ;have f':=made 4 0 [] (iZ ((s.drop M).map λb=>b.e.t)<|.mk aR aV aU) [⟨.mk an ay am ap,av⟩] ey (by simp;exact ht.ne) Zs D3<|aG C;have dh:gL (nw (s.length-M)<|(j.map bZ.c).foldr (λa aW=>.mk 7 0 [] [a,aW])<|kr Z aX P (a7<|X++fI i.l i.cap ar++cj i.l i.cap)<|B+1) (10000000*P.num+3*A j+3*(s.length-M)) ⟨.mk 4 0 [] [.mk an ay am ap],cD (iZ ((s.drop M).map λb=>b.e.t)<|.mk aR aV aU)::av⟩:=by
   refine⟨?_,Zs,?_,λz eY=>by simp only[C8,Option.mem_def,eH]at eY;subst eY;exact jE _ ey⟩
   .rw[show s.length-M=(s.length-(M+1))+1 by omega,nw,<-ht.c]
   have:=ht.len;simp at this⊢;omega
  refine(ZN) ?_;refine p3 (.bS [0,1,2,3,4,6] 5 (.fin [7,8,9]) 7<|.fin [5,8,9]) [6,17] [] ?_;simp only[bP,cu,bn,ct,ak,aH,dK,f0,f1,eL,gn,gs,go_sem];refine⟨?_,?_⟩
  all_goals
   refine mB ex ?_;generalize cD (iZ ((s.drop M).map λb=>b.e.t)<|.mk aR aV aU)=fr at*;generalize iZ ((s.drop M).map λb=>b.e.t) (.mk aR aV aU)=hm at*;simp only[go_sem];refine ir [143] f' (.c Fz.tk<|.c (.cl _<|Cl.bC<|J.cl _)<|.c (Fz.aQ (g:=e6 143) (al:=[⟨.mk an ay am ap,av⟩]) DP C) .n) (Cl.bC<|eK _) ?_;simp only[cu,ct,ak,aH,aT,bo,dT,fX,gZ,go_sem];unfold F9;refine⟨⟨C,C,C,by simp[aw,bP,dK],Ye bn,Ye ct,Ye bQ,by simp[aT,ai,ak],by simp[aT,ai,a0],λt ht=>by have G:=aK t ht;have K:t≠143/\t≠17:=Zo;simp[aT,ai,K,a1 t ht],M,Zo,bU,⟨.mk 4 0 [] [.mk an ay am ap],fr::av⟩,by simp[ai,O.ds,bm],dh⟩,bU⟩
 have b1:q=0:=by simp at k;omega
 subst b1;simp only[ct,bQ,aH,a0,bo,go_sem];refine⟨Cl.bC<|eK ⟨.mk an ay am ap,av⟩,⟨⟨.mk an ay am ap,av⟩,C,?_,ht.ne,?_,ht.fn⟩,λt ht=>by have G:=aK t ht;have K:t≠4:=Zo;simp[K,a1 t ht]⟩
 .rw[ht.c,R.any gh dn,Nat.sub_zero,ep,cW,eA];unfold oz;rw[adi,eu];refine eo (nw _)<|eo (List.foldr _ _) (jn λp cN=>?_);have cN:p<A (cj i.l i.cap):=Yq cN;have K:p<A (a7 ar):=by simp[a7];omega
  have cG:a7 (X++fI i.l i.cap ar++Y p (cj i.l i.cap))=a7 X++gb i.l o i.cap 0++Y p (a7<|cj i.l i.cap):=by rw[<-eW];simp[a7,su]
  have fq:(a7 ar).getD p 0=o p:=by rw[eJ p K,xX,bL K];rfl
  rw[cG,fq];rfl
 have G:=ht.len;have K:=R.n1;simp only at G K⊢;have hq:10000000*P.num<=10000000000:=Zo;omega
def I'{k:Int}{l:ax}{m i:Nat}(a:i<A l):cK k l m (i+1)=cK k l m i+(f' k i+l[i]):=by
 have b:i<A (ix k l):=by simpa[ix]using a
 unfold cK;rw[dm b,tx];simp[ix];omega
def QU{k:Int}{l:ax}{m i:Nat}:∀{j:Nat},i<=j->j<=A l->cK k l m i<=cK k l m j
 |0,d,_=>by have a:i=0:=Zo
            subst a;exact bJ _
 |j+1,d,e=>by
  by_cases b:i=j+1
  .subst b;exact bJ _
  have a:=QU (k:=k) (m:=m) (show i<=j by omega) (show j<=A l by omega);rw[I' (show j<A l by omega)];omega
def X6{x:Nd}{m:Nat}:cK (L.kd x.t) (x.ks.map Nd.bf) m (A x.ks)=m+x.bf:=by
 rw[Nd.o8];unfold cK;rw[dj (by simp[ix])]
def Sr:∀(x:Nd)(m:Nat),(∀b∈x.gj m,∀a∈b.2,m<=a/\a<m+x.bf)/\(x.gj m).Pairwise λb o=>∀a∈b.2,a∉o.2:=λx m=>by
 have S r (M:r∈x.ks) m:(∀b∈r.gj m,∀a∈b.2,m<=a/\a<m+r.bf)/\(r.gj m).Pairwise λb o=>∀a∈b.2,a∉o.2:=Sr r m;have Z:A (x.ks.map Nd.bf)=A x.ks:=bE _;have p:=λ{i j:Nat}=>QU (k:=L.kd x.t) (l:=x.ks.map Nd.bf) (m:=m) (i:=i) (j:=j);have ab:cK (L.kd x.t) (x.ks.map Nd.bf) m 0=m:=by simp[cK]
 have V:∀f,f<=A x.ks->(∀b∈ls x m f,∀a∈b.2,∃i<f,cK (L.kd x.t) (x.ks.map Nd.bf) m i+f' (L.kd x.t) i<=a/\a<cK (L.kd x.t) (x.ks.map Nd.bf) m (i+1))/\(ls x m f).Pairwise λb o=>∀a∈b.2,a∉o.2:=by
  intro f
  induction f with
  |zero=>intro _;rw[E5];exact⟨Zs,.nil⟩
  |succ f U=>
   intro aa;have⟨q,s⟩:=U Zo;have⟨B,I⟩:=S _ (aD (show f<A x.ks by omega))<|cK (L.kd x.t) (x.ks.map Nd.bf) m f+f' (L.kd x.t) f;have K:=I' (k:=L.kd x.t) (l:=x.ks.map Nd.bf) (m:=m) (i:=f) Zo;rw[fk]at K;rw[Be Zo];refine⟨λb d a e=>?_,x8.2 ⟨s,I,λb d o y a e z=>?_⟩⟩
   .obtain d|d:=ca.1 d
    .have⟨i,u,h⟩:=q b d a e;exact⟨i,Zo,h⟩
    have g:=B b d a e;exact⟨f,Zo,g.1,Zo⟩
   obtain⟨i,u,D,F⟩:=q b d a e;have g:=B o y a z;have g:=p (i:=i+1) (j:=f) Zo Zo;omega
 obtain⟨q,s⟩:=V _<|bJ _;rw[rJ];have X:=X6 (x:=x) (m:=m);have G:∀b∈ls x m (A x.ks),∀a∈b.2,m<=a/\a<m+x.bf:=λb d a e=>by
  obtain⟨i,u,D,F⟩:=q b d a e;have g:=p (i:=0) (j:=i) Zo Zo;have g:=p (i:=i+1) (j:=A x.ks) Zo Zo;omega
 by_cases w:L.kd x.t=9\/L.kd x.t=11
 .rw[aM w];have own:∀a∈(range' 1<|A x.ks-1).map (cK (L.kd x.t) (x.ks.map Nd.bf) m),∃i,1<=i/\i<A x.ks/\a=cK (L.kd x.t) (x.ks.map Nd.bf) m i/\a+1<=cK (L.kd x.t) (x.ks.map Nd.bf) m (i+1):=λa e=>by
   obtain⟨i,u,rfl⟩:=aP.1 e;have J:=List.mem_range'_1.1 u;refine⟨i,J.1,Zo,C,?_⟩;rw[I' Zo];have g:f' (L.kd x.t) i=1:=by unfold f';rw[aM ⟨w,Zo⟩]
   omega
  refine⟨λb d a e=>?_,Db.2 ⟨λo y a e z=>?_,s⟩⟩
  .obtain rfl|d:=cF.1 d
   .obtain⟨i,O,P,rfl,R⟩:=own a e;have g:=p (i:=0) (j:=i) Zo Zo;have g:=p (i:=i+1) (j:=A x.ks) Zo Zo;omega
   exact G b d a e
  obtain⟨i,O,P,rfl,R⟩:=own a e;obtain⟨j,Y,D,F⟩:=q o y _ z;obtain h|h|h:=Hn i j
  .have g:=p (i:=i+1) (j:=j) Zo Zo;omega
  .subst h;have g:f' (L.kd x.t) i=1:=by unfold f';rw[aM ⟨w,Zo⟩]
   omega
  have g:=p (i:=j+1) (j:=i) Zo Zo;omega
 rw[aC w,aY];exact⟨G,s⟩
decreasing_by exact Nd.lt M
def Qw:∀(e:eg)(m:Nat),(∀b∈jT e m,∀a∈b.2,m<=a/\a<m+A (gu e))/\(jT e m).Pairwise (λb g=>∀a∈b.2,a∉g.2)
 |[],m=>⟨by simp[jT],.nil⟩
 |x::e,m=>by
  have⟨h,j⟩:=Sr x m;have⟨i,k⟩:=Qw e<|m+x.bf;have p:A (gu (x::e))=x.bf+A (gu e):=Oj;rw[jT];refine⟨λb d a f=>?_,x8.2 ⟨j,k,λb d g l a f o=>?_⟩⟩
  .obtain d|d:=ca.1 d
   .have:=h b d a f;omega
   have:=i b d a f;omega
  have:=h b d a f;have:=i g l a o;omega
def iq(V:List ae)(ds:List aa):List L->Nat->List (O×List O)
 |[],_=>[]
 |t::ts,m=>cV V ds t [] 0 m::iq V ds ts (m+L.bf t)
def cJ(V:aF)(ds:aO):cm:=(iq V ds (ds.map aa.bd) 0).map Prod.fst++ao ((iq V ds (ds.map aa.bd) 0).map Prod.snd)
structure Mn (V:List ae) (ds:List aa) (t:L) (nd:Nd):Prop where
 kd:L.kd t≠10
 cx:Cx V ds t nd [] 0
 w:qm nd
 n1:t.num<=1000
 n2:nd.num<=640
def Mn.rl(e:Mn a5 be n8 m5):Rl n8 [] 0 [] [] 0:=⟨λd _ b a=>by simp[du]at a,λd _ _=>C⟩
def QR{V:aF}{ds:aO}(O:gT V ds):∀(g:bu)(d:eg)(m:Nat),A d=A g->(∀j(x:j<A g)(G:j<A d),Mn V ds g[j] d[j])->
 A (iq V ds g m)=A d/\(∀j(x:j<A d),((iq V ds g m)[j]?).map Prod.fst=E (kr V ds d[j] []<|m+A (gu<|Y j d)))/\
 A (ao<|(iq V ds g m).map Prod.snd)=A (gu d)/\
 ∀e r,(gu d)[e]?=E r->∃a∈d,∃p,Good V ds a p r (m+e)/\(∀s∈a.gj p,s∈jT d m)/\p+a.bf<=m+A (gu d)/\∃u,uS r u/\(ao<|(iq V ds g m).map Prod.snd)[e]?=E (oz V ds r u<|m+e+1)
 |[],d,m,k,_=>by
  have q:d=[]:=Yq k;subst q;simp[iq,gu]
 |t::g,[],m,k,_=>by simp at k
 |t::g,a::d,m,k,I=>by
  have f:=I 0 Zs Zs;simp only[fA]at f;have⟨R,S,U,X⟩:=QR O g d (m+L.bf t) (Yq k) λj x G=>by have q:=I (j+1) (Yq x) (Yq G);simpa using q
  have K:=I8 t f.cx.is;have J:gu (a::d)=a.fC++gu d:=by simp[gu]
  have z (l:eg):A (gu (a::l))=a.bf+A (gu l):=Oj;have⟨al,P⟩:=L6 (V:=V) (ds:=ds) (λam o=>rz (a.ids++(((a.fC[am-m]?).map λr=>a7 r.2.1++a7 r.2.2.cap).getD [])) o) (λ_ _ _=>El) t m f.kd f.cx f.rl λj o=>⟨λB=>sN<|gf _ B,rq⟩;have ak e:((cV V ds t [] 0 m).2)[e]?=(a.fC[e]?).map λr=>oz V ds r (λo=>rz (a.ids++(((a.fC[e]?).map λr=>a7 r.2.1++a7 r.2.2.cap).getD [])) o)<|m+e+1:=by
   rw[<-P];unfold rB;rw[fP,getElem?_zipIdx];have Z:m+e-m=e:=Zo;rcases i:a.fC[e]? with _|r
   .rfl
   simp only[eE,Z,i]
  have M:A (cV V ds t [] 0 m).2=A a.fC:=by rw[<-P];simp[rB]
  have aq:=zI a;rw[iq];refine⟨Yr R,λj ad=>?_,by rw[b4,dT,b9,U,M,J,b9],λe r h=>?_⟩
  .cases j with
   |zero=>simp[al,gu]
   |succ j=>
    have q:=S j<|Yq ad;rw[xY,jm,jz,z,q,K,jA]
  rw[J]at h;rw[b4,dT];by_cases ae:e<A a.fC
  .rw[lY ae]at h;refine⟨a,Zs,m,LH O t m f.kd f.cx f.rl Zs f.w (sm _) (Yo f.n1) f.n2 e r h,λs y=>by rw[jT];exact gf _ y,Yv z,_,?_,by rw[lY Zo,ak,h];rfl⟩;simp only[eE,kx];refine⟨λo j=>El,λj b ab i=>sN (l:=a.ids++(a7 r.2.1++a7 r.2.2.cap)) (j:=j) ?_,λj B=>sN<|gq _<|gf _ B⟩;rw[i];exact gq _<|gq _<|aP.2 ⟨b,ab,C⟩
  rw[kR Zo]at h;have⟨an,ah,p,D,g2,ap,u,aa,F⟩:=X _ r h;have i:m+L.bf t+(e-(A a.fC))=m+e:=Zo;rw[i]at D F;exact⟨an,Yr ah,p,D,λs y=>by rw[jT,K];exact gq _<|g2 s y,Yv z,u,aa,by rw[kR Zo,M];exact F⟩
def aby(l:IL)(p:Int->Bool)(b:bI)(aW aV:DL)(g:A l<=aE)(hf:∀d∈aW,Cl d)(hc:∀d∈aV,Cl d)
 (lP:∀e∈l,az b (aW++[I e]++aV)<|B<|p e):az 208 [bm l,.fn b aW aV]<|I<|fT p l:=by
 unfold aE at g;have f:A (l.map λa=>[I a])=A l:=Zs;refine(lj f)<|lp 8 (A l) [0,1,7] (λk _ _ _ _=>(Y k l).any p=af) Zs ?_;rintro k j i a _ _ m hp;refine ZL (λbw=>?_) λh=>?_
 .have g0:(l.map λa=>[I a])[k]?=E [I l[k]]:=by simp[bw]
  exact Oo
 exact sK
def RP(l:IL)(b:Int->Bool)(a:bI)(aW aV:DL)(j:A l<=aE)(i:∀d∈aW,Cl d)(f:∀d∈aV,Cl d)
 (g:∀e∈l,az a (aW++[I e]++aV)<|B<|b e):az 143 [bm l,.fn a aW aV]<|B<|l.any b:=by
 refine(cR) ?_;have:=aby l b a aW aV j i f g;exact tJ
def abw(l:cm)(p:O->Bool)(a:bI)(aW aV:DL)(i:A l<=aE)(g:∀d∈aW,Cl d)(hc:∀d∈aV,Cl d)
 (f:∀b∈l,az a (aW++[.ag b.ds]++aV)<|B<|p b):az 89 [O.sl l,.fn a aW aV]<|I<|fT p l:=by
 unfold aE at i;refine(lj<|O.b6 l)<|lp 8 (A l) [0,1,7] (λk _ _ _ _=>(Y k l).any p=af) Zs ?_;rintro k o m r _ _ q hp;refine ZL (λbw=>?_) λh=>?_
 .have e:=O.bP l[k];have j:Y 4 l[k].ds=l[k].ds:=dj Zo;simp only[O.bV l k bw,e,j,go_sem];exact bR _ (f l[k]<|aD bw) (by simp only[pH,bM];exact⟨⟨g,Cl.bC<|O.cl _,Zs⟩,hc⟩)<|wJ
 exact sK
def EG(l:cm)(b:O->Bool)(a:bI)(aW aV:DL)(j:A l<=aE)(i:∀d∈aW,Cl d)(f:∀d∈aV,Cl d)
 (g:∀e∈l,az a (aW++[.ag e.ds]++aV)<|B<|b e):az 45 [O.sl l,.fn a aW aV]<|B<|l.any b:=by
 refine(cR) ?_;have:=abw l b a aW aV j i f g;exact tJ
def GX(b:Bool):az 148 [B b]<|I (if b then 1 else 0):=by
 refine(dH) ?_;cases b<;>simp only[go_sem]<;>exact Fz.di Zs
def Tb(b:Int):az 267 [I b]<|B<|bY b (0) 23:=by
 refine(dH) ?_;by_cases a:(0:Int)<=b
 .refine(ad a) ?_;exact Fz.aK (by simp[bY,a]<;>omega)
 refine(ad a) ?_;exact Fz.aK (by simp[bY,a]<;>omega)
theorem binds(e v:Int)(d:IL)(f:cm)(b:Nat):az 206 [.ag<|O.ds<|.mk e v d f,I b]<|I<|ez e b:=by
 refine(dH) ?_
 repeat' (first|(refine oC (λa=>?_) (λa=>?_)<;>simp only[a,go_sem])|(refine fx (λa=>?_) (λa=>?_)<;>simp only[a,go_sem])|(refine bR _ (GX _) Zs ?_;simp only[go_sem]))
 all_goals(refine Fz.di ?_;simp_all[ez,UD])
theorem TO(e v:Int)(d:IL)(f:cm)(b:Nat)(g:DL):az 171 [.cp<|O.ds (.mk e v d f)++g,I b]<|I<|ez e b:=by
 refine(dH) ?_
 repeat' (first|(refine oC (λa=>?_) (λa=>?_)<;>simp only[a,go_sem])|(refine fx (λa=>?_) (λa=>?_)<;>simp only[a,go_sem]))
 all_goals(refine Fz.di ?_;simp_all[ez,UD])
theorem acT(b:Int):az 168 [I b]<|.tp [I (j' b).1,I (j' b).2.1,I (j' b).2.2.1,I (j' b).2.2.2]:=by
 refine(ia [] [.tmp 2,.tmp 3,.tmp 4,.tmp 5]) ?_
 repeat' (first|(refine oC (λa=>?_) (λa=>?_)<;>simp only[a,go_sem])|(refine fx (λa=>?_) (λa=>?_)<;>simp only[a,go_sem]))
 all_goals(refine Fz.lR ?_ Zs;simp_all[j'])
theorem acU(b v:Int)(d:IL)(e:cm)(f:DL):az 170 [.cp<|O.ds (.mk b v d e)++f]<|B<|xN b v:=by
 refine(dH) ?_
 repeat' (first|(refine oC (λa=>?_) (λa=>?_)<;>simp only[a,go_sem])|(refine fx (λa=>?_) (λa=>?_)<;>simp only[a,go_sem])|(refine bR _ (vE _ _ _) Zs ?_;simp only[go_sem]))
 all_goals(refine Fz.aK ?_;simp_all[xN,nv])
def aeg(a:Int):az 268 [I a]<|B<|!bY a 0 23:=by
 refine(cR) ?_;have:=Tb a;exact(ZC)<|Fz.aK C
theorem ahK(f v:Int)(d:IL)(e:cm)(g:A d<=aE):az 194 [.ag<|O.ds<|.mk f v d e]<|B<|mb<|.mk f v d e:=by
 have i a (_:a∈d):az 268 ([]++[I a]++[])<|B<|(λa=>!bY a 0 23) a:=Yq<|aeg a;refine(cR)<|(fQ<|O.b6 e) ?_
 repeat' (first|(refine oC (λb=>?_) (λb=>?_)<;>simp only[b,go_sem])|(refine fx (λb=>?_) (λb=>?_)<;>simp only[b,go_sem])|(refine fB ?_)|(refine bR _ (isInt _) Zs ?_;simp only[go_sem])|(refine bR _ (Tg _) Zs ?_;simp only[go_sem])|(refine bR _ (Tb _) Zs ?_;simp only[go_sem])|(refine bR _ (RP d _ _ [] [] g Zs Zs i) Zs ?_;simp only[go_sem]))
 all_goals(refine Fz.aK ?_)
 all_goals(try rw[B8])
 all_goals(simp_all[mb,j',xN,bY,nv]<;>try omega)
def ZB(e v:Int)(d:IL)(a:cm)(s:O.dd a<9000000000000000000)(m:A a<=aE)
 (l:∀f∈a,az 195 [.ag f.ds]<|.tp [I f.cC,I f.b7]):
 az 195 [.ag<|O.ds<|.mk e v d a] (.tp [I (O.mk e v d a).cC,I (O.mk e v d a).b7]):=by
 unfold aE at m;refine(ia [] [.tmp 2,.tmp 3])<|fG 11 (A a) (λk=>Fw.Inv 30 [(9,O.sl a),(10,I<|A a),(2,I ((1+O.cX (Y k a):Nat):Int)),(3,I ((1+O.dd (Y k a):Nat):Int))] True) C ⟨C,Oe,trivial⟩ ?_;rintro k r q w _ _ u-;refine ZL (λb=>?_) λg=>?_
 .have j:=O.bP a[k];have p:Y 4 a[k].ds=a[k].ds:=dj Zo;have o:(a[k].ds).all cO=W:=(Pf)<|O.one a[k];have:=l a[k]<|aD b;refine(bQ<|JJ (O.bV a k b)<|JJ j<|JJ p o) ?_;have t:=O.ua a[k];have i:=O.yU a<|k+1;rw[O.tY a k b]at i;refine(ad<|JJ (gJ a[k].cC Zo)<|wrap_add (1+O.dd (Y k a)) a[k].b7 Zo) ?_;have m1:(if((a[k].cC+1:Nat):Int)>((1+O.cX (Y k a):Nat):Int)then((a[k].cC+1:Nat):Int)else((1+O.cX (Y k a):Nat):Int))=((1+O.cX (Y (k+1) a):Nat):Int):=by
   rw[O.mH a k b];split<;>omega
  have m2:1+O.dd (Y k a)+a[k].b7=1+O.dd (Y (k+1) a):=Yv<|O.tY a k b;refine nM ⟨C,?_,trivial⟩;exact II
 obtain rfl:k=A a:=Zo;refine(ad g)<|Fz.lR ?_ Zs;simp[O.cC,O.b7]
def RR(a:O)(e:a.b7<=1000000000)(b:a.ok):az 195 [.ag a.ds]<|.tp [I a.cC,I a.b7]:=by
 match a,e,b with
 |.mk h v d i,e,b=>
 simp only[O.ok]at b;simp only[O.b7]at e;exact ZB h v d i Zo b.2.1 λg f=>RR g (Yo<|O.nr f)<|O.eJ b.2.2 g f
def ZE(c:O)(e:c.b7<=1000000000)(d:c.ok):az 132 [.ag c.ds]<|B<|ah<|c.cC<=80/\c.b7<=400:=by
 have b:=O.bP c;have f:Y 4 c.ds=c.ds:=dj Zo;refine(cR) ?_;have:=RR c e d;refine(bQ<|JJ b f) ?_;by_cases a:c.cC<=80
 .have f1:ah ((c.cC:Int)<=80)=W:=by simp;omega
  refine(ad f1) ?_;apply Fz.aK;rw[lD];omega
 have f1:ah ((c.cC:Int)<=80)=af:=by simp;omega
 refine(ad f1) ?_;apply Fz.aK;simp[a]
def ZG(b v:Int)(d:IL)(a:cm)(r:A d<=aE)(F:O.dd a<9000000000000000000)(u:A a<=aE)
 (t:∀f∈a,az 131 [.ag f.ds]<|.tp [I (if f.bh then f.cC else 0),I (if f.bh then f.b7 else 0),B f.bh]):
 az 131 [.ag<|O.ds<|.mk b v d a] (.tp [I (if(O.mk b v d a).bh then(O.mk b v d a).cC else 0),I (if(O.mk b v d a).bh then(O.mk b v d a).b7 else 0),B (O.mk b v d a).bh]):=by
 unfold aE at u;have s:O.ds (.mk b v d a)=[I b,I v,bm d,.sl 4<|O.ab a]:=qs;have g:(O.mk b v d a).bh=(mb (.mk b v d a)&&a.all O.bh):=by rw[O.bh,O.i1]
 refine(ia [] [.tmp 2,.tmp 3,.tmp 4])<|bR _ (by have j:=ahK b v d a r;rw[s]at j;exact j) sI ?_;cases m:mb (.mk b v d a)
 .refine(ZN)<|Fz.lR ?_ Zs;simp[g,m]
 refine(ZN)<|fG 16 (A a) (λk=>Fw.Inv 38 [(14,O.sl a),(15,I<|A a),(2,I ((1+O.cX (Y k a):Nat):Int)),(3,I ((1+O.dd (Y k a):Nat):Int))]<|(Y k a).all O.bh=W) C ⟨C,Oe,Zs⟩ ?_;rintro k D z M _ _ K i;refine ZL (λe=>?_) λo=>?_
 .have q:=O.bP a[k];have y:Y 4 a[k].ds=a[k].ds:=dj Zo;have w:(a[k].ds).all cO=W:=(Pf)<|O.one a[k];have j:=t a[k]<|aD e;refine(bQ<|JJ (O.bV a k e)<|JJ q<|JJ y w) ?_;have G:=O.ua a[k];have p:=O.yU a<|k+1;rw[O.tY a k e]at p;cases l:a[k].bh
  .refine(ZN)<|Fz.lR ?_ Zs;simp[g,u4 e l]
  refine(ad<|JJ (gJ a[k].cC Zo)<|wrap_add (1+O.dd (Y k a)) a[k].b7 Zo) ?_;have m1:(if((a[k].cC+1:Nat):Int)>((1+O.cX (Y k a):Nat):Int)then((a[k].cC+1:Nat):Int)else((1+O.cX (Y k a):Nat):Int))=((1+O.cX (Y (k+1) a):Nat):Int):=by
   rw[O.mH a k e];split<;>omega
  have m2:1+O.dd (Y k a)+a[k].b7=1+O.dd (Y (k+1) a):=Yv<|O.tY a k e;refine nM ⟨C,?_,by rw[lK e,i,l];rfl⟩;exact II
 obtain rfl:k=A a:=Zo;rw[cc]at i;refine(ad o)<|Fz.lR ?_ Zs;simp[O.cC,O.b7,g,m,i]
def RS(a:O)(e:a.b7<=1000000000)(b:a.ok):az 131 [.ag a.ds]<|.tp [I (if a.bh then a.cC else 0),I (if a.bh then a.b7 else 0),B a.bh]:=by
 match a,e,b with
 |.mk h v d i,e,b=>
 simp only[O.ok]at b;simp only[O.b7]at e;exact ZG h v d i b.1 Zo b.2.1 λg f=>RS g (Yo<|O.nr f)<|O.eJ b.2.2 g f
def WG(a:O)(f:a.b7<=1000000000)(e:a.ok):az 78 [.ag a.ds]<|B a.valid:=by
 have b:=O.bP a;have g:Y 4 a.ds=a.ds:=dj Zo;refine(cR) ?_;have:=RS a f e;refine(bQ<|JJ b g) ?_;cases d:a.bh
 .exact(ZN)<|Fz.aK (by simp[O.valid,d])
 have:=ZE a f e;exact(bQ<|JJ b g)<|Fz.aK (by simp[O.valid,d])
def Ga{v:Int}{d:IL}{a f:Int}(b:mb (.mk a3 v d v1)=af):-1=oJ (.mk a3 v d v1) a f:=by
 unfold oJ;rw[aC];rintro⟨e,_⟩;simp[O.bh,b]at e
def acR(b v:Int)(d:IL)(a:cm)(e f:Int)(aB:0<=e)(aA:e<=80)(aH:0<=f)(aI:f<=400)(al:A d<=aE)(aq:A a<=aE)
 (an:∀M∈a,∀e f:Int,0<=e->e<=80->0<=f->f<=400->az 106 [.cp M.ds,I e,I f] (I<|oJ M e f)):
 az 106 [.cp<|O.ds<|.mk b v d a,I e,I f] (I<|oJ (.mk b v d a) e f):=by
 unfold aE at aq al;have z:=O.b6 a;have B:A (d.map λl=>[I l])=A d:=Zs;have am:O.ds (.mk b v d a)=[I b,I v,bm d,.sl 4<|O.ab a]:=qs;have j:mb (.mk b v d a)=(bY (A a) (j' b).1 (j' b).2.1&&bY (A d) (j' b).2.2.1 (j' b).2.2.2&&xN b v&&d.all λu=>bY u 0 23):=C;have aF:(O.mk b v d a).cC=1+O.cX a:=by rw[O.cC]
 have Z:(O.mk b v d a).b7=1+O.dd a:=by rw[O.b7]
 have D:(O.mk b v d a).bh=(mb (.mk b v d a)&&a.all O.bh):=by rw[O.bh,O.i1]
 refine(cR) ?_;have p:=acT b;refine(ZC) ?_;by_cases R:e<1
 .have f1:ah (e<1)=W:=by simp[R]
  refine(ad f1) ?_;apply Fz.di;unfold oJ;rw[aC];omega
 have f1:ah (e<1)=af:=co;refine(ad f1) ?_;by_cases S:f<1
 .have f2:ah (f<1)=W:=by simp[S]
  refine(ad f2) ?_;apply Fz.di;unfold oJ;rw[aC];omega
 have f2:ah (f<1)=af:=co;refine(ad<|JJ f2 z)<|bR _ (vE _ _ _) Zs ?_;cases m:bY (A a) (j' b).1 (j' b).2.1
 .exact(ZN)<|Fz.di<|Ga (by rw[j,m];rfl)
 refine(ad B)<|bR _ (vE _ _ _) Zs ?_;cases q:bY (A d) (j' b).2.2.1 (j' b).2.2.2
 .exact(ZN)<|Fz.di<|Ga (by rw[j,m,q];rfl)
 refine(ZN)<|bR _ (by have p:=acU b v d a [];rw[am,de]at p;exact p) sI ?_;cases w:xN b v
 .exact(ZN)<|Fz.di<|Ga (by rw[j,m,q,w];rfl)
 refine(ZN)<|lp 11 (A d) [0,1,2] (λk _ _ _ _=>(Y k d).all (λu=>bY u 0 23)=W) Zs ?_;rintro k U P l _ _ ao i;refine dN B (λg=>?_) λr=>?_
 .have V:(d.map λl=>[I l])[k]?=E [I d[k]]:=by simp[g]
  refine(ad V)<|bR _ (vE _ _ _) Zs ?_;cases y:bY d[k] 0 23
  .exact(ZN)<|Fz.di<|Ga (by rw[j,u4 g y,CU])
  refine(ZN) ?_;refine dI ?_;rw[lK g,i,y];rfl
 have ap:k=A d:=Zo;rw[ap,cc]at i;have F:mb (.mk b v d a)=W:=by rw[j,m,q,w,i];rfl
 refine(ad r)<|fG 13 (A a) (λk=>Fw.Inv 103 [(0,.cp [I b,I v,bm d,.sl 4<|O.ab a]),(1,I e),(2,I f),(12,I ((1+O.dd (Y k a):Nat):Int))]<|(Y k a).all O.bh=W/\((1+O.cX (Y k a):Nat):Int)<=e/\((1+O.dd (Y k a):Nat):Int)<=f) C ⟨C,?_,?_⟩ ?_
 .simp only[bm,ww,O.dd,bM,dt,hU,im,aw,↓reduceIte,bj,reduceCtorEq,i',rj,lE,e7,eQ,bT];rfl
 .simp[O.cX,O.dd];omega
 rintro k U P l _ _ ao⟨i,ar,au⟩;refine dN z (λg=>?_) λr=>?_
 .have G:=aD g;have ax:cb.wrap (e-1)=e-1:=dE _ Zo;have ay:cb.wrap (f-((1+O.dd (Y k a):Nat):Int))=f-((1+O.dd (Y k a):Nat):Int):=dE _ Zo;have p:=an a[k] G (e-1) (f-((1+O.dd (Y k a):Nat):Int)) Zo Zo Zo Zo;refine(bQ<|JJ (O.bV a k g)<|JJ ax ay) ?_;have ak:=O.t_ a<|k+1;have X:=O.yU a<|k+1;rw[O.mH a k g]at ak;rw[O.tY a k g]at X;by_cases o:a[k].bh=W/\(a[k].cC:Int)<=e-1/\(a[k].b7:Int)<=f-((1+O.dd (Y k a):Nat):Int)
  .have s:oJ a[k] (e-1) (f-((1+O.dd (Y k a):Nat):Int))=a[k].b7:=by unfold oJ;rw[aM o]
   have t:ah ((a[k].b7:Int)<0)=af:=Zs;have av:1+O.dd (Y k a)+a[k].b7=1+O.dd (Y (k+1) a):=Yv<|O.tY a k g;simp only[s,t,wrap_add (1+O.dd (Y k a)) a[k].b7 Zo,go_sem];refine nM ⟨C,by simp only[av,bM,dt,hU,im,aw,↓reduceIte,bj,reduceCtorEq,kV,lE,e7,eQ,bT],by rw[lK g,i,o.1];rfl,?_,?_⟩
   .rw[O.mH a k g];omega
   rw[O.tY a k g];omega
  have s:oJ a[k] (e-1) (f-((1+O.dd (Y k a):Nat):Int))=-1:=by unfold oJ;rw[aC o]
  have t:ah ((-1:Int)<0)=W:=C;refine(ad<|JJ s t) ?_;apply Fz.di;unfold oJ;rw[aC];rintro⟨K,aK,aL⟩;rw[D,F,kf,en]at K;exact o ⟨K _ G,Zo,Zo⟩
 obtain rfl:k=A a:=Zo;rw[cc]at i ar au;refine(ad r) ?_;apply Fz.di;unfold oJ;rw[aM ⟨by rw[D,F,i];rfl,Zo,Zo⟩,cc,Z]
def TQ(f:O)(a b:Int)(m:0<=a)(l:a<=80)(o:0<=b)(p:b<=400)(e:f.ok):az 106 [.cp f.ds,I a,I b]<|I<|oJ f a b:=by
 match f,e with
 |.mk r v d s,e=>
 simp only[O.ok]at e;exact acR r v d s a b m l o p e.1 e.2.1 λg q a b h i j k=>TQ g a b h i j k<|O.eJ e.2.2 g q
def acS(a:O)(b:a.ok):az 66 [.cp a.ds]<|B a.valid:=by
 refine(cR) ?_;have:=TQ a 80 400 Zo Zo Zo Zo b;exact(ZC)<|Fz.aK<|aef a
def AY(b:Int)(a:Nat):ez b a=0\/ez b a=1:=by unfold ez;split<;>simp
theorem Y1(f v:Int)(d:IL)(a:cm)(b:Int)(U:0<=b)(M:b+(1+O.cX a:Nat)<1000000000000)(y:A a<=aE)
 (u:∀x∈a,∀b:Int,0<=b->b+x.cC<1000000000000->az 140 [.ag x.ds,I b] (B<|x.under b)):
 az 140 [.ag<|O.ds<|.mk f v d a,I b] (B<|(O.mk f v d a).under b):=by
 unfold aE at y;have t:O.ds (.mk f v d a)=[I f,I v,bm d,.sl 4<|O.ab a]:=qs;have j:(O.mk f v d a).under b=(!(ah (f=1)&&ah (v>=b))&&O.nI f a 0 b):=by rw[O.under]
 refine(dH) ?_
 repeat' (first|(refine oC (λg=>?_) (λg=>?_)<;>simp only[g,go_sem])|(refine fx (λg=>?_) (λg=>?_)<;>simp only[g,go_sem]))
 .apply Fz.aK;simp_all
 all_goals
  have r:(!(ah (f=1)&&ah (v>=b)))=W:=by simp_all
  rw[r,kf]at j;refine fG 19 (A a) (λe=>Fw.Inv 33 [(2,.cp [I f,I v,bm d,.sl 4<|O.ab a]),(1,I b),(17,.sl 4<|O.ab a),(18,I<|A a)]<|O.nI f (Y e a) 0 b=W) C ⟨C,by simp[bm,ej,aw],by simp[O.nI]⟩ ?_;rintro e K G V _ _ S l;refine ZL (λi=>?_) λg=>?_
  .have p:=aD i;have s:=O.bP a[e];have D:Y 4 a[e].ds=a[e].ds:=dj Zo;have z:(a[e].ds).all cO=W:=(Pf)<|O.one a[e];refine(fQ<|JJ (O.bV a e i)<|JJ s<|JJ D z) ?_;refine fS _ (by have q:=binds f v d a e;rw[t]at q;exact q) sI C ?_;have P:=AY f e;have R:=O.yZ p;have F:cb.wrap (b+ez f e)=b+ez f e:=dE _ Zo;refine(ad F) ?_;refine fS _ (u a[e] p _ Zo Zo) ru C ?_;have m:=O.Ww f b a 0 e i;rw[ew,l,kf]at m;cases o:(a[e]).under (b+ez f e)
   .exact(ZN)<|Fz.aK (by rw[j,O.Wv f b a 0 (e+1) (by rw[m,o])])
   refine(ZN) ?_;refine gY i ⟨C,?_,by rw[m,o]⟩;simp only[bM,dt,hU,im,aw,↓reduceIte,bj,kV,lE,e7,eQ,reduceCtorEq]
  have w:e=A a:=Zo;rw[w,cc]at l;exact(ad g)<|Fz.aK (by rw[j,l])
def Ry(c:O)(a:Int)(i:0<=a)(e:a+c.cC<1000000000000)(b:c.ok):az 140 [.ag c.ds,I a]<|B<|c.under a:=by
 match c,e,b with
 |.mk k v d l,e,b=>
 simp only[O.ok]at b;rw[O.cC]at e;exact Y1 k v d l a i e b.2.1 λf j a g h=>Ry f a g h<|O.eJ b.2.2 f j
def ZQ(a:O)(b:a.b7<=1000000000):(0:Int)+a.cC<1000000000000:=by
 have:=O.ua a;omega
def isClosed(c:O)(d:c.b7<=1000000000)(b:c.ok):az 87 [.ag c.ds]<|B<|c.valid&&!c.ji 0:=by
 have a:=O.bP c;have e:Y 4 c.ds=c.ds:=dj Zo;refine(cR) ?_;have:=WG c d b;refine(bQ<|JJ a e) ?_;cases f:c.valid
 .exact(ZN)<|Fz.aK C
 have:=Ry c 0 Zo (ZQ c d) b;refine(bQ<|JJ a e) ?_;apply Fz.aK;have g:c.bh=W:=by simp only[O.valid,cy]at f;exact f.1
 rw[O.Wx c 0 g]
structure Gc (c:O) (b:Nat):Prop where
 n:c.b7<=b
 o:c.ok
def Gc.le{b:Nat}(a:Gc n5 am)(d:am<=b):Gc n5 b:=⟨gS a.n d,a.o⟩
def oO:∀{a:cm},(∀c∈a,c.ok)->O.gZ a
 |[],_=>trivial
 |c::a,b=>⟨b c Zs,oO λe d=>b e<|Yr d⟩
def zs(a:am<=100000000):am<=aE:=l3
def Gc.Uu{v:Int}{d:IL}{a:cm}{ts:bu}(l:A d<=100000000)(g:A a=A ts)(r:A ts<=100000000)(e:∀(b:Nat)(f:b<A a)(h:b<A ts),Gc a[b]<|4000*ts[b].num):Gc (.mk a3 v d a)<|1+4000*L.aZ ts:=by
 have q:∀(a:cm)(ts:bu),A a=A ts->(∀(b:Nat)(f:b<A a)(h:b<A ts),Gc a[b]<|4000*ts[b].num)->O.dd a<=4000*L.aZ ts:=λa=>by
  induction a with
  |nil=>intro ts _ _;simp[O.dd]
  |cons j a p=>
   intro ts g e
   match ts,g with
   |t::ts,g=>
    have f:=(e 0 Zs Zs).n;have h:=p ts (Yq g) λb f h=>by have i:=e (b+1) (Yq f) (Yq h);simpa using i
    simp only[fA]at f;rw[O.dd,L.aZ];omega
 refine⟨?_,zs l,zs Zo,oO λj k=>?_⟩
 .rw[O.b7];have i:=q a ts g e;omega
 obtain⟨b,m,rfl⟩:=ec k;exact(e b m Zo).o
theorem Gc.one{v:Int}{d:IL}{b:Nat}(e:A d<=100000000)(a:Gc n5 b):Gc (.mk a3 v d [n5])<|b+1:=by
 refine⟨?_,zs e,zs Zs,a.o,trivial⟩;have:=a.n;simp only[O.b7,O.dd];omega
theorem Gc.two{v:Int}{b a:Nat}(d:Gc n5 b)(e:Gc wp a):Gc (.mk a3 v [] [n5,wp])<|b+a+1:=by
 refine⟨?_,zs Zs,zs Zs,d.o,e.o,trivial⟩;have:=d.n;have:=e.n;simp only[O.b7,O.dd];omega
theorem Gc.var(a v:Int):Gc (.mk a v [] []) 1:=(Gc.Uu (ts:=[]) Zs C Zs Zs).le yt
def Gc.Ef{l:cm}:∀{a:O}{b:Nat},Gc a b->(∀d∈l,Gc d 2)->Gc (nc a l) (b+3*A l):=by
 induction l with
 |nil=>intro a b e _;exact e
 |cons d l h=>
  intro a b e f;refine(h (Gc.two e<|f d Zs) λi g=>f i<|Yr g).le ?_;rw[dC];omega
def Gc.BT{b:Nat}(a:Gc n5 b):∀n,Gc (nw n n5) (b+n)
 |0=>a
 |n+1=>Gc.one Zs<|Gc.BT a n
def Gc.lets{b:Nat}(d:Gc n5 b):∀a:IL,Gc (oF a n5) (b+2*A a)
 |[]=>d
 |i::a=>(Gc.two (Gc.var 1 i)<|Gc.lets d a).le (by rw[dC];omega)
def Jm(e:bu)(f:bq):A (bO e f)<=L.aZ e:=by
 have h:∀(b:bu)(a:aX),(b.foldl (λa d=>fN d [] a) a).length<=A a+L.aZ b:=λb=>by
  induction b with
  |nil=>intro a;simp[L.aZ]
  |cons d b g=>intro a;have i:=Bj d [] a;have j:=g (fN d [] a);rw[oj,L.aZ];omega
 refine gS (qi _ _)<|gS (h _ []) ?_;obtain _|⟨d,b⟩:=e
 .simp[L.aZ]
 simp[L.aZ]
def Fa(f:Nat):∀(a:List Bool)(d e:Nat),A (gk f a d e)<=A a
 |[],_,_=>by simp[gk]
 |b::a,d,e=>by
  have g:=Fa f a (d+1) (e+1);have h:=Fa f a (d+1) e;rw[gk];split<;>simp<;>omega
def Gc.arg:Gc (nf be it a3 gs) 2:=by
 have a:Gc (mO be it gs) 1:=by unfold mO;split<;>exact Gc.var _ _
 unfold nf;split
 .exact Gc.one Zs a
 exact a.le Zo
def Wj{V:aF}{ds:aO}:∀(k:L)(d:bq)(e:Int)(f:Nat),k.num<=1000->k.sz<=1048576->Gc (cV V ds k d e f).1 (4000*k.num)/\∀p∈(cV V ds k d e f).2,Gc p 10000000
 |.mk u v C k J a,d,e,f,P,G=>by
  rw[L.num]at P;have Z:L.fr a<=1048576:=by rw[L.sz]at G;omega
  have Y:A a<=1048576:=by rw[L.sz]at G;omega
  have o:∀(b:Nat)(g:b<A a)d e f,Gc (cV V ds a[b] d e f).1 (4000*a[b].num)/\∀p∈(cV V ds a[b] d e f).2,Gc p 10000000:=λb g d e f=>by
   have D:=L.jw<|aD g;have q:=L.gz<|aD g;exact Wj a[b] d e f Zo Zo
  have B:∀(b:Nat)(g:b<A a)d e f,(uD V ds a).getD b (λ_ _ _=>(eh 0,[])) d e f=cV V ds a[b] d e f:=λb g d e f=>by rw[zY,xX,fP,bL g];rfl
  have z:∀(b:Nat)(g:b<A a),∃t w x,j_ V ds u C k J a (L.pT a) (uD V ds a) d e f b=cV V ds a[b] t w x:=λb g=>by
   unfold j_;split
   .exact⟨_,_,_,B b g _ _ _⟩
   exact⟨_,_,_,B b g _ _ _⟩
  have F:A (uD V ds a)=A a:=by rw[zY,bE]
  have U:=Jm a d;rw[cV,tj];by_cases I:u=10
  .rw[aM I];by_cases j:0<A a
   .rw[B 0 j];refine⟨(o 0 j d e f).1.le ?_,(o 0 j d e f).2⟩;have y:=L.jw<|aD j;rw[L.num];omega
   rw[xX,sq Zo];exact⟨(Gc.var 1 0).le sH,Zs⟩
  rw[aC I];refine⟨?_,λp i=>?_⟩
  .rw[L.num];simp only;split
   .exact(by unfold mO;split<;>exact Gc.var _ _:Gc (mO ds d C) 1).le Zo
   split
   .have j:Gc (j_ V ds u C k J a (L.pT a) (uD V ds a) d e f 0).1<|4000*L.aZ a+1:=by
     by_cases j:0<A a
     .obtain⟨t,w,x,s⟩:=z 0 j;rw[s];have y:=L.jw<|aD j;exact(o 0 j _ _ _).1.le Zo
     unfold j_;have y:ig u 0=False:=by simp[ig]
     rw[aC<|(Yy y) id,xX,sq Zo];exact(Gc.var 1 0).le Zo
    refine(Gc.Ef (Gc.one ch j) λS K=>by obtain⟨an,-,rfl⟩:=aP.1 K;exact Gc.arg).le ?_;rw[bE];omega
   refine(Gc.Uu (ts:=a) Zs (Yr F) Zo λb D q=>?_).le Zo;obtain⟨t,w,x,s⟩:=z b q;rw[fk,Ao,s];exact(o b q _ _ _).1
  obtain⟨r,R,i⟩:=eL.1 i;obtain⟨b,m,rfl⟩:=aP.1 R;have m:b<A a:=by simpa[F]using m
  obtain⟨t,w,x,s⟩:=z b m;rw[s]at i;obtain i|i:=ca.1 i
  .split at i
   .simp only[dg]at i;subst i;unfold q';have D:=L.jw<|aD m;have q:=L.gz<|aD m;have aa:A ((bO a d).filterMap<|cZ d)<=1000:=Yo<|length_filterMap_le (cZ d)<|bO a d;have M:=Fa (A<|(bO a d).filterMap<|cZ d) (((bO a d).filterMap<|cZ d).map λv=>ah<|v.l=e+1) 0 0;rw[bE]at M;have X:A (((a[b]?).map<|fM V).getD [])<=1048576:=by
     rw[bL m];simp only[eE,kx];rcases O:a[b]with⟨ab,am,ae,al,ak,ad⟩
     rw[O,L.sz]at q;simp only[fM,dA];split
     .rw[bE,C'];omega
     simp
    exact(((o b m _ _ _).1.lets _).BT _).le Zo
   cases i
  exact(o b m _ _ _).2 p i
termination_by k=>SizeOf.sizeOf k
decreasing_by have y:=fl (aD g);simp;omega
def kW.La(t:pU g3 g5)(m:∀g,er g3 (qV [] 1 g) g5 a9 (E 0) λF=>∃r,(∀h v,Rd h (F.env 0) v->Rd h r v)/\Cl r/\ajc g r):kW g3 g5 a9 ajc:=by
 refine⟨t,λf k G q x y=>?_⟩;have a:=@ba.start f k [] [] [] 1 Q C q C Zs Zs Zs Zs;have a:ba _ _ _ (qV [] 1 f.heap.size) _ f:=⟨a.defers,a.size,a.env,a.obj,a.base,a.inj,a.below,a.m0,a.mm,a.zm,a.tree,a.nd,a.og,λb e=>by
  obtain e|⟨l,w,_⟩:=e
  .exact e
  cases w⟩
 refine((m f.heap.size) _ _ _ _ f (ej []) a G x λA d v u z=>(y A d v u z).mono (oU λb=>by rintro(e|⟨_,e,_⟩);exact e;cases e)).2.mono ?_;rintro l R⟨v,d,I,M,K,L,J,rfl,e,s,r,o,i,p⟩;exact⟨v,r,C,tQ e.below Zs,(o _ v (by simpa[St.put,aw,qV]using s)).closed (λb O P j=>⟨fD (eW j) (λB=>(dQ j).1<|(e.mm b).2<|aG B) Zs,ku⟩) i,i,p⟩
def abP(a:bZ)(b:a.c.b7<=1000000000)(e:a.c.ok):az 77 [.ag<|bo a]<|B<|!a.c.valid:=by
 have f:=WG a.c b e;obtain⟨⟨g,v,d,i⟩,ty⟩:=a;refine(cR) ?_;simp only[bo,O.ds,bg,aY]at f⊢;refine(ZC) ?_;exact .cl _<|bc _
def Xu(l:List bZ)(z:A l<=aE)(u:∀a∈l,a.c.b7<=1000000000/\a.c.ok):az 76 [.sl 5<|l.map bo,.fn 77 [] []]<|B (l.any λa=>!a.c.valid):=by
 have w:A (l.map bo)=A l:=bE _;have y:az 130 [.sl 5<|l.map bo,.fn 77 [] []]<|I<|fT (λa=>!a.c.valid) l:=by
  unfold aE at z;refine(lj w)<|lp 8 (A l) [0,1,7] (λb _ _ _ _=>(Y b l).any (λa=>!a.c.valid)=af) Zs ?_;rintro b K F P _ _ M hp;refine ZL (λe=>?_) λt=>?_
  .have f:(l.map bo)[b]?=E (bo l[b]):=by simp[e]
   have m:=u _<|aD e;have i:=abP l[b] m.1 m.2;have g:=o6 (p:=λa:bZ=>!a.c.valid) e;rw[hp,uI]at g;have j:=λd=>n3 (p:=λa:bZ=>!a.c.valid) e hp d;rcases D:l[b]with⟨⟨o,q,r,s⟩,G⟩
   rw[D]at f i g j;simp only[bo,O.ds,bg,aY]at f i;refine(bQ f) ?_;cases d:(!(O.mk o q r s).valid)
   .exact(ZN)<|dI<|g.trans d
   exact(ZN)<|Fz.di (j d).symm
  have vA:b=A l:=Zo;exact(ad t)<|Fz.di<|HY
 refine(dH) ?_;exact hW y (.c (Cl.jd<|qc l)<|.c (Cl.ue Zs Zs) .n)<|(ZN)<|Fz.aK<|zj l
def Ss:∀(x:Nd)(a:Nat),List.Sublist ((x.gj a).map λr=>r.1.id) x.ids:=λx a=>by
 have h:∀d∈x.ks,∀a,List.Sublist ((d.gj a).map λr=>r.1.id) d.ids:=λd g a=>Ss d a;have j:∀b,b<=A x.ks->List.Sublist ((ls x a b).map λr=>r.1.id) (ao<|(Y b x.ks).map Nd.ids):=λb=>by
  induction b with
  |zero=>intro _;rw[E5];exact nil_sublist _
  |succ b i=>
   intro k;rw[Be Zo,bX,dm Zo,bX,eR];exact(i Zo).append<|Yq<|h _ (aD _) _
 have e:=j _<|bJ _;rw[cc]at e;rw[rJ,bX,Nd.mL];have f:List.Sublist ((ls x a<|A x.ks).map λr=>r.1.id)<|x.bs.map Bi.id++ao (x.ks.map Nd.ids):=e.trans<|sublist_append_right _ _;split
 .exact f.cons_cons _
 exact f.cons _
termination_by x=>SizeOf.sizeOf x
decreasing_by exact Nd.lt g
def Qy:∀(l:eg)(a:Nat),List.Sublist ((jT l a).map λr=>r.1.id) (ao<|l.map Nd.ids)
 |[],a=>nil_sublist _
 |x::l,a=>by rw[jT,bX,b4,dT];exact(Ss x a).append<|Qy l _
def Sq:∀(b:Nd)(d:Nat),∀e∈b.gj d,A e.2<=b.num:=λb d e a=>by
 have l:∀g∈b.ks,∀d,∀e∈g.gj d,A e.2<=g.num:=λg j d=>Sq g d;rw[rJ]at a;have h:=@Nd.oL b;obtain a|a:=ca.1 a
 .split at a
  .simp only[dg]at a;subst a;simp;omega
  cases a
 unfold ls at a;obtain⟨r,i,a⟩:=eL.1 a;obtain⟨k,f,rfl⟩:=aP.1 i;have f:k<A b.ks:=Yq f;rw[bL f]at a;have m:=l _ (aD f) _ e<|Yq a;have o:=h.2.2 _<|aD f;omega
termination_by b=>SizeOf.sizeOf b
decreasing_by exact Nd.lt j
section
def fO(V:aF)(ds:aO):Int:=if gU V ds≠0 then gU V ds else if 24<A (cJ V ds)then 4 else if(cJ V ds).all O.valid then 0 else 4
abbrev Hu(V:aF)(ds:aO)(r:D):Prop:=∃a:List bZ,r=.tp [.any,.sl 5<|a.map bo,I<|fO V ds]/\a.map bZ.c=if fO V ds=0 then cJ V ds else[]
attribute [local semireducible] St.put
def adS{a:aO}{k:eg}(l:gU a5 a=0)(q:(bH.mk a5 a).ok)(o:jp a5 a (a.map aa.bd) [] 0 am (A a) k):∀b(i:b<A (a.map aa.bd))(j:b<A k),Mn a5 a (a.map aa.bd)[b] k[b]:=λb i j=>by
 have h:=p' (p0<|sV<|vj l) q;have f:=o.qM b i j;have g:=aD<|Yq i;have m:=h.bd _ g;have e:=vj l;rw[fk]at f⊢;refine⟨m.2.1,⟨h.sh g,f,⟨?_,rq,rq⟩,?_,Zs⟩,Te h.pg _ f m.1 Zs,Zo,h.num g f⟩
 .have⟨d,t,s,p⟩:=o.mem<|aD j;exact p
 rw[jk,aC<|Yx<|sV e]at e;split at e
 .rename_i r;exact r _ g
 cases e
attribute [local irreducible] St.put
attribute [local semireducible] St.put
def Qv:∀(a:eg)(d b:Nat)(g:b<A a),∀e∈(a[b]).gj (d+A (gu<|Y b a)),e∈jT a d
 |x::a,d,0,g,e,f=>by rw[jT];exact gf _ (by simpa[gu]using f)
 |x::a,d,b+1,g,e,f=>by
  rw[jT];refine gq _<|Qv a (d+x.bf) b (Yq g) e ?_;have h:A (gu<|Y (b+1) (x::a))=x.bf+A (gu<|Y b a):=by rw[tN,tN,jz,b4,kS]
  rw[h,<-jA]at f;simpa using f
attribute [local irreducible] St.put
attribute [local semireducible] St.put
def Qu:∀(b:eg)(e:Nat),∀d∈jT b e,∃f∈b,∃i,d∈f.gj i
 |x::b,e,d,a=>by
  rw[jT]at a;obtain a|a:=ca.1 a
  .exact⟨x,Zs,e,a⟩
  have⟨f,h,g⟩:=Qu b _ d a;exact⟨f,Yr h,g⟩
attribute [local irreducible] St.put
attribute [local semireducible] St.put
def Vj{R:g2->g2->Prop}{a b:g2}:∀{g:List g2},g.Pairwise R->a∈g->b∈g->a=b\/R a b\/R b a
 |x::g,d,e,f=>by
  have d:=Db.1 d;obtain h|e:=cF.1 e<;>obtain i|f:=cF.1 f
  .exact aG<|h.trans i.symm
  .exact aj<|aG (h▸d.1 b f)
  .exact aj<|aj (i▸d.1 a e)
  exact Vj d.2 e f
attribute [local irreducible] St.put
attribute [local semireducible] St.put
def I4{V:aF}{ds:aO}(t:∀d∈ds,(aa.bd d).num<=160)(w:(bH.mk V ds).sz<=1048576):∀e∈cJ V ds,Gc e 10000000:=by
 have z:∀(g:bu)(i:Nat),∀r∈iq V ds g i,∃j∈g,∃l,r=cV V ds j [] 0 l:=λg=>by
  induction g with
  |nil=>intro i r h;cases h
  |cons j g y=>
   intro i r h;obtain rfl|h:=cF.1 h
   .exact⟨j,Zs,i,C⟩
   have⟨A,m,k⟩:=y _ r h;exact⟨A,Yr m,k⟩
 have p r (f:r∈iq V ds (ds.map aa.bd) 0):Gc r.1 10000000/\∀e∈r.2,Gc e 10000000:=by
  obtain⟨j,x,l,rfl⟩:=z _ _ r f;obtain⟨d,o,rfl⟩:=aP.1 x;have m:=t d o;have k:(aa.bd d).sz<=1048576:=by
   have s:=aa.gz o;simp only[bH.sz]at w;have⟨B,b,e⟩:=d;simp only[aa.sz,aa.bd]at s⊢;omega
  have q:=Wj (V:=V) (ds:=ds) (aa.bd d) [] 0 l Zo k;exact⟨q.1.le Zo,q.2⟩
 intro e a;obtain a|a:=ca.1 a
 .obtain⟨r,f,rfl⟩:=aP.1 a;exact(p r f).1
 have⟨D,u,a⟩:=eL.1 a;obtain⟨r,f,rfl⟩:=aP.1 u;exact(p r f).2 e a
attribute [local irreducible] St.put
attribute [local semireducible] St.put
def lifted{i:aF}{g:aO}(bt:(bH.mk i g).sz<=1048576)(aX:(bH.mk i g).ok):kW aB 40 [.ag [ae.sl i,aa.sl g]] λ_=>Hu i g:=by
 have b2:Cl<|.ag [ae.sl i,aa.sl g]:=Cl.bC da;have a5:cE aB 107=E (114,5,88):=Zk;have a6 (d0 d1:D) (e:List bZ) (t:Int) (aV:gi d1<|.sl 5<|e.map bo) (h1:t=fO i g) (p:(e.map bZ.c=if fO i g=0 then cJ i g else[])):∃r,(∀am v,Rd am (.tp [d0,d1,I t]) v->Rd am r v)/\Cl r/\Hu i g r:=by
  refine⟨.tp [.any,.sl 5<|e.map bo,I t],λam v k=>?_,Cl.jf<|hD.all<|.c .any<|.c (Cl.jd<|qc e)<|.c (bc _) .n,e,Yw h1,p⟩;cases k with
  |tp _ cu ca bv=>
   refine .tp _ cu (Yq ca) λap d v q bw=>?_
   match ap,q with
   |0,q=>cases q;exact .any v
   |1,q=>cases q;exact aV _ _ (bv 1 _ v C bw)
   |2,q=>cases q;exact bv 2 _ v C bw
 have aK (t:Int) (h1:t=fO i g) (p:t≠0):∃r,(∀am v,Rd am (.tp [.sc<|.pointer Q,bp,I t]) v->Rd am r v)/\Cl r/\Hu i g r:=a6 _ _ [] t gi.nil h1<|Yf<|aC (h1▸p);have bk:=λ{s:St}{dst:ON}{K:aU}=>ad2 bt aX (s:=s) (dst:=dst) (K:=K);refine kW.La ⟨_,func40,C,C⟩ λbK=>?_;have bW:ae.sl i=.sl 2 (ae.ab i):=C;have bY:aa.sl g=.sl 12 (aa.ab g):=C;rw[bW,bY]at b2 bk⊢;refine sQ [1000041,1000056,1000058] [.tmp 2,.tmp 3,.tmp 4] C C Zk Zt C Zs ?_;simp only[go_sem];refine aj<|aj (bk (λy ck=>?_) λy aD ck b cz aQ bQ a7 ay an aT=>?_)
 .have cB:(gU i g==0)=af:=by simpa using y
  simp only[go_sem];refine fx (λk=>?_) λk=>?_
  .simp only[go_sem];exact aK _ (by rw[fO,aM y]) y
  exfalso;simp at k;exact y k
 have X:=p' (p0<|sV<|vj y) aX;have bl:=adS y aX ay;have bn:=ay.len;have⟨aH,bN,aI,bO⟩:=QR X.pg (g.map aa.bd) b 0 (Yq bn) bl;have bb:A (cJ i g)=A b+A (gu b):=by unfold cJ;rw[b9,bE,aH,aI]
 have b0:=aT;obtain⟨⟨cH,cK,cI,aq,a8,bz,bs,-⟩,-,-⟩:=b0;have cD:=X.pg.len;have aW u (B:u∈b):u.num<=640:=by obtain⟨d,q,h1,p⟩:=ay.mem B;exact X.num q h1
 have be (az:eg):(∀u∈az,u∈b)->A (gu az)<=A az*640:=by
  induction az with
  |nil=>intro _;simp[gu]
  |cons t cA cg=>
   intro k;have h1:=aW t (k t Zs);have p:=AZ t;have aR:=cg λu B=>k u<|Yr B;rw[tN]at aR⊢;rw[b4,kS,dC];omega
 have cC:=be b λu B=>B;simp only[a8,go_sem];apply Gk (d:=I<|A aq) (by obtain⟨k,rfl⟩|⟨a,bP,-,rfl,-⟩:=bz<;>first|(rw[k];rfl)|rfl);have cv:cb.wrap ((A b:Int)+(A aq:Int))=((A b+A (gu b):Nat):Int):=by rw[bs,dE _ Zo];omega
 simp only[cv,go_sem];refine fx (λR=>?_) λR=>?_
 .have R:24<A (cJ i g):=by rw[bb];simp at R;omega
  simp only[go_sem];exact aK 4 (by rw[fO,aC<|Yq y,aM R]) Zd
 have R:¬24<A (cJ i g):=by rw[bb];simp at R;omega
 have⟨ar,ci,bB,bu,b_⟩:=ady aT;have a9:LS i g ar aD aQ bQ (gu b) a7:=⟨aT,ci,bB,bu,b_,by
  have l:=Qy b 0;rw[<-an,eu]at l;exact l.nodup (by have l:=ay.nodup;simpa[jb]using l)⟩
 have bg:A i<=1000:=Yo X.pg.vd.1;have bf d (q:d∈i):A (ae.cs d)<=1000:=by
  obtain⟨ap,b',rfl⟩:=ec q;have h1:=(X.pg.vd.2 ap b').1;simp only[wV,cy,ee]at h1;omega
 have bq a (m:a∈ar):a=19\/a=21\/a=126\/a=137\/a=147:=by have l:=bu a m;simpa using l
 simp only[go_sem];refine fG 32 (A b) (λj=>mx 62 bK [] [(5,.rf 21 aQ 0),(30,.sl 1<|au Nd.d b),(31,I<|A b)] λenv Z=>(∀a∈ar,Z a=aD a)/\∃e:List bZ,aL [41] Z 114 5 (e.map bo) (env 8)/\e.map bZ.c=Y j ((iq i g (g.map aa.bd) 0).map Prod.fst)) C
  ⟨C,C,C,bU,λa m=>C,[],aG ⟨C,bU⟩,C⟩ ?_
 rintro j env Z cm bM a3 ce⟨rfl,rfl,ak,e,al,z⟩;obtain⟨ct,ah⟩:=Zx<|env 8;rw[ah]at al;have a1:A e=min j (A b):=by have l:=eo A z;rw[bE,ij,bE,aH]at l;exact l
 simp only[go_sem];refine cL (λV=>?_) λk=>?_
 .simp only[ah,jx (f:=Nd.d) V,go_sem];have U:=bl j (by simpa[bn]using V) V;have b1:=be (Y j b) λu B=>tv B;rw[ij]at b1;have aZ f (ax:f∈(b[j]).gj (A<|gu<|Y j b)):f∈a7.map Prod.snd:=(Yy an)<|Qv b 0 j V f (by rwa[ew]);refine aj<|aj (A4 ((L8 X.pg bg bf a9 _ (vars:=[]) (A<|gu<|Y j b) U.kd U.cx U.rl Zs U.w aZ (sm _) (Yo U.n1) (Yo U.n2) (by have l:=U.n2;simp;omega) (by have h1:=U.n2;have p:=AZ b[j];have aR:min j (A b)<=8:=Zo;have l:=wy 640 aR;omega)) _ _ _ (λa m=>ak a m) λco cr aY cf=>?_) C λap d a4 h1 p=>?_)
  .obtain⟨⟨⟨G,P,F,M⟩,ad⟩,rfl,a0⟩:=aY;have ba:=bN j V;rw[ew]at ba;simp only[bo,go_sem];refine GK.cM (eC.eS (S:=[41]) (aq:=e.map bo) (bD:=[bo ⟨.mk G P F M,ad⟩]) a5 ((Pa)<|al.aA bF) (qd _) (by simp[aw,dS,ai,bo,O.ds,bm]) Zs (Yq<|zU ⟨.mk G P F M,ad⟩) (by rw[bE,a1];show(min j (A b)+1)*88<=_;omega) (by rw[bE,a1];show min j (A b)+1<=aE;unfold aE;omega) λbJ cn cw a2 aS=>?_);simp only[go_sem];refine nM ⟨C,C,C,bU,λa m=>by have h1:=bq a m;exact(aS a Zo ch).trans (by simp only[a_ _ _ (show a≠40 by omega)];exact ak a m),e++[⟨.mk G P F M,ad⟩],by simpa[aw]using a2,?_⟩;rw[bX,z,take_add_one,fP,ba];have av:O.mk G P F M=kr i g b[j] [] (A<|gu<|Y j b):=a0.c;rw[<-av];rfl
  match ap,h1,p with
  |0,h1,p=>cases h1;cases p;exact gi.rfl
  |1,h1,p=>cases h1;cases p;exact gi.rfl
  |2,h1,p=>cases h1;cases p;exact gi.nil
 obtain rfl:j=A b:=Zo;rw[dj yr]at z;have bR:=(ak 21 bB).trans a8;simp only[bR,go_sem];apply Gk (d:=I<|A<|gu b) (by rw[<-bs];obtain⟨k,rfl⟩|⟨a,bP,-,rfl,-⟩:=bz<;>first|(rw[k];rfl)|rfl);simp only[go_sem];refine fG 48 (A<|gu b) (λj=>mx 62 a3 [] [(5,.rf 21 aQ 0),(47,I<|A<|gu b)] λenv Z=>(∀a∈ar,Z a=aD a)/\∃e:List bZ,aL [41,56] Z 114 5 (e.map bo) (env 8)/\e.map bZ.c=(iq i g (g.map aa.bd) 0).map Prod.fst++Y j (ao<|(iq i g (g.map aa.bd) 0).map Prod.snd)) C
  ⟨C,C,C,bU,λa m=>ak a m,e,by simpa[aw,ah]using al.sub Zs,Yq z⟩ ?_
 rintro j env Z cm bM a3 ce⟨rfl,rfl,ak,e,al,z⟩;obtain⟨ct,ah⟩:=Zx<|env 8;rw[ah]at al;have a1:A e<=24:=by have l:=eo A z;rw[bE,b9,bE,ij,aH,aI]at l;omega
 simp only[go_sem];refine cL (λV=>?_) λk=>?_
 .have⟨cq,cc,cF,bi,aZ,aV,cG,cd,bh⟩:=bO j _<|bL V;rw[ew]at bi bh aV;have bV:=branch X.pg bg bf a9 bi (Yo<|aW cq cc) (bL V) Zo (λf ax=>(Yy an)<|aZ f ax) (λaN ax=>?_) (λf b3 aN b6 bG bI=>?_) cd
  .simp only[ah,go_sem];refine aj<|aj (bV _ _ _ C (λa m=>ak a m) λco cr aY cf=>?_);obtain⟨⟨⟨G,P,F,M⟩,ad⟩,rfl,a0⟩:=aY;simp only[bo,go_sem];refine GK.cM (eC.eS (S:=[41,56]) (aq:=e.map bo) (bD:=[bo ⟨.mk G P F M,ad⟩]) a5 ((Pa)<|al.aA bF) (qd _) (by simp[aw,dS,ai,bo,O.ds,bm]) Zs (Yq<|zU ⟨.mk G P F M,ad⟩) (by rw[bE];show(A e+1)*88<=_;omega) (by rw[bE];show A e+1<=aE;unfold aE;omega) λbJ cn cw a2 aS=>?_);simp only[go_sem];refine nM ⟨C,C,C,bU,λa m=>by have h1:=bq a m;exact(aS a Zo ch).trans (by simp only[a_ _ _ (show a≠55 by omega)];exact ak a m),e++[⟨.mk G P F M,ad⟩],by simpa[aw]using a2.sub Zs,?_⟩;rw[bX,z,take_add_one,bh];simpa using a0.c
  .have⟨u,B,cj,h1⟩:=Qu b 0 aN.2 (by rw[<-an];exact aP.2 ⟨aN,ax,C⟩);have l:=Sq u cj _ h1;have l:=aW u B;omega
  have br:=(Qw b 0).2;rw[<-an,Aq]at br;obtain a4|h1|h1:=Vj br b3 b6
  .exact a4.symm
  .exact absurd bI<|h1 j bG
  exact absurd bG<|h1 j bI
 obtain rfl:j=A (gu b):=Zo;rw[dj<|Yv aI]at z;have bA:e.map bZ.c=cJ i g:=z;have b8 a (m:a∈e):a.c.b7<=1000000000/\a.c.ok:=by
  have l:=I4 (λd q=>(X.bd d q).2.2) bt a.c (by rw[<-bA];exact aP.2 ⟨a,m,C⟩);exact⟨Yo l.n,l.o⟩
 simp only[go_sem];apply GK.nY [41,56] 8 (.sl 5<|e.map bo) (by simp only[aw,bT,bj,ah,e7,eQ,reduceCtorEq];exact aL.fz (S:=[41,56]) (al.aA o4) Zd (qd _)<|qc _)<|Cl.jd<|qc e;simp only[go_sem];refine hW (Xu e jC b8) (.c (Cl.jd<|qc e)<|.c (Cl.ue Zs Zs) .n) ?_;have a':(e.any λa=>!a.c.valid)=!(cJ i g).all O.valid:=by rw[<-bA,List.all_map,<-B8,Bool.not_not];rfl
 simp only[go_sem];refine fx (λk=>?_) λk=>?_
 .rw[a']at k;simp only[go_sem];exact aK 4 (by rw[fO,aC<|Yq y,aC R,aC<|Yq k]) Zd
 rw[a']at k;have av:fO i g=0:=by rw[fO,aC<|Yq y,aC R,aM<|Yq k]
 simp only[go_sem];exact a6 _ _ e 0 gi.rfl av.symm (by rw[aM av,z];rfl)
attribute [local irreducible] St.put
end
def cY(e:bq):DL:=[bG<|e.map Ev.n,.sl 3<|J.ab<|e.map Ev.t,bm<|e.map Ev.l]
def gV(a:bq):∀d∈cY a,Cl d:=hD.all<|.c (mE _)<|.c (J.db _)<|.c (kY _) .n
def all_map(e:g2->D)(f:∀a,cO (e a)=W)(h:List g2):(h.map λa=>[e a]).flatten.all cO=W:=by
 rw[en];intro d b;obtain⟨r,g,b⟩:=eL.1 b;obtain⟨a,-,rfl⟩:=aP.1 g;simp at b;subst b;exact f a
def J.UX(e:dp):(J.ab e).flatten.all cO=W:=by
 rw[en];intro d a;obtain⟨r,b,a⟩:=eL.1 a;rw[J.cu]at b;obtain⟨f,-,rfl⟩:=aP.1 b;exact J.one f d a
def TY(d:g2->D)(a:List g2):A (ao (a.map λb=>[d b]))=A a:=by
 induction a with
 |nil=>rfl
 |cons b a e=>simp[e]
def agV(a:dp):A (ao<|J.ab a)=A a*3:=by rw[iY<|J.hQ a,J.b6]
def pq(e:bq)(n:BA)(j:J)(i:Int)(q:A e<=4000000):az 165 [.ag<|cY e,S n,.ag j.ds,I i]<|.ag<|cY<|e++[⟨n,j,i⟩]:=by
 have a:=TY S<|e.map Ev.n;have b:=agV<|e.map Ev.t;have d:=TY I<|e.map Ev.l;rw[bE]at a b d;have p:A (J.ab<|e.map Ev.t)=A e:=yv;obtain⟨s,w,u⟩:=j;generalize hr:D.ag (cY<|e++[⟨n,.mk s w u,i⟩])=r;refine(ki [] [.cell 8 198]) ?_;have g:∀h,h<=4000001->h<=aE:=λh y=>l3;have k:=all_map S (λ_=>C)<|e.map Ev.n;have m:=J.UX<|e.map Ev.t;have o:=all_map I (λ_=>C)<|e.map Ev.l;obtain _|⟨x,e⟩:=e
 .simp only[cY,eO,J.ab,go_sem];refine lq [0,1,2,4,5,7,8,9,11,12,14,15,16,18,19,3,6,10,13,17,20,21,22] [] [9,14,16,21,23,28] ?_;simp only[fX,aY,go_sem]
  iterate 3 (refine⟨⟨C,g _ Zo⟩,?_⟩)
  exact Oq
 obtain⟨G,⟨z,F,K⟩,B⟩:=x;simp only[cY,b4,J.ab,go_sem]at a b d p k m o⊢;refine lq [0,1,2,4,5,7,8,9,11,12,14,15,16,18,19,3,6,10,13,17,20,21,22] [] [9,14,16,21,23,28] ?_;simp only[k,m,o,a,b,d,h_,fX,aY,go_sem];rw[dC]at q
 iterate 3 (refine⟨⟨Zo,Zo,g _ Zo⟩,?_⟩;refine⟨⟨C,Zo,g _ Zo⟩,?_⟩)
 exact Oq
def Rv(a:IL)(i:A a<=100000000):gE aB 79 [bm a] 2 1<|au I a:=by
 obtain _|⟨b,a⟩:=a
 .refine gE.none HG λl m=>?_;refine gE.ey [] [.tmp 2] C C Zk Zt C Zs kl<|(ZN) ?_;exact⟨kT _,aj ⟨7,⟨0,2,1,[],Q⟩,C,C,C,C,⟨[],C⟩,C⟩⟩
 have g:=all_map I (λ_=>C) (b::a);simp only[dC]at i;have j:=fg I (b::a);have f:=db.1<|kY (b::a);simp only[au,b4,dC]at g j f⊢;refine gE.ey [] [.tmp 2] C C Zk Zt C Zs ?_ ?_
 .intro d e;obtain⟨r,k,e⟩:=eL.1 e;exact f r k d e
 refine(ad g) ?_;exact⟨⟨Zo,l3⟩,aj ⟨7,⟨0,2,1,_,Q⟩,Zs,C,C,C,⟨[],Zs⟩,C⟩⟩
def Ru(a:IL)(b:A a<=100000000):az 79 [bm a]<|bm a:=(Rv a b).sp<|ha _
def SH{a v:Int}{d:IL}(b:(O.mk a v d v1).bh=W):mb (.mk a v d v1)=W/\A d<=4/\A v1<=3/\∀k∈v1,k.bh=W:=by
 rw[O.bh,cy,O.i1,en]at b;have l:=b.1;simp only[mb,cy,bY,ee]at l;have m:(j' a).2.1<=3/\(j' a).2.2.2<=4:=by
  unfold j';by_cases e:a=1\/a=2\/a=11
  .rw[aM e];decide
  rw[aC e];by_cases f:a=3\/a=5\/a=7
  .rw[aM f];decide
  rw[aC f];by_cases g:a=4\/a=6
  .rw[aM g];decide
  rw[aC g];by_cases h:a=8
  .rw[aM h];decide
  rw[aC h];by_cases i:a=9
  .rw[aM i];decide
  rw[aC i];by_cases j:a=10
  .rw[aM j];decide
  rw[aC j];decide
 exact⟨b.1,Zo,Zo,b.2⟩
def Fz.Xq{b:Int}{d a e:D}(f:Fz fd eq a)(g:Fz fd d e):Fz fd (.ag [I a3,I b,eq,d])<|.ag [I a3,I b,a,e]:=Fz.oy<|.c (.cl _<|bc _)<|.c (.cl _<|bc _)<|.c f<|.c g .n
def RQ(e:O)(X:e.bh=W):az 41 [.ag e.ds]<|.ag e.ds:=by
 have ah:∀f:O,SizeOf.sizeOf f<SizeOf.sizeOf e->f.bh=W->az 41 [.ag f.ds] (.ag f.ds):=λf hx m=>RQ f m;obtain⟨ak,v,d,a⟩:=e;obtain⟨-,ap,ar,Z⟩:=SH X;refine(ia [] [.cell 2 112])<|dP [] [12]<|(ZN)<|l6 (bm d) (Ru d Zo) da<|(ad<|O.b6 a)<|lp 17 (A a) [2,3,15,16] (λq U i al G=>(∃g,i 2=E ⟨0,112,4,g,Q⟩/\A g=4)/\∃f,i 3=E ⟨0,112,4,[I ak,I v,bm d,f],Q⟩/\aL [26] i 112 4 (O.ab<|Y q a) f) ⟨⟨_,l4,C⟩,_,by simp[ai,bm],aG ⟨C,C⟩⟩ ?_;rintro q U i al G an au⟨⟨g,r,w⟩,f,o,hx⟩;refine ZL (λbw=>?_) λm=>?_
 .have l:=O.bV a q bw;have z:=aD bw;have F:=ah a[q] (by have:=fl z;simp;omega)<|Z _ z;have y:=O.cl a[q];have p:O.ab (Y (q+1) a)=O.ab (Y q a)++[a[q].ds]:=OW;have vB:A (O.ab<|Y q a)=q:=DO;have B:=O.one a[q];rcases V:a[q]with⟨M,R,K,P⟩
  rw[V]at l F y p B;simp only[O.ds]at l F y p B;refine(ad l)<|dP [3,5] []<|(bQ<|JJ o @jt)<|js (S:=[26]) (aq:=O.ab<|Y q a) (bD:=[[I M,I R,bm K,.sl 4<|O.ab P]]) Zs Zk yz (O.hQ _) DF Zs C (by rw[vB];show(q+1)*64<=_;omega) D2 (by show 26<30;decide) λam av ax D u=>?_;obtain⟨ao,rfl,-⟩:=eG D Zs;have t:=u 3 Zd Zd;have s:=u 2 Zd Zd;simp only[a_,dG,bj,dv,r,o]at t s;refine(ad t) ?_;refine dI ⟨⟨g,Yu s,w⟩,_,my,?_⟩;rw[p];exact aL.aA D bF
 obtain rfl:q=A a:=Zo;rw[cc]at hx;obtain⟨ay,aB,aC,aF,rfl⟩:∃j b e d,g=[j,b,e,d]:=by
  match g,w with
  |[j,b,e,d],_=>exact⟨j,b,e,d,C⟩
 simp only[m,r,o,go_sem];refine⟨n9 hx,Fz.Xq (.cl _<|kY d)<|(aL.fz (hx.aA bF) Zd (O.hQ _)<|O.dl _)⟩
termination_by SizeOf.sizeOf e
decreasing_by exact hx
def Ep(a:fO a5 be=0):A (cJ a5 be)<=24/\∀b∈cJ a5 be,b.valid=W:=by
 unfold fO at a;split at a
 .rename_i d;exact absurd a d
 split at a
 .cases a
 split at a
 .rename_i f e;exact⟨Zo,Yq e⟩
 cases a
def WI(a:n5.valid=W):n5.bh=W:=by simp only[O.valid,cy]at a;exact a.1
def adm{a:aF}{b:aO}(ax:(bH.mk a b).sz<=1048576)(av:(bH.mk a b).ok):az 21 [.ag [ae.sl a,aa.sl b]]<|.tp [.ag [O.sl (if fO a b=0 then cJ a b else[])],I<|fO a b]:=by
 have D:=lifted ax av;have F:Cl<|.ag [ae.sl a,aa.sl b]:=Cl.bC da;have al:ae.sl a=.sl 2 (ae.ab a):=C;have am:aa.sl b=.sl 12 (aa.ab b):=C;obtain⟨B,m⟩:∃B,(if fO a b=0 then cJ a b else[])=B:=⟨_,C⟩;have ak:A B<=24/\∀i∈B,i.bh=W:=by
  rw[<-m];split
  .rename_i q;have K:=Ep q;exact⟨K.1,λi ao=>WI<|K.2 i ao⟩
  simp
 rw[m];rw[al,am]at F D⊢;refine(ia [] [.cell 2 53,.tmp 3])<|u' [] D (.c (.cl _ F) .n) ?_;rintro aH r⟨d,rfl,g⟩aM-;rw[m]at g;have ar:A (d.map bo)=A B:=by rw[bE,<-g,bE]
 refine(ad<|JJ @oM ar)<|lp 18 (A B) [2,7,16,17,6] (λq X e ay M=>(∃u,e 2=E ⟨0,53,1,[u],Q⟩)/\∃t,e 7=E ⟨0,53,1,[t],Q⟩/\aL [28] e 112 4 (O.ab<|Y q B) t) ⟨⟨_,l4⟩,_,ep,aG ⟨C,C⟩⟩ ?_;rintro q X e ay M aC aN⟨⟨u,w⟩,t,l,hx⟩;refine ZL (λbw=>?_) λZ=>?_
 .have au:q<A d:=by rw[<-g,bE]at bw;exact bw
  have an:B[q]=d[q].c:=by subst g;simp
  have j:(d.map bo)[q]?=E (bo d[q]):=Yr au;have p:=RQ B[q]<|ak.2 _<|aD bw;have s:=O.cl B[q];have f:O.ab (Y (q+1) B)=O.ab (Y q B)++[B[q].ds]:=OW;have vB:A (O.ab<|Y q B)=q:=DO;rw[an]at p s f;rcases ap:d[q]with⟨⟨R,V,P,U⟩,aI⟩
  rw[ap]at j p s f;simp only[bo,O.ds,bg,aY]at j p s f;refine(ad j)<|dP [7,9] []<|(bQ<|JJ l @jt)<|js (S:=[28]) (aq:=O.ab<|Y q B) (bD:=[[I R,I V,bm P,.sl 4<|O.ab U]]) Zs Zk yz (O.hQ _) DF Zs C (by rw[vB];show(q+1)*64<=_;omega) D2 (by show 28<33;decide) λaB aP aQ G o=>?_;obtain⟨aK,rfl,-⟩:=eG G Zs;have z:=o 7 Zd Zd;have y:=o 2 Zd Zd;have ah:=o 9 Zd Zd;simp only[a_,bN,dG,bj,dv,w,l]at z y ah;refine(ad z) ?_;refine dI ⟨⟨u,Yu y⟩,_,my,?_⟩;rw[f];exact aL.aA G bF
 obtain rfl:q=A B:=Zo;rw[cc]at hx;simp only[Z,w,l,go_sem];refine⟨n9 hx,Fz.lT (Fz.oy<|.c (aL.fz (hx.aA bF) Zd (O.hQ _)<|O.dl _) .n)<|.cl _<|bc _⟩
def BS.snoc{ty u q:Nat}{H':a'}{a:List Ag}(j:BS ty u q a9 fd a)(V:A a+1<=100000000)(O:∀f(j:f<A a),fd (2000+f)=E ⟨g8 f,177,2,ao<|b3 a[f].p,Q⟩){k l v:Int}{d:IL}{m gA gp:Nat}
 (w:H' 1000=E ⟨q,ty,u,.ms 1001 gA (A a+1)::a9,Q⟩) (x:H' 1001=E ⟨gA,125,5,ao (eM g8 a)++[I k,I l,I v,bm d,.ms (2000+A a) gp m],Q⟩)
 (y:H' (2000+A a)=E ⟨gp,177,2,ao<|fu m [I 0,I 0],Q⟩) (z:∀e∈BL,e≠1000->e≠1001->e≠2000+A a->H' e=fd e):BS ty u q a9 H'<|dV a k l v d m:=by
 have s:∀{e:Nat},1000<=e->e<1000000000->e∈BL:=λM b=>i6.2 ⟨M,b⟩;have P:A (dV a k l v d m)=A a+1:=na ..;obtain⟨i,t⟩:∃i:Nat->Nat,i=λf=>if f=A a then gp else g8 f:=⟨_,C⟩
 have o:eM i (dV a k l v d m)=eM g8 a++[[I k,I l,I v,bm d,.ms (2000+A a) gp m]]:=by
  rw[dV,Qq,t];congr 1
  .exact IU C λf j _=>by rw[aC Zo]
  simp[kX]
 refine⟨⟨_,i,w,aj ⟨1001,gA,Zs,by rw[lJ,P],by rw[o];simpa using x⟩,λf U=>?_⟩,λe D S h=>?_,Zo⟩
 .by_cases F:f=A a
  .subst F;rw[y,t];simp[dV,b3]
  have B:f<A a:=Zo;rw[z _ (s Zo Zo) Zo Zo Zo,O f B,t];simp[dV,F,tt B]
 by_cases G:e=1000
 .subst G;rw[w]at h;cases h;obtain⟨X,_,R,_⟩:=j.ob;intro d g;obtain rfl|g:=cF.1 g
  .exact .ms _ _<|s Zo Zo
  exact j.bB 1000 (s Zo Zo) _ R d<|mo _ g
 by_cases J:e=1001
 .subst J;rw[x]at h;cases h;have L:=Xs i (dV a k l v d m) Zo;rw[o]at L;simpa using L
 by_cases K:e=2000+A a
 .subst K;rw[y]at h;cases h;exact S5 λd g=>by
   obtain⟨r,o,g⟩:=eL.1 g;obtain⟨-,rfl⟩:=MP.1 o;simp only[cF,dt,gD]at g;obtain rfl|rfl:=g<;>exact bc _
 exact j.bB e D S<|(z e D G J K).symm.trans h
theorem Qj{ty q g:Nat}{p:DL}{n:List Ag}{k l v:Int}{d:IL}{m:Nat}{b:St}(an:BS ty q g p b.H n)(ax:A n+1<=100000000)(aK:A d<=1000)(aM:0<m/\m<=1000)
 (av:∀H aD,BS ty q g p H (dV n k l v d m)->Fr H b.H->c2 ({b with H:=H,n:=aD}.put g7<|I<|A n)):er aB b 149 [.rf 1000 g 0,I k,I l,I v,bm d,I m] g7 c2:=by
 refine nj [1000038] [.tmp 12] C C Zk Zt C Zs λY au=>?_;have M:=an.aA au;obtain⟨aR,f,G,ap,ar⟩:=M.ob;have R:=Ru d Zo;simp only[bm]at R;refine(ZN)<|dP [1000] [23,27]<|(ad G)<|A3 R<|(ad @jt) ?_;refine⟨⟨Zo,Zo⟩,js (S:=[1001]) (aq:=eM f n) (bD:=[[I k,I l,I v,bm d,.ms 25 (b.n 25) m]]) Zs Zk (by simp only[aw,bx,bT,bj];exact ap.aA bF) (u3 _ _) (by simp[aw,dS,bm]) Zs C (by rw[lJ];show(A n+1)*72<=_;omega) OB sG ?_⟩;intro y aN aQ aC t;obtain⟨F,rfl,K⟩:=eG aC Zs;have V:=t 1000 Zd Zd;have X:=t 25 Zd Zd;simp only[a_,bN,dG,bj,dv,G]at V X;simp only[V,b9,lJ,go_sem];have az:cb.wrap (((A n+1:Nat):Int)-1)=(A n:Int):=DE;have aL:A (ao<|eM f n)=A n*5:=by rw[iY<|u3 f n,lJ]
 simp only[eR,dT,fX,de]at K;obtain⟨i,u⟩:∃i,ai y 1000 (E ⟨g,ty,q,.ms 28 F (A n+1)::p,Q⟩)=i:=⟨_,C⟩;rw[u];have aF:i 1000=E ⟨g,ty,q,.ms 28 F (A n+1)::p,Q⟩:=by rw[<-u,bN]
 have w:∀a,a≠1000->i a=y a:=λa U=>by rw[<-u,a_ _ _ U]
 refine GK.qQ 28 1001 1000 0 (A n+1) ((w 28 Zd).trans K) aF Zd Zd C λaH aO am Z ab B=>GK.qQ 25 (2000+A n) 1001 (A n*5+4) m ((B 25 Zd Zd Zd).trans<|(w 25 Zd).trans X) Z Zd Zo (by(grind [List.getElem?_append_right,Nat.add_sub_cancel_left])) λz aP s ah ak D=>GK.cM ?_;have ay:(ao (eM f n)++[I k,I l,I v,bm d,.ms 25 (b.n 25) m]).set (A n*5+4) (.ms (2000+A n) s m)=ao (eM f n)++[I k,I l,I v,bm d,.ms (2000+A n) s m]:=by
  grind [List.set_append_right,Nat.add_sub_cancel_left]
 have aS:∀a,a≠25->a≠28->a≠1000->a≠1001->a≠2000+A n->z a=Y a:=λa e j o r al=>
  (D a e al r).trans ((B a j r o).trans<|(w a o).trans<|(t a j<|Yq r).trans<|(a_ _ _ e).trans<|a_ _ _ e)
 have P:=M.snoc ax (k:=k) (l:=l) (v:=v) (d:=d) (m:=m) (H':=z) (gp:=s) (gA:=am) ar ((D 1000 Zd Zo Zd).trans ab) (by rw[ak,ay]) ah λa U e j o=>by
  grind [i6]
 refine(ad az) ?_;refine⟨C,.sc _,P.bB,λaI d1 d2=>av _ _ (P.aA d1) λa e j o=>?_⟩
 grind [BL,i6]
abbrev Z(l:IL):cB:=l.map λi=>[I i]
theorem ox(a:IL):ao (Z a)=a.map I:=by
 induction a with
 |nil=>rfl
 |cons d a b=>simp only[Z,b4,dT]at b⊢;rw[b];rfl
def iI(a:IL):∀r∈Z a,A r=1:=Zs
theorem nW(b:IL):∀d∈ao (Z b),Cl d:=by
 rw[ox];intro d a;obtain⟨e,-,rfl⟩:=aP.1 a;exact bc _
def tM(a:IL):∀r∈Z a,∀d∈r,Cl d:=λr e d b=>nW a d<|eL.2 ⟨r,e,b⟩
theorem nq(a:IL):Cl<|.sl 1<|Z a:=Cl.jd<|tM a
def yE(b:IL)(a:Nat)(d:a<A b):(Z b)[a]?=E [I b[a]]:=by simp[Z,d]
def fm(a:IL):A (Z a)=A a:=Zs
attribute [go_sem,simp] fm
def o5(a b:IL):Z (a++b)=Z a++Z b:=Zs
def acp(a:IL)(i:A a<=1000000):az 111 [.sl 1<|Z a]<|.sl 1<|Z a:=by
 have d:cE aB 110=E (2,1,8):=Zk;refine(ia [1000005] [.tmp 2])<|GK.u5 (S:=[3]) (aq:=[]) (bD:=Z a) Zd d (by simp only[aw,bx,bT,bj];exact aj ⟨3,0,Zs,C,ep⟩) Zs qu (λe=>Ye e) nT (by rw[fm];simp;omega) (by rw[fm];unfold aE;simp;omega) λf m o g l b j=>(ZN) ?_;rw[aY]at b;exact b.fz Zd (iI _)<|tM _
theorem Xn{ty K g:Nat}{G:DL}{n:List Ag}{k l v:Int}{d:IL}{m:Nat}{f:St}(aW:BS ty K g G f.H n)(a2:A n+1<=100000000)(bf:A d<=1000)(bi:0<m/\m<=1000)
 (a1:∀H aK,BS ty K g G H (dV n k l v d m)->Fr H f.H->c2 ({f with H:=H,n:=aK}.put g7<|I<|A n)):er aB f 242 [.rf 1000 g 0,I k,I l,I v,bm d,I m] g7 c2:=by
 refine nj [1000030,1000047] [.tmp 12] C C Zk Zt C Zs λal a0=>?_;have aC:=aW.aA a0;obtain⟨bq,j,aX,aY,aZ⟩:=aC.ob;have a3:=acp d Zo;simp only[bm]at a3⊢;refine(ZC) ?_;refine l' (λa9=>∃e:Nat,e<=m/\Fw.fF 48 [(0,.rf 1000 g 0),(13,.rf 13 (f.n 13) 0),(14,I<|(m-e:Nat))] (λaT H n an=>an=f.T/\(∃ah,H 13=E ⟨f.n 13,125,5,[I k,I l,I v,bm d,ah],Q⟩/\aL [30] H 177 2 (fu e [I 0,I 0]) ah)/\∀a,a≠13->a≠29->a≠30->H a=al a) a9) (λf=>match f.env 14 with|.sc (.int _ n)=>n.toNat|_=>0)
  ⟨0,kT _,C,ow,C,⟨_,by simp[ai,bm],.nil⟩,λa u b w=>Yu u⟩ ?_
 rintro⟨aT,H,aK,bo,an,be⟩⟨e,bh,rfl,aF,Y,⟨ah,o,D⟩,F⟩;simp only[bM]at aF Y o D F;obtain⟨R,B,av,-⟩:=aF;have ab:=F 1000 Zd Zd Zd;have bp:=D.aA (H':=H) λ_ _=>C;rw[aX]at ab;refine(ad av) ?_;have aS:cE aB 123=E (177,2,16):=Zk;have a4:∀r∈fu e [I 0,I 0],A r=2:=λr bk=>by(grind)
 refine fx (λZ=>?_) λZ=>?_
 .simp only[ee]at Z;refine(ad<|JJ B o)<|GK.cM (eC.eS (S:=[30]) (aq:=fu e [I 0,I 0]) (bD:=[[I 0,I 0]]) aS ((Pa)<|D.aA bF) a4 hF Zs C ch AJ λs a8 a' p i=>?_);have q:=i 13 Zd Zd;simp only[a_,dG,bj,dv,o]at q;have a5:cb.wrap (((m-e:Nat):Int)-1)=((m-(e+1):Nat):Int):=DE;obtain⟨U,rfl,-⟩:=eG p Zs;simp only[b9,ss,dC,gR,ew]at p;simp only[B,av,q,a5,b9,ss,go_sem];exact⟨⟨e+1,Zo,C,by simp[aw,R,B],Y,⟨_,l4,by rw[Dc];refine aL.aA (H:=s) p ?_;simp[ai]⟩,λa u b w=>(a_ _ _ u).trans<|(i a w<|Yq w).trans<|(a_ _ _ b).trans<|(a_ _ _ b).trans<|F a u b w⟩,rn⟩
 simp only[jo]at Z;obtain rfl:e=m:=Zo;obtain⟨ax,rfl,ay⟩:=eG D ch;simp only[ss]at o ay;refine(ZN)<|dP [1000,13] [38] ?_;simp only[R,B,ab,o,jt,go_sem];refine js (S:=[1001]) (aq:=eM j n) (bD:=[[I k,I l,I v,bm d,.ms 30 ax e]]) Zs Zk ((Pa)<|aY.aA sG) (u3 _ _) (by simp[aw,dS,bm]) Zs C (by rw[lJ];show(A n+1)*72<=_;omega) OB sG λs a8 a' p i=>?_;obtain⟨U,rfl,az⟩:=eG p Zs;have q:=i 1000 Zd Zd;have aI:=i 30 Zd Zd;simp only[ab,ay]at q aI;simp only[R,q,b9,lJ,go_sem];have bg:A (ao<|eM j n)=A n*5:=by rw[iY<|u3 j n,lJ]
 have a7:cb.wrap (((A n+1:Nat):Int)-1)=(A n:Int):=DE;simp only[eR,dT,fX,de]at az;obtain⟨t,X⟩:∃t,ai s 1000 (E ⟨g,ty,K,.ms 39 U (A n+1)::G,Q⟩)=t:=⟨_,C⟩;rw[X];have ba:t 1000=E ⟨g,ty,K,.ms 39 U (A n+1)::G,Q⟩:=by rw[<-X,bN]
 have ak:∀a,a≠1000->t a=s a:=λa aH=>by rw[<-X,a_ _ _ aH]
 refine GK.qQ 39 1001 1000 0 (A n+1) ((ak 39 Zd).trans az) ba Zd Zd C λbb bl aV aM aN ap=>GK.qQ 30 (2000+A n) 1001 (A n*5+4) e ((ap 30 Zd Zd Zd).trans<|(ak 30 Zd).trans aI) aM Zd Zo (by(grind [List.getElem?_append_right,Nat.add_sub_cancel_left])) λam bn V aO aP ar=>GK.cM ?_;have a6:(ao (eM j n)++[I k,I l,I v,bm d,.ms 30 ax e]).set (A n*5+4) (.ms (2000+A n) V e)=ao (eM j n)++[I k,I l,I v,bm d,.ms (2000+A n) V e]:=by
  grind [List.set_append_right,Nat.add_sub_cancel_left]
 have br:∀a,a≠13->a≠29->a≠30->a≠39->a≠1000->a≠1001->a≠2000+A n->am a=al a:=λa aQ M y z au P aR=>
  (ar a y aR P).trans ((ap a z P au).trans<|(ak a au).trans<|(i a z<|Yq P).trans<|F a aQ M y)
 have aD:=aC.snoc a2 (k:=k) (l:=l) (v:=v) (d:=d) (m:=e) (H':=am) (gp:=V) (gA:=aV) aZ ((ar 1000 Zd Zo Zd).trans aN) (by rw[aP,a6]) aO λa aH M y z=>by
  grind [i6]
 refine(ad a7) ?_;refine⟨Y,.sc _,aD.bB,λbd d1 d2=>a1 _ _ (aD.aA d1) λa M y z=>?_⟩
 grind [BL,i6]
theorem Xo{ty g e:Nat}{n:List Ag}{v:Int}{d:IL}{a:Nat}{b:St}(i:BS ty g e a9 b.H n)(o:A n+1<=100000000)(m:A d<=1000)(p:0<a/\a<=1000)
 (l:∀H q,BS ty g e a9 H (dV n a3 g1 v d a)->Fr H b.H->c2 ({b with H:=H,n:=q}.put g7<|I<|A n)):er aB b 172 [.rf 1000 e 0,I a3,I g1,I v,bm d,I a] g7 c2:=by
 refine nj [] [.tmp 12] C C Zk Zt C Zs λr k=>?_;have j:=i.aA k;simp only[bm,go_sem];refine aj<|aj (Xn (d:=d) j o m p λs z f u=>(ZN) ?_);refine⟨C,.sc _,f.bB,λt d1 d2=>l _ _ (f.aA d1) λB w x y=>?_⟩
 grind [BL]
def W2(b:am<a0)(a:a0<=aE):cb.wrap ((am:Int)+1)=((am+1:Nat):Int):=gJ am (by unfold aE at a;omega)
def zQ(a b:J)(q:a.ok):az 239 [.ag a.ds,.ag b.ds]<|B<|ah<|a=b:=by
 match a,b,q with
 |.mk l m d,.mk o p e,q=>
 simp only[J.ok]at q;have⟨aB,Z,ab⟩:=q;have Y x (t:x∈d) I:az 239 [.ag x.ds,.ag I.ds]<|B<|ah<|x=I:=zQ x I<|J.eJ ab x t;have G:=J.b6 d;have X:=J.b6 e;have s:¬J.mk l m d=.mk o p e->af=ah (J.mk l m d=.mk o p e):=λh=>(bW h).symm;refine(dH) ?_;by_cases u:l=o
 case neg=>
  have f1:(l !=o)=W:=Yr u;exact(ad f1)<|Fz.aK (s λh=>u uW)
 subst u;by_cases w:m=p
 case neg=>
  have f2:(m.toList==p.toList)=af:=(Pe)<|bW w;simp only[bne,f2,tB,go_sem];exact Fz.aK (s λh=>w uW)
 subst w;by_cases y:A d=A e
 case neg=>
  have f3:((A d:Int)==(A e:Int))=af:=co;simp only[bne,f3,tB,G,X,go_sem];exact Fz.aK (s λh=>y uW)
 have f3:((A d:Int)==(A e:Int))=W:=Yr y;simp only[bne,f3,tB,G,X,go_sem];refine lp 5 (A d) [2,3] (λf _ _ _ _=>∀(g:Nat)(h:g<A d)(j:g<A e),g<f->d[g]=e[g]) Zs ?_;rintro f av ar aA au _ ay R;refine dN G (λr=>?_) λh=>?_
 .have D:=J.bV d f r;have F:=J.bV e f Zo;have V:=Y d[f] (aD r) e[f];have K:=J.cl d[f];have M:=J.cl e[f];have⟨al,am,an,t⟩:=J.ex d[f];have⟨ao,ap,aq,U⟩:=J.ex e[f];have S:d[f]=e[f]->∀(g:Nat)(h:g<A d)(j:g<A e),g<f+1->d[g]=e[g]:=λz g h j ax=>by
   by_cases i:g=f
   .subst i;exact z
   exact R g h j Zo
  have P:d[f]≠e[f]->¬d=e:=λz h=>z (by subst h;rfl);rw[t,U]at V S P;rw[t]at D K;rw[U]at F M;simp only[J.ds]at D F V K M;refine(fQ<|JJ D F) ?_;by_cases i:J.mk al am an=.mk ao ap aq
  .refine(ad<|b_ i) ?_;exact jW (by simp[aw,W2 r Z]) r ⟨C,bU,S i⟩
  exact(ad<|bW i)<|Fz.aK (s λh=>P i (by first|exact h|(cases h;rfl)))
 obtain rfl:f=A d:=Zo;have ak:=lX y λg h j=>R g h j h;exact(ad h)<|Fz.aK<|Yr ak
def afw(a b:dp)(G:A a<=aE)(I:∀x∈a,x.ok):az 241 [.sl 3<|J.ab a,.sl 3<|J.ab b]<|B<|ah<|a=b:=by
 have K x (k:x∈a) q:az 239 [.ag x.ds,.ag q.ds]<|B<|ah<|x=q:=zQ x q<|I x k;have F:=J.b6 a;have t:¬a=b->af=ah (a=b):=λd=>(bW d).symm;refine(lj<|JJ F<|J.b6 b) ?_;by_cases l:A a=A b
 case neg=>
  have f3:((A a:Int)==(A b:Int))=af:=co;simp only[bne,f3,go_sem];exact Fz.aK (t λd=>l<|Yw d)
 have f3:((A a:Int)==(A b:Int))=W:=Yr l;simp only[bne,f3,go_sem];refine lp 5 (A a) [0,1] (λe _ _ _ _=>∀(f:Nat)(d:f<A a)(i:f<A b),f<e->a[f]=b[f]) Zs ?_;rintro e ak Y an Z _ am w;refine dN F (λj=>?_) λd=>?_
 .have o:=J.bV a e j;have p:=J.bV b e Zo;have D:=K a[e] (aD j) b[e];have r:=J.cl a[e];have s:=J.cl b[e];have⟨P,R,S,k⟩:=J.ex a[e];have⟨U,V,X,z⟩:=J.ex b[e];have y:a[e]=b[e]->∀(f:Nat)(d:f<A a)(i:f<A b),f<e+1->a[f]=b[f]:=λm f d i al=>by
   by_cases g:f=e
   .subst g;exact m
   exact w f d i Zo
  have u:a[e]≠b[e]->¬a=b:=λm d=>m (by subst d;rfl);rw[k,z]at D y u;rw[k]at o r;rw[z]at p s;simp only[J.ds]at o p D r s;refine(fQ<|JJ o p) ?_;by_cases g:J.mk P R S=.mk U V X
  .refine(ad<|b_ g) ?_;exact jW (by simp[aw,W2 j G]) j ⟨C,bU,y g⟩
  exact(ad<|bW g)<|Fz.aK (t λd=>u g (by first|exact d|(cases d;rfl)))
 obtain rfl:e=A a:=Zo;have M:=lX l λf d i=>w f d i d;exact(ad d)<|Fz.aK<|Yr M
abbrev tZ:J:=.mk 0 nE []
def uQ:J->Prop|.mk k _ ks=>k=4->ks≠[]
def Fz.tz{b:Bool}:Fz fd (.tp [.ag [I 0,S nE,bp],B b])<|.tp [.ag tZ.ds,B b]:=.lT (v8 0 nE<|.nil 3)<|.cl _<|bc _
def Fz.ty{b d:Bool}(a:J)(e:b=d):Fz fd (.tp [.ag a.ds,B b])<|.tp [.ag a.ds,B d]:=.lT (.cl _<|Cl.bC<|J.cl a)<|Fz.aK e
def FL(b:J)(m:uQ b):az 166 [.ag b.ds]<|.tp [.ag (((jj b).map Prod.fst).getD tZ).ds,B (jj b).isSome]:=by
 have⟨a,g,d⟩:=b;refine(ia [] [.cell 2 99,.tmp 3]) ?_;by_cases f:a=4
 .subst f
  match d,m C with
  |.mk i l j::d,_=>
  simp only[J.ab,go_sem];exact Fz.ty (.mk i l j) C
 have f4:(a==4)=af:=Yr f;by_cases e:a=1
 .subst e;exact(ad f4)<|Fz.ty (.mk 1 g d) C
 have f1:(a==1)=af:=Yr e;refine(ad<|JJ f4 f1) ?_;have o:jj (.mk a g d)=Q:=by simp[jj,e,f]
 rw[o];exact Fz.tz
def KA(f:aF)(V:aO)(K:pL f)(ay v:Int)(i:BA)(R:J)(d:aX)(aA:bu)(e:bq)(j:Int)(al:0<=hI f i)(ar:A d=A (kG f i))(aN:A e+A d<=4000000):
 az 230 [.cp [ae.sl f,aa.sl V],.cp<|L.ds<|.mk ay v i R d aA,.ag<|cY e,I j] (.ag<|cY<|e++dA f i d j):=by
 have⟨u,ao,w,P,X,aD,Z,aH,ab⟩:=rG al;have an:=vF f i K.len K.cs;rw[X,ab]at an;have q:=ae.bV f u ao;have⟨aQ,aS,aR⟩:=R;obtain⟨B,l,t⟩:∃B l,f[u]=.mk B l:=by cases f[u];exact⟨_,_,C⟩
 have ap:w<A l:=by rw[t]at P;exact P
 obtain⟨z,k,G⟩:∃z k,l[w]=.mk z k:=aJ.ex _;have hf:kG f i=k:=by rw[Z];simp only[t,ae.cs,G,aJ.fs]
 have r:=aJ.bV l w ap;rw[t]at q;rw[G]at r;rw[hf]at ar;simp only[ae.ds,aJ.ds,aJ.sl]at q r;have aM:=J.b6 k;have au:A (d.map λy=>[S y])=A d:=Zs;refine(ki [6] [.cell 8 198]) ?_;simp only[cY,go_sem];refine(ZI)<|lp 11 (A d) [0,1,6,8,3,9,10] (λg ad p aB U=>(∃c8,p 8=E ⟨0,198,3,c8,Q⟩/\A c8=3)/\p 6=E ⟨0,198,3,cY<|e++Y g (dA f i d j),Q⟩) ⟨⟨_,l4,C⟩,yw⟩ ?_;rintro g ad p aB U aC aP⟨⟨c8,D,rP⟩,m⟩;refine dN au (λaq=>?_) λak=>?_
 .have ah:(d.map λy=>[S y])[g]?=E [S d[g]]:=by simp[aq]
  have s:=J.bV k g Zo;have⟨aI,aL,aK,M⟩:=J.ex k[g];rw[M]at s;have F:=pq (e++Y g (dA f i d j)) d[g] k[g] j (by rw[b9,ij];omega);have ax:g<A (dA f i d j):=O8;have av:e++Y g (dA f i d j)++[⟨d[g],k[g],j⟩]=e++Y (g+1) (dA f i d j):=by
   rw[dm ax,<-dy];congr 2;simp[dA,hf]
  rw[av,M]at F;have o:=gV<|e++Y (g+1) (dA f i d j);have am:=gV<|e++Y g (dA f i d j);simp only[J.ds,cY,bG,bm]at s F m o am;refine(ZN)<|dP [6] []<|(bQ<|JJ m<|JJ q<|JJ r<|JJ ah s) ?_;exact dI ⟨⟨c8,Yu D,rP⟩,yw⟩
 obtain rfl:g=A d:=Zo;rw[dj O8]at m;obtain⟨aT,aU,aV,rfl⟩:∃a b c,c8=[a,b,c]:=H4;have o:=gV<|e++dA f i d j;simp only[cY,bG,bm]at m o;simp only[ak,m,D,go_sem];exact .cl _<|Cl.bC o
def T'(d:bq)(b:Ev)(a:BA):cZ (d++[b]) a=if b.n=a then E b else cZ d a:=by
 unfold cZ;by_cases e:b.n=a<;>simp[e]
def rY(g:BA)(a:bq):(cZ a g=Q/\kD (a.map Ev.n) g=-1)\/∃(f:Nat)(e:f<A a),cZ a g=E a[f]/\kD (a.map Ev.n) g=f:=by
 obtain⟨d,rfl⟩:∃d:bq,a=d.reverse:=⟨a.reverse,Zs⟩
 induction d with
 |nil=>exact aG ⟨C,C⟩
 |cons k d j=>
  rw[reverse_cons,T',bX,b4,eO,Ei];by_cases e:k.n=g
  .rw[aM e,aM e];exact aj ⟨A d,Zs,Zs,Zs⟩
  rw[aC e,aC e];obtain⟨h,b⟩|⟨f,i,h,b⟩:=j
  .exact aG ⟨h,b⟩
  exact aj ⟨f,by simp at i⊢;omega,by rw[h,tt i],b⟩
def o2(V:aF)(ds:aO)(t:L)(e:bq)(l:Int):Prop:=∃a:J,uQ a/\az 163 [.cp [ae.sl V,aa.sl ds],.cp t.ds,.ag<|cY e,I l] (.tp [.ag a.ds,B (bt V ds t e l).isSome])/\∀ty,bt V ds t e l=E ty->a=ty
def acO{d:aF}{j:aO}(aA:gT d j){v tk g:Int}{n tn:BA}{aQ:dp}{ns:aX}{o:L}{f:bu}{e:bq}{M:BA}{i:Nat}(cx:A e<=1000000)
 (m:wz d f M i) {ao ap bH bI bJ bK bL:D} (a5:(L.ab (o::f))[1]?=E [ao,ap,S M,bH,bI,bJ,bK,bL]) (b7:Fo (o::f)=M) (bQ:o2 d j o e g) (b_:∀ty,bt d j o e g=E ty->J.w ty)
 (bX:∀v n a1 ns c,.mk 10 v n a1 ns [c]∈f->o2 d j c (e++dA d n ns g) g) (ca:∀a1∈f,∀ty,bt d j a1 e g=E ty->J.w ty):
 az 238 [.cp [ae.sl d,aa.sl j],.cp<|L.ds<|.mk 9 v n (.mk tk tn aQ) ns (o::f),.ag<|cY e,I g] (.tp [.ag ((bt d j (.mk 9 v n (.mk tk tn aQ) ns (o::f)) e g).getD tZ).ds,B (bt d j (.mk 9 v n (.mk tk tn aQ) ns (o::f)) e g).isSome]):=by
 have aU:=vF d M aA.oA.len aA.oA.cs;obtain⟨cM,b4⟩:=Zx<|kH (-1) d M;rw[m.at_,b4]at aU;have aq:=ae.bV d i m.hi;have aT:oB d M=ae.nm (d[i]'m.hi):=by simp[oB,m.at_,m.hi]
 obtain⟨z,a4,b5⟩:∃z a4,d[i]'m.hi=.mk z a4:=match d[i]'m.hi with|.mk a b=>⟨a,b,C⟩
 rw[b5]at aq aT;simp only[ae.ds,ae.nm]at aq aT;have a_:A (L.ab (o::f))=A f+1:=by rw[L.b6];simp
 have cA:=m.le;obtain⟨⟨al,u,aI⟩,cu,aW,b'⟩:=bQ;have b3:Cl<|.cp [ae.sl d,aa.sl j]:=Cl.eT da;have b2:=gV e;have cB:=L.cl o;have aR:(L.ab (o::f))[0]?=E o.ds:=C;rw[vZ,b7,aT];obtain⟨bA,bB,bD,a8⟩:∃a b c,cY e=[a,b,c]:=⟨_,_,_,C⟩;rw[a8]at aW b2⊢;have cd:=L.cl o;have⟨bk,bw,bm,⟨bo,bv,bs⟩,bn,bl⟩:=o;have cL:Int.toNat 1=1:=C;have ct:((0:Int)<=1)=True:=Zs;simp only[L.ds,J.ds,bG,bg,aY,ae.sl,aa.sl]at aW aR aU b3 cd⊢;obtain⟨an,a9⟩:∃an,an=L.ab (.mk bk bw bm (.mk bo bv bs) bn bl::f):=⟨_,C⟩;rw[<-a9]at aR a5 a_⊢;refine(ia [] [.cell 8 99,.tmp 9])<|dP [] [28]<|(ad aR) ?_;apply l6 _ aW da;simp only[go_sem];refine fB ?_;simp only[a5,go_sem];refine(rD aU) ?_;have aH y:Fz y (.tp [.ag [I 0,S nE,bp],B af])<|.tp [.ag tZ.ds,B af]:=Fz.tz;rcases bb:bt d j (.mk bk bw bm (.mk bo bv bs) bn bl) e g with _|ty
 .simp only[Dh,go_sem];exact fB<|aH _
 have p:=b' ty bb;subst p;simp only[oY,go_sem];have bf:J.mk al u aI≠mh z->∀y,Fz y (.tp [.ag [I 0,S nE,bp],B af])<|.tp [.ag (((E<|J.mk al u aI).bind λa=>if a=mh z then pC (f.map λc=>bt d j c e g)else Q).getD tZ).ds,B ((E<|J.mk al u aI).bind λa=>if a=mh z then pC (f.map λc=>bt d j c e g)else Q).isSome]:=λh y=>by
  rw[mq,aC h];exact aH _
 by_cases aK:al=2
 case neg=>
  have f2:(al==2)=af:=Yr aK;refine fB ?_;simp only[bne,f2,go_sem];exact bf (λh=>aK uW) _
 subst aK;have p:aI=[]:=by have p:=(b_ _ bb).1;rw[fY,J.bh,cy]at p;have p:=p.1;simp[ii]at p;exact p.2
 subst p;by_cases aL:u=z
 case neg=>
  have f2:(u.toList==z.toList)=af:=(Pe)<|bW aL;refine fB ?_;simp only[bne,aq,f2,go_sem];exact bf (λh=>aL uW) _
 subst aL;have f2:(u.toList==u.toList)=W:=Zs;refine fB ?_;simp only[bne,aq,f2,go_sem];have b9:(E<|J.mk 2 u []).bind (λa=>if a=mh u then pC (f.map λc=>bt d j c e g)else Q)=pC (f.map λc=>bt d j c e g):=by rw[mq,aM C]
 rw[b9];refine l' (λam=>∃l:Nat,l<=A f/\Fw.fF 114 [(0,.cp [.sl 2<|ae.ab d,.sl 12<|aa.ab j]),(1,.cp [I 9,I v,S n,I tk,S tn,.sl 3<|J.ab aQ,.sl 1 (ns.map λam=>[S am]),.sl 8 an]),(6,.cp [bA,bB,bD]),(3,I g),(15,I (l+1:Nat)),(8,.rf 8 0 0),(14,.rf 14 0 0)] (λbP y ce bF=>(∃c8,y 8=E ⟨0,99,3,c8,Q⟩/\A c8=3)/\∃ao ap a2,y 14=E ⟨0,99,3,[ao,ap,a2],Q⟩/\(0<l->∃q:J,q.ds=[ao,ap,a2]/\∀(i:Nat)(h:i<A f),i<l->bt d j f[i] e g=E q)) am)
  (λam=>match am.env 15 with|.sc (.int _ n)=>A f+1-n.toNat|_=>0) ⟨0,kT _,C,ow,⟨_,l4,C⟩,_,_,_,by simp[ai];exact⟨C,C,C⟩,Zs⟩ ?_
 rintro⟨bP,y,ce,cC,bF,cn⟩⟨l,cz,rfl,ba,⟨c8,P,rP⟩,b0,cq,cr,Z,a'⟩;simp only[bM]at ba P Z;obtain⟨f0,f1,f6,f3,f15,f8,f14,-⟩:=ba;obtain⟨cP,cQ,cR,rfl⟩:∃a b c,c8=[a,b,c]:=H4;simp only[f15,f1,a_,go_sem];refine fx (λh=>?_) λh=>?_
 .have R:l<A f:=by simp at h;omega
  have a7:l<A (ae.cs<|d[i]'m.hi):=by rw[<-m.len];exact R
  have⟨Y,s,⟨U,X,V⟩,t,r,av,bZ,bY,cw⟩:=m.br l R a7;have aS:=RL aA.vd m.hi a7;rw[<-bZ]at aS;have aV:L.mk 10 Y s (.mk U X V) t [r]∈f:=av▸aD R;have ax:=KA d j aA.oA 10 Y s (.mk U X V) t [r] e g (Yv aS.1) (by rw[aS.2,bY]) Zo;have⟨bE,cv,aB,bi⟩:=bX _ _ _ _ _ aV;have ak:bt d j (.mk 10 Y s (.mk U X V) t [r]) e g=bt d j r (e++dA d s t g) g:=zW;have a0:=ca _ aV;rw[ak]at a0;rw[<-av]at ak;have bR:=gV<|e++dA d s t g;obtain⟨cj,ck,cm,bT⟩:∃a b c,cY (e++dA d s t g)=[a,b,c]:=⟨_,_,_,C⟩;obtain⟨bx,bj⟩:=Zx<|bt d j r (e++dA d s t g) g;have bd:bx∈f.map λc=>bt d j c e g:=aP.2 ⟨_,av▸aV,by rw[ak,bj]⟩;rw[bj]at aB bi ak a0;rw[bT]at ax aB bR;rw[a8]at ax;have a6:an[l+1]?=E (L.mk 10 Y s (.mk U X V) t [r]).ds:=by rw[<-av,a9];simp[L.ab,L.bV f l R]
  have bN:=L.cl r;have bO:=L.cl<|.mk 10 Y s (.mk U X V) t [r];have⟨cD,cK,cF,⟨cH,cJ,cI⟩,cG,cE⟩:=r;have⟨F,K,G⟩:=bE;simp only[L.ds,J.ds,bG,bg,aY,ae.sl,aa.sl,L.ab]at a6 ax aB bN bO;have cc:Int.toNat ((l+1:Nat):Int)=l+1:=C;simp only[h,f1,f15,a6,cc,go_sem];refine dP [] [94,96] ?_;simp only[f0,f6,f3,go_sem];apply l6 _ ax da;simp only[f3,go_sem];apply l6 _ aB da;simp only[go_sem];obtain _|ty:=bx
  .rw[LJ bd];simp only[Dh,f8,P,go_sem];exact aH _
  have p:=bi ty C;subst p;have be:(∀(i:Nat)(h:i<A f),i<l->bt d j f[i] e g=E (.mk F K G))->∀(i:Nat)(h:i<A f),i<l+1->bt d j f[i] e g=E (.mk F K G):=λcf i h ay=>by
   by_cases c:i=l
   .subst c;exact ak
   exact cf i h Zo
  have bz:=gJ (l+1) Zo;by_cases a3:l=0
  .have aN:ah (((l+1:Nat):Int)>1)=af:=by simp[a3]
   simp only[oY,f15,aN,f14,Z,bz,go_sem];refine⟨⟨l+1,R,C,by simp[aw,f0,f1,f3,f6,f8,f14],⟨_,by simp[ai,P];rfl,C⟩,_,_,_,ep,λ_=>⟨.mk F K G,C,be λi h ay=>by omega⟩⟩,by simp[aw,a3];omega⟩
  have⟨q,ar,au⟩:=a' Zo;have aN:ah (((l+1:Nat):Int)>1)=W:=co;have aZ:=zQ (.mk F K G) q (a0 _ C).2;have bU:=J.cl q;rw[ar]at aZ bU;simp only[J.ds]at aZ;simp only[oY,f15,aN,f14,Z,go_sem];refine mB aZ ?_;by_cases cT:J.mk F K G=q
  .subst cT;simp only[f15,f14,Z,bz,go_sem];refine⟨⟨l+1,R,C,by simp[aw,f0,f1,f3,f6,f8,f14],⟨_,by simp[ai,P];rfl,C⟩,_,_,_,ep,λ_=>⟨.mk F K G,C,be au⟩⟩,rn⟩
  rw[VN bd (aP.2 ⟨f[0],aD _,au 0 Zo Zo⟩)<|Yq cT];simp only[bW cT,f8,P,go_sem];exact aH _
 have b8:l=A f:=by(simp at h;omega)
 subst b8;have⟨q,ar,au⟩:=a'<|uJ.2 m.ne;rw[VM (x:=E q) (by simp;exact m.ne) (by intro cN cb;obtain⟨c,b1,rfl⟩:=aP.1 cb;obtain⟨i,ay,rfl⟩:=ec b1;exact au i ay ay)];have⟨cg,ci,ch⟩:=q;simp only[J.ds,Al,i']at ar;obtain⟨rfl,rfl,rfl⟩:=ar;simp only[h,f8,f14,P,Z,oY,go_sem];exact Fz.ty (.mk cg ci ch) C
def po(V:List ae)(k:Int)(n:ByteArray):Option (List J)->J
 |none=>tZ
 |some ts=>if k=3 then lf else if k=5 then(gG V k n ts).getD tZ else if k=8 then mh (oB V n)else ts.getD 1 tZ
def Xy(b:J.w he)(a:nU he m9=E u8):J.w u8:=by
 unfold nU at a;split at a
 .split at a
  .cases a;exact G_ b _ Zs
  cases a
 cases a
def uR(a:J.w he):uQ he:=by
 have⟨d,f,e⟩:=he;rintro rfl;obtain⟨b,rfl,-⟩:=WZ a;simp
theorem FM{f:aF}{F:aO}(bi:gT f F){p v bw P:Int}{o bA:BA}{bz:dp}{m:bu}{l:bq}(av:p=3\/p=5\/p=8\/p=11)(cw:A m<=16)(b4:p=3->A m=2)(b7:p=5->A m=2)(b3:p=11->A m=3)(b8:p=8->0<=hI f o)
 (cc:∀c∈m,o2 f F c l P) (bm:∀c∈m,∀ty,bt f F c l P=E ty->J.w ty):o2 f F (.mk p v o (.mk bw bA bz) hH m) l P:=by
 have bk:bt f F (.mk p v o (.mk bw bA bz) hH m) l P=(m.mapM λc=>bt f F c l P).bind (gG f p o):=ti av;have bR:=gV l;obtain⟨ck,cm,cn,aR⟩:∃a b c,cY l=[a,b,c]:=⟨_,_,_,C⟩;rw[aR]at bR;have bU:Cl<|.cp [ae.sl f,aa.sl F]:=Cl.eT da;have f1:(p==1)=af/\(p==2)=af/\(p==4)=af/\(p==6)=af/\(p==7)=af/\(p==9)=af:=by obtain rfl|rfl|rfl|rfl:=av<;>decide
 have⟨f1,f2,f4,f6,f7,f9⟩:=f1;generalize al:m.mapM (λc=>bt f F c l P)=an;have bJ:cE aB 88=E (99,3,48):=Zk;have bP e (l:an=E e) t (am:t∈e):J.w t:=by
  rw[l]at al;have⟨c,bQ,l⟩:=F3 al t am;exact bm c bQ t l
 refine⟨po f p o an,?_,?_,?_⟩
 .have aS:uQ tZ:=λh=>by cases h
  obtain _|e:=an
  .exact aS
  have be:=bP e C;obtain rfl|rfl|rfl|rfl:=av
  .exact λh=>On
  .have l:po f 5 o (E e)=(gG f 5 o e).getD tZ:=by simp[po]
   rw[l];rcases X:gG f 5 o e with _|y
   .exact aS
   simp only[gG,Int.reduceEq,bT,bx]at X;split at X
   .exact uR<|Xy (be _ Zs) X
   cases X
  .exact λh=>On
  have l:po f 11 o (E e)=e.getD 1 tZ:=by simp[po]
  rw[l,xX];rcases X:e[1]? with _|y
  .exact aS
  exact uR<|be _<|fE X
 .rw[aR,bk,al];refine(ki [1000195,1000199] [.cell 8 99,.tmp 9]) ?_;simp only[f1,f2,f4,f6,f7,f9,go_sem];refine lp 20 (A m) [0,1,6,3,8] (λu ba R ce bE=>(∃c8,R 8=E ⟨0,99,3,c8,Q⟩/\A c8=3)/\∃e,A e=u/\(∀(s:Nat)(h:s<A m)(bb:s<A e),bt f F m[s] l P=E e[s])/\aL [166,195] R 99 3 (J.ab e) (ba 19)) ⟨⟨_,l4,C⟩,[],C,Zs,aj ⟨166,0,Zs,C,by simp[ai,J.ab]⟩⟩ ?_;rintro u ba R ce bE cq X⟨⟨c8,aQ,rP⟩,e,G,a0,bo⟩;obtain⟨ch,ci,cj,rfl⟩:∃a b c,c8=[a,b,c]:=H4;refine dN (L.b6 m) (λaU=>?_) λh=>?_
  .have K:=(L.bV m) u aU;obtain⟨⟨aK,aN,aM⟩,cv,ax,bl⟩:=cc m[u]<|aD aU;have bs:=L.cl m[u];obtain⟨cg,aZ⟩:=Zx<|bt f F m[u] l P;rw[aR]at ax;rw[aZ]at ax bl;obtain⟨cA,cI,cC,⟨cF,cH,cG⟩,cD,cB,b2⟩:∃a b c d l bK,m[u]=.mk a b c d l bK:=by cases m[u];exact⟨_,_,_,_,_,_,C⟩
   rw[b2]at K ax bs;simp only[L.ds,J.ds,bG,bg,aY,ae.sl,aa.sl]at K ax bU bs;refine(ZN)<|dP [] [186]<|(ad K) ?_;apply l6 _ ax da;refine(ZN) ?_;obtain _|ty:=cg
   .have D:an=Q:=by rw[<-al];exact mapM_none aU aZ
    subst D;simp only[Dh,aQ,go_sem];exact Fz.tz
   have D:=bl ty C;subst D;simp only[oY,go_sem];refine GK.cM (eC.eS (S:=[166,195]) (aq:=J.ab e) (bD:=[(J.mk aK aN aM).ds]) bJ ((Pa)<|bo.aA bF) (J.hQ _) DU Zs (by rfl) (by rw[J.b6,G];show(u+1)*48<=_;omega) (by rw[J.b6,G];show u+1<=aE;unfold aE;omega) λco cz cJ cb bO=>?_);have bd:=bO 8 Zd Zd;simp only[a_,dG,bj,dv,aQ]at bd;refine(ZN) ?_;refine dI ⟨⟨_,by simp[bd];rfl,C⟩,e++[.mk aK aN aM],Yr G,λs h bb=>?_,?_⟩
   .by_cases c:s<A e
    .rw[tt c];exact a0 s h c
    have D:s=u:=by simp at bb;omega
    subst D;simp[<-G];rw[<-aZ];congr 1;simp[G]
   rw[show J.ab (e++[.mk aK aN aM])=J.ab e++[(J.mk aK aN aM).ds]by rw[J.cu,J.cu,bX];rfl];exact(Pa)<|(cb.aA Zs).sub Zs
  obtain rfl:u=A m:=Zo;obtain rfl:an=E e:=by rw[<-al,mapM_some (g:=id) G λcd bN aP=>a0 cd bN aP,map_id]
  have b':Cl<|.sl 3<|J.ab e:=J.db e;refine(ad h)<|GK.nY [166,195] 19 (.sl 3<|J.ab e) ((Pa)<|aL.fz (bo.aA o4) Zd (J.hQ _)<|J.dl _) b' ?_;have M:aT [166,195] R 8=E ⟨0,99,3,[ch,ci,cj],Q⟩:=by simp[aT,aQ]
  have ay:Int.toNat 1=1:=C;have cf:Int.toNat 2=2:=C;have ar:((0:Int)<=1)=True:=Zs;have bM:((0:Int)<=2)=True:=Zs;have a1 t (am:t∈e):J.w t:=by
   obtain⟨s,aI,rfl⟩:=ec am;exact bm _ (aD Zo) _<|a0 s Zo aI
  obtain rfl|rfl|rfl|rfl:=av
  .obtain⟨⟨i,q,r⟩,⟨b0,j,k⟩,rfl⟩:=rX<|G.trans<|b4 C;have aV:((E [J.mk i q r,.mk b0 j k]).bind<|gG f 3 o).isSome=(ah (i=1)&&ah (b0=1)):=by
    by_cases z:i=1<;>by_cases U:b0=1<;>simp[gG,J.kd,z,U]
   rw[aV];simp only[J.ab,go_sem];refine dP [] [202]<|(ZN) ?_;apply l6 _ Ty da;simp only[J.ab,go_sem];by_cases z:i=1
   .simp only[z,tB,ay,ar,M,go_sem];apply Fz.ty lf;rw[nv]
   have V:(i==1)=af:=by simp[z]
   refine(ad<|JJ V M) ?_;apply Fz.ty lf;simp[z]
  .obtain⟨⟨i,q,r⟩,⟨b0,j,k⟩,rfl⟩:=rX<|G.trans<|b7 C;have bn:J.w<|.mk i q r:=a1 _ Zs;have aW:(E [J.mk i q r,.mk b0 j k]).bind (gG f 5 o)=nU (.mk i q r) (.mk b0 j k):=by simp[gG]
   have au:po f 5 o (E [J.mk i q r,.mk b0 j k])=(nU (.mk i q r)<|.mk b0 j k).getD tZ:=by simp[po,gG]
   rw[aW,au];have br:nU (.mk i q r) (.mk b0 j k)=Q->∀R,Fz R (.tp [.ag [I 0,S nE,bp],B af])<|.tp [.ag ((nU (.mk i q r)<|.mk b0 j k).getD tZ).ds,B (nU (.mk i q r)<|.mk b0 j k).isSome]:=λh R=>(Yy h) Fz.tz;simp only[J.ab,go_sem];by_cases bv:i=3
   case neg=>
    have bL:(i==3)=af:=Yr bv;refine fB ?_;simp only[bne,bL,M,go_sem];exact br (by unfold nU;split<;>simp_all) _
   subst bv;obtain⟨bB,⟨a6,a7,a8⟩,rfl⟩:=rX (show A r=2 by have D:=bn.1;rw[fY,J.bh,cy]at D;have D:=D.1;simp[ii]at D;exact D.2);have ca:=G_ bn bB Zs;obtain⟨a3,a4,a5⟩:=bB;have cx:=zQ (.mk a3 a4 a5) (.mk b0 j k) ca.2;refine fB ?_;simp only[bne,tB,J.ab,ay,ar,go_sem];refine(ZC) ?_;by_cases az:J.mk a3 a4 a5=.mk b0 j k
   .simp only[b_ az,M,ay,ar,go_sem];rw[show nU (.mk 3 q [.mk a3 a4 a5,.mk a6 a7 a8]) (.mk b0 j k)=E (.mk a6 a7 a8)by simp[nU,az]];exact Fz.ty (.mk a6 a7 a8) C
   simp only[bW az,M,go_sem];exact br (by simp only[nU];rw[aC];simpa using az) _
  .have b1:=vF f o bi.oA.len bi.oA.cs;have⟨s,aI,t,am,a',cr,bH,ct,bI⟩:=rG<|b8 C;rw[a',bI]at b1;have K:=ae.bV f s aI;obtain⟨Z,ap,aH⟩:∃Z ap,f[s]=.mk Z ap:=by cases f[s];exact⟨_,_,C⟩
   have b9:t<A ap:=by rw[aH]at am;exact am
   obtain⟨a9,ak,bf⟩:∃a9 ak,ap[t]=.mk a9 ak:=aJ.ex _;have bZ:kG f o=ak:=by rw[bH];simp only[aH,ae.cs,bf,aJ.fs]
   have bY:oB f o=Z:=by simp[oB,a',aI,aH,ae.nm]
   have V:=aJ.bV ap t b9;rw[aH]at K;rw[bf]at V;simp only[ae.ds,aJ.ds,aJ.sl]at K V;have au:po f 8 o (E e)=mh Z:=by simp[po,bY]
   have aW:((E e).bind<|gG f 8 o).isSome=ah (e=ak):=by
    by_cases c:e=ak<;>simp[gG,bZ,c]
   rw[au,aW];refine(ZI)<|dP [] [281,295]<|(ad K) ?_;apply l6 _ (acu Z) da;refine(ad<|JJ K V) ?_;apply l6 _ (afw e ak jC λt h=>(a1 t h).2) da;exact(ad M)<|Fz.ty (mh Z) C
  obtain⟨⟨i,q,r⟩,⟨b0,j,k⟩,⟨ao,z,U⟩,rfl⟩:∃a b c,e=[a,b,c]:=by
   match e,G.trans (b3 C)with
   |[a,b,c],_=>exact⟨_,_,_,C⟩
  have aV:((E [J.mk i q r,.mk b0 j k,.mk ao z U]).bind<|gG f 11 o).isSome=(ah (i=1)&&ah (J.mk b0 j k=.mk ao z U)):=by
   by_cases Y:i=1
   .by_cases a2:J.mk b0 j k=.mk ao z U
    .rw[a2];simp[gG,J.kd,Y]
    rw[bW a2];simp only[mq,gG];simp[J.kd,Y];simpa using a2
   simp[gG,J.kd,Y]
  have au:po f 11 o (E [J.mk i q r,.mk b0 j k,.mk ao z U])=.mk b0 j k:=by simp[po]
  rw[aV,au];simp only[J.ab,go_sem];refine dP [] [259]<|(ad<|JJ ay ar) ?_;by_cases Y:i=1
  .simp only[Y,tB,ay,cf,ar,bM,go_sem];apply l6 _ (zQ (.mk b0 j k) (.mk ao z U)<|(a1 (.mk b0 j k) Zs).2) da;refine(ad M) ?_;apply Fz.ty<|.mk b0 j k;simp
  have V:(i==1)=af:=by simp[Y]
  refine(ad<|JJ V M) ?_;apply Fz.ty<|.mk b0 j k;simp[Y]
 intro ty h;rw[bk,al]at h;have⟨e,l,aP⟩:=kU.1 h;subst l;have h:=aP;obtain rfl|rfl|rfl|rfl:=av
 .simp[gG]at h;simp[po,h.2]
 .show(gG f 5 o e).getD tZ=ty;rw[h];rfl
 .simp[gG]at h;simp[po,h.2]
 simp only[gG,Int.reduceEq,bT]at h;split at h
 .split at h
  .cases h;simp[po]
  cases h
 cases h
def Tk(b:a3≠4):uQ<|.mk a3 gs ai2:=λa=>absurd a b
def acg(a:J):uQ<|mW a:=λ_=>by simp
def R9(a b:bq):(a++b).map Ev.n=a.map Ev.n++b.map Ev.n:=bX
def E6{l:Int}(a:A hH=A (kG a5 gs)):(dA a5 gs hH l).map Ev.n=hH:=by
 rw[dA,eu];exact Hj Zo
def FN{d:aF}{a:aO}(hp:gT d a):∀(p:L)(e:bq)(l:Int),TC d a p (e.map Ev.n)->(∀x∈e,J.w x.t)->0<=l->l+p.num<=1000->A e+3*p.num<=1000000->L.kd p≠10->o2 d a p e l
 |.mk s v n (.mk tk tn aQ) ns m,e,l,kZ,ze,b8,cU,cQ,b7=>by
  have⟨f1,f2,f3,f4,f5,f6⟩:=kZ.form;have bB c (hc:c∈m):c.num+1<=L.num (.mk s v n (.mk tk tn aQ) ns m):=by have j:=L.jw hc;rw[L.num];omega
  have a4:∀(i:Nat)(h:i<A m),¬(s=9/\0<i)->L.kd m[i]≠10:=λi h q c=>q<|(kZ.case i h).1 c;have ih (i:Nat) (h:i<A m) (b:bq) (aB:Int) (a1:b.map Ev.n=cW s n ns i) (a2:(∀x∈b,J.w x.t)) (bv:A b<=3) (cS:l<=aB) (cT:aB<=l+1) (aA:¬(s=9/\0<i)):o2 d a m[i] (e++b) aB:=by
   have P:=bB _<|aD h;refine FN hp m[i] (e++b) aB ?_ (λx G=>(ca.1 G).elim (ze x)<|a2 x) Zo Zo ch<|a4 i h aA;rw[R9,a1];exact kZ.dh i h
  have cf (i:Nat) (h:i<A m) (bf:Int) (a6:BA) (be:J) (aC:aX) (c:L) (q:m[i]=.mk 10 bf a6 be aC [c]) (b:bq) (a1:b.map Ev.n=aC) (a2:(∀x∈b,J.w x.t)) (bv:A b<=3):o2 d a c (e++b) l:=by
   have P:=bB _<|aD h;have aW:=kZ.dh i h;rw[q]at P aW;have cX:=L.jw (l:=[c]) (c:=c) Zs;rw[L.num]at P;have bZ:=aW.dh 0 Zs;have b5:s=9:=by
    by_cases bL:s=9/\0<i
    .exact bL.1
    have j:=a4 i h bL;rw[q]at j;exact absurd C j
   subst b5;refine FN hp c (e++b) l ?_ (λx G=>(ca.1 G).elim (ze x)<|a2 x) b8 Zo ch λq=>?_
   .rw[R9,a1];have j:=bZ;simpa[cW]using j
   have j:=(aW.case 0 Zs).1 q;omega
  have ax:∀c∈m,(∀i,cW s n ns i=[])->s≠9->o2 d a c e l:=λc hc hb h9=>PX;have U:∀c∈m,∀ty,bt d a c e l=E ty->J.w ty:=λc hc ty h=>Nt;have bu:uQ tZ:=λh=>On;have b1:Cl<|.cp [ae.sl d,aa.sl a]:=Cl.eT da;have Y:=gV e;obtain⟨aH,bh,bM,iM⟩:∃g b c,cY e=[g,b,c]:=⟨_,_,_,C⟩;have cP:Cl<|.cp [.sl 2<|ae.ab d,.sl 12<|aa.ab a]:=b1;have bH:Cl<|.cp<|L.ds<|.mk s v n (.mk tk tn aQ) ns m:=Cl.eT<|L.cl _;simp only[L.ds,J.ds,bG,bg,aY]at bH;obtain rfl|rfl|rfl|rfl|rfl|rfl|rfl|rfl|rfl|rfl|rfl|⟨q1,q2,q3,q4,q5,q6,q7,q8,q9,xG,xH⟩:=rW s
  case inr.inr.inl=>(simp[bY,dw]at f1;exact FM hp Zs Zo (λq=>mz) (λq=>mz) (λq=>mz) (λq=>D9) (λc hc=>ax c hc (λi=>jq) Zd) U)
  case inr.inr.inr.inr.inl=>(simp[bY,dw]at f1;exact FM hp Zs Zo (λq=>mz) (λq=>mz) (λq=>mz) (λq=>D9) (λc hc=>ax c hc (λi=>jq) Zd) U)
  case inr.inr.inr.inr.inr.inr.inr.inl=>(simp[bY,dw]at f1;exact FM hp Zs Zo (λq=>mz) (λq=>mz) (λq=>mz) (λq=>D9) (λc hc=>ax c hc (λi=>jq) Zd) U)
  case inr.inr.inr.inr.inr.inr.inr.inr.inr.inr.inl=>(simp[bY,dw]at f1;exact FM hp Zs Zo (λq=>mz) (λq=>mz) (λq=>mz) (λq=>D9) (λc hc=>ax c hc (λi=>jq) Zd) U)
  case inr.inr.inr.inr.inr.inr.inr.inr.inr.inl=>exact absurd C b7
  .have al:bt d a (.mk 1 v n (.mk tk tn aQ) ns m) e l=E (((cZ e n).map Ev.t).getD<|vm a n):=by simp[bt,kN]
   have bU:aH=bG (e.map Ev.n):=uX;have bW:bh=.sl 3 (J.ab<|e.map Ev.t):=uX;have a0:=qN (e.map Ev.n) n m_;rw[<-bU]at a0;have cM:=Y aH<|Yx iM;rw[o2,al,iM];obtain⟨aq,aS⟩|⟨i,hi,aq,aS⟩:=rY n e
   .have b':=kZ.free n (by
     rw[fv];refine aG ⟨C,C,λP=>?_⟩;obtain⟨x,G,cd⟩:=aP.1 P;have j:=CZ.1 (show(e.reverse).find? (λx=>ah<|x.n=n)=Q from aq) x<|Yq G;simp[cd]at j)
    obtain⟨am,V,av,-⟩:=uj b';have av:eV a n=am:=av;have bA:=BR a n (by have j:=hp.len;unfold aE;omega);rw[aS]at a0;rw[av]at bA;have M:=aa.bV a am V;have b3:vm a n=aa.ty a[am]:=by simp[vm,av,V]
    rw[aq,Di,MV,b3];obtain⟨cJ,⟨aL,aN,aM⟩,cI,b2⟩:∃g b c,a[am]=.mk g b c:=by cases a[am];exact⟨_,_,_,C⟩
    have R:=hp.Bb _<|aD V;rw[b2]at M R⊢;simp only[aa.ty]at R⊢;refine⟨_,uR R,?_,λty h=>uW⟩;simp only[aa.ds,J.ds,bg,aY]at M;refine(ki [] [.cell 8 99,.tmp 9])<|(ZI) ?_;simp only[ge_iff_le,go_sem];exact dP [] [57]<|(ZN)<|A3 bA<|(ad M)<|Fz.ty (.mk aL aN aM) C
   have R:=ze _<|aD hi;have M:=J.bV (e.map Ev.t) i<|Yq hi;rw[fk]at M;have cV:A (J.ab<|e.map Ev.t)=A e:=by rw[J.b6];simp
   rw[aq,eE,kx];rw[aS]at a0;obtain⟨cL,⟨aL,aN,aM⟩,cK,b4⟩:∃g b c,e[i]=⟨g,b,c⟩:=⟨_,_,_,C⟩;rw[b4]at M R⊢;refine⟨_,uR R,?_,λty h=>uW⟩;simp only[J.ds]at M;subst bW;exact(ki [] [.cell 8 99,.tmp 9])<|(fQ M)<|Fz.ty (.mk aL aN aM) C
  .rw[o2,iM];refine⟨lf,Tk Zd,?_,λty h=>by simpa[bt,kN]using h⟩;rw[show bt d a (.mk 2 v n (.mk tk tn aQ) ns m) e l=E lf by simp[bt,kN]];exact(ia [] [.cell 8 99,.tmp 9])<|hW Ty .n<|(ZN)<|Fz.ty lf C
  .obtain⟨c,rfl⟩:=kw.1 (show A m=1 by simp[bY,dw]at f1;omega);have cc:J.w<|.mk tk tn aQ:=⟨OM,by have j:=kZ.ok;rw[L.ok]at j;exact j.2.1⟩;have al:bt d a (.mk 4 v n (.mk tk tn aQ) ns [c]) e l=(bt d a c (e++[⟨n,.mk tk tn aQ,l⟩]) l).map (mX<|.mk tk tn aQ):=DK;obtain⟨o,aV,f,F⟩:=ih 0 Zs [⟨n,.mk tk tn aQ,l⟩] l jq (by simp;exact cc) Zs Zo Zo Zs;have D:=pq e n (.mk tk tn aQ) l Zo;have aT:=gV<|e++[⟨n,.mk tk tn aQ,l⟩];obtain⟨bN,bO,bP,aU⟩:∃g b c,cY (e++[⟨n,.mk tk tn aQ,l⟩])=[g,b,c]:=⟨_,_,_,C⟩;have bz:=Tx (.mk tk tn aQ) o;have a5:=L.cl c;simp only[fA]at f F;rw[aU]at D f aT;rw[iM]at D Y;rw[o2,al,iM];refine⟨mX (.mk tk tn aQ) o,Tk Zd,?_,λty h=>?_⟩
   rotate_left
   .obtain⟨g,aZ,rfl⟩:=jP.1 h;rw[F g aZ]
   rw[Option.isSome_map];obtain⟨X,r⟩:=Zx<|(bt d a c (e++[⟨n,.mk tk tn aQ,l⟩]) l).isSome;rw[r]at f⊢;obtain⟨a7,bd,a9,⟨a_,bb,ba⟩,a',a8⟩:=c;obtain⟨an,ap,ao⟩:=o;simp only[L.ds,J.ds,bG,bg,aY,ae.sl,aa.sl]at D f a5 bH;refine(ki [] [.cell 8 99,.tmp 9]) ?_;simp only[L.ab,go_sem];exact dP [] [83,85]<|(ZN)<|(ve D)<|(ve f)<|dP [] [92,93]<|(ZN)<|(ve bz)<|Fz.ty (mX (.mk tk tn aQ)<|.mk an ap ao) C
  .obtain⟨c,rfl⟩:=kw.1 (show A m=1 by simp[bY,dw]at f1;omega);have al:bt d a (.mk 6 v n (.mk tk tn aQ) ns [c]) e l=(bt d a c e<|l+1).map mW:=DK;obtain⟨o,aV,f,F⟩:=ih 0 Zs [] (l+1) jq Zs Zs Zo Zo Zs;have bz:=Tu o;have a5:=L.cl c;simp only[fA,de]at f F;rw[iM]at f Y;rw[o2,al,iM];refine⟨mW o,acg o,?_,λty h=>?_⟩
   rotate_left
   .obtain⟨g,aZ,rfl⟩:=jP.1 h;rw[F g aZ]
   rw[Option.isSome_map];obtain⟨X,r⟩:=Zx<|(bt d a c e<|l+1).isSome;rw[r]at f⊢;obtain⟨a7,bd,a9,⟨a_,bb,ba⟩,a',a8⟩:=c;obtain⟨an,ap,ao⟩:=o;simp only[L.ds,J.ds,bG,bg,aY,ae.sl,aa.sl]at f a5;have R:cb.wrap (l+1)=l+1:=dE _ Zo;refine(ki [] [.cell 8 99,.tmp 9]) ?_;simp only[L.ab,go_sem];exact dP [] [107]<|(ad R)<|A3 f<|(ZC)<|Fz.ty (mW<|.mk an ap ao) C
  .obtain⟨K,u,rfl⟩:=rX (show A m=2 by simp[bY,dw]at f1;omega);obtain⟨o,aV,f,F⟩:=ih 0 Zs [] l jq Zs Zs Zo Zo Zs;have cg:=L.cl K;have ci:=L.cl u;have Z:=FL o aV;have bJ:=U K Zs;have bK:=ih 1 Zs;simp only[fA,jm,de]at f F bK;rw[iM]at f Y;rw[o2,qX,iM];obtain⟨z,ar⟩:=Zx<|bt d a K e l;rw[ar]at f F bJ⊢;obtain⟨aI,au⟩:=Zx<|jj o;rw[au]at Z;obtain⟨X,r⟩:=Zx<|z.isSome;rw[r]at f;obtain⟨a7,bd,a9,⟨a_,bb,ba⟩,a',a8⟩:=K;obtain⟨an,ap,ao⟩:=o;simp only[L.ds,J.ds,bG,bg,aY,ae.sl,aa.sl]at f cg Z;obtain⟨c8,c',c9,G⟩:=J.ex<|(aI.map Prod.fst).getD tZ;rw[G]at Z;simp only[J.ds]at Z;have br:(z.bind λg=>(jj g).bind λx=>bt d a u (e++[⟨n,x.1,l+x.2⟩]) l)=Q->(X=af\/aI.isSome=af)->∃o:J,uQ o/\az 163 [.cp [ae.sl d,aa.sl a],.cp<|L.ds<|.mk 7 v n (.mk tk tn aQ) ns [.mk a7 bd a9 (.mk a_ bb ba) a' a8,u],.ag [aH,bh,bM],I l] (.tp [.ag o.ds,B (z.bind λg=>(jj g).bind λx=>bt d a u (e++[⟨n,x.1,l+x.2⟩]) l).isSome])/\∀ty,(z.bind λg=>(jj g).bind λx=>bt d a u (e++[⟨n,x.1,l+x.2⟩]) l)=E ty->o=ty:=λh a3=>by
    rw[h];refine⟨tZ,bu,(ki [] [.cell 8 99,.tmp 9]) ?_,λty h=>On⟩;simp only[L.ab,go_sem];refine dP [] [124]<|(ZN)<|A3 f<|(ZC) ?_;obtain rfl|a3:=a3
    .exact(ZN)<|Fz.tz
    cases X<;>simp only[a3,go_sem]<;>exact Fz.tz
   obtain _|ty:=z
   .exact br C (aG (by rw[<-r];rfl))
   have j:=F ty C;subst j;obtain _|x:=aI
   .exact br (Yr au)<|aj C
   subst r;simp only[eE,kx]at G;obtain⟨bi,bX,ak,bI⟩:=bK [⟨n,x.1,l⟩] l jq (by simp;exact(G' (bJ _ C) au)) Zs Zo Zo Zs;have b_:bt d a u (e++[⟨n,x.1,l⟩]) l=bt d a u (e++[⟨n,x.1,l+x.2⟩]) l:=GP u _ _ l l ((kZ.dh 1 Zs).sh hp<|a4 1 Zs Zs) λcn _=>by
    simp only[gl,T'];by_cases c:n=cn<;>simp[c]
   rw[b_]at ak bI;have D:=pq e n x.1 l Zo;have aT:=gV<|e++[⟨n,x.1,l⟩];obtain⟨bN,bO,bP,aU⟩:∃g b c,cY (e++[⟨n,x.1,l⟩])=[g,b,c]:=⟨_,_,_,C⟩;rw[aU]at D ak aT;rw[iM,G]at D;rw[mq,au,mq];refine⟨bi,bX,?_,bI⟩;obtain⟨ct,bT⟩:=Zx<|(bt d a u (e++[⟨n,x.1,l+x.2⟩]) l).isSome;rw[bT]at ak⊢;obtain⟨X,r⟩:=Zx<|(E<|J.mk an ap ao).isSome;rw[r]at f;obtain⟨c0,c7,c2,⟨c4,c6,c5⟩,c3,c1⟩:=u;obtain⟨mk,ck,cj⟩:=bi;simp only[L.ds,J.ds,bG,bg,aY,ae.sl,aa.sl]at ak ci D;have cm:Int.toNat 1=1:=C;have bR:((0:Int)<=1)=True:=Zs;refine(ki [] [.cell 8 99,.tmp 9]) ?_;simp only[L.ab,go_sem];refine dP [] [124] ?_;simp only[go_sem];refine(ve f)<|(nl Z) ?_;simp only[<-r,oY,go_sem];exact dP [] [150,152,154]<|(ad<|JJ cm bR)<|(ve D)<|(ve ak)<|Fz.ty (.mk mk ck cj) C
  .obtain⟨K,c,aK,i,rfl,P⟩:=KT hp kZ;have bs:=ih 0 Zs [] l jq Zs Zs Zo Zo Zs;simp only[fA,de]at bs;have aR:∃bj bk bl bm bn bo bp,(L.ab (K::c::aK))[1]?=E [bj,bk,S<|L.lu c,bl,bm,bn,bo,bp]:=by
    obtain⟨cA,cB,cC,⟨cD,cE,cF⟩,cG,cH⟩:=c;exact⟨_,_,_,_,_,_,_,C⟩
   obtain⟨bj,bk,bl,bm,bn,bo,bp,aR⟩:=aR;have ay:=acO hp (v:=v) (tk:=tk) (n:=n) (tn:=tn) (aQ:=aQ) (ns:=ns) Zo P aR C bs (U K Zs) (λbf a6 be aC bQ b9=>?_) λp bF=>U p (by simp at bF⊢;exact aj bF)
   .have V:∀ty,bt d a (.mk 9 v n (.mk tk tn aQ) ns (K::c::aK)) e l=E ty->J.w ty:=λty h=>uC hp _ kZ ze h;obtain⟨z,ar⟩:∃p,bt d a (.mk 9 v n (.mk tk tn aQ) ns (K::c::aK)) e l=p:=⟨_,C⟩;rw[ar]at ay V;rw[o2,ar,iM];rw[iM]at ay Y;refine⟨z.getD tZ,?_,?_,λty h=>Yf h⟩
    .obtain _|y:=z
     .exact bu
     exact uR<|V y C
    obtain⟨co,cr,cq,ce⟩:=J.ex<|z.getD tZ;rw[ce]at ay⊢;simp only[L.ds,J.ds,bG,bg,aY,ae.sl,aa.sl]at ay;exact(ki [] [.cell 8 99,.tmp 9])<|(ZC)<|Fz.ty (.mk co cr cq) C
   obtain⟨q,aA,bD⟩:=ec b9;obtain⟨cz,cv,cx,cw,cu,cR,bw,cN,b0,bv⟩:=P.fs hp aA;rw[bD]at bw;cases bw;refine cf (q+1) (by simp at aA⊢;omega) bf a6 be aC bQ bD _ (E6 b0) (xR hp) ?_;rw[dA,bE,C'];omega
  exact HO
termination_by p=>p
decreasing_by
 .have j:=fl<|aD h;simp;omega
 have j:=fl<|aD h;rw[q]at j;simp at j⊢;omega
def adG{f:g2->Option ld}{a:List g2}(d:(a.mapM f).isSome=W)(b:Nat)(e:b<A a):(f a[b]).isSome=W:=by
 rcases g:f a[b]with _|_
 .rw[mapM_none e g]at d;cases d
 rfl
def ag8{e:aF}{g:aO}{a v:Int}{m:BA}{p:J}{o:aX}{j:bu}{k:bq}{d:Int}(hS:Sh e<|.mk a v m p o j)(h:(bt e g (.mk a v m p o j) k d).isSome=W)(i:Nat)(hi:i<A j):
 (bt e g j[i] (cU e g a m p o j k d i)<|ct a d).isSome=W:=by
 have s6:=hS.len;have q:a=3\/a=5\/a=8\/a=11->(bt e g j[i] (cU e g a m p o j k d i)<|ct a d).isSome=W:=λs=>by
  have u:cU e g a m p o j k d i=k:=by obtain rfl|rfl|rfl|rfl:=s<;>simp[cU,eB]
  have w:ct a d=d:=by obtain rfl|rfl|rfl|rfl:=s<;>simp[ct]
  rw[u,w];rw[ti s]at h;refine adG (f:=λc=>bt e g c k d) ?_ i hi;rcases l:j.mapM λc=>bt e g c k d with _|_
  .rw[l]at h;cases h
  rfl
 obtain rfl|rfl|rfl|rfl|rfl|rfl|rfl|rfl|rfl|rfl|rfl|⟨q1,q2,q3,q4,q5,q6,q7,q8,q9,xG,xH⟩:=rW a
 .simp[bY,dw]at s6;subst s6;simp at hi
 .simp[bY,dw]at s6;subst s6;simp at hi
 .exact q Zs
 .exact M6
 .exact q Zs
 .exact M6
 .obtain⟨r,b,rfl⟩:=v7 (show A j=2 by simp[bY,dw]at s6;omega);rw[qX]at h;rcases l:bt e g r k d with _|y
  .rw[l]at h;cases h
  rw[l,mq]at h;rcases q2:jj y with _|x
  .rw[q2]at h;cases h
  rw[q2,mq]at h
  match i,hi with
  |0,_=>simp[cU,eB,ct,l]
  |1,_=>simpa[cU,eB,ct,gw,l,q2]using h
 .exact q Zs
 .obtain _|⟨r,t⟩:=j
  .simp at hi
  rw[vZ]at h;rcases l:bt e g r k d with _|y
  .rw[l]at h;cases h
  rw[l,mq]at h
  match i,hi with
  |0,_=>simp[cU,eB,ct,l]
  |i+1,hi=>
   simp only[jm];split at h
   .rcases q2:bt e g (t[i]'(Yq hi)) k d with _|z
    .rw[LJ<|aP.2 ⟨_,aD _,q2⟩]at h;cases h
    simp[cU,eB,ct,q2]
   cases h
 .obtain⟨c,rfl⟩:=hS.one Zs;obtain rfl:i=0:=Ys hi;rw[zW]at h;simpa[cU,eB,gw,ct]using h
 .exact q Zs
 exact HM
structure RC (V:List ae) (ds:List aa) (t:L) (e:bq) (l:Int):Prop where
 tc:TC V ds t (e.map Ev.n)
 sh:Sh V t
 w:∀x∈e,J.w x.t
 l0:0<=l
 l1:l+t.num<=1000
 el:A e+3*t.num<=1000000
 ty:(bt V ds t e l).isSome=W
def aai{d:aF}{f:aO}(m:gT d f){v:Int}{e:bq}{l:Int}(j:TC d f (.mk a3 v gs he hH h1)<|e.map Ev.n)(p:∀i∈e,J.w i.t):(∀i∈gw d f a3 gs he hH h1 e l,J.w i.t)/\A (gw d f a3 gs he hH h1 e l)<=3:=by
 have⟨f1,f2,f3,f4,f5,f6⟩:=j.form;unfold gw;split
 .rename_i a;refine⟨?_,Zs⟩;have g:=j.ok;rw[L.ok]at g;simp only[dg,kg];exact⟨by simp only[lB,h7,a,bx,cy]at f3;exact f3.1,g.2.1⟩
 split
 .rename_i a;refine⟨λi q=>?_,by cases((h1.head?.bind λa=>bt d f a e l).bind jj)<;>simp⟩;obtain⟨u,h,rfl⟩:=aP.1 q;rw[MW]at h;have⟨s,k,h⟩:=kU.1 h;have⟨b,g,k⟩:=kU.1 k;obtain⟨r,o,rfl⟩:=ec<|mem_of_mem_head?<|Option.mem_def.2 g;exact G' (uC m _ (j.dh r o) p k) h
 split
 .rename_i a;exact⟨xR m,by rw[dA,bE,C'];simp[jI,a]at f4;omega⟩
 simp
def Tp{a v:Int}{b:BA}{d:aX}{e:Int}(h:Sh a5<|.mk a v b he d h1)(g:(bt a5 be (.mk a v b he d h1) it e).isSome=W)(i:Nat):
 (cU a5 be a b he d h1 it e i).map Ev.n=it.map Ev.n++cW a b d i:=by
 have j:=FI (i:=i) (bs:=(gw a5 be a b he d h1 it e).map λf=>⟨0,f.n,f.t,f.l⟩) h g (by rw[eu];exact map_id _);rw[<-j];unfold cU;split<;>simp[CW]
def RC.dh(i:gT a5 be){d v:Int}{e:bu}{l:Int}(a:RC a5 be (.mk d v gs he hH e) it l)(b:Nat)(f:b<A e):RC a5 be e[b] (cU a5 be d gs he hH e it l b)<|ct d l:=by
 have q:(e[b]).num+1<=L.num (.mk d v gs he hH e):=by have:=L.jw (aD f);rw[L.num];omega
 have⟨hw,o⟩:=aai i (l:=l) a.tc a.w;have p:l<=ct d l/\ct d l<=l+1:=DQ;have k:=a.l1;have m:=a.el;have j:=a.l0;refine⟨by rw[Tp a.sh a.ty];exact a.tc.dh b f,a.sh.dh _<|aD f,λh g=>?_,Zo,Zo,?_,ag8 a.sh a.ty b f⟩
 .unfold cU at g;split at g
  .exact(ca.1 g).elim (a.w h)<|hw h
  exact a.w h g
 unfold cU;split
 .rw[b9];omega
 omega
def RC.tp{e:aF}{f:aO}(i:gT e f){b:L}{g:Int}(a:RC e f b it g)(l:L.kd b≠10):∃d:J,bt e f b it g=E d/\J.w d/\az 163 [.cp [ae.sl e,aa.sl f],.cp b.ds,.ag<|cY it,I g] (.tp [.ag d.ds,B W]):=by
 obtain⟨d,-,j,m⟩:=FN i b it g a.tc a.w a.l0 a.l1 a.el l;have k:=a.ty;rcases h:bt e f b it g with _|ty
 .rw[h]at k;cases k
 have o:=m ty h;subst o;rw[h]at j;exact⟨d,C,uC i b a.tc a.w h,j⟩
def TM{V:aF}{ds:aO}(p:gT V ds):∀(t:L)(e:bq)(l:Int),RC V ds t e l->az 226 [.cp [ae.sl V,aa.sl ds],.cp t.ds,.ag<|cY e,I l] (B<|ah<|gy V ds t e l)
 |.mk k v n (.mk tk tn aQ) ns ks,e,l,h=>by
  have ih (i:Nat) (hi:i<A ks):az 226 [.cp [ae.sl V,aa.sl ds],.cp (ks[i]).ds,.ag<|cY<|cU V ds k n (.mk tk tn aQ) ns ks e l i,I<|ct k l]<|B<|ah<|gy V ds ks[i] (cU V ds k n (.mk tk tn aQ) ns ks e l i)<|ct k l:=TM p _ _ _<|h.dh p i hi;have ad:=gV e;obtain⟨E1,E2,E3,iM⟩:∃a b c,cY e=[a,b,c]:=⟨_,_,_,C⟩;have ao:E1=bG (e.map Ev.n):=uX;have aI:E2=.sl 3 (J.ab<|e.map Ev.t):=uX;have ap:E3=bm (e.map Ev.l):=uX;have aL:Cl<|.cp [.sl 2<|ae.ab V,.sl 12<|aa.ab ds]:=Cl.eT da;have am:Cl<|.cp<|L.ds<|.mk k v n (.mk tk tn aQ) ns ks:=Cl.eT<|L.cl _;simp only[L.ds,J.ds,bG,bg,aY]at am;have aP:=vu h.tc.gd;have aN:=h.el;have aS:=h.l1;have aR:=h.l0;have aT:0<L.num (.mk k v n (.mk tk tn aQ) ns ks):=sH;have s6:=h.sh.len;rw[iM]at ad⊢;by_cases c8:l<=8
  case neg=>
   have f8:ah (l>8)=W:=co;rw[bW λq=>c8 (xr.1 q).1];refine(cR) ?_;simp only[f8,go_sem];exact Fz.aK C
  have f8:ah (l>8)=af:=co;have k5:=xr (V:=V) (ds:=ds) (k:=k) (v:=v) (n:=n) (t:=.mk tk tn aQ) (ns:=ns) (ks:=ks) (e:=e) (l:=l);obtain⟨kk,uh⟩:=Zx<|k;obtain rfl|rfl|rfl|rfl|rfl|rfl|rfl|rfl|rfl|rfl|rfl|⟨q1,q2,q3,q4,q5,q6,q7,q8,q9,xG,xH⟩:=rW k
  case inr.inl=>
   exact Z5
  case inr.inr.inl=>
   exact Z5
  case inr.inr.inr.inr.inl=>
   exact Z5
  case inr.inr.inr.inr.inr.inr.inr.inl=>
   exact Z5
  case inr.inr.inr.inr.inr.inr.inr.inr.inl=>
   exact Z5
  case inr.inr.inr.inr.inr.inr.inr.inr.inr.inr.inl=>
   exact Z5
  .obtain rfl:ks=[]:=h.sh.zero C;have o:=qN (e.map Ev.n) n m_;have aH:Cl E1:=ad E1 Zs;rw[<-ao]at o;obtain⟨y,P⟩|⟨i,hi,y,P⟩:=rY n e
   .rw[P]at o;rw[b_<|k5.2 ⟨c8,λ_ x r=>(by rw[y]at r;cases r),Zs⟩];refine(cR) ?_;simp only[f8,go_sem];refine fB<|nV o ?_;simp only[Int.reduceLT,go_sem];exact Fz.aK C
   rw[P]at o;have au:ah ((i:Int)<0)=af:=Zs;have g0:(e.map λx=>[I x.l])[i]?=E [I e[i].l]:=Yr hi;have hd:(e[i].l==l)=ah (gy V ds (.mk 1 v n (.mk tk tn aQ) ns []) e l):=by
    rw[nv,lD,k5];exact Iff.intro (λq=>And.intro c8<|And.intro (λ_ x r=>by rw[y]at r;cases r;exact q) Zs) λq=>q.2.1 C _ y
   obtain rfl:E3=.sl 1 (e.map λx=>[I x.l]):=by rw[ap,bm,eu];rfl
   refine(cR) ?_;simp only[f8,go_sem];refine fB<|nV o ?_;simp only[au,g0,go_sem];exact Fz.aK hd
  .obtain⟨c,rfl⟩:=h.sh.one Zs;have hs:=ih 0 Zs;have kc:=L.cl c;have lO:=pq e n (.mk tk tn aQ) l Zo;have hK:cU V ds 4 n (.mk tk tn aQ) ns [c] e l 0=e++[⟨n,.mk tk tn aQ,l⟩]:=wE;have hL:ct 4 l=l:=lI;have hd:ah (gy V ds c (e++[⟨n,.mk tk tn aQ,l⟩]) l)=ah (gy V ds (.mk 4 v n (.mk tk tn aQ) ns [c]) e l):=by
    rw[lD,k5];simp[hK,hL,c8]
   rw[hK,hL]at hs;have g:=gV<|e++[⟨n,.mk tk tn aQ,l⟩];obtain⟨X,Y,Z,m⟩:∃a b c,cY (e++[⟨n,.mk tk tn aQ,l⟩])=[a,b,c]:=⟨_,_,_,C⟩;rw[m]at lO hs g;rw[iM]at lO;simp only[fA]at hs;have⟨qk,qv,qn,⟨jL,jN,jM⟩,jK,jJ⟩:=c;simp only[L.ds,J.ds,bG,bg,aY,ae.sl,aa.sl]at lO hs kc;refine(cR) ?_;simp only[f8,L.ab,go_sem];exact fB<|(rD lO)<|AI
  .obtain⟨c,rfl⟩:=h.sh.one Zs;have hs:=ih 0 Zs;have kc:=L.cl c;have hK:cU V ds 6 n (.mk tk tn aQ) ns [c] e l 0=e:=tL;have hL:ct 6 l=l+1:=lI;have hd:ah (gy V ds c e<|l+1)=ah (gy V ds (.mk 6 v n (.mk tk tn aQ) ns [c]) e l):=by
    rw[lD,k5];simp[hK,hL,c8]
   rw[hK,hL,iM]at hs;simp only[fA]at hs;have av:cb.wrap (l+1)=l+1:=dE _ Zo;have⟨qk,qv,qn,⟨jL,jN,jM⟩,jK,jJ⟩:=c;simp only[L.ds,J.ds,bG,bg,aY,ae.sl,aa.sl]at hs kc;refine(cR) ?_;simp only[f8,av,L.ab,go_sem];exact fB<|AI
  .obtain⟨d,f,rfl⟩:=v7 (show A ks=2 by simp[bY,dw]at s6;omega);have ui:=ih 0 Zs;have qJ:=ih 1 Zs;have al:=h.dh p 0 Zs;have ay:=L.cl d;have aA:=L.cl f;have hL:ct 7 l=l:=lI;have hK:cU V ds 7 n (.mk tk tn aQ) ns [d,f] e l 0=e:=tL;simp only[hL,hK,fA,jm]at ui qJ al;have⟨M,ak,aq,hs⟩:=al.tp p λq=>Yo<|(h.tc.case 0 Zs).1 q;have R:=FL M<|uR aq;have U:=h.ty;rw[qX,ak,mq]at U;rcases hX:jj M with _|x
   .rw[hX]at U;cases U
   have zd:cU V ds 7 n (.mk tk tn aQ) ns [d,f] e l 1=e++[⟨n,x.1,l+x.2⟩]:=by simp[cU,eB,gw,ak,hX]
   rw[hX]at R;rw[zd]at qJ;have lO:=pq e n x.1 (l+x.2) Zo;have g:=gV<|e++[⟨n,x.1,l+x.2⟩];obtain⟨X,Y,Z,m⟩:∃a b c,cY (e++[⟨n,x.1,l+x.2⟩])=[a,b,c]:=⟨_,_,_,C⟩;have hd:(ah (gy V ds d e l)&&ah (gy V ds f (e++[⟨n,x.1,l+x.2⟩]) l))=ah (gy V ds (.mk 7 v n (.mk tk tn aQ) ns [d,f]) e l):=by
    rw[<-Mu,lD,k5];refine⟨λq=>⟨c8,λq=>(by cases q),λi hi=>Nw⟩,λq=>⟨?_,?_⟩⟩
    .have K:=q.2.2 0 Zs;rwa[hK,hL]at K
    have K:=q.2.2 1 Zs;rwa[zd,hL]at K
   have⟨G,aU,Tj⟩:=M;have F:x.2=if G=4 then 1 else 0:=PA
   rw[m]at lO qJ g;rw[iM]at lO ui hs;obtain⟨⟨a4,a6,a5⟩,an⟩:=x;have⟨qk,qv,qn,⟨jL,jN,jM⟩,jK,jJ⟩:=d;have⟨aV,a3,aX,⟨a0,a2,a1⟩,aZ,aW⟩:=f;simp only[eE,kx,oY,L.ds,J.ds,bG,bg,aY,ae.sl,aa.sl]at lO ui qJ ay aA hs R;have Wd:Int.toNat 1=1:=C;have SL:((0:Int)<=1)=True:=Zs;refine(cR) ?_;simp only[f8,L.ab,go_sem];refine dP [] [86] ?_;simp only[go_sem];apply l6 _ hs da;simp only[go_sem];refine(nl R) ?_;have ax:cb.wrap (l+1)=l+1:=dE _ Zo;by_cases u:G=4
   .have f4:(G==4)=W:=by simp[u]
    obtain rfl:an=1:=by rw[aM u]at F;exact F
    simp only[f4,ax,go_sem];exact N7
   have f4:(G==4)=af:=by simp[u]
   obtain rfl:an=0:=by rw[aC u]at F;exact F
   simp only[sk]at lO qJ hd;simp only[f4,go_sem];exact N7
  .obtain⟨c,rfl⟩:=h.sh.one Zs;have hs:=ih 0 Zs;have kc:=L.cl c;have ar:0<=hI V n:=O4;have hK:cU V ds 10 n (.mk tk tn aQ) ns [c] e l 0=e++dA V n ns l:=wE;have hL:ct 10 l=l:=lI;have hd:ah (gy V ds c (e++dA V n ns l) l)=ah (gy V ds (.mk 10 v n (.mk tk tn aQ) ns [c]) e l):=by
    rw[lD,k5];simp[hK,hL,c8]
   have aB:A ns<=3:=O5;have z:=KA V ds p.oA 10 v n (.mk tk tn aQ) ns [c] e l ar (h.sh.xB C) Zo;rw[hK,hL]at hs;have g:=gV<|e++dA V n ns l;obtain⟨X,Y,Z,m⟩:∃a b c,cY (e++dA V n ns l)=[a,b,c]:=⟨_,_,_,C⟩;rw[m]at z hs g;rw[iM]at z;simp only[fA]at hs;have⟨qk,qv,qn,⟨jL,jN,jM⟩,jK,jJ⟩:=c;simp only[L.ds,L.ab,J.ds,bG,bg,aY,ae.sl,aa.sl]at z hs kc am;refine(cR) ?_;simp only[f8,L.ab,go_sem];exact fB<|(rD z)<|AI
  exact HM
decreasing_by
 have K:=fl<|aD hi;simp;omega
def Fz.EQ:Fz fd (.ag [bp,bp,bp])<|.ag<|cY []:=Fz.oy<|.c (.nil 1)<|.c (.nil 3)<|.c (.nil 1) .n
def nR.rc(a:nR a5 be){d:aa}(b:d∈be)(f:bt a5 be (aa.bd d) [] 0=E (aa.ty d)):RC a5 be (aa.bd d) [] 0:=by
 have⟨e,g,h⟩:=a.bd d b;exact⟨e,a.sh b,Zs,Zo,Zo,co,Yf f⟩
def acP(b:aF)(a:aO)(e:(bH.mk b a).sz<=1048576)(G:(bH.mk b a).ok):az 225 [.cp [ae.sl b,aa.sl a]]<|I<|iz b a:=by
 have t:=acF (.mk b a) e G;have ar:Cl<|.cp [.sl 2<|ae.ab b,.sl 12<|aa.ab a]:=Cl.eT da;simp only[bH.ds,ae.sl,aa.sl]at t;by_cases f:i_ (.mk b a)=0
 case neg=>
  have f0:(i_ (.mk b a)==0)=af:=Yr f;rw[show iz b a=i_ (.mk b a)by rw[iz,aM f]];exact HN
 have o:=p' f G;have aB:=o.pg.len;rw[f]at t;refine(dH)<|mB t ?_;simp only[bne,go_sem];refine lp 4 (A a) [0] (λj ap al aH am=>∀(i:Nat)(h:i<A a),i<j->bt b a (aa.bd a[i]) [] 0=E (aa.ty a[i])) Zs ?_;rintro j ap al aI am _ aA oE;refine dN (aa.b6 a) (λD=>?_) λh=>?_
 .have F:=aD D;have l:=aa.bV a j D;have⟨u,ao,ax⟩:=o.bd _ F;obtain⟨⟨K,P,M⟩,-,e,p⟩:=FN o.pg (aa.bd a[j]) [] 0 u Zs Zo Zo ch ao;have m:bt b a (aa.bd a[j]) [] 0=E (aa.ty a[j])->∀(i:Nat)(h:i<A a),i<j+1->bt b a (aa.bd a[i]) [] 0=E (aa.ty a[i]):=λq i h s=>Dy;have g:¬bt b a (aa.bd a[j]) [] 0=E (aa.ty a[j])->iz b a=8:=λq=>by
   rw[iz,aC<|Yr f,aC λw=>q<|w _ F]
  have r ty (q:bt b a (aa.bd a[j]) [] 0=E ty):J.w ty:=uC o.pg _ u Zs q;generalize a[j]=d at l e p m g r;have⟨ay,⟨y,B,z⟩,⟨S,ak,V,⟨Y,ah,Z⟩,X,U⟩⟩:=d;have R:=L.cl<|.mk S ak V (.mk Y ah Z) X U;simp only[aa.bd,aa.ty]at e p m g r;obtain⟨an,aq⟩:=Zx<|bt b a (.mk S ak V (.mk Y ah Z) X U) [] 0;rw[aq]at e p m g r;simp only[aa.ds,L.ds,J.ds,bG,bg,aY,ae.sl,aa.sl]at l e R;refine(ad l)<|ir [] e (.c (.cl _ ar)<|.c (.cl _<|Cl.eT R)<|.c Fz.EQ<|.c (.cl _<|bc _) .n) (Cl.jf da)<|(ad @oM) ?_;obtain _|ty:=an
  .rw[g Zs];simp only[Dh,go_sem];exact fB<|Fz.di C
  have av:=p ty C;subst av;simp only[oY,go_sem];refine fB ?_;simp only[l,go_sem];refine nV (zQ (.mk K P M) (.mk y B z) (r _ C).2) ?_;by_cases q:J.mk K P M=.mk y B z
  .exact(ad<|b_ q)<|dI<|m<|Yw q
  rw[g<|Yq q];exact(ad<|bW q)<|Fz.di C
 obtain rfl:j=A a:=Zo;rw[show iz b a=0 by rw[iz,aC<|Yr f,aM λd au=>by obtain⟨i,s,rfl⟩:=ec au;exact oE i s s]];exact(ad h)<|Fz.di C
def acq(b:Bool):az 280 [B b]<|I (if b then 1 else 0):=by
 refine(dH) ?_;cases b<;>simp only[go_sem]<;>exact Fz.di C
def aco(a b:Int):az 282 [I a,I b]<|I<|max a b:=by
 refine(dH) ?_;by_cases d:a>b
 .simp only[b_ d,go_sem];exact Fz.di Zo
 simp only[bW d,go_sem];exact Fz.di Zo
def Me(a:BA)(f:Int)(g:BA)(h:aX):∀(e:bu)(d:Nat),(∀c∈e,0<=gI a c/\gI a c<=c.num)->(∀o∈oS a f g h e d,0<=o)/\(oS a f g h e d).sum<=L.aZ e
 |[],_,_=>by simp[oS,L.aZ]
 |c::k,d,j=>by
  have⟨i,b⟩:=Me a f g h k (d+1) λc m=>j c<|Yr m;have⟨l,p⟩:=j c Zs;simp only[oS,cF,ri,kS,L.aZ];split
  .exact⟨⟨sm _,i⟩,by push_cast;omega⟩
  exact⟨⟨l,i⟩,by push_cast;omega⟩
def Mb(a:BA):∀d:L,0<=gI a d/\gI a d<=d.num
 |.mk e v g d h f=>by
  have k b (j:b∈f):0<=gI a b/\gI a b<=b.num:=Mb a b;have⟨i,l⟩:=Me a e g h f 0 k;have⟨m,o⟩:=A' e (oS a e g h f 0) 0 0 0 i<|sm _;rw[gI,L.num];split
  .split<;>constructor<;>push_cast<;>omega
  push_cast;constructor<;>omega
decreasing_by
 have:=fl j;simp;omega
def FO(b:BA):∀Z:L,Z.num<=100000->eU Z=W->az 227 [.cp Z.ds,S b] (I<|gI b Z)
 |.mk d v m (.mk ab al ak) o e,aV,aq=>by
  have aS i (z:i∈e):i.num<=100000:=by have p:=L.jw z;rw[L.num]at aV;omega
  have a2 i (z:i∈e):az 227 [.cp i.ds,S b]<|I<|gI b i:=FO b i (aS i z)<|((w_ aq).2) i z;have a7:=vu aq;have aW:Cl<|.cp<|L.ds<|.mk d v m (.mk ab al ak) o e:=Cl.eT<|L.cl _;have ay:=Ky d v m ab al ak o e;simp only[L.ds,J.ds,bG,bg,aY]at aW ay;by_cases D:d=1
  .have f1:(d==1)=W:=by simp[D]
   refine(lj f1)<|(nl<|acq _) ?_;apply Fz.di;rw[ic,gI,aM D];by_cases l:m=b<;>simp[l]
  have f1:(d==1)=af:=Yr D;have a8:A o<=3:=by
   have aB:=aq;rw[eU,L.bh,cy]at aB;have p:=aB.1;simp only[qe,hT,gN,cy]at p;have p:=p.1.2.1.2;simp only[jI]at p;split at p<;>simp at p
   .omega
   simp[p]
  generalize u:oS b d m o e 0=U;have aP:A U=A e:=by rw[<-u,Md]
  have ax:∀am∈U,0<=am:=by rw[<-u];exact(Me b d m o e 0 λi _=>Mb b i).1
  have a1:gI b (.mk d v m (.mk ab al ak) o e)=iW d U 0 0 0:=by rw[gI,aC D,u]
  have a0:=(Mb b<|.mk d v m (.mk ab al ak) o e).2;rw[a1]at a0⊢;refine(lj f1)<|lp 7 (A e) [0,1] (λa an aL a' aN=>∃g f:Int,an 5=I g/\an 6=I f/\0<=g/\0<=f/\iW d U 0 0 0=iW d (U.drop a) a g f) ⟨0,0,bU,bU,sm _,sm _,C⟩ ?_;rintro a an aL a9 aN _ a6⟨g,f,s,t,aH,B,j⟩;refine ZL (λar=>?_) λaO=>?_
  .have au:a<A U:=Zo;have ao:=L.bV e a ar;have aI:=a2 e[a]<|aD ar;have aK:=L.cl e[a];have q:=Mc b d m o e 0 a ar<|(Yy u) au;simp only[u,ew]at q;have aZ:=ax _<|aD au;rw[ml au,iW]at j;have aF (g f:Int) (aT:0<=f):g+f<=iW d (U.drop<|a+1) (a+1) g f:=(A' d _ (a+1) g f (λam aX=>ax am<|uL aX) aT).1;have aQ:=ay a;generalize aA:cW d m o a=bs;rw[aA]at aQ q;have aR:A bs<=aE:=by
    rw[<-aA];unfold cW aE;split
    .simp
    split
    .omega
    simp
   have a5:=qN bs b aR;have w:=Eh b bs;have aU:(bs.any λy=>ah<|y=b)=ah (b∈bs):=by
    rw[oi];simp
   rw[aU]at w;generalize e[a]=i at ao aI aK q;generalize U[a]=am at j q aZ;have⟨G,Y,M,⟨R,X,V⟩,P,K⟩:=i;simp only[L.ds,J.ds,bG,bg,aY]at ao aI aK;refine(ZC) ?_;by_cases l:b∈bs
   .rw[b_ l]at w;rw[aM l]at q;subst q;refine(ad w) ?_;refine dI ⟨g,f,Ye s,Ye t,aH,B,?_⟩;rw[j];split
    .rw[Int.max_eq_left B]
    rw[sk]
   rw[bW l]at w;rw[aC l]at q;subst q;refine(bQ<|JJ w ao) ?_;by_cases r:0<a/\(d=9\/d=11)
   .rw[aM r]at j;have d0:ah ((a:Int)>0)=W:=co;have ap:=aF g (max f<|gI b<|.mk G Y M (.mk R X V) P K) Zo;rw[<-j]at ap;refine(ad d0) ?_;obtain rfl|rfl:=r.2
    all_goals
     refine(ad t)<|(nl<|aco _ _) ?_;exact dI ⟨g,_,Ye s,bU,aH,Zo,j⟩
   rw[aC r]at j;have ap:=aF (g+gI b (.mk G Y M (.mk R X V) P K)) f B;rw[<-j]at ap;have F:cb.wrap (g+gI b (.mk G Y M (.mk R X V) P K))=g+gI b (.mk G Y M (.mk R X V) P K):=dE _ Zo;by_cases av:0<a
   .have d0:ah ((a:Int)>0)=W:=by simp;omega
    have a4:(d==9)=af:=by simp;intro l;exact r ⟨av,aG l⟩
    have a3:(d==11)=af:=by simp;intro l;exact r ⟨av,aj l⟩
    refine(ad<|JJ d0<|JJ a4<|JJ a3<|JJ s F) ?_;exact dI ⟨_,f,bU,Ye t,Zo,B,j⟩
   have d0:ah ((a:Int)>0)=af:=by simp;omega
   refine(ad<|JJ d0<|JJ s F) ?_;exact dI ⟨_,f,bU,Ye t,Zo,B,j⟩
  obtain rfl:a=A e:=Zo;rw[<-aP,Hf,iW]at j;have F:cb.wrap (g+f)=g+f:=dE _ Zo;simp only[aO,s,t,F,go_sem];exact Fz.di j.symm
decreasing_by
 have p:=fl z;simp;omega
def QS(m:L)(a:bq)(k:Int):ni m a k↔∀(b:Nat)(p:b<A a),a[b].l=k->kD (a.map Ev.n) a[b].n=b->gI a[b].n m<=1:=by
 constructor
 .intro i b p h q;obtain⟨_,g⟩|⟨f,j,d,g⟩:=rY a[b].n a
  .omega
  obtain rfl:b=f:=Zo;exact i _ _ d h
 intro i o v e h;obtain⟨d,_⟩|⟨f,j,d,g⟩:=rY o a
 .rw[d]at e;cases e
 rw[d]at e;cases e;obtain rfl:a[f].n=o:=(l9 d).2;exact i f j h g
def TK(d:L)(e:bq)(b:Int)(U:d.num<=100000)(R:eU d=W)(an:A e<=4000000):az 229 [.cp d.ds,.ag<|cY e,I b]<|B<|ah<|ni d e b:=by
 have M:=λa=>FO a d U R;have Y:=L.cl d;have G:=λa=>qN (e.map Ev.n) a m_;have X:A (e.map λa=>[S a.n])=A e:=Zs;have ar:A (e.map λa=>[I a.l])=A e:=Zs;have V:Cl<|bG<|e.map Ev.n:=mE _;have⟨g,u,m,⟨p,s,r⟩,o,k⟩:=d;have K:bG (e.map Ev.n)=.sl 1 (e.map λa=>[S a.n]):=by rw[bG,eu];rfl
 have ap:bm (e.map Ev.l)=.sl 1 (e.map λa=>[I a.l]):=by rw[bm,eu];rfl
 rw[K]at V;simp only[K]at G;simp only[L.ds,J.ds,bG,bg,aY]at M Y;refine(cR) ?_;simp only[cY,go_sem];refine fG 7 (A e) (λj=>Fw.Inv 44 [(0,.cp [I g,I u,S m,I p,S s,.sl 3<|J.ab r,.sl 1 (o.map λZ=>[S Z]),.sl 8<|L.ab k]),(2,I b),(4,.cp [.sl 1 (e.map λa=>[S a.n]),.sl 3<|J.ab<|e.map Ev.t,.sl 1 (e.map λa=>[I a.l])])] (∀(i:Nat)(h:i<A e),i<j->e[i].l=b->kD (e.map Ev.n) e[i].n=i->gI e[i].n (.mk g u m (.mk p s r) o k)<=1)) C ⟨C,uU,Zs⟩ ?_;rintro j am ak au al _ aq oE;refine dN X (λf=>?_) λh=>?_
 .have F:(e.map λa=>[S a.n])[j]?=E [S e[j].n]:=by simp[f]
  have P:(e.map λa=>[I a.l])[j]?=E [I e[j].l]:=Yr f;have z:(e[j].l=b->kD (e.map Ev.n) e[j].n=j->gI e[j].n (.mk g u m (.mk p s r) o k)<=1)->∀(i:Nat)(h:i<A e),i<j+1->e[i].l=b->kD (e.map Ev.n) e[i].n=i->gI e[i].n (.mk g u m (.mk p s r) o k)<=1:=λq i h ao=>Dy;refine(fQ P) ?_;by_cases w:e[j].l=b
  case neg=>
   have f1:(e[j].l==b)=af:=Yr w;refine(ad f1) ?_;exact gY f ⟨C,bU,z λq=>absurd q w⟩
  have f1:(e[j].l==b)=W:=Yr w;have:=G e[j].n;refine(bQ<|JJ f1 F) ?_;by_cases y:kD (e.map Ev.n) e[j].n=j
  case neg=>
   have f2:(kD (e.map Ev.n) e[j].n==(j:Int))=af:=Yr y;refine(ad f2) ?_;exact gY f ⟨C,bU,z λ_ q=>absurd q y⟩
  have f2:(kD (e.map Ev.n) e[j].n==(j:Int))=W:=Yr y;have:=M e[j].n;refine(bQ<|JJ f2 F) ?_;by_cases D:gI e[j].n (.mk g u m (.mk p s r) o k)>1
  .exact(ad<|b_ D)<|Fz.aK (bW λq=>Yo<|(QS _ _ _).1 q j f w y).symm
  refine(ad<|bW D) ?_;exact gY f ⟨C,bU,z λ_ _=>by omega⟩
 obtain rfl:j=A e:=Zo;exact(ad h)<|Fz.aK (b_ ((QS _ _ _).2 λi h=>oE i h h)).symm
def abf(d:bq)(b:Ev)(a:BA):gX (d++[b]) [a]=if b.n=a then gX d [a]else gX d [a]++[b]:=by
 unfold gX;by_cases e:b.n=a<;>simp[e]
def abe(d:bq)(a:BA)(b:aX):gX (gX d b) [a]=gX d (b++[a]):=by
 unfold gX;rw[filter_filter];congr 1;funext v;by_cases e:v.n∈b<;>by_cases f:v.n=a<;>simp[e,f]
def sy(e:bq)(c:DL):Prop:=(e=[]/\c=[bp,bp,bp])\/c=cY e
def sy.fz(a:sy it a9):Fz fd (.ag a9)<|.ag<|cY it:=by
 obtain⟨rfl,rfl⟩|rfl:=a
 .exact Fz.EQ
 exact .cl _<|Cl.bC<|gV it
def sy.three(e:sy it a9):∃a b d,a9=[a,b,d]/\cO a=W/\cO b=W/\cO d=W:=by
 obtain⟨_,rfl⟩|rfl:=e<;>exact⟨_,_,_,C,C,C,C⟩
def acM(e:bq)(d:BA)(ae:A e<=1000000):az 228 [.ag<|cY e,S d]<|.ag<|cY<|gX e [d]:=by
 have U:A (e.map λg=>[S g.n])=A e:=Zs;have am:A (e.map λg=>[I g.l])=A e:=Zs;have an:A (J.ab<|e.map Ev.t)=A e:=yv;refine(ki [5] [.cell 4 198]) ?_;simp only[cY,go_sem];refine fG 6 (A e) (λa=>Fw.fF 40 [(1,S d),(5,.rf 5 0 0),(4,.rf 4 0 0),(2,.cp [.sl 1 (e.map λg=>[S g.n]),.sl 3<|J.ab<|e.map Ev.t,.sl 1 (e.map λg=>[I g.l])])] λO x ap M=>(∃i,x 4=E ⟨0,198,3,i,Q⟩/\A i=3)/\∃f,x 5=E ⟨0,198,3,f,Q⟩/\sy (gX (Y a e) [d]) f) C
  ⟨C,uU,⟨_,l4,C⟩,[bp,bp,bp],ep,aG ⟨C,C⟩⟩ ?_
 rintro a O x ao M _ al⟨⟨i,s,z⟩,f,k,m⟩;obtain⟨d1,d2,d3,rfl,aq,ar,au⟩:=m.three;refine dN U (λw=>?_) λD=>?_
 .have B:(e.map λg=>[S g.n])[a]?=E [S e[a].n]:=by simp[w]
  have P:(e.map λg=>[I g.l])[a]?=E [I e[a].l]:=Yr w;have r:=J.bV (e.map Ev.t) a<|Yq w;rw[fk]at r;have p:=abf (Y a e) e[a] d;rw[<-dm w]at p;have ak:A (gX (Y a e) [d])<=1000000:=by
   have aa:=qi (λv:Ev=>!ah (v.n∈[d]))<|Y a e;rw[ij]at aa;unfold gX;omega
  refine(ad B) ?_;by_cases f:e[a].n=d
  .have f1:(e[a].n.toList==d.toList)=W:=by rw[ic];exact b_ f
   rw[aM f]at p;refine(ad f1) ?_;exact nM ⟨C,bU,⟨i,Yr s,z⟩,_,k,(Yy p) m⟩
  have f1:(e[a].n.toList==d.toList)=af:=by rw[ic];exact bW f
  rw[aC f]at p;have j:=pq (gX (Y a e) [d]) e[a].n e[a].t e[a].l Zo;have V:gX (Y a e) [d]++[⟨e[a].n,e[a].t,e[a].l⟩]=gX (Y (a+1) e) [d]:=p.symm;rw[V]at j;have⟨G,L,K,X⟩:=J.ex e[a].t;rw[X]at j r;have o:=gV<|gX (Y (a+1) e) [d];generalize F:gX (Y (a+1) e) [d]=q;rw[F]at j o;have j:az 165 [.ag<|cY<|gX (Y a e) [d],S e[a].n,.ag [I G,S L,.sl 3<|J.ab K],I e[a].l]<|.ag [.sl 1 ((q.map Ev.n).map λZ=>[S Z]),.sl 3<|J.ab<|q.map Ev.t,.sl 1 ((q.map Ev.l).map λd=>[I d])]:=j;simp only[J.ds]at r;refine(ad f1)<|dP [5] [] ?_;simp only[k,B,P,r,go_sem];refine ir [] j (.c m.fz<|.c (.cl _<|bc _)<|.c (.cl _<|Cl.bC<|J.cl<|.mk G L K)<|.c (.cl _<|bc _) .n) (Cl.bC o)<|(ad<|JJ k @oM) ?_;refine nM ⟨C,bU,⟨i,Yu s,z⟩,cY q,yw,aj<|Yw F⟩
 obtain rfl:a=A e:=Zo;obtain⟨av,ax,ay,rfl⟩:∃y b f,i=[y,b,f]:=by
  match i,z with
  |[y,b,f],_=>exact⟨y,b,f,C⟩
 rw[cc]at m;obtain⟨R,u⟩|u:=m
 .cases u;rw[R];simp only[D,k,s,go_sem];exact Fz.EQ
 have o:=gV<|gX e [d];rw[cY]at u;cases u;simp only[cY,bG,bm]at o;simp only[D,k,s,go_sem];exact .cl _<|Cl.bC o
def TN{V:aF}{ds:aO}(y:gT V ds):∀(t:L)(e:bq)(l:Int),RC V ds t e l->az 160 [.cp [ae.sl V,aa.sl ds],.cp t.ds,.ag<|cY e,I l] (B<|ah<|fy V ds t e l)
 |.mk k v n (.mk tk tn aQ) ns ks,e,l,h=>by
  have ih (i:Nat) (hi:i<A ks):az 160 [.cp [ae.sl V,aa.sl ds],.cp (ks[i]).ds,.ag<|cY<|cU V ds k n (.mk tk tn aQ) ns ks e l i,I<|ct k l]<|B<|ah<|fy V ds ks[i] (cU V ds k n (.mk tk tn aQ) ns ks e l i)<|ct k l:=TN y _ _ _<|h.dh y i hi;have aR:=gV e;obtain⟨E1,E2,E3,iM⟩:∃f b c,cY e=[f,b,c]:=⟨_,_,_,C⟩;have aq:E1=bG (e.map Ev.n):=uX;have aS:E2=.sl 3 (J.ab<|e.map Ev.t):=uX;have ar:E3=bm (e.map Ev.l):=uX;have a7:Cl<|.cp [.sl 2<|ae.ab V,.sl 12<|aa.ab ds]:=Cl.eT da;have aI:Cl<|.cp<|L.ds<|.mk k v n (.mk tk tn aQ) ns ks:=Cl.eT<|L.cl _;simp only[L.ds,J.ds,bG,bg,aY]at aI;have a9:=vu h.tc.gd;have a8:=h.el;have ad:=h.l1;have a':=h.l0;have a_:0<L.num (.mk k v n (.mk tk tn aQ) ns ks):=sH;have s6:=h.sh.len;rw[iM]at aR⊢;have k5:=Wq (V:=V) (ds:=ds) (k:=k) (v:=v) (n:=n) (t:=.mk tk tn aQ) (ns:=ns) (ks:=ks) (e:=e) (l:=l);obtain⟨kk,uh⟩:=Zx<|k;obtain rfl|rfl|rfl|rfl|rfl|rfl|rfl|rfl|rfl|rfl|rfl|⟨q1,q2,q3,q4,q5,q6,q7,q8,q9,xG,xH⟩:=rW k
  case inl=>
   exact Z4
  case inr.inl=>
   exact Z4
  case inr.inr.inl=>
   exact Z4
  case inr.inr.inr.inr.inl=>
   exact Z4
  case inr.inr.inr.inr.inr.inr.inr.inl=>
   exact Z4
  case inr.inr.inr.inr.inr.inr.inr.inr.inl=>
   exact Z4
  case inr.inr.inr.inr.inr.inr.inr.inr.inr.inr.inl=>
   have hL:ct 11 l=l:=lI;have hK i:cU V ds 11 n (.mk tk tn aQ) ns ks e l i=e:=tL;have k5:fy V ds (.mk 11 v n (.mk tk tn aQ) ns ks) e l↔∀(i:Nat)(h:i<A ks),(0<i->ni ks[i] e l)/\fy V ds ks[i] e l:=by
    rw[k5];simp only[hK,hL];refine⟨λq i hi=>⟨λap=>q.2.2.1 (by trivial) _ ?_,q.2.2.2 i hi⟩,λq=>⟨λc=>absurd c Zd,λc=>absurd c Zd,λ_ c G=>?_,λi hi=>(q i hi).2⟩⟩
    .obtain⟨i,rfl⟩:∃j,i=j+1:=⟨i-1,Zo⟩;exact wq.2 ⟨i,co,Zs⟩
    obtain⟨i,hi,rfl⟩:=ec G;rw[sr];exact(q (1+i)<|Ys hi).1 Zo
   simp only[hK,hL,iM]at ih;have m c (G:c∈ks):az 229 [.cp c.ds,.ag<|cY e,I l]<|B<|ah<|ni c e l:=TK c e l (by have d:=L.jw G;rw[L.num]at ad;omega) (h.sh.dh c G).gd Zo;rw[iM]at m;refine(dH)<|fG 17 (A ks) (λj=>Fw.Inv 228 [(0,.cp [.sl 2<|ae.ab V,.sl 12<|aa.ab ds]),(1,.cp [I 11,I v,S n,I tk,S tn,.sl 3<|J.ab aQ,.sl 1 (ns.map λs=>[S s]),.sl 8<|L.ab ks]),(3,I l),(6,.cp [E1,E2,E3])] (∀(i:Nat)(h:i<A ks),i<j->(0<i->ni ks[i] e l)/\fy V ds ks[i] e l)) C ⟨C,uU,Zs⟩ λj env H n' T _ hj oE=>?_;simp only[go_sem];refine fx (λh=>?_) λh=>?_
   .have bw:=rv h;have g0:=L.bV ks j bw;have qK:=ih j bw;have kc:=L.cl ks[j];have X:=m _<|aD bw;have pn:(0<j->ni ks[j] e l)->fy V ds ks[j] e l->∀(i:Nat)(h:i<A ks),i<j+1->(0<i->ni ks[i] e l)/\fy V ds ks[i] e l:=λq a5 i h hi=>by
     by_cases c:i=j
     .subst c;exact⟨q,a5⟩
     exact oE i h Zo
    have rS:¬fy V ds ks[j] e l->¬fy V ds (.mk 11 v n (.mk tk tn aQ) ns ks) e l:=λq w=>q (k5.1 w j bw).2;have aA:0<j->¬ni ks[j] e l->¬fy V ds (.mk 11 v n (.mk tk tn aQ) ns ks) e l:=λap q w=>q<|(k5.1 w j bw).1 ap;generalize ks[j]=c at g0 qK kc pn rS X aA;have⟨qk,qv,qn,⟨jL,jN,jM⟩,jK,jJ⟩:=c;simp only[L.ds,J.ds,bG,bg,aY,ae.sl,aa.sl]at g0 qK kc X;by_cases ao:0<j
    .have d0:ah ((j:Int)>0)=W:=by simp;omega
     simp only[d0,g0,go_sem];refine fB<|nV X ?_;by_cases a:ni (.mk qk qv qn (.mk jL jN jM) jK jJ) e l
     case neg=>
      simp only[bW a,go_sem];exact Fz.aK (bW<|aA ao a).symm
     simp only[b_ a,g0,go_sem];refine fB<|nV qK ?_;by_cases q:fy V ds (.mk qk qv qn (.mk jL jN jM) jK jJ) e l
     .simp only[b_ q,go_sem];exact nM ⟨C,bU,pn (λ_=>a) q⟩
     exact DB
    have d0:ah ((j:Int)>0)=af:=by simp;omega
    simp only[d0,g0,go_sem];refine fB<|fB<|nV qK ?_;by_cases q:fy V ds (.mk qk qv qn (.mk jL jN jM) jK jJ) e l
    .simp only[b_ q,go_sem];exact nM ⟨C,bU,pn (λq=>absurd q ao) q⟩
    exact DB
   exact H8
  .obtain⟨c,rfl⟩:=h.sh.one Zs;have hs:=ih 0 Zs;have kc:=L.cl c;have lO:=pq e n (.mk tk tn aQ) l Zo;have hK:cU V ds 4 n (.mk tk tn aQ) ns [c] e l 0=e++[⟨n,.mk tk tn aQ,l⟩]:=wE;have hL:ct 4 l=l:=lI;have hd:(ah (gI n c<=1)&&ah (fy V ds c (e++[⟨n,.mk tk tn aQ,l⟩]) l))=ah (fy V ds (.mk 4 v n (.mk tk tn aQ) ns [c]) e l):=by
    rw[<-Mu,lD,k5];simp[hK,hL]
   have z:=FO n c (by have d:=L.jw (l:=[c]) (c:=c) Zs;rw[L.num]at ad;omega) (h.sh.dh c Zs).gd;rw[hK,hL]at hs;have r:=gV<|e++[⟨n,.mk tk tn aQ,l⟩];obtain⟨al,am,an,u⟩:∃f b c,cY (e++[⟨n,.mk tk tn aQ,l⟩])=[f,b,c]:=⟨_,_,_,C⟩;rw[u]at lO hs r;rw[iM]at lO;simp only[fA]at hs;have⟨qk,qv,qn,⟨jL,jN,jM⟩,jK,jJ⟩:=c;simp only[L.ds,J.ds,bG,bg,aY,ae.sl,aa.sl]at lO hs kc z;refine(cR) ?_;simp only[L.ab,go_sem];refine fB<|nV z ?_;by_cases q:gI n (.mk qk qv qn (.mk jL jN jM) jK jJ)<=1
   .rw[b_ q,kf]at hd;simp only[b_ q,go_sem];exact(rD lO)<|AI
   exact H9
  .obtain⟨c,rfl⟩:=h.sh.one Zs;have hs:=ih 0 Zs;have kc:=L.cl c;have hK:cU V ds 6 n (.mk tk tn aQ) ns [c] e l 0=e:=tL;have hL:ct 6 l=l+1:=lI;have hd:ah (fy V ds c e<|l+1)=ah (fy V ds (.mk 6 v n (.mk tk tn aQ) ns [c]) e l):=by
    rw[lD,k5];simp[hK,hL]
   rw[hK,hL,iM]at hs;simp only[fA]at hs;have a0:cb.wrap (l+1)=l+1:=dE _ Zo;have⟨qk,qv,qn,⟨jL,jN,jM⟩,jK,jJ⟩:=c;simp only[L.ds,J.ds,bG,bg,aY,ae.sl,aa.sl]at hs kc;refine(cR) ?_;simp only[a0,L.ab,go_sem];exact fB<|AI
  .obtain⟨o,p,rfl⟩:=v7 (show A ks=2 by simp[bY,dw]at s6;omega);have ui:=ih 0 Zs;have qJ:=ih 1 Zs;have aH:=h.dh y 0 Zs;have a3:=L.cl o;have a4:=L.cl p;have hL:ct 7 l=l:=lI;have hK:cU V ds 7 n (.mk tk tn aQ) ns [o,p] e l 0=e:=tL;simp only[hL,hK,fA,jm]at ui qJ aH;have⟨R,au,aT,hs⟩:=aH.tp y λq=>Yo<|(h.tc.case 0 Zs).1 q;have U:=FL R<|uR aT;have ak:=h.ty;rw[qX,au,mq]at ak;rcases hX:jj R with _|x
   .rw[hX]at ak;cases ak
   have zd:cU V ds 7 n (.mk tk tn aQ) ns [o,p] e l 1=e++[⟨n,x.1,l+x.2⟩]:=by simp[cU,eB,gw,au,hX]
   rw[hX]at U;rw[zd]at qJ;have lO:=pq e n x.1 (l+x.2) Zo;have r:=gV<|e++[⟨n,x.1,l+x.2⟩];obtain⟨al,am,an,u⟩:∃f b c,cY (e++[⟨n,x.1,l+x.2⟩])=[f,b,c]:=⟨_,_,_,C⟩;have hd:(ah (fy V ds o e l)&&ah (fy V ds p (e++[⟨n,x.1,l+x.2⟩]) l))=ah (fy V ds (.mk 7 v n (.mk tk tn aQ) ns [o,p]) e l):=by
    rw[<-Mu,lD,k5];refine⟨λq=>⟨λq=>absurd q Zd,λq=>absurd q Zd,λq=>absurd q Zd,λi hi=>Nw⟩,λq=>⟨?_,?_⟩⟩
    .have d:=q.2.2.2 0 Zs;rwa[hK,hL]at d
    have d:=q.2.2.2 1 Zs;rwa[zd,hL]at d
   have⟨P,ba,Tj⟩:=R;have M:x.2=if P=4 then 1 else 0:=PA
   rw[u]at lO qJ r;rw[iM]at lO ui hs;obtain⟨⟨bn,bp,bo⟩,aL⟩:=x;have⟨qk,qv,qn,⟨jL,jN,jM⟩,jK,jJ⟩:=o;have⟨bd,bl,bf,⟨bi,bk,bj⟩,bh,be⟩:=p;simp only[eE,kx,oY,L.ds,J.ds,bG,bg,aY,ae.sl,aa.sl]at lO ui qJ a3 a4 hs U;have Wd:Int.toNat 1=1:=C;have SL:((0:Int)<=1)=True:=Zs;refine(cR) ?_;simp only[L.ab,go_sem];refine dP [] [79] ?_;simp only[go_sem];apply l6 _ hs da;simp only[go_sem];refine(nl U) ?_;have a1:cb.wrap (l+1)=l+1:=dE _ Zo;by_cases F:P=4
   .have f4:(P==4)=W:=by simp[F]
    obtain rfl:aL=1:=by rw[aM F]at M;exact M
    simp only[f4,a1,go_sem];exact N6
   have f4:(P==4)=af:=by simp[F]
   obtain rfl:aL=0:=by rw[aC F]at M;exact M
   simp only[sk]at lO qJ hd;simp only[f4,go_sem];exact N6
  .obtain⟨c,rfl⟩:=h.sh.one Zs;have hs:=ih 0 Zs;have kc:=L.cl c;have aX:0<=hI V n:=O4;have hK:cU V ds 10 n (.mk tk tn aQ) ns [c] e l 0=e++dA V n ns l:=wE;have hL:ct 10 l=l:=lI;have hd:fy V ds (.mk 10 v n (.mk tk tn aQ) ns [c]) e l↔(∀x∈ns,gI x c<=1)/\ni c (gX e ns) l/\fy V ds c (e++dA V n ns l) l:=by
    rw[k5];simp[hK,hL,Dl]
   have a6:A ns<=3:=O5;have ax:c.num<=100000:=by have d:=L.jw (l:=[c]) (c:=c) Zs;rw[L.num]at ad;omega
   have av:=(h.sh.dh c Zs).gd;have z:=λx=>FO x c ax av;have ay ns:A (gX e ns)<=1000000:=by
    have d:=qi (λv:Ev=>!ah (v.n∈ns)) e;unfold gX;omega
   have m:=TK c (gX e ns) l ax av<|Yo<|ay ns;have aZ:=λns x=>acM (gX e ns) x<|ay ns;have K:=KA V ds y.oA 10 v n (.mk tk tn aQ) ns [c] e l aX (h.sh.xB C) Zo;rw[hK,hL]at hs;have r:=gV<|e++dA V n ns l;obtain⟨al,am,an,u⟩:∃f b c,cY (e++dA V n ns l)=[f,b,c]:=⟨_,_,_,C⟩;have aP:gX e []=e:=by simp[gX]
   rw[u]at K hs r;rw[iM]at K;simp only[fA]at hs;have aB:A (ns.map λs=>[S s])=A ns:=Zs;have⟨qk,qv,qn,⟨jL,jN,jM⟩,jK,jJ⟩:=c;simp only[L.ds,L.ab,J.ds,bG,bg,aY,ae.sl,aa.sl]at K hs kc aI z m;simp only[bG,bm]at aq ar;subst aq aS ar;refine(cR) ?_;simp only[L.ab,go_sem];refine fG 14 (A ns) (λj=>Fw.fF 228 [(0,.cp [.sl 2<|ae.ab V,.sl 12<|aa.ab ds]),(1,.cp [I 10,I v,S n,I tk,S tn,.sl 3<|J.ab aQ,.sl 1 (ns.map λs=>[S s]),.sl 8 [[I qk,I qv,S qn,I jL,S jN,.sl 3<|J.ab jM,.sl 1 (jK.map λs=>[S s]),.sl 8<|L.ab jJ]]]),(3,I l),(6,.cp [.sl 1 ((e.map Ev.n).map λs=>[S s]),.sl 3<|J.ab<|e.map Ev.t,.sl 1 ((e.map Ev.l).map λn=>[I n])])] λenv H n T=>∀(i:Nat)(h:i<A ns),i<j->gI ns[i] (.mk qk qv qn (.mk jL jN jM) jK jJ)<=1) C ⟨C,uU,Zs⟩ λj env H n' T aN hj oE=>?_;simp only[aB,go_sem];refine fx (λh=>?_) λh=>?_
   .have bw:=rv h;have g0:(ns.map λs=>[S s])[j]?=E [S ns[j]]:=Yr bw;simp only[g0,go_sem];refine fB<|nV (z ns[j]) ?_;by_cases q:gI ns[j] (.mk qk qv qn (.mk jL jN jM) jK jJ)>1
    .simp only[b_ q,go_sem];exact Fz.aK (bW λw=>Yo<|(hd.1 w).1 _<|aD bw).symm
    simp only[bW q,go_sem];refine nM ⟨C,bU,λi h hi=>?_⟩;by_cases c:i=j
    .subst c;omega
    exact oE i h Zo
   obtain rfl:j=A ns:=Ys h;have aW x (a2:x∈ns):gI x (.mk qk qv qn (.mk jL jN jM) jK jJ)<=1:=by obtain⟨i,hi,rfl⟩:=ec a2;exact oE i hi hi
   simp only[h,go_sem];refine fG 16 (A ns) (λj=>Fw.fF 228 [(0,.cp [.sl 2<|ae.ab V,.sl 12<|aa.ab ds]),(1,.cp [I 10,I v,S n,I tk,S tn,.sl 3<|J.ab aQ,.sl 1 (ns.map λs=>[S s]),.sl 8 [[I qk,I qv,S qn,I jL,S jN,.sl 3<|J.ab jM,.sl 1 (jK.map λs=>[S s]),.sl 8<|L.ab jJ]]]),(3,I l),(6,.cp [.sl 1 ((e.map Ev.n).map λs=>[S s]),.sl 3<|J.ab<|e.map Ev.t,.sl 1 ((e.map Ev.l).map λn=>[I n])]),(15,.rf 15 (n' 15) 0)] λenv H n T=>H 15=E ⟨n' 15,198,3,cY<|gX e<|Y j ns,Q⟩) C ⟨C,bU,by simp[ai,aP,iM]⟩ λj env H bb T aN hj g=>?_;simp only[aB,go_sem];refine fx (λh=>?_) λh=>?_
   .have bw:=rv h;have g0:(ns.map λs=>[S s])[j]?=E [S ns[j]]:=Yr bw;have Z:=aZ (Y j ns) ns[j];rw[abe,<-dm bw]at Z;have aV:=gV<|gX e<|Y j ns;simp only[cY,bG,bm]at g Z aV;simp only[go_sem];refine dP [15] [] ?_;simp only[g,g0,go_sem];refine mB Z ?_;simp only[g,go_sem];exact nM ⟨C,bU,yw⟩
   obtain rfl:j=A ns:=Ys h;rw[cc]at g;have aU:=gV<|gX e ns;simp only[cY,bG,bm]at g m aU;simp only[h,g,go_sem];refine fB<|nV m ?_;by_cases a:ni (.mk qk qv qn (.mk jL jN jM) jK jJ) (gX e ns) l
   case neg=>
    simp only[bW a,go_sem];exact Fz.aK (bW λw=>a (hd.1 w).2.1).symm
   simp only[b_ a,go_sem];refine(rD K)<|(rD hs) ?_;apply Fz.aK;rw[lD,hd];exact⟨λq=>⟨aW,a,q⟩,λq=>q.2.2⟩
  exact HM
decreasing_by
 have d:=fl<|aD hi;simp;omega
def nR.tp(a:iz a5 be=0):∀d∈be,bt a5 be (aa.bd d) [] 0=E (aa.ty d):=by
 rw[iz,aC<|Yr<|p0 a]at a;split at a
 .assumption
 cases a
def acN(a:aF)(ds:aO)(u:(bH.mk a ds).sz<=1048576)(o:(bH.mk a ds).ok):az 159 [.cp [ae.sl a,aa.sl ds]]<|I<|jk a ds:=by
 have f:=acP a ds u o;have SV:Cl<|.cp [.sl 2<|ae.ab a,.sl 12<|aa.ab ds]:=Cl.eT da;simp only[ae.sl,aa.sl]at f;by_cases h:iz a ds=0
 case neg=>
  have f0:(iz a ds==0)=af:=Yr h;rw[show jk a ds=iz a ds by rw[jk,aM h]];exact HN
 have l:=h;have g:=p' (p0 l) o;have z:=g.pg.len;have t:jk a ds=if∀d∈ds,gy a ds (aa.bd d) [] 0 then 0 else 9:=by rw[jk,aC<|Yr h]
 rw[h]at f;rw[t];refine(dH)<|mB f ?_;simp only[bne,go_sem];refine lp 4 (A ds) [0] (λj s p n r=>∀(i:Nat)(h:i<A ds),i<j->gy a ds (aa.bd ds[i]) [] 0) Zs ?_;rintro j s p B r _ y oE;refine ZL (λm=>?_) λh=>?_
 .have e:=aD m;have g0:=aa.bV ds j m;have zh:=TM g.pg _ _ _<|g.rc e<|nR.tp l _ e;have pn:gy a ds (aa.bd ds[j]) [] 0->∀(i:Nat)(h:i<A ds),i<j+1->gy a ds (aa.bd ds[i]) [] 0:=λq i h hi=>Dy;have rS:¬gy a ds (aa.bd ds[j]) [] 0->¬∀d∈ds,gy a ds (aa.bd d) [] 0:=λq w=>q<|w _ e;generalize hb:ah (gy a ds (aa.bd ds[j]) [] 0)=b;exact Nx
 exact PF
def acL(a:aF)(ds:aO)(u:(bH.mk a ds).sz<=1048576)(o:(bH.mk a ds).ok):az 103 [.cp [ae.sl a,aa.sl ds]]<|I<|gU a ds:=by
 have f:=acN a ds u o;have SV:Cl<|.cp [.sl 2<|ae.ab a,.sl 12<|aa.ab ds]:=Cl.eT da;simp only[ae.sl,aa.sl]at f;by_cases h:jk a ds=0
 case neg=>
  have f0:(jk a ds==0)=af:=Yr h;rw[show gU a ds=jk a ds by rw[gU,aM h]];exact HN
 have l:=sV h;have g:=p' (p0 l) o;have z:=g.pg.len;have t:gU a ds=if∀d∈ds,fy a ds (aa.bd d) [] 0 then 0 else 10:=by rw[gU,aC<|Yr h]
 rw[h]at f;rw[t];refine(dH)<|mB f ?_;simp only[bne,go_sem];refine lp 4 (A ds) [0] (λj s p n r=>∀(i:Nat)(h:i<A ds),i<j->fy a ds (aa.bd ds[i]) [] 0) Zs ?_;rintro j s p B r _ y oE;refine ZL (λm=>?_) λh=>?_
 .have e:=aD m;have g0:=aa.bV ds j m;have zh:=TN g.pg _ _ _<|g.rc e<|nR.tp l _ e;have pn:fy a ds (aa.bd ds[j]) [] 0->∀(i:Nat)(h:i<A ds),i<j+1->fy a ds (aa.bd ds[i]) [] 0:=λq i h hi=>Dy;have rS:¬fy a ds (aa.bd ds[j]) [] 0->¬∀d∈ds,fy a ds (aa.bd d) [] 0:=λq w=>q<|w _ e;generalize hb:ah (fy a ds (aa.bd ds[j]) [] 0)=b;exact Nx
 exact PF
def Sp.Xt{args:DL}{r b:D}(a:Sp g3 g5 args r)(j:gi r b):Sp g3 g5 args b:=
 ⟨a.ok,λm d l f i g=>Calls.mono (a.run m d l f i g) λ_ _⟨v,e,h,k⟩=>⟨v,e,h,j _ _ k⟩⟩
def gi.ag{a b:DL}(m:A a=A b)(k:∀i∈a.zip b,gi i.1 i.2):gi (.ag a)<|.ag b:=λj v p=>by
 cases p with
 |ag _ q r l=>
  refine .ag b q Zo λe d v f o=>?_;have g:e<A a:=(Yy m)<|(dX.1 f).1;exact k (a[e],d) (jg.2 ⟨e,by rw[ML];exact⟨bL g,f⟩⟩) j v<|l e _ v (bL g) o
def FJ(k:J)(ay:dW k):az 104 [.ag k.ds]<|.ag (cD k).ds:=by
 have an (d:J) (e:SizeOf.sizeOf d<SizeOf.sizeOf k) (B:dW d):az 104 [.ag d.ds]<|.ag (cD d).ds:=FJ d B;have⟨j,P,a⟩:=k;have r:=ay;rw[dW,w5]at r;rw[cD,ES];by_cases F:j=4
 .subst F;rw[aM C];obtain⟨c,i,rfl⟩:∃c i,a=c::i:=by
   match a,r.2.1 C with
   |c::i,_=>exact⟨c,i,C⟩
  have Z:=an c ch<|r.2.2 c Zs;have g:(J.ab (c::i))[0]?=E c.ds:=C;have aF:=J.cl c;have M:=J.cl<|cD c;have⟨u,y,w⟩:=c;simp only[b4,tu];have⟨ao,ar,ap,e⟩:=J.ex<|cD<|.mk u y w;rw[e]at Z M⊢;simp only[J.ds]at Z g aF M;refine(ki [] [.cell 2 99])<|(bQ g) ?_;exact .cl _<|Cl.bC M
 rw[aC F];have f4:(j==4)=af:=Yr F;refine(wB f4 [] [.cell 2 99])<|jH 4 (A a) (λq=>Fw.fF 37 [(1,.cp [I j,S P,.sl 3<|J.ab a]),(2,.rf 2 0 0),(3,.rf 3 0 0)] λav l aH au=>(∃f,l 2=E ⟨0,99,3,f,Q⟩/\A f=3)/\∃d,l 3=E ⟨0,99,3,[I j,S P,d],Q⟩/\aL [34] l 99 3 (J.ab<|(Y q a).map cD) d) C
  ⟨C,ow,⟨_,l4,C⟩,.sc<|.slice Q 0 0,ep,aG ⟨C,C⟩⟩ ?_
 rintro q⟨av,l,aH,aQ,au,aK⟩aO p⟨rfl,ak,⟨f,D,ad⟩,d,o,e⟩;simp only[bM]at p ak D o e;obtain⟨z,R,m,-⟩:=ak;refine dN (JJ p<|JJ z<|J.b6 a) (λG=>?_) λB=>?_
 .have g:=J.bV a q G;have al:=aD G;have K:=an a[q] (by have:=fl al;simp;omega)<|r.2.2 _ al;have ah:=J.cl a[q];have s:J.ab ((Y (q+1) a).map cD)=J.ab ((Y q a).map cD)++[(cD a[q]).ds]:=by
   rw[J.cu,J.cu,dm G,bX,bX];rfl
  have vB:A (J.ab<|(Y q a).map cD)=q:=DN;rcases ax:a[q]with⟨u,y,w⟩
  rw[ax]at g K ah s;have⟨ao,ar,ap,aB⟩:=J.ex<|cD<|.mk u y w;rw[aB]at K s;simp only[J.ds]at g K ah s;refine(ZN)<|dP [3] []<|(bQ<|JJ p<|JJ z<|JJ m<|JJ g<|JJ o @jt)<|js (S:=[34]) (aq:=J.ab<|(Y q a).map cD) (bD:=[[I ao,S ar,.sl 3<|J.ab ap]]) Zs Zk ((Pa)<|e.aA bF) (J.hQ _) hF Zs C (by rw[vB];show(q+1)*48<=_;omega) D2 (by show 34<37;decide) λaI aP aR am X=>?_;obtain⟨aN,rfl,-⟩:=eG am Zs;have V:=X 3 Zd Zd;have U:=X 2 Zd Zd;simp only[a_,dG,bj,dv,D,o]at V U;simp only[p,m,V,go_sem];refine nM ⟨C,by simp[aw,z,R,m],⟨f,Yu U,ad⟩,_,my,?_⟩;rw[s];exact aL.aA am bF
 obtain rfl:q=A a:=Zo;rw[cc]at e;obtain⟨aS,aT,aU,rfl⟩:∃t b c,f=[t,b,c]:=by
  match f,ad with
  |[t,b,c],_=>exact⟨t,b,c,C⟩
 simp only[B,R,m,D,o,go_sem];refine⟨n9 e,v8 j P<|aL.fz (e.aA bF) Zd (J.hQ _)<|J.dl _⟩
def xx(k v:Int)(cs:cm)(ts:dp):DL:=[I k,I v,bp,.sl 4<|O.ab cs,.sl 3<|J.ab ts]
def TR(D v:Int)(ty:J)(al:List bZ)(aN:dW ty)(aO:∀F∈al,F.ty≠[])(a1:A al<=1000)(aS:(al.map λF=>A F.ty).sum<=2000000000000):
 az 164 [I D,I v,.ag ty.ds,.sl 5<|al.map bo] (.ag<|xx D v (al.map bZ.c) (cD ty::ao (al.map bZ.ty))):=by
 have ah:=FJ ty aN;have aK:=J.cl ty;have⟨p,t,s,aM⟩:=J.ex<|cD ty;rw[aM]at ah⊢;have aF:cE aB 88=E (99,3,48):=Zk;have⟨a5,a7,a6⟩:=ty;have aQ:A (al.map bo)=A al:=Zs;simp only[J.ds]at ah aK;refine(ki [] [.cell 8 194]) ?_;simp only[xx,go_sem];refine(ZC)<|lp 10 (A al) [3,8,9] (λq aH f aT ar=>(∃c,f 8=E ⟨0,194,5,c,Q⟩/\A c=5)/\∃m o,f 9=E ⟨0,194,5,[I D,I v,bp,m,o],Q⟩/\aL [33] f 112 4 (O.ab<|(Y q al).map bZ.c) m/\aL [16,43] f 99 3 (J.ab (.mk p t s::ao ((Y q al).map bZ.ty))) o) ⟨⟨_,AO,C⟩,_,_,by simp[ai];exact⟨C,C⟩,aG ⟨C,C⟩,aj ⟨16,_,Zs,C,by simp[ai,J.ab,J.ds]⟩⟩ ?_;rintro q aH f aT ar aX a2⟨⟨c8,P,rP⟩,m,o,u,k,l⟩;refine dN aQ (λbw=>?_) λaI=>?_
 .have g:(al.map bo)[q]?=E (bo al[q]):=by simp[bw]
  have y:=aO _<|aD bw;have B:O.ab ((Y (q+1) al).map bZ.c)=O.ab ((Y q al).map bZ.c)++[(al[q].c).ds]:=by rw[O.cu,O.cu,dm bw,bX,bX];rfl
  have j:ao ((Y (q+1) al).map bZ.ty)=ao ((Y q al).map bZ.ty)++al[q].ty:=OR;have ak:A (ao<|(Y q al).map bZ.ty)+A al[q].ty<=2000000000000:=by
   rw[<-b9,<-j];have aU:A (ao<|(Y (q+1) al).map bZ.ty)<=A (ao<|al.map bZ.ty):=P6;apply gS aU;rw[x0,eu];exact aS
  rcases aR:al[q]with⟨⟨av,aC,au,ax⟩,ay⟩
  rw[aR]at g y B j ak;simp only[bo,O.ds,bg,aY]at g y B j ak;have Z:A (O.ab<|(Y q al).map bZ.c)=q:=DO;refine(ZN)<|dP [9] [] ?_;simp only[g,u,jt,go_sem];refine js (S:=[33]) (aq:=O.ab<|(Y q al).map bZ.c) (bD:=[[I av,I aC,bm au,.sl 4<|O.ab ax]]) Zs Zk ((Pa)<|k.aA bF) (O.hQ _) DF Zs C (by rw[Z];show(q+1)*64<=_;omega) (by rw[Z];show q+1<=aE;unfold aE;omega) (by show 33<46;decide) λaV a3 a8 am i=>?_;obtain⟨aZ,rfl,-⟩:=eG am Zs;have R:=i 8 Zd Zd;have V:=i 9 Zd Zd;have G:=i 16 Zd Zd;have M:=i 43 Zd Zd;simp only[a_,dG,bj,dv,P,u]at R V G M;refine(ad V) ?_;have ap:A (J.ab (.mk p t s::ao ((Y q al).map bZ.ty)))=A (ao<|(Y q al).map bZ.ty)+1:=by rw[J.b6];rfl
  refine dP [9] []<|(ad<|JJ g @jt)<|js (S:=[16,43]) (aq:=J.ab (.mk p t s::ao ((Y q al).map bZ.ty))) (bD:=J.ab ay) Zs aF ((Pa)<|l.aA (by simp[ai,G,M])) (J.hQ _) qu (by rw[J.b6];exact uJ.2 y) OQ
   (by rw[ap,J.b6];omega) (by rw[ap,J.b6];unfold aE;omega) (by show 43<46;decide) ?_
  intro aW a4 a9 an w;have U:=w 8 Zd Zd;have X:=w 9 Zd Zd;have K:=w 33 Zd Zd;obtain⟨a0,rfl,-⟩:=eG an (by simp[J.ab]);simp only[a_,bN,dG,bj,dv,R]at U X K;refine(ad X) ?_;refine dI ⟨⟨c8,Yu U,rP⟩,_,_,my,?_,?_⟩
  .rw[B];exact aL.aA am<|Yu K
  rw[j,<-bg,show∀a b,J.ab (a++b)=J.ab a++J.ab b from λa b=>by rw[J.cu,J.cu,J.cu,bX]];exact(aL.aA an bF).sub Zs
 obtain rfl:q=A al:=Zo;rw[cc]at k l;obtain⟨a',ba,bb,bd,be,rfl⟩:∃a b c d e,c8=[a,b,c,d,e]:=HU;simp only[aI,P,u,go_sem];refine⟨?_,Fz.oy<|.c (.cl _<|bc _)<|.c (.cl _<|bc _)<|.c (.cl _<|bc _)<|.c (aL.fz (k.aA bF) Zd (O.hQ _)<|O.dl _)<|.c (aL.fz (l.aA bF) Zd (J.hQ _)<|J.dl _) .n⟩;show(cO m&&cO o)=W;rw[n9 k,n9 l];rfl
def mk_le(b v:Int)(a:cm)(d:dp):gi (.ag<|xx b v a d)<|.ag<|bo ⟨.mk b v [] a,d⟩:=
 gi.ag C (by simp only[xx,bo,O.ds,bg,aY,rb,re,bM];exact⟨.rfl,.rfl,.nil,.rfl,.rfl,Zs⟩)
def s_(a v:Int)(ty:J)(al:List bZ)(d:dW ty)(e:∀b∈al,b.ty≠[])(f:A al<=1000)(g:(al.map λb=>A b.ty).sum<=2000000000000):
 az 164 [I a,I v,.ag ty.ds,.sl 5<|al.map bo] (.ag<|bo ⟨.mk a v []<|al.map bZ.c,cD ty::ao (al.map bZ.ty)⟩):=Sp.Xt (TR a v ty al d e f g)<|mk_le _ _ _ _
def FQ(e v:Int)(ty:J)(f:dW ty):az 164 [I e,I v,.ag ty.ds,bp]<|.ag<|bo ⟨.mk e v [] [],[cD ty]⟩:=
 (s_ e v ty [] f Zs Zs Zs).le C λg d h a b=>by
  match g,a,b with
  |0,a,b|1,a,b|2,a,b=>simp at a b;subst a;subst b;exact .rfl
  |3,a,b=>simp at a b;subst a;subst b;exact .nil
def FP(d:dp)(r:J)(ar:A d<=1000000):az 233 [.sl 3<|J.ab d,.ag r.ds]<|.ag (iZ d r).ds:=by
 have an:cb.wrap ((A d:Int)-1)=(A d:Int)-1:=dE _ Zo;have⟨f,i,g⟩:=r;refine(wB an [3] [.cell 4 99])<|l' (λw=>∃a:Nat,a<=A d/\Fw.fF 20 [(0,.sl 3<|J.ab d),(3,.rf 3 0 0),(4,.rf 4 0 0),(5,I<|(a:Int)-1)] (λX m U V=>(∃e,m 4=E ⟨0,99,3,e,Q⟩/\A e=3)/\m 3=E ⟨0,99,3,(iZ (d.drop a)<|.mk f i g).ds,Q⟩) w) (λw=>match w.env 5 with|.sc (.int _ U)=>(U+1).toNat|_=>0)
  ⟨A d,bJ _,C,ow,⟨_,l4,C⟩,by simp[ai,iZ,J.ds]⟩ ?_
 rintro⟨X,m,au,av,V,ap⟩⟨a,aq,rfl,M,⟨p,u,K⟩,k⟩;simp only[bM]at M u k;obtain⟨F,q,G,s,-⟩:=M;have⟨y,B,z,l⟩:=J.ex<|iZ (d.drop a)<|.mk f i g;simp only[l,J.ds]at k;cases a with
 |zero=>
  obtain⟨aB,aC,aD,rfl⟩:∃o b e,p=[o,b,e]:=by
   match p,K with
   |[o,b,e],_=>exact⟨o,b,e,C⟩
  have ak:ah ((((0:Nat):Int)-1)>=0)=af:=Zs;have am:iZ d (.mk f i g)=.mk y B z:=l;rw[am];simp only[s,ak,q,G,k,u,go_sem];exact .cl _<|Cl.bC<|J.cl<|.mk y B z
 |succ a=>
  have D:((a+1:Nat):Int)-1=(a:Int):=Zo;have P:a<A d:=Zo;have t:=J.bV d a P;have Y:d.drop a=d[a]::d.drop (a+1):=ml P;have j:=Tx d[a]<|.mk y B z;rw[<-l]at j;have Z:mX d[a] (iZ (d.drop<|a+1)<|.mk f i g)=iZ (d.drop a) (.mk f i g):=Yf Y;rw[Z,l]at j;have S:=J.cl d[a];have⟨ax,aA,ay,al⟩:=J.ex d[a];have⟨aF,aI,aH,R⟩:=J.ex<|iZ (d.drop a)<|.mk f i g;rw[al]at t j S;rw[R]at j;simp only[J.ds]at t j S;have ao:cb.wrap ((a:Int)-1)=(a:Int)-1:=dE _ Zo;refine(ad<|JJ D s)<|dP [3] []<|(bQ<|JJ D<|JJ F<|JJ q<|JJ s<|JJ t<|JJ k ao) ?_;exact⟨⟨a,Zo,C,by simp[aw,F,q,G],⟨p,Yu u,K⟩,by simp[ai,R,J.ds]⟩,bU⟩
def acX(a:aX)(x:BA)(d:A a<=aE):az 312 [bG a,S x]<|B<|ah<|x∈a:=by
 have b:=Eh x a;rw[show(a.any λy=>ah<|y=x)=ah (x∈a)by rw[oi];simp]at b;refine(cR) ?_;have:=qN a x d;exact(bQ b)<|Fz.aK C
def TS(a:aX)(b:BA)(e:A a<=aE):az 284 [bG a,S b]<|S (if b∈a then nE else b):=by
 refine(cR) ?_;have:=acX a b e;refine(ZC) ?_;by_cases d:b∈a
 .simp only[b_ d,aM d,go_sem];exact .cl _<|bc _
 simp only[bW d,aC d,go_sem];exact .cl _<|bc _
def Ds(a:aX):∀r∈R a,A r=1:=λr h=>IF
def HC(a:aX):∀r∈R a,∀d∈r,Cl d:=db.1<|pc a
def Sy(d:bu):∀a:aX,(d.foldl (λa b=>fN b [] a) a).length<=A a+L.aZ d:=by
 induction d with
 |nil=>intro a;simp[L.aZ]
 |cons b d e=>intro a;rw[oj,L.aZ];have:=e (fN b [] a);have:=Bj b [] a;omega
def jY:∀(d:bu)(a:Nat),L.aZ (Y a d)<=L.aZ d
 |[],a=>by simp
 |c::b,0=>yt
 |c::b,a+1=>by have:=jY b a;simp only[jz,L.aZ];omega
def acW(ao v:Int)(r:BA)(ar:Int)(av:BA)(au:dp)(ap:aX)(f:bu)(e:bq)(aN:∀j∈f,eU j=W)(aS:∀j∈f,j.sz<=1048576)(bb:L.aZ f<=100000)(a_:A f<=100000)(K:1<=A f)(a6:A e<=4000000):
 az 232 [.cp<|L.ds<|.mk ao v r (.mk ar av au) ap f,.ag<|cY e] (bG<|bO f e):=by
 have Z:=λd=>qN (e.map Ev.n) d m_;have aO:Cl<|bG<|e.map Ev.n:=mE _;have an:bG (e.map Ev.n)=.sl 1 (e.map λd=>[S d.n]):=by rw[bG,eu];rfl
 have a8:bm (e.map Ev.l)=.sl 1 (e.map λd=>[I d.l]):=by rw[bm,eu];rfl
 rw[an]at aO;simp only[an]at Z;obtain⟨F,u⟩:∃F:Nat->aX,F=λa=>(Y a<|f.drop 1).foldl (λaW j=>fN j [] aW) []:=⟨_,C⟩;have X a:A (F a)<=100000:=by
  simp only[u];have K:=Sy (Y a<|f.drop 1) [];have a2:=jY (f.drop 1) a;have a3:L.aZ (f.drop 1)<=L.aZ f:=by cases f<;>simp[L.aZ]
  simp only[gR,ew]at K;omega
 have aF:cE aB 75=E (9,1,16):=Zk;refine(ki [1000027,1000048] [.tmp 4]) ?_;simp only[cY,go_sem];refine l' (λw=>∃a:Nat,a+1<=A f/\Fw.fF 50 [(0,.cp [I ao,I v,S r,I ar,S av,.sl 3<|J.ab au,.sl 1 (ap.map λw=>[S w]),.sl 8<|L.ab f]),(3,.cp [.sl 1 (e.map λd=>[S d.n]),.sl 3<|J.ab<|e.map Ev.t,.sl 1 (e.map λd=>[I d.l])]),(6,I (a+1:Nat))] (λenv s r D=>aL [9,26] s 9 1 (R<|F a)<|env 5) w) (λw=>match w.env 6 with|.sc (.int _ r)=>A f-r.toNat|_=>0)
  ⟨0,K,C,ow,aj ⟨9,0,Zs,Ye u,Yu u⟩⟩ ?_
 rintro⟨env,s,aU,bi,D,ay⟩⟨a,a9,rfl,am,i⟩;simp only[bM]at am i;obtain⟨G,V,y,-⟩:=am;refine lm (JJ G y) (λk=>?_) λk=>?_
 .have p:a+1<A f:=by simp at k;omega
  have o:=L.bV f (a+1) p;have aT:Int.toNat ((a+1:Nat):Int)=a+1:=C;have M:=aD p;have aH:F (a+1)=fN f[a+1] [] (F a):=by
   rw[u];simp only;rw[dm ch,so];simp
  have bd:(f[a+1]).num<=100000:=Yo<|L.jw M;have z:=Kz f[a+1] (aN _ M) [] (F a) (by have U:=aS _ M;simp;omega)<|Yo<|X a;rw[<-aH]at z;have P:=L.cl f[a+1];generalize f[a+1]=j at o z P;have⟨bk,bv,bn,⟨br,bt,bs⟩,bo,bl⟩:=j;simp only[L.ds,J.ds,bG,bg,aY]at o z P;simp only[G,y,aT,o,go_sem];refine va [9,26] [.cp _,bp] [] (env 5) 9 1 _ _ (z.FV .rfl .nil ⟨Cl.eT P,pc _⟩) C i da ?_;intro a0 aV bw aQ a4;refine(ad<|JJ y<|gJ (a+1) Zo) ?_;exact⟨⟨a+1,p,C,by simp[aw,G,V],(Pa)<|aQ.sub Zs⟩,rn⟩
 have a':a+1=A f:=by simp at k;omega
 have al:bO f e=(F a).filter λd=>(cZ e d).isSome:=by
  rw[bO,u];simp only;rw[dj ch]
 have aK:=X a;rw[al];generalize F a=g at i aK al;refine(ad k)<|GK.nY [9,26] 5 (.sl 1<|R g) ((Pa)<|aL.fz (i.aA o4) Zd (Ds _)<|HC _) (pc g)<|(ZN) ?_;clear i k y;have aI:A (R g)=g.length:=by simp[R]
 refine fG 8 g.length (λq=>Fw.fF 50 [(5,.sl 1<|R g),(3,.cp [.sl 1 (e.map λd=>[S d.n]),.sl 3<|J.ab<|e.map Ev.t,.sl 1 (e.map λd=>[I d.l])])] λenv s r D=>aL [27,48] s 9 1 (R ((g.take q).filter λd=>(cZ e d).isSome))<|env 7) C ⟨C,Ye V,aj ⟨27,aU 27,Zs,bU,ep⟩⟩ ?_;rintro q env s aV D ay be i;refine dN aI (λp=>?_) λk=>?_
 .have o:(R g)[q]?=E [S g[q]]:=by simp[R,p]
  have aP:ah (kD (e.map Ev.n) g[q]>=0)=(cZ e g[q]).isSome:=by
   obtain⟨m,b⟩|⟨bf,a7,m,b⟩:=rY g[q] e<;>rw[m,b]<;>simp
  have B:(g.take<|q+1).filter (λd=>(cZ e d).isSome)=(g.take q).filter (λd=>(cZ e d).isSome)++if(cZ e g[q]).isSome then[g[q]]else[]:=by
   rw[dm p,Hg];congr 1;simp only[xW,filter_nil]
  have ba:A ((g.take q).filter λd=>(cZ e d).isSome)<=q:=by
   have U:=qi (λd=>(cZ e d).isSome) (g.take q);rw[ij]at U;omega
  have U:=Z g[q];refine(fQ<|JJ o aP) ?_;cases ak:(cZ e g[q]).isSome
  .rw[ak,aC Zs,de]at B;refine(ZN) ?_;refine nM ⟨C,bU,?_⟩;rw[B];simpa[aw]using i
  rw[ak,aM C]at B;generalize (g.take q).filter (λd=>(cZ e d).isSome)=ax at*;refine(ad o)<|GK.cM (eC.eS (S:=[27,48]) (aq:=R ax) (bD:=R [g[q]]) aF ((Pa)<|i.aA bF) (Ds _) (by simp[aw,dS,ai,R]) (by simp[R]) (by simp[R];rfl) (by simp[R];omega) (by simp[R];unfold aE;omega) λa1 bh bz aR a5=>(ZN) ?_);refine nM ⟨C,bU,?_⟩;rw[B,show∀m b,R (m++b)=R m++R b from λm b=>bX];simpa[aw]using aR.sub (S':=[27,48]) Zs
 obtain rfl:q=g.length:=Zo;rw[cc]at i;exact(ad k)<|aL.fz i Zd (Ds _)<|HC _
def eY:ax:=[12,185,195,205,218]
abbrev h4(l:List<|dp):cB:=au J.sl l
structure L7 (V:List ae) (ds:List aa) (H:Nat->Option Ob) (g:Nat) (a:List O):Prop where
 ob:∃df f e h b,H 12=E ⟨g,91,6,[.cp [ae.sl V,aa.sl ds],I df,f,e,h,b],Q⟩/\aL [185] H 112 4 (O.ab a) f/\
  (∃NN,NN.length=a.length/\aL [195] H 88 1 (h4 NN) e)/\(∃TT,TT.length=a.length/\aL [218] H 99 3 (J.ab TT) h)/\
  ∃BB,BB.length<=a.length/\(∀r∈BB,A r=4/\∀d∈r,Cl d)/\aL [205] H 294 4 BB b
 bB:∀t∈eY,∀ob,H t=E ob->∀d∈ob.cells,In eY d
def L7.aA{H H':a'}(r:L7 a5 be H am v1)(he:∀a∈eY,H' a=H a):L7 a5 be H' am v1:=by
 obtain⟨⟨q,y,x,z,w,g,h,⟨e,i,j⟩,⟨f,k,l⟩,d,m,o,p⟩,s⟩:=r;exact⟨⟨q,y,x,z,w,(he 12 fa).trans g,h.aA D7,⟨e,i,j.aA D7⟩,⟨f,k,l.aA D7⟩,d,m,o,p.aA D7⟩,λa b u t=>s a b u<|(he a b).symm.trans t⟩
def pf(a:J.w he):dW he:=rK he a.1
def abm{a:bq}{g:BA}{e:Nat}(h:e<A a)(d:kD (a.map Ev.n) g=e):k6 a g=A a-1-e:=by
 obtain⟨b,rfl⟩:∃b:bq,a=b.reverse:=⟨a.reverse,Zs⟩;unfold k6;rw[reverse_reverse]
 induction b generalizing e with
 |nil=>simp at h
 |cons v b k=>
  rw[reverse_cons,bX,b4,eO,Ei,bE,MN]at d;rw[wk];by_cases f:v.n=g
  .rw[aM f]at d;simp[f];omega
  rw[aC f]at d;simp only[f,mw,cond_false];have i:e<A b.reverse:=by
   obtain⟨_,j⟩|⟨l,m,_,j⟩:=rY g b.reverse
   .omega
   rw[j]at d;have:l=e:=by exact_mod_cast d
   omega
  rw[k i d];simp at i h⊢;omega
def UA{g:aO}{j:a'}(K:L7 a5 g j am v1)(aH:A g<=1000)(a:BA)(e:bq)(aI:A e<=1000000)(hw:∀v∈e,J.w v.t)(Z:∀d∈g,J.w<|aa.ty d)(au:cZ e a=Q->0<=eV g a):
 kz aB eY j 161 [.rf 12 am 0,S a,.ag<|cY e] (sE (mO g e a) 1):=by
 obtain⟨aA,aQ,aP,aR,aN,X,-⟩:=K.ob;have Y:=qN (e.map Ev.n) a m_;have ao:Cl<|bG<|e.map Ev.n:=mE _;simp only[bG]at Y ao;have ap:A ((e.map Ev.n).map λa=>[S a])=A e:=Zs;have aK:A (J.ab<|e.map Ev.t)=A e:=yv;refine kz.ey [] [.cell 6 194] C C Zk Zt C Zs K.bB λaM ay ax=>?_;have M:∀b∈eY,b5 eY j b=j b:=λb f=>by simp only[b5,f,bx]
 have I:=(M 12 fa).trans X;have P:∀(F:a'),(∀b,b≠6->F b=b5 eY j b)->∀b∈eY,F b=j b:=λF V b f=>by rw[V b (by rintro rfl;simp[eY]at f),M b f]
 generalize b5 eY j=av at*;simp only[cY,go_sem];refine(ZC) ?_;obtain⟨z,B⟩|⟨r,G,z,B⟩:=rY a e
 .obtain⟨s,U,D,-⟩:=uj<|au z;have D:eV g a=s:=D;have an:=BR g a jC;rw[D]at an;have i:=aa.bV g s U;have l:=pf<|Z _<|aD U;generalize g[s]=d at i l;obtain⟨aC,⟨m,p,o⟩,az⟩:=d;have q:=FQ 11 s (.mk m p o) l;have y:dW<|cD<|.mk m p o:=jE _ l;rw[B];simp only[mO,z,D];generalize cD (.mk m p o)=u at q y;simp only[aa.ds,J.ds,bg,aY,bo,O.ds]at i q;simp only[Int.reduceLT,I,go_sem];refine(bQ<|JJ I i) ?_;exact⟨Cl.bC<|eK ⟨.mk 11 s [] [],[u]⟩,⟨⟨.mk 11 s [] [],[u]⟩,C,C,Zs,Zs,Yq y⟩,P _ λb f=>Yr f⟩
 have i:=J.bV (e.map Ev.t) r<|Yq G;rw[fk]at i;have l:=pf<|hw _<|aD G;have R:=abm G B;have ak:ah ((r:Int)<0)=af:=Zs;have aq:cb.wrap ((A e:Int)-1)=(A e:Int)-1:=dE _ Zo;have aL:cb.wrap ((A e:Int)-1-r)=(A e:Int)-1-r:=dE _ Zo;have al:((A e:Int)-1-r)=((k6 e a:Nat):Int):=Yv R;have ar:cb.wrap ((k6 e a:Nat):Int)=(k6 e a:Nat):=dE _<|Yv R;rw[B];simp only[mO,z,oY,bx];obtain⟨m,p,o,f⟩:=J.ex e[r].t;rw[f]at i l;have q:=FQ 1 (k6 e a:Nat) (.mk m p o) l;have y:=jE _ l;generalize cD (.mk m p o)=u at q y;simp only[J.ds,bo,O.ds,bg,aY]at i q;refine(ad ak)<|dP [] [48] ?_;simp only[ap,i,aq,ar,al,go_sem];refine(ve q) ?_;exact⟨Cl.bC<|eK ⟨eh (k6 e a:Nat),[u]⟩,⟨⟨eh (k6 e a:Nat),[u]⟩,C,C,Zs,Zs,Yq y⟩,P _ λb f=>Yr f⟩
def call7{a:St}{f:hC}{nt:Nat}{args:DL}{h:D->List O->Prop}(p:∀H n d b,h d b->L7 a5 be H am b->(∀e,e∉eY->H e=a.H e)->c2 ({a with H:=H,n:=n}.put g7 d))(k:ax)(i:hV)(r:g3.funcs[g5]?=E f)(q:f.body=E n7)(t:(f.name== "runtime.NumGoroutine")=af)
 (u:f.ntmps=nt) (w:f.results.toList=i) (s:A args<=nt)
 (m:vc g3 k n7 (nD g3 i λd H n T=>Cl d/\T=a.T/\∃b,h d b/\L7 a5 be H am b) {env:=ej args,H:=b5 eY a.H,n:=a.n,nt:=nt,T:=a.T,N:=a.N}):er g3 a g5 args g7 c2:=by
 have key:∀d H(n:bi)T,(Cl d/\T=a.T/\∃b,h d b/\L7 a5 be H am b)->(In eY d/\T=a.T/\(∀e∈eY,∀l,H e=E l->∀d∈l.cells,In eY d)/\c2 ({a with H:=iD eY eY a.H H,n:=n}.put g7 d)):=λd H n T⟨h1,h2,b,o,j⟩=>
  ⟨h1.bB,h2,j.bB,p _ n d b o (j.aA λe g=>vH g) λe g=>xw g g⟩
 refine A1 eY k i r q t u w s<|lW n7 (λx y hx=>?_) m;exact yC
def cH{u:Nat}(b:am∈eY)(a:eY.contains u=af):am≠u:=by
 rintro rfl;rw[List.contains_iff_mem.2 b]at a;cases a
def gL.FU{b:Nat}{d:bZ}(a:gL n5 am d)(e:am<=b):gL n5 b d:=⟨a.c,a.ne,gS a.len e,a.fn⟩
abbrev W7(t:L):Nat:=10000000*t.num
def T7(f:bI)(V:aF)(ds:aO)(t:L)(e:bq)(l:Int):Prop:=∀(g m:Nat)(a:cm)(s:St)(dst:ON)(K:aU),L7 V ds s.H g a->a.length=A ds+m->m+L.bf t<=1000000->
 (∀H n b,gL (cV V ds t e l m).1 (W7 t) b->L7 V ds H g (a++(cV V ds t e l m).2)->(∀t,t∉eY->H t=s.H t)->K ({s with H:=H,n:=n}.put dst<|.ag<|bo b))->
 er aB s f [.rf 12 g 0,.cp t.ds,.ag<|cY e,I l] dst K
def T7.fin{e:aF}{f:aO}{a:L}{g:St}(l:∀H n b,gL (cV e f a it a3 a0).1 (W7 a) b->L7 e f H am (v1++(cV e f a it a3 a0).2)->(∀a,a∉eY->H a=g.H a)->c2 ({g with H:=H,n:=n}.put g7<|.ag<|bo b)):
 ∀H n d h,(∃b,d=D.ag (bo b)/\gL (cV e f a it a3 a0).1 (W7 a) b/\h=v1++(cV e f a it a3 a0).2)->L7 e f H am h->(∀a,a∉eY->H a=g.H a)->c2 ({g with H:=H,n:=n}.put g7 d):=by
 rintro H n d h⟨b,rfl,i,rfl⟩j k;exact l H n b i j k
def agm{g:aF}{e:aO}(s:gT g e){v:Int}{d:BA}{f:J}{a:bq}{l:Int}(j:RC g e (.mk 1 v d f hH h1) a l):T7 105 g e (.mk 1 v d f hH h1) a l:=by
 intro P Z m ad an am R p ao k;obtain⟨y,A,z⟩:=f;obtain rfl:h1=[]:=j.sh.zero C;have ap:0<L.num (.mk 1 v d (.mk y A z) hH []):=sH;have Y:(cV g e (.mk 1 v d (.mk y A z) hH []) a l Z)=(mO e a d,[]):=by simp[cV,tj,uD]
 have k:=T7.fin k;rw[Y]at k;have o:L7 g e (b5 eY ad.H) P m:=R.aA λf i=>by simp only[b5,i,bx]
 have q:=UA o (Yo s.len) d a (Yo j.el) j.w s.Bb (λab=>j.tc.free d (by
  rw[fv];refine aG ⟨C,C,λp=>?_⟩;obtain⟨ar,t⟩:=ta p;rw[ab]at t;cases t))
 have S:=gV a;obtain⟨ah,ak,al,U⟩:∃B b D,cY a=[B,b,D]:=⟨_,_,_,C⟩;rw[U]at S q⊢;refine call7 k [] [.cell 8 194] C C Zk Zt C Zs<|(ZD) ?_;refine aj<|aj<|q _ _ _ (λf i=>Yu<|cH i (u:=8) C) ?_;rintro aq r⟨⟨⟨G,M,F,I⟩,K⟩,rfl,X⟩V;simp only[bo,go_sem];exact⟨V,m,⟨⟨.mk G M F I,K⟩,C,X.FU (by unfold W7;omega),Zs⟩,o.aA λf i=>Yu<|cH i (u:=8) C⟩
def GQ{v:Int}{a:Int}:cV a5 be (.mk a3 v gs he hH h1) it a am=tj a5 be a3 v gs he hH h1 (h1.map L.bf) (h1.map<|cV a5 be) it a am:=by
 rw[cV,zY,L.sO]
def zX{V:aF}{ds:aO}{k:Int}{n:BA}{t:J}{ns:aX}{ks:bu}{e:bq}{l:Int}{m i:Nat}(b:i<A ks)(a:¬ig k i):
 j_ V ds k n t ns ks (ks.map L.bf) (ks.map<|cV V ds) e l m i=cV V ds ks[i] (cU V ds k n t ns ks e l i) (ct k l) (cK k (ks.map L.bf) m i):=by
 rw[j_,aC a,getD_map b]
def aim{a:Nat}(b:a<A gt):Y (a+1) (ix a3 gt)=Y a (ix a3 gt)++[f' a3 a+gt[a]]:=by
 rw[dm (by simpa[ix]using b)];simp[ix]
def QV{k:Int}{l:ax}{m i:Nat}(a:i<A l):cK k l m (i+1)=cK k l m i+(f' k i+l[i]):=by
 unfold cK;rw[aim a];simp;omega
def CK{V:aF}{ds:aO}{a v:Int}{n:BA}{t:J}{ns:aX}{ks:bu}{e:bq}{l:Int}{m:Nat}(g:a≠10)(f:a≠1)(d:¬(a=9\/a=11)):
 cV V ds (.mk a v n t ns ks) e l m=(.mk a (nJ V a v n) [] ((cz<|A ks).map λb=>(j_ V ds a n t ns ks (ks.map L.bf) (ks.map<|cV V ds) e l m b).1),
  ao ((cz<|A ks).map λb=>(j_ V ds a n t ns ks (ks.map L.bf) (ks.map<|cV V ds) e l m b).2)):=by
 rw[GQ,tj,aC g,aC f,aC d,bE];congr 2;refine jn λb _=>?_;rw[aC λh=>d h.1,aY]
def ahb{V:aF}{ds:aO}{a v:Int}{n:BA}{t:J}{ns:aX}{c:L}{e:bq}{l:Int}{m:Nat}(k:a=4\/a=6):
 cV V ds (.mk a v n t ns [c]) e l m=(.mk a v [] [(cV V ds c (cU V ds a n t ns [c] e l 0) (ct a l) m).1],(cV V ds c (cU V ds a n t ns [c] e l 0) (ct a l) m).2):=by
 rw[CK Zo Zo Zo];have d:¬ig a 0:=λj=>Yo j.2;have b:=zX (V:=V) (ds:=ds) (n:=n) (t:=t) (ns:=ns) (ks:=[c]) (e:=e) (l:=l) (m:=m) (i:=0) Zs d;have f:cK a ([c].map L.bf) m 0=m:=by simp[cK]
 rw[f]at b;have g:cz (A [c])=[0]:=C;rw[g];simp only[b4,eO,dT,fX,de]at b⊢;rw[b];have h:nJ V a v n=v:=by unfold nJ;rw[aC Zo]
 rw[h];rfl
def aha{V:aF}{ds:aO}{v:Int}{n:BA}{t:J}{ns:aX}{a b:L}{e:bq}{l:Int}{m:Nat}:
 cV V ds (.mk 7 v n t ns [a,b]) e l m=(.mk 7 v [] [(cV V ds a e l m).1,(cV V ds b (cU V ds 7 n t ns [a,b] e l 1) l<|m+L.bf a).1],(cV V ds a e l m).2++(cV V ds b (cU V ds 7 n t ns [a,b] e l 1) l<|m+L.bf a).2):=by
 rw[CK Zo Zo Zo];have d:=zX (V:=V) (ds:=ds) (k:=7) (n:=n) (t:=t) (ns:=ns) (ks:=[a,b]) (e:=e) (l:=l) (m:=m) (i:=0) Zs λg=>Yo g.2;have f:=zX (V:=V) (ds:=ds) (k:=7) (n:=n) (t:=t) (ns:=ns) (ks:=[a,b]) (e:=e) (l:=l) (m:=m) (i:=1) Zs λg=>Yo g.1;have j:cK 7 ([a,b].map L.bf) m 0=m:=by simp[cK]
 have o:cK 7 ([a,b].map L.bf) m 1=m+L.bf a:=by simp[cK,ix,f']
 have p:cU V ds 7 n t ns [a,b] e l 0=e:=tL;have h:ct 7 l=l:=lI;rw[j,p,h]at d;rw[o,h]at f;have q:cz (A [a,b])=[0,1]:=C;rw[q];simp only[b4,eO,dT,fX,de,fA,jm]at d f⊢;rw[d,f];rfl
def CJ{g:aF}:∀(j:L)(d:bq)(e:Int)(f:Nat),Sh g j->A (cV g be j d e f).2=L.bf j
 |.mk o v r j s b,d,e,f,h=>by
  have m (a:Nat) (i:a<A b) (d:bq) (e:Int) (f:Nat):A (cV g be b[a] d e f).2=L.bf b[a]:=CJ b[a] d e f<|h.dh _<|aD i;rw[L.o8];by_cases l:o=10
  .subst l;obtain⟨t,rfl⟩:=h.one Zs;have k:=m 0 Zs d e f;simp only[fA]at k;rw[L5,k];simp[ix,f']
  rw[GQ,tj,aC l];simp only;rw[x0,eu,bE];congr 1;refine lX (by simp[ix]) λa p u=>?_;have i:a<A b:=Yq p;have q:A (j_ g be o r j s b (b.map L.bf) (b.map<|cV g be) d e f a).2=L.bf b[a]:=by
   rw[j_];split<;>rw[getD_map i,m a i]
  simp only[fk,Ao,Ah,b9,q];simp only[ix,wo,fk,pB];split<;>simp
decreasing_by
 have k:=fl<|aD i;simp;omega
def L7.off(a:L7 a5 be bv.H am v1):L7 a5 be (b5 eY bv.H) am v1:=a.aA λd b=>by simp only[b5,b,bx]
def Mm{v:Int}{e:Int}(a:RC a5 be (.mk a3 v gs he hH h1) it e)(b:a3≠2)(d:a3≠3):v=0:=by
 have f:=a.tc.form.2.2.2.2.1;simpa[oK,b,d]using f
def agp{a:aF}{d:aO}(S:gT a d){v:Int}{e:BA}{f:aX}{l:Int}(r:RC a d (.mk 2 v e he f h1) it l):T7 105 a d (.mk 2 v e he f h1) it l:=by
 intro ao X D ax an al I au aq g;have⟨m,p,o⟩:=he;obtain rfl:h1=[]:=by have Y:=r.sh.len;simpa[bY,dw]using Y
 have av:0<L.num (.mk 2 v e (.mk m p o) f []):=sH;have V:cV a d (.mk 2 v e (.mk m p o) f []) it l X=(.mk 2 v [] [],[]):=by rw[CK Zo Zo Zo];simp[nJ]
 have g:=T7.fin g;rw[V]at g;have⟨i,ap,P,k⟩:=r.tp S (by simp[L.kd]);have w:dW i:=pf P;have y:dW<|cD i:=jE _ w;have t:=I.off;have K:=gV it;obtain⟨Z,ah,ak,M⟩:∃F b G,cY it=[F,b,G]:=⟨_,_,_,C⟩;have ar:Cl<|.cp [.sl 2<|ae.ab a,.sl 12<|aa.ab d]:=Cl.eT da;have U:=L.cl<|.mk 2 v e (.mk m p o) f [];have⟨z,B,A⟩:=i;rw[M]at K k⊢;simp only[L.ds,J.ds,bG,bg,aY,ae.sl,aa.sl]at k U;obtain⟨am,aB,az,aC,ay,s,-⟩:=t.ob;simp only[ae.sl,aa.sl]at s;have j:=FQ 2 v (.mk z B A) w;generalize R:cD (.mk z B A)=q at j y;simp only[bo,J.ds,O.ds,bg,aY]at j;refine call7 g [] [.cell 8 194] C C Zk Zt C Zs<|(ZN)<|dP [12] [50]<|(ad s) ?_;apply l6 _ k da;refine(ZN)<|dP [] [63,64]<|(ZN) ?_;apply l6 _ j da;refine(ZN) ?_;exact⟨Cl.bC<|eK ⟨.mk 2 v [] [],[q]⟩,D,⟨⟨.mk 2 v [] [],[q]⟩,C,⟨C,Zs,by simp[W7];omega,by simpa[R]using y⟩,Zs⟩,t.aA λhe ht=>IG⟩
def agq{V:aF}{ds:aO}(aL:gT V ds){q v:Int}(av:q=4\/q=6){n:BA}{t:J}{ns:aX}{c:L}{e:bq}{l:Int}(K:RC V ds (.mk q v n t ns [c]) e l)(p:T7 105 V ds c (cU V ds q n t ns [c] e l 0)<|ct q l):T7 105 V ds (.mk q v n t ns [c]) e l:=by
 intro aD m aC bz br bp aH aI bs w;have⟨j,o,k⟩:=t;have aK:L.num (.mk q v n (.mk j o k) ns [c])=c.num+1:=by rw[L.num,L.aZ,L.aZ];omega
 have bt:L.bf (.mk q v n (.mk j o k) ns [c])=L.bf c:=by rw[L.o8];obtain rfl|rfl:=av<;>simp[ix,f']
 obtain rfl:v=0:=Mm K Zo Zo;have w:=T7.fin w;rw[ahb (V:=V) (ds:=ds) (v:=0) (n:=n) (t:=.mk j o k) (ns:=ns) (c:=c) (e:=e) (l:=l) (m:=m) av]at w;have aM:=L.cl c;have bu:=K.el;have bw:=K.l1;have bv:=K.l0;obtain rfl|rfl:=av
 .have ap:ct 4 l=l:=by simp[ct]
  have ao:cU V ds 4 n (.mk j o k) ns [c] e l 0=e++[⟨n,.mk j o k,l⟩]:=wE;have ar:=pq e n (.mk j o k) l Zo;have aU:=gV<|e++[⟨n,.mk j o k,l⟩];obtain⟨bk,bl,bn,aV⟩:∃M b c,cY (e++[⟨n,.mk j o k,l⟩])=[M,b,c]:=⟨_,_,_,C⟩;rw[ao,ap]at p w;unfold T7 at p;rw[aV]at ar p aU;have⟨r,aW,an,A⟩:=K.tp aL (by simp[L.kd]);have U:dW r:=pf an;have X:dW<|cD r:=jE _ U;have R:=aH.off;have am:=gV e;obtain⟨aN,aP,aQ,S⟩:∃M b c,cY e=[M,b,c]:=⟨_,_,_,C⟩;have a0:Cl<|.cp [.sl 2<|ae.ab V,.sl 12<|aa.ab ds]:=Cl.eT da;have az:=L.cl<|.mk 4 0 n (.mk j o k) ns [c];have⟨B,F,D⟩:=r;rw[S]at am A⊢;simp only[L.ds,J.ds,bG,bg,aY,ae.sl,aa.sl]at A az;obtain⟨aS,bh,be,bi,bd,P,-⟩:=R.ob;simp only[ae.sl,aa.sl]at P;rw[S]at ar;simp only[J.ds]at ar;have⟨a5,bb,a7,⟨a9,ba,a'⟩,a8,a6⟩:=c;simp only[L.ds,J.ds,bG,bg,aY]at p aM;refine call7 w [] [.cell 8 194] C C Zk Zt C Zs ?_;simp only[L.ab,go_sem];refine dP [12] [50]<|(ad P) ?_;apply l6 _ A da;refine(ZN)<|lq [0,1,2,3,4,5,6,7,8,9,10,11,12,13,14,15,16,18,17,19,20,21,22] [9] []<|(ZC) ?_;refine aj<|aj (p aD m aC _ _ _ (R.aA λt ht=>IG) aI Zo λaR a4 ak z al Y=>?_);have ah:=Y 8 fa;have G:=Y 9 fa;simp only[a_,bN,dG,bj,dv]at ah G;have y:=s_ 4 0 (.mk B F D) [ak] U (Yq z.ne) Zs (by have aB:=z.len;simp[W7]at aB⊢;omega);have⟨ax,a2,ay,a1⟩:=z;generalize au:cD (.mk B F D)=s at y X;have⟨⟨d,i,a,f⟩,g⟩:=ak;simp only[bo,J.ds,O.ds,bg,aY,b4,eO,dT,fX,de]at y⊢;refine(ad G) ?_;have Z:=eK ⟨.mk d i a f,g⟩;simp only[bo,O.ds,bg,aY]at Z;refine ir [87] y (.c (.cl _<|bc _)<|.c (.cl _<|bc _)<|.c (.cl _<|Cl.bC<|J.cl<|.mk B F D)<|.c (Fz.aq (ob:=⟨_,194,5,[I d,I i,bm a,.sl 4<|O.ab f,.sl 3<|J.ab g],Q⟩) pO C C Zd C Zs C ((Pb) Z)) .n) (Cl.bC<|eK ⟨.mk 4 0 [] [.mk d i a f],s::g⟩) ?_;simp only[aT,ah,G,go_sem];refine⟨Cl.bC<|eK ⟨.mk 4 0 [] [.mk d i a f],s::g⟩,_,⟨⟨.mk 4 0 [] [.mk d i a f],s::g⟩,C,⟨by rw[<-ax],Zs,?_,by simpa[au]using X⟩,C⟩,al.aA λt ht=>by simp[ai,aT,cH ht (u:=8) C,cH ht (u:=87) C]⟩;simp only[W7,aK,dC]at ay⊢;omega
 have ap:ct 6 l=l+1:=by simp[ct]
 have ao:cU V ds 6 n (.mk j o k) ns [c] e l 0=e:=tL;rw[ao,ap]at p w;unfold T7 at p;have a3:cb.wrap (l+1)=l+1:=dE _ Zo;have⟨r,aW,an,A⟩:=K.tp aL (by simp[L.kd]);have U:dW r:=pf an;have X:dW<|cD r:=jE _ U;have R:=aH.off;have am:=gV e;obtain⟨aN,aP,aQ,S⟩:∃M b c,cY e=[M,b,c]:=⟨_,_,_,C⟩;have a0:Cl<|.cp [.sl 2<|ae.ab V,.sl 12<|aa.ab ds]:=Cl.eT da;have az:=L.cl<|.mk 6 0 n (.mk j o k) ns [c];have⟨B,F,D⟩:=r;rw[S]at am A⊢;simp only[L.ds,J.ds,bG,bg,aY,ae.sl,aa.sl]at A az;obtain⟨aS,bh,be,bi,bd,P,-⟩:=R.ob;simp only[ae.sl,aa.sl]at P;rw[S]at p;have⟨a5,bb,a7,⟨a9,ba,a'⟩,a8,a6⟩:=c;simp only[L.ds,J.ds,bG,bg,aY]at p aM;refine call7 w [] [.cell 8 194] C C Zk Zt C Zs ?_;simp only[L.ab,go_sem];refine dP [12] [50]<|(ad P) ?_;apply l6 _ A da;refine(ZN)<|dP [9] []<|(ad a3) ?_;refine aj<|aj (p aD m aC _ _ _ (R.aA λt ht=>IG) aI Zo λaR a4 ak z al Y=>?_);have ah:=Y 8 fa;have G:=Y 9 fa;simp only[a_,bN,dG,bj,dv]at ah G;have y:=s_ 6 0 (.mk B F D) [ak] U (Yq z.ne) Zs (by have aB:=z.len;simp[W7]at aB⊢;omega);have⟨ax,a2,ay,a1⟩:=z;generalize au:cD (.mk B F D)=s at y X;have⟨⟨d,i,a,f⟩,g⟩:=ak;simp only[bo,J.ds,O.ds,bg,aY,b4,eO,dT,fX,de]at y⊢;refine(ad G) ?_;have Z:=eK ⟨.mk d i a f,g⟩;simp only[bo,O.ds,bg,aY]at Z;refine ir [102] y (.c (.cl _<|bc _)<|.c (.cl _<|bc _)<|.c (.cl _<|Cl.bC<|J.cl<|.mk B F D)<|.c (Fz.aq (ob:=⟨_,194,5,[I d,I i,bm a,.sl 4<|O.ab f,.sl 3<|J.ab g],Q⟩) pO C C Zd C Zs C ((Pb) Z)) .n) (Cl.bC<|eK ⟨.mk 6 0 [] [.mk d i a f],s::g⟩) ?_;simp only[aT,ah,G,go_sem];refine⟨Cl.bC<|eK ⟨.mk 6 0 [] [.mk d i a f],s::g⟩,_,⟨⟨.mk 6 0 [] [.mk d i a f],s::g⟩,C,⟨by rw[<-ax],Zs,?_,by simpa[au]using X⟩,C⟩,al.aA λt ht=>by simp[ai,aT,cH ht (u:=8) C,cH ht (u:=102) C]⟩;simp only[W7,aK,dC]at ay⊢;omega
def ago{V:aF}{ds:aO}(a5:gT V ds){v:Int}{n:BA}{t:J}{ns:aX}{f g:L}{e:bq}{l:Int}(h:RC V ds (.mk 7 v n t ns [f,g]) e l)(ap:T7 105 V ds f e l)(R:T7 105 V ds g (cU V ds 7 n t ns [f,g] e l 1) l):T7 105 V ds (.mk 7 v n t ns [f,g]) e l:=by
 intro aH m bd cC cg cd bK aL cj X;obtain⟨ak,am,al⟩:=t;have bn:L.num (.mk 7 v n (.mk ak am al) ns [f,g])=f.num+g.num+1:=by rw[L.num,L.aZ,L.aZ,L.aZ];omega
 have ck:L.bf (.mk 7 v n (.mk ak am al) ns [f,g])=L.bf f+L.bf g:=by rw[L.o8];simp[ix,f']
 obtain rfl:v=0:=Mm h Zo Zo;have bX:=aha (V:=V) (ds:=ds) (v:=0) (n:=n) (t:=.mk ak am al) (ns:=ns) (a:=f) (b:=g) (e:=e) (l:=l) (m:=m);have X:=T7.fin X;rw[bX]at X;have bZ:=L.cl f;have b0:=L.cl g;have cn:=h.el;have cq:=h.l1;have co:=h.l0;have cr:0<f.num:=by obtain⟨a,b,M,d,e,ch⟩:=f;rw[L.num];omega
 have bp:=h.dh a5 0 Zs;have bV:ct 7 l=l:=lI;have bT:cU V ds 7 n (.mk ak am al) ns [f,g] e l 0=e:=tL;have bl:A (cV V ds f e l m).2=L.bf f:=CJ f e l m<|h.sh.dh f Zs;simp only[bV,bT,fA]at bp;obtain⟨aP,bh,bL,a9⟩:=bp.tp a5 λb3=>Yo<|(h.tc.case 0 Zs).1 b3;have bk:=FL aP<|uR bL;have a':=h.ty;rw[qX,bh,mq]at a';rcases D:jj aP with _|x
 .rw[D]at a';cases a'
 have bU:cU V ds 7 n (.mk ak am al) ns [f,g] e l 1=e++[⟨n,x.1,l+x.2⟩]:=by simp[cU,eB,gw,bh,D]
 rw[D]at bk;rw[bU]at R X;have aI:=pq e n x.1 (l+x.2) Zo;have bO:=gV<|e++[⟨n,x.1,l+x.2⟩];obtain⟨b_,ca,cc,bP⟩:∃a b M,cY (e++[⟨n,x.1,l+x.2⟩])=[a,b,M]:=⟨_,_,_,C⟩;obtain⟨aB,ce,bI⟩:=aP;have aN:x.2=if aB=4 then 1 else 0:=by
  simp only[jj]at D;split at D
  .rename_i M;rw[aM M];cases bI<;>simp at D;rw[<-D]
  rename_i M;rw[aC M];split at D<;>simp at D;rw[<-D]
 unfold T7 at ap R;rw[bP]at aI R bO;obtain⟨aQ,ci,bR,a8⟩:=h.tp a5 (by simp[L.kd]);have a3:dW aQ:=pf bR;have aK:dW<|cD aQ:=jE _ a3;have a0:=bK.off;have bM:=gV e;obtain⟨b7,b8,b',bi⟩:∃a b M,cY e=[a,b,M]:=⟨_,_,_,C⟩;have cm:Cl<|.cp [.sl 2<|ae.ab V,.sl 12<|aa.ab ds]:=Cl.eT da;have bW:=L.cl<|.mk 7 0 n (.mk ak am al) ns [f,g];obtain⟨Y,ah,Z⟩:=aQ;rw[bi]at bM a8⊢;simp only[L.ds,J.ds,bG,bg,aY,ae.sl,aa.sl]at a8 bW;obtain⟨cf,cJ,b6,cK,cE,aW,-⟩:=a0.ob;simp only[ae.sl,aa.sl]at aW;rw[bi]at aI ap a9;obtain⟨⟨cG,b6,cI⟩,bD⟩:=x;obtain⟨br,bA,bt,⟨bv,bz,bw⟩,bu,bs⟩:=f;obtain⟨cu,cB,cw,⟨cy,cA,cz⟩,cx,cv⟩:=g;simp only[eE,kx,oY,L.ds,J.ds,bG,bg,aY,ae.sl,aa.sl]at aI ap R bZ b0 a9 bk;have bB:Int.toNat 1=1:=C;have be:((0:Int)<=1)=True:=Zs;have bY:cb.wrap (l+1)=l+1:=dE _ Zo;refine call7 X [] [.cell 8 194] C C Zk Zt C Zs ?_;simp only[L.ab,go_sem];refine dP [12] [50]<|(ad aW)<|(ve a8)<|dP [12] [118]<|(ad aW)<|A3 a9<|(ZC) ?_;by_cases aD:aB=4
 .have f4:(aB==4)=W:=by simp[aD]
  obtain rfl:bD=1:=by rw[aM aD]at aN;exact aN
  refine(ad<|JJ f4 bY)<|p3 (.bS [0,1,2,3,4,5,6,7] 8 (.fin [9,10]) 9<|.fin [8,10]) [] []<|(ZN) ?_;refine⟨?_,?_⟩
  all_goals
   refine aj<|aj (ap aH m bd _ _ _ (a0.aA λt ht=>O7) aL Zo λbE b1 bb a6 a1 B=>?_);have au:=B 8 fa;have K:=B 9 fa;have ba:=B 11 fa;have G:=B 13 fa;have ar:=B 16 fa;simp only[a_,bN,dG,bj,dv]at au K ba G ar;obtain⟨⟨j,q,i,o⟩,p⟩:=bb;simp only[bo,ar,go_sem];refine lq [0,1,2,3,4,5,6,7,8,9,10,11,12,13,14,16,15,17,18,19,20] [9,13,16] [] ?_;refine(bQ<|JJ K<|JJ G<|JJ bB be) ?_;refine aj<|aj<|R aH _ _ _ _ _ (a1.aA λt ht=>by simp[ai,cH ht (u:=16) C]) (show _=A ds+(m+L.bf (.mk br bA bt (.mk bv bz bw) bu bs))by rw[b9,aL,bl];omega) Zo ?_;intro bF b2 az a7 a2 F;have ay:=F 8 fa;have U:=F 9 fa;have av:=F 13 fa;have ax:=F 16 fa;simp only[a_,bN,dG,bj,dv,au,K,G]at ay U av ax;obtain⟨aR,aS,an,bH⟩:=a6;obtain⟨aU,aV,ao,bJ⟩:=a7;have S:=s_ 7 0 (.mk Y ah Z) [⟨.mk j q i o,p⟩,az] a3 (by simp;exact⟨aS,aV⟩) Zs (by simp[W7]at an ao⊢;omega);generalize a4:cD (.mk Y ah Z)=P at S aK;obtain⟨⟨s,z,r,w⟩,y⟩:=az;have ka:=eK ⟨.mk j q i o,p⟩;have kb:=eK ⟨.mk s z r w,y⟩;simp only[bo,J.ds,O.ds,bg,aY,b4,eO,dT,fX,de]at S ka kb⊢;simp only[K,G,U,av,ax,go_sem];refine ir [159] S (.c (.cl _<|bc _)<|.c (.cl _<|bc _)<|.c (.cl _<|Cl.bC<|J.cl<|.mk Y ah Z)<|.c (Fz.aq (ob:=⟨_,194,5,[I j,I q,bm i,.sl 4<|O.ab o,.sl 3<|J.ab p,I s,I z,bm r,.sl 4<|O.ab w,.sl 3<|J.ab y],Q⟩) pO C C Zd C Zs C O6) .n) (Cl.bC<|eK ⟨.mk 7 0 [] [.mk j q i o,.mk s z r w],P::(p++y)⟩) ?_;simp only[aT,ay,U,go_sem];refine⟨Cl.bC<|eK ⟨.mk 7 0 [] [.mk j q i o,.mk s z r w],P::(p++y)⟩,_,⟨⟨.mk 7 0 [] [.mk j q i o,.mk s z r w],P::(p++y)⟩,C,⟨by(try simp only[]);rw[<-aR,<-aU],Zs,?_,by simpa[a4]using aK⟩,Ol⟩,a2.aA λt ht=>by simp[ai,aT,cH ht (u:=8) C,cH ht (u:=159) C]⟩;simp only[W7,bn,dC,b9]at an ao⊢;omega
 have f4:(aB==4)=af:=by simp[aD]
 obtain rfl:bD=0:=by rw[aC aD]at aN;exact aN
 simp only[sk]at aI R X;refine(ad f4)<|p3 (.bS [0,1,2,3,4,5,6,7] 8 (.fin [9,10]) 9<|.fin [8,10]) [] []<|(ZN) ?_;refine⟨?_,?_⟩
 all_goals
  refine aj<|aj (ap aH m bd _ _ _ (a0.aA λt ht=>O7) aL Zo λbE b1 bb a6 a1 B=>?_);have au:=B 8 fa;have K:=B 9 fa;have ba:=B 11 fa;have G:=B 13 fa;have ar:=B 16 fa;simp only[a_,bN,dG,bj,dv]at au K ba G ar;obtain⟨⟨j,q,i,o⟩,p⟩:=bb;simp only[bo,ar,go_sem];refine lq [0,1,2,3,4,5,6,7,8,9,10,11,12,13,14,16,15,17,18,19,20] [9,13,16] [] ?_;refine(bQ<|JJ K<|JJ G<|JJ bB be) ?_;refine aj<|aj<|R aH _ _ _ _ _ (a1.aA λt ht=>by simp[ai,cH ht (u:=16) C]) (show _=A ds+(m+L.bf (.mk br bA bt (.mk bv bz bw) bu bs))by rw[b9,aL,bl];omega) Zo ?_;intro bF b2 az a7 a2 F;have ay:=F 8 fa;have U:=F 9 fa;have av:=F 13 fa;have ax:=F 16 fa;simp only[a_,bN,dG,bj,dv,au,K,G]at ay U av ax;obtain⟨aR,aS,an,bH⟩:=a6;obtain⟨aU,aV,ao,bJ⟩:=a7;have S:=s_ 7 0 (.mk Y ah Z) [⟨.mk j q i o,p⟩,az] a3 (by simp;exact⟨aS,aV⟩) Zs (by simp[W7]at an ao⊢;omega);generalize a4:cD (.mk Y ah Z)=P at S aK;obtain⟨⟨s,z,r,w⟩,y⟩:=az;have ka:=eK ⟨.mk j q i o,p⟩;have kb:=eK ⟨.mk s z r w,y⟩;simp only[bo,J.ds,O.ds,bg,aY,b4,eO,dT,fX,de]at S ka kb⊢;simp only[K,G,U,av,ax,go_sem];refine ir [159] S (.c (.cl _<|bc _)<|.c (.cl _<|bc _)<|.c (.cl _<|Cl.bC<|J.cl<|.mk Y ah Z)<|.c (Fz.aq (ob:=⟨_,194,5,[I j,I q,bm i,.sl 4<|O.ab o,.sl 3<|J.ab p,I s,I z,bm r,.sl 4<|O.ab w,.sl 3<|J.ab y],Q⟩) pO C C Zd C Zs C O6) .n) (Cl.bC<|eK ⟨.mk 7 0 [] [.mk j q i o,.mk s z r w],P::(p++y)⟩) ?_;simp only[aT,ay,U,go_sem];refine⟨Cl.bC<|eK ⟨.mk 7 0 [] [.mk j q i o,.mk s z r w],P::(p++y)⟩,_,⟨⟨.mk 7 0 [] [.mk j q i o,.mk s z r w],P::(p++y)⟩,C,⟨by(try simp only[sk]);rw[<-aR,<-aU],Zs,?_,by simpa[a4]using aK⟩,Ol⟩,a2.aA λt ht=>by simp[ai,aT,cH ht (u:=8) C,cH ht (u:=159) C]⟩;simp only[W7,bn,dC,b9]at an ao⊢;omega
def KF:∀a:bu,A a<=L.aZ a
 |[]=>by simp
 |c::e=>by
  have:=KF e;have:0<c.num:=by obtain⟨f,b,c,d,g,h⟩:=c;rw[L.num];omega
  simp only[dC,L.aZ];omega
def af7{d:List bZ}{ks:bu}(h:A d=A ks)(e:∀(a:Nat)(f:a<A d)(g:a<A ks),A d[a].ty<=W7 ks[a]):(d.map λk=>A k.ty).sum<=10000000*L.aZ ks:=by
 induction d generalizing ks with
 |nil=>simp
 |cons l d j=>
  obtain _|⟨b,ks⟩:=ks
  .simp at h
  have i:=e 0 Zs Zs;have:=j (ks:=ks) (Yq h) λa f g=>e (a+1) (Yq f)<|Yq g;simp only[fA,W7]at i;simp only[b4,kS,L.aZ];omega
def agr{V:aF}{ds:aO}(a':gT V ds){k v:Int}(al:k=3\/k=5\/k=8){n:BA}{t:J}{ns:aX}{ks:bu}{e:bq}{l:Int}(h:RC V ds (.mk k v n t ns ks) e l)(a5:∀c∈ks,T7 105 V ds c e l):T7 105 V ds (.mk k v n t ns ks) e l:=by
 intro ar m Z bb cn ci bO b6 cx ax;have⟨z,D,B⟩:=t;have b7:L.num (.mk k v n (.mk z D B) ns ks)=L.aZ ks+1:=sH;obtain⟨o,a3⟩:∃o:Nat->O×cm,o=λi=>j_ V ds k n (.mk z D B) ns ks (ks.map L.bf) (ks.map<|cV V ds) e l m i:=⟨_,C⟩;obtain⟨j,av⟩:∃j:Nat->Nat,j=λi=>cK k (ks.map L.bf) m i:=⟨_,C⟩;have bm (i:Nat) (w:i<A ks):o i=cV V ds ks[i] e l (j i):=by
  simp only[a3,av];have y:=zX (V:=V) (ds:=ds) (n:=n) (t:=.mk z D B) (ns:=ns) (e:=e) (l:=l) (m:=m) w (k:=k) λq=>Yo q.1;rw[y];obtain rfl|rfl|rfl:=al<;>simp[cU,eB,ct]
 have bP:j 0=m:=by rw[av];simp[cK]
 have bl (i:Nat) (w:i<A ks):j (i+1)=j i+L.bf ks[i]:=by
  simp only[av];have y:=QV (k:=k) (l:=ks.map L.bf) (m:=m) (i:=i)<|Yq w;simp only[fk]at y;rw[y,show f' k i=0 by obtain rfl|rfl|rfl:=al<;>simp[f']];omega
 have cv:j (A ks)=m+L.bf (.mk k v n (.mk z D B) ns ks):=by
  simp only[av,cK];rw[L.o8];rw[dj (by simp[ix])]
 have bQ F (cC:F<=A ks):j F<=j (A ks):=by
  obtain⟨d,b2⟩:∃d,A ks=F+d:=⟨A ks-F,Zo⟩;have cc d:F+d<=A ks->j F<=j (F+d):=by
   induction d with
   |zero=>intro _;exact bJ _
   |succ d cb=>intro q;have y:=cb Zo;have y:=bl (F+d) Zo;rw[<-jA];omega
  rw[b2];exact cc d Zo
 have bR (i:Nat) (w:i<A ks):A (o i).2=L.bf ks[i]:=by rw[bm i w];exact CJ _ _ _ _<|h.sh.dh _<|aD w
 have ax:=T7.fin ax;rw[CK (V:=V) (ds:=ds) (v:=v) (n:=n) (t:=.mk z D B) (ns:=ns) (ks:=ks) (e:=e) (l:=l) (m:=m) (show k≠10 by omega) Zo Zo]at ax;have cB:=h.el;have cM:=h.l1;have cJ:=h.l0;have cI:=vu h.tc.gd;have cG:A ks<=1000:=Yo<|KF ks;have cQ:k≠2:=Zo;have f4:(k==1)=af/\(k==2)=af/\(k==4)=af/\(k==6)=af/\(k==7)=af/\(k==9)=af/\(k==11)=af:=by obtain rfl|rfl|rfl:=al<;>decide
 have⟨f1,f2,f4,f6,f7,f9,f11⟩:=f4;have bN:cE aB 267=E (194,5,88):=Zk;unfold T7 at a5;have⟨aQ,cw,b0,ba⟩:=h.tp a' (by simp[L.kd];omega);have bp:dW aQ:=pf b0;have bs:dW<|cD aQ:=jE _ bp;have bi:=bO.off;have bU:=gV e;obtain⟨cf,cg,ch,bW⟩:∃a b c,cY e=[a,b,c]:=⟨_,_,_,C⟩;have cA:Cl<|.cp [.sl 2<|ae.ab V,.sl 12<|aa.ab ds]:=Cl.eT da;have b8:=L.cl<|.mk k v n (.mk z D B) ns ks;have⟨U,Y,X⟩:=aQ;rw[bW]at bU ba a5⊢;simp only[L.ds,J.ds,bG,bg,aY,ae.sl,aa.sl]at ba b8;obtain⟨an,aM,aK,aN,aI,bh,-⟩:=bi.ob;simp only[ae.sl,aa.sl]at bh;refine call7 ax [] [.cell 8 194] C C Zk Zt C Zs ?_;simp only[f1,f9,f11,go_sem];refine dP [12] [50]<|(ad bh) ?_;apply l6 _ ba da;simp only[f2,f4,f6,f7,go_sem];refine lp 18 (A ks) [0,1,3,6,8,9] (λq ap p cd bd=>bd=bb.T/\(∃c8,p 8=E ⟨bb.n 8,194,5,c8,Q⟩/\A c8=5)/\p 9=E ⟨bb.n 9,99,3,[I U,S Y,.sl 3<|J.ab X],Q⟩/\
  ∃g:List bZ,A g=q/\(∀(i:Nat)(M:i<A ks)(P:i<A g),gL (o i).1 (W7 ks[i]) g[i])/\L7 V ds p ar (Z++ao ((cz q).map λi=>(o i).2))/\A (Z++ao ((cz q).map λi=>(o i).2))=A ds+j q/\aL [161,183] p 194 5 (g.map bo) (ap 17)) ⟨C,⟨_,l4,C⟩,ep,[],C,Zs,?_,by simp[b6,bP],aj ⟨161,_,Zs,AM,ep⟩⟩ ?_
 .simp only[range_zero,eO,fX,de];exact bi.aA λt f=>by simp[ai,cH f (u:=8) C,cH f (u:=9) C,cH f (u:=161) C]
 rintro q ap p cd bd cj cN⟨ay,⟨c8,au,rP⟩,ak,g,R,aC,a2,bt,aH⟩;obtain⟨c',c_,dc,dd,df,rfl⟩:∃a b c d e,c8=[a,b,c,d,e]:=HU;refine ZL (λam=>?_) λh=>?_
 .have a0:=L.bV ks q am;have a6:=a5 _<|aD am;have bn:=bm q am;have bz:=L.cl ks[q];have br:=bl q am;have cy:=bQ (q+1) Zo;obtain⟨⟨cT,c3,cX,⟨c0,c2,c1⟩,cZ,cW⟩,a7⟩:∃c,ks[q]=c:=⟨_,C⟩;rw[a7]at a0 a6 bn bz br;simp only[L.ds,J.ds,bG,bg,aY]at a0 a6 bz;generalize G:ap 17=bK;rw[G]at aH;refine(uZ<|JJ G<|JJ a0 @jt) ?_;refine aj<|aj (a6 ar (j q) _ _ _ _ a2 bt Zo λbL cR ce bv bk az=>?_);have bB:=az 161 fa;have bF:=az 183 fa;simp only at bB bF;rw[<-bn]at bv bk;have⟨⟨aS,aW,aR,aU⟩,aV⟩:=ce;have b4:=zU ⟨.mk aS aW aR aU,aV⟩;simp only[bo,go_sem]at b4⊢;refine js (S:=[161,183]) (aq:=g.map bo) (bD:=[[I aS,I aW,.sl 1 (aR.map λn=>[I n]),.sl 4<|O.ab aU,.sl 3<|J.ab aV]]) Zs bN ((Pa)<|aH.aA (by simp[ai,bB,bF])) (qd _) hF Zs C (by rw[bE,R];show(q+1)*88<=_;omega) (by rw[bE,R];show q+1<=aE;unfold aE;omega) (by show 183<221;decide) λbM cS c4 ca a4=>?_;have bH:=a4 8 Zd Zd;have bI:=a4 9 Zd Zd;simp only[a_,dG,bj,dv,(az 8 fa).trans au,(az 9 fa).trans ak]at bH bI;refine(ZN) ?_;have bw:ao ((cz<|q+1).map λi=>(o i).2)=ao ((cz q).map λi=>(o i).2)++(o q).2:=by rw[wv,bX,eR];simp
  refine dI ⟨ay,⟨_,bH,C⟩,bI,g++[⟨.mk aS aW aR aU,aV⟩],Yr R,λi M P=>?_,?_,?_,?_⟩
  .by_cases c:i<A g
   .rw[tt c];exact aC i M c
   obtain rfl:i=q:=by simp at P;omega
   rw[C6 Zo];simp only[R,pJ,fA,a7];exact bv
  .rw[bw,<-dy];refine bk.aA λt f=>?_;show bM t=bL t;rw[a4 t (cH f C) (by simp only[cF,dt,gD,lh];exact⟨cH f C,cH f C⟩)];simp[ai,cH f (u:=182) C]
  .rw[bw,<-dy,b9,bt,bR q am,a7,br];omega
  rw[bX];exact(Pa)<|ca.sub Zs
 obtain rfl:q=A ks:=Zo;have cP:=af7 R λi M P=>(aC i P M).len;have r:=s_ k (if k=3 then v else if k=5 then 0 else kH (-1) V n) (.mk U Y X) g bp (λt f=>by obtain⟨i,w,rfl⟩:=ec f;exact(aC i Zo w).ne) Zo Zo;have b_:(if k=3 then v else if k=5 then 0 else kH (-1) V n)=nJ V k v n:=by
  obtain rfl|rfl|rfl:=al
  .simp[nJ]
  .simp[nJ,Mm ‹RC V ds _ e l› Zd Zd]
  simp only[nJ,Int.reduceEq,bT,bx];have⟨i,w,t,f,co,cq,cr,cu,be⟩:=rG (show 0<=hI V n by have y:=(lN (RC.tc ‹RC V ds _ e l›).fit).1;simp[fo]at y;omega);rw[be,be]
 generalize b3:cD (.mk U Y X)=ah at r bs;have b':g.map bZ.c=(cz<|A ks).map λi=>(o i).1:=by
  refine lX (Yr R) λi M P=>?_;simp only[fk,Ao];exact(aC i (Yq P)<|Yq M).c
 generalize G:ap 17=bK;rw[G]at aH;have a9:Fz (b5 [161,183] p) bK<|.sl 5<|g.map bo:=aL.fz (aH.aA o4) Zd (qd _)<|qc _;have a1:∃an aM aK aN aI,p 12=E ⟨ar,91,6,[.cp [.sl 2<|ae.ab V,.sl 12<|aa.ab ds],I an,aM,aK,aN,aI],Q⟩:=by
  obtain⟨an,aM,aK,aN,aI,q,-⟩:=a2.ob;exact⟨an,aM,aK,aN,aI,q⟩
 have⟨ck,c7,c6,c9,c5,a1⟩:=a1;have bA:aT [161,183] p 8=p 8:=by simp[aT]
 have s:=eK ⟨.mk k (if k=3 then v else if k=5 then 0 else kH (-1) V n) []<|g.map bZ.c,ah::ao (g.map bZ.ty)⟩;have K:gL (.mk k (nJ V k v n) [] ((cz<|A ks).map λi=>(o i).1)) (W7<|.mk k v n (.mk z D B) ns ks) ⟨.mk k (if k=3 then v else if k=5 then 0 else kH (-1) V n) []<|g.map bZ.c,ah::ao (g.map bZ.ty)⟩:=by
  rw[b_];exact gL.kids b' (by simp only[W7,b7];omega) (b3▸bs)
 simp only[a3]at K;have b1:Z++ao ((cz<|A ks).map λi=>(o i).2)=Z++ao ((cz<|A ks).map λi=>(j_ V ds k n (.mk z D B) ns ks (ks.map L.bf) (ks.map<|cV V ds) e l m i).2):=Yw a3;have a8:∀aP,(∀t,t≠8->aP t=aT [161,183] p t)->L7 V ds aP ar (Z++ao ((cz<|A ks).map λi=>(j_ V ds k n (.mk z D B) ns ks (ks.map L.bf) (ks.map<|cV V ds) e l m i).2)):=λaP bY=>by
  rw[<-b1];refine a2.aA λt f=>?_;rw[bY t<|cH f C];simp[aT,cH f (u:=161) C,cH f (u:=183) C]
 obtain rfl|rfl|rfl:=al
 .simp only[bx]at r s K;simp only[bo,J.ds,O.ds,bg,aY]at r;refine(ZN)<|dP [9] []<|(ad<|JJ G ak)<|ir [161,183] r (.c (.cl _<|bc _)<|.c (.cl _<|bc _)<|.c (.cl _<|Cl.bC<|J.cl<|.mk U Y X)<|.c a9 .n) (Cl.bC s) ?_;simp only[au,ak,aT,go_sem];exact⟨Cl.bC s,ay,_,⟨⟨.mk 3 v []<|g.map bZ.c,ah::ao (g.map bZ.ty)⟩,C,K,C⟩,a8 _ λt f=>Yu f⟩
 .simp only[Int.reduceEq,bT,bx]at r s K;simp only[bo,J.ds,O.ds,bg,aY]at r;refine(ad<|JJ G ak)<|ir [161,183] r (.c (.cl _<|bc _)<|.c (.cl _<|bc _)<|.c (.cl _<|Cl.bC<|J.cl<|.mk U Y X)<|.c a9 .n) (Cl.bC s)<|(ad<|JJ au bA) ?_;exact⟨Cl.bC s,ay,_,⟨⟨.mk 5 0 []<|g.map bZ.c,ah::ao (g.map bZ.ty)⟩,C,K,C⟩,a8 _ λt f=>Yu f⟩
 simp only[Int.reduceEq,bT]at r s K;simp only[bo,J.ds,O.ds,bg,aY]at r;have y:=vF V n a'.oA.len a'.oA.cs;refine(fQ<|JJ a1<|JJ G ak)<|ir [161,183] r (.c (.cl _<|bc _)<|.c (.cl _<|bc _)<|.c (.cl _<|Cl.bC<|J.cl<|.mk U Y X)<|.c a9 .n) (Cl.bC s)<|(ad<|JJ au bA) ?_;exact⟨Cl.bC s,ay,_,⟨⟨.mk 8 (kH (-1) V n) []<|g.map bZ.c,ah::ao (g.map bZ.ty)⟩,C,K,C⟩,a8 _ λt f=>Yu f⟩
def vz{F:bq}{b:BA}(f:b≠nE):jv F gs=b↔gs=b/\b∉F.map Ev.n:=by
 unfold jv;split
 .rename_i d;exact⟨λa=>absurd a.symm f,λ⟨a,e⟩=>absurd (a▸d) e⟩
 rename_i d;exact⟨λa=>⟨a,a▸d⟩,λa=>a.1⟩
def jc(F vs:bq)(l:Int):bq:=vs.map λv:Ev=>if v.l=l+1 then(⟨nE,mW v.t,0⟩:Ev)else⟨jv F v.n,v.t,0⟩
def iB(F vs:bq)(l:Int):bq:=(vs.filter λv=>ah<|v.l=l+1).map λv=>⟨jv F v.n,v.t,1⟩
def qL(F b:bq)(a:Int):iv F b a=F++(jc F b a++iB F b a):=rfl
def F4{F h:bq}{d:BA}(f:d≠nE){g:Ev}(j:g∈jc F h a3)(b:g.n=d):∃a∈h,a.n=d/\a.l≠a3+1/\g.t=a.t/\d∉F.map Ev.n:=by
 obtain⟨a,i,rfl⟩:=aP.1 j;by_cases e:a.l=a3+1
 .simp only[aM e]at b;exact absurd b.symm f
 simp only[aC e]at b⊢;exact⟨a,i,((vz f).1 b).1,e,C,((vz f).1 b).2⟩
def B0{F h:bq}{b:BA}(g:b≠nE){e:Ev}(j:e∈iB F h a3)(f:e.n=b):∃a∈h,a.n=b/\a.l=a3+1/\e.t=a.t/\b∉F.map Ev.n:=by
 obtain⟨a,d,rfl⟩:=aP.1 j;have⟨d,i⟩:=nP.1 d;exact⟨a,d,((vz g).1 f).1,Yq i,C,((vz g).1 f).2⟩
def BV{e:bq}(b:∀a∈e,a.n≠gs):cZ e gs=Q:=px λd=>by
 have⟨a,f,e⟩:=aP.1 d;exact b a f e
def abL(F i:bq)(q:Int){h:BA}(j:h≠nE)(L:∀B∈i,∀b∈i,B.n=b.n->B=b):gl (iv F i q) h=if h∈F.map Ev.n then gl F h else gl i h:=by
 rw[qL];simp only[gl,p4];by_cases m:h∈F.map Ev.n
 .rw[aM m,BV λo f g=>(F4 j f g).elim λa d=>d.2.2.2.2 m,BV λo f g=>(B0 j f g).elim λa d=>d.2.2.2.2 m];rfl
 rw[aC m,px m];by_cases w:h∈i.map Ev.n
 .have⟨k,I⟩:=ta w;have⟨z,A⟩:=l9 I;have s a (d:a∈i) (g:a.n=h):a=k:=L a d k z<|g.trans A.symm;rw[I];by_cases r:k.l=q+1
  .have K:h∈(iB F i q).map Ev.n:=aP.2 ⟨⟨jv F k.n,k.t,1⟩,aP.2 ⟨k,nP.2 ⟨z,Yq r⟩,C⟩,(vz j).2 ⟨A,m⟩⟩;have⟨o,f⟩:=ta K;have⟨x,y⟩:=l9 f;obtain⟨a,d,p,-,u,-⟩:=B0 j x y;rw[f];simp[u,s a d p]
  rw[BV (e:=iB F i q) λo f g=>by
   obtain⟨a,d,p,D,-,-⟩:=B0 j f g;rw[s a d p]at D;exact r D]
  have J:h∈(jc F i q).map Ev.n:=aP.2 ⟨⟨jv F k.n,k.t,0⟩,aP.2 ⟨k,z,Yw<|aC r⟩,(vz j).2 ⟨A,m⟩⟩;have⟨o,f⟩:=ta J;have⟨x,y⟩:=l9 f;obtain⟨a,d,p,-,u,-⟩:=F4 j x y;rw[f];simp[u,s a d p]
 have G:∀a∈i,a.n≠h:=λa d g=>w<|aP.2 ⟨a,d,g⟩;rw[BV λo f g=>(F4 j f g).elim λa d=>G a d.1 d.2.1,BV λo f g=>(B0 j f g).elim λa d=>G a d.1 d.2.1,px w];rfl
def abJ(F r:bq)(q:Int){b:BA}(e:b≠nE):b∈(iv F r q).map Ev.n↔b∈F.map Ev.n\/b∈r.map Ev.n:=by
 constructor
 .intro h;rw[qL,bX,bX,ca,ca]at h;obtain h|h|h:=h
  .exact aG h
  .have⟨s,j,f⟩:=aP.1 h;obtain⟨k,g,i,-⟩:=F4 e j f;exact aj<|aP.2 ⟨k,g,i⟩
  have⟨s,j,f⟩:=aP.1 h;obtain⟨k,g,i,-⟩:=B0 e j f;exact aj<|aP.2 ⟨k,g,i⟩
 intro h;rw[qL,bX,bX,ca,ca];by_cases d:b∈F.map Ev.n
 .exact aG d
 have⟨a,o,p⟩:=aP.1<|h.resolve_left d;by_cases m:a.l=q+1
 .exact aj<|aj<|aP.2 ⟨⟨jv F a.n,a.t,1⟩,aP.2 ⟨a,nP.2 ⟨o,Yq m⟩,C⟩,(vz e).2 ⟨p,d⟩⟩
 exact aj<|aG<|aP.2 ⟨⟨jv F a.n,a.t,0⟩,aP.2 ⟨a,o,Yw<|aC m⟩,(vz e).2 ⟨p,d⟩⟩
def zk(F a:bq)(b:Int):A (iv F a b)<=A F+2*A a:=by
 rw[qL,b9,b9,jc,iB,bE,bE];have:=qi (λv:Ev=>ah<|v.l=b+1) a;omega
def SE(g:Nat):∀(f:List Bool)(b:Bool)(d e:Nat),gk g (f++[b]) d e=gk g f d e++if b then[((g:Int)+((e+f.count W:Nat):Int)-1-((d+f.length:Nat):Int))]else[]
 |[],b,d,e=>by cases b<;>simp[gk]
 |a::f,b,d,e=>by
  have h:=SE g f b;cases a
  .simp only[bg,gk,Af,bT];rw[h (d+1) e];simp[tA,Nat.add_left_comm]
  simp only[bg,gk,bx];rw[h (d+1)<|e+1];simp[tA,Nat.add_left_comm]
def abH(F b:bq)(a:Int)(v:Ev):iB F (b++[v]) a=iB F b a++if v.l=a+1 then[⟨jv F v.n,v.t,1⟩]else[]:=by
 unfold iB;by_cases d:v.l=a+1<;>simp[d]
def Kp(F b:bq)(a:Int):A (iB F b a)=(b.map λv=>ah<|v.l=a+1).count W:=by
 induction b with
 |nil=>rfl
 |cons v b e=>
  have f:iB F (v::b) a=(if v.l=a+1 then[⟨jv F v.n,v.t,1⟩]else[])++iB F b a:=by
   unfold iB;by_cases d:v.l=a+1<;>simp[d]
  rw[f,b9,e];by_cases d:v.l=a+1<;>simp[d,tA]
abbrev fj(ks:bu)(e:bq):bq:=(bO ks e).filterMap<|cZ e
def Ad{a:Ev}(d:a∈fj h1 it):a.n∈bO h1 it/\cZ it a.n=E a:=by
 have⟨g,e,b⟩:=C_.1 d;have f:=(l9 b).2;rw[f];exact⟨e,b⟩
def WY:∀a∈fj h1 it,∀b∈fj h1 it,a.n=b.n->a=b:=λa f b g e=>by
 have d:=(Ad f).2;rw[e,(Ad g).2]at d;cases d;rfl
def aih{a:BA}(d:a∈bO h1 it):a∈(fj h1 it).map Ev.n/\gl (fj h1 it) a=gl it a:=by
 have g:=(nA.1 d).1;rcases b:cZ it a with _|y
 .rw[b]at g;cases g
 have h:=C_.2 ⟨a,d,b⟩;have f:=(l9 b).2;have e:=aP.2 ⟨y,h,f⟩;refine⟨e,?_⟩;have⟨m,i⟩:=ta e;have⟨j,k⟩:=l9 i;have l:=WY m j y h<|k.trans f.symm;simp only[gl,i,b,l]
def RC.root{f:bu}{b F F':bq}{h:Int}{i:L}(g:RC a5 be i (b++F') h)(u:F.map Ev.n=F'.map Ev.n)(O:∀a,gl F a=gl F' a)(I:∀a∈b,J.w a.t)(P:∀a∈F,J.w a.t)
 (K:∀a,fv i [] a->a∉F.map Ev.n->(cZ b a).isSome=W->a∈bO f b) (U:A F+2*L.aZ f+3*i.num<=1000000):RC a5 be i (iv F (fj f b) h) 0:=by
 have C a (d:fv i [] a):(a∈(b++F').map Ev.n↔a∈(iv F (fj f b) h).map Ev.n)/\gl (iv F (fj f b) h) a=gl (b++F') a:=by
  have q:=Fe i g.sh d;rw[abJ F _ h q,abL F _ h q WY,bX,ca,<-u];simp only[gl,p4];by_cases m:a∈F.map Ev.n
  .have⟨y,k⟩:=ta (u▸m);have e:=O a;simp only[gl,k]at e;simp[m,k,e]
  rw[aC m];simp only[m,px (by rw[<-u];exact m),gD,Dm,oZ];rcases o:cZ b a with _|y
  .have q:a∉b.map Ev.n:=λs=>by obtain⟨y,k⟩:=ta s;rw[o]at k;cases k
   have G:a∉(fj f b).map Ev.n:=λs=>by
    have⟨y,k,R⟩:=aP.1 s;have e:=(Ad k).2;rw[R,o]at e;cases e
   exact⟨⟨λj=>absurd j q,λj=>absurd j G⟩,Yw<|px G⟩
  have⟨B,p⟩:=aih<|K a d m<|Yf o;refine⟨⟨λ_=>B,λ_=>aP.2 ⟨y,(l9 o).1,(l9 o).2⟩⟩,?_⟩;have p:(cZ (fj f b) a).map Ev.t=(cZ b a).map Ev.t:=p;rw[p,o]
 refine⟨⟨g.tc.gd,g.tc.fit,g.tc.b7,λa d=>?_,g.tc.ok⟩,g.sh,λa d=>?_,sm _,by have e:=g.l1;have e:=g.l0;omega,?_,?_⟩
 .have D:=J2 d;have z:fv i [] a:=by
   have e:=(w9 i [] ((iv F (fj f b) h).map Ev.n) a D).1;rw[de]at e;exact e d
  apply g.tc.free a;have M:a∉(b++F').map Ev.n:=λj=>D<|(C a z).1.1 j;have e:=(w9 i [] ((b++F').map Ev.n) a M).2 z;rwa[de]at e
 .rw[qL,ca,ca]at d;obtain d|d|d:=d
  .exact P a d
  .obtain⟨r,x,rfl⟩:=aP.1 d;have e:=I r (l9 (Ad x).2).1;by_cases j:r.l=h+1
   .simp only[aM j];exact W0 e
   simp only[aC j];exact e
  obtain⟨r,x,rfl⟩:=aP.1 d;exact I r (l9 (Ad (nP.1 x).1).2).1
 .have B:=zk F (fj f b) h;have p:A (fj f b)<=A (bO f b):=length_filterMap_le _ _;have S:=Jm f b;omega
 rw[GP i (iv F (fj f b) h) (b++F') 0 h g.sh λa d=>(C a d).2];exact g.ty
def GK.fc{a:St}(g:ax)(b i:Nat){ob:Ob}{d e:D}(q:a.H b=E ob)(r:b∉g)(m:ob.cells[i]?=E d)(p:Fz (b5 g a.H) d e)(o:Cl e)
 (l:∀h,h b=E {ob with cells:=ob.cells.set i e}->(∀f,f≠b->f∉g->h f=a.H f)->GK c2 {a with H:=h}):GK c2 a:=
 GK.n4 (GK.uf g b i ob d e q r m p o (l _ bF λf j k=>by simp[ai,j,aT,k]))
def GK.fe{a:St}(e:ax)(f:Nat)(b:D)(k:Fz (b5 e a.H) (a.env f) b)(j:Cl b)(i:∀g,(∀d,d∉e->g d=a.H d)->GK c2 {a with env:=aw a.env f b,H:=g}):GK c2 a:=
 GK.n4 (GK.nY e f b k j (i _ λd h=>by simp[aT,h]))
def Gm(a Z b:DL)(e:a.length=am)(d:A Z=a0):Y am (a++Z)++b++List.drop (am+a0) (a++Z)=a++b:=by subst e;subst d;simp
def zM(a Z:DL)(b:Nat)(d:D)(e:a.length=am):(a++Z).set (am+b) d=a++Z.set b d:=by subst e;rw[Dd _ _ Zo];simp
def y_(a Z:DL)(b:Nat)(d:a.length=am):(a++Z)[am+b]?=Z[b]?:=by subst d;rw[kR Zo];simp
def yS(a:Nat):Cl<|.sl a []:=db.2 Zs
def L7.of{e:a'}{p q s:Nat}{b:cm}{NN:List (dp)}{TT:dp}{BB:cB}(l:e 12=E ⟨am,91,6,[.cp [ae.sl a5,aa.sl be],I a3,.ms 185 a0 go,.ms 195 a2 p,.ms 218 a4 q,.ms 205 ce s],Q⟩)
 (h:e 185=E ⟨a0,112,4,ao<|O.ab b,Q⟩) (t:go=A (O.ab b)) (i:e 195=E ⟨a2,88,1,ao<|h4 NN,Q⟩) (u:p=A (h4 NN)) (B:NN.length=b.length)
 (j:e 218=E ⟨a4,99,3,ao<|J.ab TT,Q⟩) (w:q=A (J.ab TT)) (C:TT.length=b.length) (k:e 205=E ⟨ce,294,4,BB.flatten,Q⟩) (y:s=BB.length) (z:BB.length<=b.length) (m:∀r∈BB,A r=4/\∀d∈r,Cl d):L7 a5 be e am b:=by
 refine⟨⟨a3,_,_,_,_,l,aj ⟨185,a0,Zs,Yw t,h⟩,⟨NN,B,aj ⟨195,a2,Zs,Yw u,i⟩⟩,⟨TT,C,aj ⟨218,a4,Zs,Yw w,j⟩⟩,BB,z,m,aj ⟨205,ce,Zs,Yw y,k⟩⟩,λG o F a d hd=>?_⟩;simp only[eY,cF,dt,gD]at o;have f:∀(g:cB),(∀r∈g,∀d∈r,Cl d)->d∈ao g->In eY d:=λg D hd=>by obtain⟨r,hr,hd⟩:=eL.1 hd;exact(D r hr d hd).bB
 obtain rfl|rfl|rfl|rfl|rfl:=o
 .rw[l]at a;cases a;simp only[cF,dt,gD]at hd;obtain rfl|rfl|rfl|rfl|rfl|rfl:=hd
  .exact(Cl.eT da).bB
  .exact .sc _
  all_goals exact .ms _ _ fa
 .rw[h]at a;cases a;exact f _ (O.dl b) hd
 .rw[i]at a;cases a;exact f _ (λr hr d hd=>Pj) hd
 .rw[k]at a;cases a;exact f _ (λr hr=>(m r hr).2) hd
 rw[j]at a;cases a;exact f _ (J.dl TT) hd
def L7.set{k:a'}{a:cm}(L:L7 a5 be k am a)(B:a≠[]):∃q i j u t o,k 12=E ⟨am,91,6,[.cp [ae.sl a5,aa.sl be],I q,.ms 185 i a.length,.ms 195 j a.length,u,t],Q⟩/\k 185=E ⟨i,112,4,ao<|O.ab a,Q⟩/\o.length=a.length/\k 195=E ⟨j,88,1,ao<|h4 o,Q⟩/\
 ∀l m p,m.length=a.length->p.length=a.length->l 185=E ⟨i,112,4,ao<|O.ab m,Q⟩->l 195=E ⟨j,88,1,ao<|h4 p,Q⟩->(∀e∈eY,e≠185->e≠195->l e=k e)->L7 a5 be l am m:=by
 obtain⟨⟨q,an,al,u,t,w,g,⟨o,x,V⟩,⟨K,Y,X⟩,G,U,S,R⟩,Z⟩:=L;have ak:0<a.length:=uJ.2 B;obtain⟨i,rfl,M⟩:=eG g (by rw[O.cu];simpa using B);obtain⟨j,rfl,P⟩:=eG V (by simp only[h4,au,dG,map_eq_nil_iff];rintro rfl;simp at x;omega);rw[O.b6,fg,x]at w;refine⟨q,i,j,u,t,o,w,M,x,P,λl m p s A D F hk=>⟨⟨q,_,_,u,t,(hk 12 fa Zd Zd).trans w,aj ⟨185,i,Zs,by rw[O.b6,s],D⟩,⟨p,by rw[A,s],aj ⟨195,j,Zs,by rw[fg,A],F⟩⟩,⟨K,by rw[Y,s],X.aA ((Pb)<|hk _ fa Zd Zd)⟩,G,(Yy s) U,S,R.aA ((Pb)<|hk _ fa Zd Zd)⟩,λe C ad g d f=>?_⟩⟩;by_cases z:e=185
 .subst z;rw[D]at g;cases g;obtain⟨r,y,f⟩:=eL.1 f;exact(O.dl m r y d f).bB
 by_cases b:e=195
 .subst b;rw[F]at g;cases g;obtain⟨r,y,f⟩:=eL.1 f;obtain⟨ah,-,rfl⟩:=aP.1 y;simp at f;subst f;exact(db.2<|J.dl ah).bB
 exact Z e C ad ((hk e C z b).symm.trans g) d f
def E'(f:Nat):∀(a:List Bool)(d e:Nat),A (gk f a d e)=a.count W
 |[],_,_=>rfl
 |b::a,d,e=>by cases b<;>simp[gk,E' f a]
def Gn(a B Z b:DL)(e:a.length=am)(d:A Z=a0):Y am (a++(Z++B))++b++List.drop (am+a0) (a++(Z++B))=a++(b++B):=by subst e;subst d;simp[<-drop_drop]
def B7(V:aF)(ds:aO)(c:L)(F:bq)(aV:aX)(e:bq)(l:Int)(d:J)(w:O->O)(b:bq):Prop:=∀(g m:Nat)(a:cm)(s:St)(dst:ON)(K:aU),L7 V ds s.H g a->a.length=A ds+m->m+1+L.bf c<=1000000->
 (∀H n,L7 V ds H g (a++(w (cV V ds c b 0<|m+1).1::(cV V ds c b 0<|m+1).2))->(∀t,t∉eY->H t=s.H t)->K ({s with H:=H,n:=n}.put dst<|I (A ds+m:Nat)))->
 er aB s 234 [.rf 12 g 0,.cp c.ds,.sl 1<|R<|F.map Ev.n,.sl 3<|J.ab<|F.map Ev.t,.sl 1<|R aV,.ag<|cY e,I l,.ag d.ds] dst K
def RI:DL:=[bp,.sc<|.map Q]
abbrev BI(a:Nat)(H:a')(n:List Ag):Prop:=BS 173 3 a RI H n
def z3:DL:=[I 0,S ByteArray.empty,bp]
def gQ(p:Pt):DL:=[I p.1,I p.2,I 0,S ByteArray.empty,bp]
theorem afx(b:∀a∈BL,hO a=fd a)(d:∀a,a∉BL->hO a=m3 a)(e:∀a∈BL,fd a=m3 a):hO=m3:=Zg
theorem dO{u:Nat}(a:am∈BL)(b:u<1000):am≠u:=by(grind [i6])
theorem Ji{sz:Nat}(a b:DL)(e:er g3 bv g5 (a++.sl sz []::b) g7 c2):er g3 bv g5 (a++.sc (.slice Q 0 0)::b) g7 c2:=
 A4 e Zs λi d f g h=>by
  grind [Nat.lt_trichotomy,List.getElem?_append_left,gi.rfl,gi.nil,List.getElem?_cons_succ]
def wK{ty g d:Nat}{n:List Ag}{b f v a:Int}{e:St}(h:BS ty g d a9 e.H n)(j:A n+1<=100000000)(l:0<a/\a<=1000)
 (i:∀H k,BS ty g d a9 H (dV n b f v [] a.toNat)->Fr H e.H->c2 ({e with H:=H,n:=k}.put g7<|I<|A n)):er aB e 149 [.rf 1000 d 0,I b,I f,I v,bp,I a] g7 c2:=by
 obtain⟨a,rfl⟩:∃b:Nat,a=b:=⟨a.toNat,Zo⟩;exact Ji [.rf 1000 d 0,I b,I f,I v] [I a]<|Qj h j Zs Zo i
def lG.same{f:St}{d:D}{n:bi}(hH:∀a∈BL,hO a=f.H a)(l:sB hO)(j:i3=f.T)(k:In BL d)(g:∀a∈BL,fd a=hO a)(i:c2<|{f with n:=n}.put g7 d):lG f g7 c2 d fd n i3:=
 ⟨j,k,λa e o m=>l a e o<|(g a e).symm.trans m,λp h b=>by rw[afx h b λa e=>(g a e).trans<|hH a e];exact i⟩
theorem lG.YL{g:St}{d:D}{H h:a'}{n:bi}{e:Nat}(r:∀a∈BL,h a=g.H a)(s:sB h)(l:i3=g.T)(m:In BL d)(q:∀a∈BL,a≠e->H a=h a)(j:H e=E s2)(p:e∈BL)(t:∀d∈s2.cells,In BL d)
 (k:∀f,f e=E s2->(∀a,a≠e->f a=g.H a)->c2 ({g with H:=f,n:=n}.put g7 d)):lG g g7 c2 d H n i3:=by
 refine⟨l,m,λa o w u=>Zg,λf i b=>k f ((i e p).trans j) λa o=>Zg⟩
def ad7{n:List Ag}(e:BI am bv.H n)(f:∀i,c2<|{bv with n:=i}.put g7<|.ag z3):er aB bv 210 [.rf 1000 am 0] g7 c2:=by
 refine nj [] [.cell 2 99] C C Zk Zt C Zs λj d=>?_;have b:=e.aA d;obtain⟨m,k,a,-⟩:=b.ob;simp only[RI]at a;refine(ad a) ?_;exact lG.same d b.bB C (Cl.bC Zs).bB (λl g=>Yu<|dO g (u:=2)) (f _)
def XC:az 214 [.ag z3]<|.ag z3:=by
 unfold z3;refine(ia [] [.cell 2 99]) ?_;exact .cl _<|Cl.bC Zs
theorem wa{n:List Ag}{p q:Pt}{a:St}(e:BI am a.H n)(k:hZ n p)(l:hZ n q)
 (g:∀H m,BI am H (gF n p q)->Fr H a.H->c2 ({a with H:=H,n:=m}.put g7<|.tp [])):er aB a 150 [.rf 1000 am 0,.ag [I p.1,I p.2],.ag<|gQ q] g7 c2:=by
 have i:yH aB 171=E af:=Zk;have j:F2 aB 171=W:=Zk;refine nj [] [] C C Zk Zt C Zs λo f=>?_;simp only[gQ,go_sem];refine(ZK) ?_;refine aj<|aj (link _ (aG C) (e.aA f) k l λr A b t=>?_);obtain⟨D,z,d,-⟩:=b.ob;simp only[RI]at d;simp only[d,i,j,go_sem];refine⟨_,Vr,C,(Cl.jf Zs).bB,b.bB,λs d1 d2=>g _ _ (b.aA d1) λB u w y=>Zg⟩
def VI(H:a')(g:bi)(ay:List<|List Pt):Prop:=ay.length<=800/\∀j(h:j<ay.length),H (1100+j)=E ⟨g j,365,1,[.sl 5<|ay[j].map gQ],Q⟩
def VI.aA{H H':a'}(a:VI H g8 up)(f:∀b∈BL,b<2000->H' b=H b):VI H' g8 up:=⟨a.1,λe d=>by have:=a.1;rw[f _ (i6.2 Zo) Zo];exact a.2 e d⟩
theorem ad6{n:List Ag}{a:Nat}{g:List Pt}{i:St}(l:BI am i.H n)(q:VI i.H g8 up)(I:a<up.length)(L:up[a]=v0::g)
 (t:∀H O,BI am H n->VI H g8 (up.modify a List.tail)->(∀e,e≠1100+a->H e=i.H e)->c2 ({i with H:=H,n:=O}.put g7<|.ag<|gQ v0)):er aB i 212 [.rf (1100+a) (g8 a) 0] g7 c2:=by
 refine nj [] [.cell 2 252] C C Zk Zt C Zs λU m=>?_;have J:=q.1;have o:1100+a∈BL:=i6.2 Zo;have j:=(m _ o).trans<|q.2 a I;rw[L]at j;simp only[b4]at j;obtain⟨f,M⟩:=Zx<|1100+a;rw[M]at j o t⊢;have S:(f=3)=False/\(3=f)=False:=co;have w:(f=2)=False/\(2=f)=False:=co;have F:(0:Int)<=1:=Zd;have G:((1:Int)<=((A g+1:Nat):Int)):=Zo;have t1:Int.toNat 1=1:=C;have R:Y (A g) (g.map gQ)=g.map gQ:=dj Zs;simp only[j,w,S,F,G,t1,R,bE,gQ,go_sem];have u:Cl<|.sl 5<|g.map gQ:=db.2 λr hr d hd=>OD;have aa:f<2000/\1002<=f:=Zo;refine lG.YL m (l.aA m).bB C (Cl.bC Zs).bB (λe h K=>by simp[ai,K,dO h,dO h]) (by simp[ai,w];rfl) o (Yq u.bB) λy z b=>t y _ (l.keep (λe h V=>b e Zo) λe h X Z P p=>?_) ⟨Yq J,λs B=>?_⟩ b
 .by_cases k:e=f
  .subst k;rw[z]at p;cases p;simpa using u.bB
  exact l.bB e h P<|(b e k).symm.trans p
 have D:s<up.length:=by simpa using B
 by_cases k:s=a
 .exact Zg
 rw[b _ Zo,q.2 s D];simp[uM k]
def Ll(a:List Pt):∀r∈a.map gQ,∀d∈r,Cl d:=λr hr d hd=>OD
def Lj(a:List Pt):∀r∈a.map gQ,A r=5:=λr hr=>yB
def Lc{r:Pt}(a:hZ g0 r):hZ (gF g0 v0 aig) r:=p8<|p8 a
theorem zB{v:Int}{d:IL}{r:Pt}(b:hZ g0 r):hZ (dV g0 a3 g1 v d am) r:=by
 have⟨e,f,a,h,g⟩:=b;exact⟨e,f,a,by(grind [dV,List.getElem?_eq_some_iff]),g⟩
def uw{v:Int}{d:IL}{j:Nat}(a:j<am):hZ (dV g0 a3 g1 v d am) ((A g0:Int),(j:Int)):=
 ⟨Zs,Zs,_,by rw[dV];simp;rfl,Yq a⟩
def Se{n:List Ag}{p:Pt}{t:Int}{g v:Nat}{B:St}(aT:BI am B.H n)(aM:hZ n p)(a7:A n+g+1<=100000000)(a9:v<800)
 (U:∀H a0 aF,BI am H (iX n p t g).2->H (1100+v)=E ⟨aF,365,1,[.sl 5<|(iX n p t g).1.map gQ],Q⟩->(∀a,a≠1100+v->a≠1000->a≠1001->a<2000\/1000000000<=a->H a=B.H a)->c2 ({B with H:=H,n:=a0}.put g7<|.rf (1100+v) aF 0)):
 er aB B 213 [.rf 1000 am 0,.ag<|gQ p,I t,I g] g7 c2:=by
 refine nj [5,20,52,1000008,1000040,1000050] [.tmp 8] C C Zk Zt C Zs λaP hH=>?_;have aH:=aT.aA hH;have az:cE aB 363=E (252,5,64):=Zk;simp only[gQ,go_sem];apply GK.cM;refine ZS (λV=>?_) λV=>?_
 .obtain rfl:g=0:=by simpa using V
  refine(ZN)<|pe [0,1,4,2,3,5] [5] [] fb Zk ?_;refine(ZN) ?_;refine aj<|aj (wK (aH.aA λa f=>Yu<|dO f (u:=5)) Zo Zo λM a2 ab o=>?_);refine(ZN) ?_;refine⟨o 5 Zd Zd Zd,aj<|aj (wa (p:=(A n,0)) ab (uw (j:=0) Zd) (zB aM) λz ap P q=>?_)⟩;refine(ZN) ?_;refine⟨q 5 Zd Zd Zd,?_⟩;obtain⟨w,s⟩:=Zx<|ai (ai z 20 Q) 20<|some ⟨ap 20,365,1,[bp],Q⟩;rw[s];have d0:w 20=E ⟨ap 20,365,1,[bp],Q⟩:=by rw[<-s,bN]
  have d1 a (f:a≠20):w a=z a:=by rw[<-s,a_ _ _ f,a_ _ _ f]
  refine GK.YC 20 0 (.sl 5 []) d0 C gi.nil λD G J=>GK.F7 20 (1100+v) 20 0 G fR λaa a' aR f1 f2=>GK.cM ?_;refine(ZN) ?_;have y a (l:a≠20) (b:a≠1100+v):aa a=z a:=(f2 a l b).trans<|(J a l).trans<|d1 a l;have al:iX n p t 0=([],gF (dV n 5 0 0 [] 1) (A n,0) p):=C;rw[al]at U;have K:=P.keep (H':=aa) (λa f g=>y a (dO f Zd) Zo) λa f m L ob x=>?_
  .refine⟨C,.rf _ _<|i6.2 Zo,K.bB,λO m L=>U O _ aR (K.aA m) ((m _<|i6.2 Zo).trans f1) λa au Y Z av=>?_⟩;by_cases f:a∈BL
   .exact(m a f).trans<|(y a (dO f Zd) au).trans<|(q a Y Z av).trans<|(o a Y Z av).trans<|((a_ _ _<|dO f Zd).trans<|a_ _ _<|dO f Zd).trans<|hH a f
   exact L a f
  by_cases i:a=1100+v
  .subst i;rw[f1]at x;cases x;simpa using(db.2 Zs:Cl (.sl 5 [])).bB
  exact P.bB a f ob<|(y a Zo i).symm.trans x
 have aW:g≠0:=by simpa using V
 have aZ:cb.wrap ((g:Int)-1)=((g-1:Nat):Int):=wI;refine(ad aZ) ?_;refine lp 23 (g-1) [0,2,5,22] (λi aD H a1 ax=>ax=B.T/\∃(os:List Pt)(k:List Ag)(e:Pt),ko (g-1) n p t=(let r:=ko (g-1-i) k e t;(os++r.1,r.2))/\(A os=i/\A k=A n+i)/\aL [40] H 252 5 (os.map gQ) (aD 9)/\H 5=E ⟨B.n 5,252,5,gQ e,Q⟩/\BI am H k/\hZ k e/\∀a∈BL,a≠1000->a≠1001->a<2000->H a=aP a) ⟨C,[],n,p,C,⟨C,C⟩,.nil,by simp[ai,gQ],aH.aA λa f=>Yu<|dO f (u:=5),aM,λa f l b d=>Yu<|dO f (u:=5)⟩ ?_;rintro i aD H a1 ax a4 a8⟨aI,os,k,e,ak,⟨aY,a6⟩,aN,R,an,aX,aJ⟩;refine ZL (λa5=>?_) λV=>?_
 .have⟨G,J⟩:=e;simp only[gQ]at R;refine(ZN) ?_;refine aj<|aj (wK an Zo Zo λM a2 ab o=>?_);have F:=o 5 Zd Zd Zd;replace o:Fr M H:=o;replace F:M 5=H 5:=F;rw[R]at F;refine(ad F) ?_;refine aj<|aj (wa ab (uw Zd) (zB aX) λz ap P q=>?_);replace q:Fr z M:=q;have ay:=(q 5 Zd Zd Zd).trans F;refine(ad ay)<|GK.cM (eC.eS (S:=[40]) (aq:=os.map gQ) (bD:=[gQ (A k,1)]) az (by simp only[aw,bx,bT,bj,e7,eQ];exact aN.aA (by simp[ai];rw[q 40 Zd Zd Zd,o 40 Zd Zd Zd])) (Lj _) (by simp[aw,dS,ai,gQ]) Zs C ch AJ λw ar a3 X s=>?_);have aO:=s 5 Zd Zd;simp only[a_,dG,bj,dv,ay]at aO;refine(ad aO) ?_;have aK a (f:a∈BL):w a=z a:=(s a (dO f Zd)<|Yq<|dO f (u:=40) Zd).trans<|(a_ _ _<|dO f Zd).trans<|a_ _ _<|dO f Zd;refine dI ⟨aI,os++[((A k:Int),1)],gF (dV k 4 t 0 [] 3) (A k,0) (G,J),(A k,2),?_,⟨Yr aY,by rw[pu,na];omega⟩,?_,by simp[ai,gQ],P.aA λa f=>(a_ _ _<|dO f Zd).trans<|aK a f,Lc<|uw Zd,λa f l b d=>?_⟩
  .rw[ak,show g-1-i=(g-1-(i+1))+1 by omega];simp[ko]
  .rw[bX];exact(Pa)<|X.aA bF
  exact(a_ _ _<|dO f Zd).trans<|(aK a f).trans<|(q a l b<|aG d).trans<|(o a l b<|aG d).trans<|aJ a f l b d
 obtain rfl:i=g-1:=Zo;simp only[pJ,ko,de]at ak;simp only[gQ]at R;refine(ad R)<|GK.cM (eC.eS (aq:=os.map gQ) (bD:=[gQ e]) az ((Pa)<|aN.aA bF) (Lj _) (by simp[aw,dS,ai,gQ]) Zs C ch AJ λw ar a3 X s=>?_);rw[show os.map gQ++[gQ e]=(os++[e]).map gQ by simp]at X;obtain⟨ae,rfl,aV⟩:=eG X Zs;refine(ZN) ?_;obtain⟨D,ah⟩:∃D,ai (ai w 52 Q) 52 (E ⟨ar 52,365,1,[.ms 50 ae (A (os++[e]))],Q⟩)=D:=⟨_,C⟩;rw[ah];have d0:D 52=E ⟨ar 52,365,1,[.ms 50 ae<|A<|os++[e]],Q⟩:=by rw[<-ah,bN]
 have d1:∀a,a≠52->D a=w a:=λa f=>by rw[<-ah,a_ _ _ f,a_ _ _ f]
 refine GK.fc [50] 52 0 (e:=.sl 5<|(os++[e]).map gQ) d0 Zd C (Fz.aq (ob:=⟨ae,252,5,ao<|(os++[e]).map gQ,Q⟩) (by simp only[b5,dg,bx];exact(d1 50 Zd).trans aV) C C Zd Zs (Lj _) C (Ll _)) (db.2<|Ll _) λaa G J=>GK.F7 52 (1100+v) 52 0 G fR λO ba aS f1 f2=>GK.cM ?_;refine(ZN) ?_;have al:iX n p t g=(os++[e],k):=by rw[iX,aC aW,ak]
 rw[al]at U;have y a (f:a∈BL) (l:a≠1100+v):O a=H a:=(f2 a (dO f Zd) l).trans<|(J a (dO f Zd)<|Yq<|dO f (u:=50) Zd).trans<|(d1 a<|dO f Zd).trans<|(s a (dO f Zd)<|Yq<|dO f (u:=40) Zd).trans<|(a_ _ _<|dO f Zd).trans<|a_ _ _<|dO f Zd;have K:=an.keep (H':=O) (λa f g=>y a f Zo) λa f m L ob x=>?_
 .refine⟨aI,.rf _ _<|i6.2 Zo,K.bB,λaQ m L=>U aQ _ aS (K.aA m) ((m _<|i6.2 Zo).trans f1) λa au Y Z av=>?_⟩;by_cases f:a∈BL
  .have:=i6.1 f;exact(m a f).trans<|(y a f au).trans<|(aJ a f Y Z Zo).trans<|hH a f
  exact L a f
 by_cases i:a=1100+v
 .subst i;rw[f1]at x;cases x;simpa using(db.2 (Ll (os++[e]))).bB
 exact an.bB a f ob<|(y a f i).symm.trans x
section
open Go.Sort (Holds putRow putCells onCells)
def XN{B:hC}(a:(((g3.funcs[g5]?).map (·.name)).getD ""== "runtime.NumGoroutine")=af)(b:g3.funcs[g5]?=E {B with name:=((g3.funcs[g5]?).map (·.name)).getD ""}):Go.Proofs.Bears g3 g5 B:=⟨_,a,b⟩
def afH:Go.Shelf.Ren:=⟨λ|53=>274|64=>277|63=>296|78=>305|79=>306|70=>327|71=>328|72=>329|73=>330|74=>331|75=>332|59=>333|76=>334|77=>335|88=>357|89=>337|90=>338|91=>358|92=>359|68=>278|96=>372|n=>n,λ|22=>110|23=>2|51=>370|67=>396|69=>398|61=>389|60=>388|44=>393|75=>416|79=>420|83=>432|84=>223|n=>n,λn=>n⟩
def VU:Go.Proofs.SlLaysN.n53 aB afH:=Pk
def Zb:Go.Shelf.Ren:=⟨λ|43=>146|n=>n,λ|22=>110|23=>2|n=>n,λn=>n⟩
def RF:Go.Proofs.SlLaysN.n43 aB Zb:=Pk
def U5{d:IL}{b:Nat}(l:sD m7 n6 2 1 (Z d) m8<|some b):∃a us,m8=.slice (E ⟨b,0,Q⟩) (A d) a/\A d<=a/\a<=aE/\us.size=a/\m7.heap[b]?=E (.cells us 2 (0,0))/\Holds (Value.int .i64) m7 b 0 d.toArray:=by
 obtain⟨a,us,rfl,g,o,f,m,k⟩:=l;rw[fm]at f⊢;refine⟨a,us,C,f.2,f.1,Zo,g,λh e=>?_⟩;have e:h<A d:=Yq e;obtain⟨m8,i,j⟩:=k h (I d[h]) (by rw[ox];simp[e]);cases j;refine⟨?_,?_⟩
 .simp only[World.cell?,g,ew];simp[i,e]
 simp[World.frozen?,g]
def U6{a:a8}{M:cG}{l:IL}{b g:Nat}{us:ky}(p:a.heap[b]?=E (.cells us 2 (0,0)))(t:us.size=g)(y:g<=aE)(F:A l<=g)(k j:Nat)(z:j<=A l)(h:Array Obj):
 (p5 a M λD=>E b=E D).Ok (Go.Sort.grow (putRow (Value.int .i64) (Go.Sort.ahead a k) b 0 l.toArray) h)/\sD (Go.Sort.grow (putRow (Value.int .i64) (Go.Sort.ahead a k) b 0 l.toArray) h) M 2 1 (Z<|Y j l) (.slice (E ⟨b,0,Q⟩) j g) (E b):=by
 have x:b<a.heap.size:=(nO.1 p).1;have B:(a.heap.modify b<|onCells<|putCells (Value.int .i64) 0 l.toArray).size=a.heap.size:=Zs;have q:(Go.Sort.grow (putRow (Value.int .i64) (Go.Sort.ahead a k) b 0 l.toArray) h).heap=a.heap.modify b (onCells<|putCells (Value.int .i64) 0 l.toArray)++h:=C;have o:∀e,e<a.heap.size->(Go.Sort.grow (putRow (Value.int .i64) (Go.Sort.ahead a k) b 0 l.toArray) h).heap[e]?=if b=e then(a.heap[e]?).map (onCells<|putCells (Value.int .i64) 0 l.toArray)else a.heap[e]?:=λe m=>by
  rw[q,xS Zo,Array.getElem?_modify]
 refine⟨⟨C,C,C,?_,λe m=>?_,Nat.le_add_right _ _⟩,g,putCells (Value.int .i64) 0 l.toArray us,?_,?_,?_,?_,?_,?_⟩
 .rw[q,uH,B];show a.heap.size<=_;omega
 .have w:=Bs.vL m;exact(o e w).trans (aC λu=>m<|aj<|Yw u)
 .rw[fm,ij,wx z]
 .rw[o b x,aM C,p];rfl
 .simp[putCells,t]
 .rw[fm,ij];exact⟨y,Zo⟩
 .rw[ox,bE,ij];simp[putCells,t];omega
 intro i d f;rw[ox,fP]at f;rw[wl]at f;by_cases r:i<j
 case neg=>rw[aC r]at f;cases f
 have s:i<A l:=Zo;rw[aM r,bL s]at f;cases f;refine⟨.int .i64 l[i],?_,.sc _⟩;simp only[putCells,Array.getElem?_mapIdx,Mr (show i<us.size by omega),eE];simp[s]
def afJ(l:IL)(J:A l<=1000000):AD aB 274 [] 2 1 (Z l) (Z<|r_ l) λ_=>.tp []:=by
 refine⟨⟨_,func274,C,C⟩,by rw[fm,fm,(LN l).length_eq],nW l,nW _,λa M z O D G L t K f=>?_⟩;obtain rfl:z=[]:=Yq t.symm;obtain _|b:=D
 .obtain⟨s,rfl⟩:=f;have r:l=[]:=by simpa[Z]using s
  subst r;refine Calls.mono (AnyG.slices_Sort_int_none VU Q 0 a) ?_;rintro k B⟨rfl,rfl⟩;exact⟨.tuple #[],C,⟨C,C,C,bJ _,λ_ _=>C,bJ _⟩,⟨by simp[r_],C⟩,λi _ _ _=>Rd.tp [] [] C λu d v h=>jr⟩
 obtain⟨j,us,rfl,F,m,o,e,p⟩:=U5 f;have q:b<a.heap.size:=(nO.1 e).1;refine Calls.mono (AnyG.slices_Sort_int VU b 0 j l a p q Zo) ?_;rintro k B⟨rfl,w,x,rfl⟩;have I:A (r_ l)=A l:=(LN l).length_eq;obtain⟨y,g⟩:=U6 (M:=M) (l:=r_ l) e o m Zo w (A l) Zo x;rw[dj Zo]at g;exact⟨.tuple #[],C,y,g,λi _ _ _=>Rd.tp [] [] C λu d v h=>jr⟩
def RG(a:IL):A (Lib.compact a)<=A a:=by
 rw[Lib.compact,Lib.compactUpTo,bE];exact gS (qi _ _) Zs
def RH(d:IL)(a:Int):a∈Lib.compact d↔a∈d:=by
 rw[Lib.compact,Lib.compactUpTo,aP];constructor
 .rintro⟨b,g,rfl⟩;have e:=oo.1 (nP.1 g).1;simp[e]
 intro m;have f:=findIdx_lt_length_of_exists (p:=λx=>ah<|x=a) ⟨a,m,Zs⟩;generalize g:d.findIdx (λx=>ah<|x=a)=b;rw[g]at f;have k:d[b]=a:=by
  have e:=findIdx_getElem (w:=(Yy g) f) (p:=λx=>ah<|x=a) (xs:=d);simp only[g,ee]at e;exact e
 refine⟨b,nP.2 ⟨oo.2 f,?_⟩,by simp[f,k]⟩;obtain _|b:=b
 .simp[Lib.keeps]
 have l:d[b]≠a:=λj=>by
  have e:=not_of_lt_findIdx (p:=λx=>ah<|x=a) (xs:=d) (i:=b) Zo;simp[j]at e
 simp[Lib.keeps,f,show b<A d by omega,k]
 first|exact l|exact λj=>l j.symm|skip
def yW(k:Nat):D->D
 |.ms t g _=>.ms t g k
 |d=>d
def Ze(l:IL):AD aB 146 [] 2 1 (Z l) (Z<|Lib.compact l++fu (A l-(A<|Lib.compact l)) 0)<|yW<|A<|Lib.compact l:=by
 have O:A (Lib.compact l)<=A l:=RG l;refine⟨⟨_,func146,C,C⟩,co,nW l,nW _,λj M D S G L g y P f=>?_⟩;obtain rfl:D=[]:=Yq y.symm;obtain _|b:=G
 .obtain⟨x,rfl⟩:=f;have w:l=[]:=by simpa[Z]using x
  subst w;refine Calls.mono (AnyG.slices_Compact_int_empty RF Q 0 j) ?_;rintro o F⟨rfl,rfl⟩;exact⟨_,C,⟨C,C,C,bJ _,λ_ _=>C,bJ _⟩,⟨by simp[Lib.compact,Lib.compactUpTo],C⟩,λk I d a=>by obtain rfl|⟨B,p,l,rfl⟩:=d;exact a;cases a⟩
 obtain⟨m,us,rfl,q,e,r,u,s⟩:=U5 f;refine Calls.mono (AnyG.slices_Compact_int RF b 0 m l j s (by unfold aE at e;omega) q) ?_;rintro o F⟨rfl,z,rfl⟩;obtain⟨h,i⟩:=U6 (M:=M) (l:=Lib.compact l++fu (A l-(A<|Lib.compact l)) 0) u r e ch z (A l) ch #[];rw[dj ch,Go.Sort.grow_empty]at i;rw[Go.Sort.grow_empty]at h;refine⟨_,C,h,i,λk I d a=>?_⟩;obtain rfl|⟨B,p,R,rfl⟩:=d
 .cases a
 cases a with|ms _ _ _ J K t g=>exact .ms _ _ _ _ _ ⟨t.1,Zo⟩ g
end
theorem WN(e d:Int):∀(f:cm)(b a:Nat)(h:a<A f),O.ke e (Y (a+1) f) b d=O.ke e (Y a f) b d+(f[a]).c_ (d+ez e (b+a))
 |c::g,b,0,_=>by simp[O.ke]
 |c::g,b,a+1,h=>by
  simp only[jz,O.ke,jm,WN e d g (b+1) a<|Yq h];exact Zg
def aif(f e:Int)(a:cm)(d b:Nat):O.ke f (Y b a) d e<=O.dd a:=by
 have:=O.G6 f (Y b a) d e;have:=O.yU a b;omega
theorem ZH(k0 v:Int)(d:IL)(ks:cm)(m:Int)(t:0<=m)(r:m+(1+O.cX ks:Nat)<1000000000000)(u:(1+O.dd ks:Nat)<=1000000000)(j:A ks<=aE)
 (lP:∀a∈ks,∀m:Int,0<=m->m+a.cC<1000000000000->az 215 [.ag a.ds,I m] (I (a.c_ m:Nat))):
 az 215 [.ag<|O.ds<|.mk k0 v d ks,I m] (I ((O.mk k0 v d ks).c_ m:Nat)):=by
 unfold aE at j;have i:O.ds (.mk k0 v d ks)=[I k0,I v,bm d,.sl 4<|O.ab ks]:=qs;have Bo:(O.mk k0 v d ks).c_ m=if k0=1 then(if v=m then 1 else 0)else O.ke k0 ks 0 m:=by rw[O.c_]
 refine(dH) ?_;refine fx (λh=>?_) (λh=>?_)<;>simp only[h,go_sem]
 .refine bR _ (GX _) Zs<|(ZN) ?_;have h:k0=1:=Yq h;refine Fz.di ?_
  first|omega|grind
 have h:k0≠1:=by simpa using h
 rw[aC h]at Bo;refine fG 19 (A ks) (λk=>Fw.Inv 35 [(2,.cp [I k0,I v,bm d,.sl 4<|O.ab ks]),(1,I m),(17,.sl 4<|O.ab ks),(18,I<|A ks),(5,I (O.ke k0 (Y k ks) 0 m:Nat))] True) C ⟨C,by simp[bm,ej,aw,O.ke],trivial⟩ ?_;rintro k q p w _ _ s-;refine ZL (λbw=>?_) λh=>?_
 .have f:=O.bV ks k bw;have hx:=aD bw;have g:=O.bP ks[k];have o:Y 4 ks[k].ds=ks[k].ds:=dj Zo;have l:(ks[k].ds).all cO=W:=(Pf)<|O.one ks[k];exact(fQ<|JJ f<|JJ g<|JJ o l)<|fS _ (by have b:=binds k0 v d ks k;rw[i]at b;exact b) sI C<|Ny
 exact Nc
def JC(b:O)(a:Int)(l:0<=a)(f:a+b.cC<1000000000000)(g:b.b7<=1000000000)(e:b.ok):az 215 [.ag b.ds,I a]<|I (b.c_ a:Nat):=by
 match b,f,g,e with
 |.mk m v d o,f,g,e=>
 simp only[O.ok]at e;rw[O.cC]at f;rw[O.b7]at g;exact ZH m v d o a l f g e.2.1 λi h a j k=>JC i a j k (Yo<|O.nr h)<|O.eJ e.2.2 i h
theorem acQ(k0 v:Int)(d:IL)(ks:cm)(m:Int)(s:0<=m)(q:m+(1+O.cX ks:Nat)<1000000000000)(t:(1+O.dd ks:Nat)<=1000000000)(l:A ks<=aE)
 (lP:∀b∈ks,∀m:Int,0<=m->m+b.cC<1000000000000->az 285 [.cp b.ds,I m] (I (b.c_ m:Nat))):
 az 285 [.cp<|O.ds<|.mk k0 v d ks,I m] (I ((O.mk k0 v d ks).c_ m:Nat)):=by
 unfold aE at l;have i:=O.b6 ks;have j:O.ds (.mk k0 v d ks)=[I k0,I v,bm d,.sl 4<|O.ab ks]:=qs;have Bo:(O.mk k0 v d ks).c_ m=if k0=1 then(if v=m then 1 else 0)else O.ke k0 ks 0 m:=by rw[O.c_]
 refine(dH) ?_;refine fx (λh=>?_) (λh=>?_)<;>simp only[h,go_sem]
 .have h:k0=1:=by simpa using h
  refine fx (λa=>?_) (λa=>?_)<;>simp only[a,go_sem]<;>refine Fz.di ?_<;>rw[Bo,aM h]
  .rw[aM<|Yq a];rfl
  rw[aC<|Yq a];rfl
 have h:k0≠1:=by simpa using h
 rw[aC h]at Bo;refine fG 6 (A ks) (λk=>Fw.Inv 42 [(0,.cp [I k0,I v,bm d,.sl 4<|O.ab ks]),(1,I m),(5,I (O.ke k0 (Y k ks) 0 m:Nat))] True) C ⟨C,by simp[bm,ej,aw,O.ke],trivial⟩ ?_;rintro k p o u _ _ r-;refine dN i (λbw=>?_) λh=>?_
 .have g:=O.bV ks k bw;have hx:=aD bw;exact(fQ g)<|fS _ (by have f:=TO k0 v d ks k [];rw[j,de]at f;exact f) sI C<|Ny
 exact Nc
def KC(b:O)(a:Int)(l:0<=a)(f:a+b.cC<1000000000000)(g:b.b7<=1000000000)(e:b.ok):az 285 [.cp b.ds,I a]<|I (b.c_ a:Nat):=by
 match b,f,g,e with
 |.mk m v d o,f,g,e=>
 simp only[O.ok]at e;rw[O.cC]at f;rw[O.b7]at g;exact acQ m v d o a l f g e.2.1 λi h a j k=>KC i a j k (Yo<|O.nr h)<|O.eJ e.2.2 i h
def ea(n:List Ag):Nat->List Nat
 |0=>[]
 |i+1=>if(ea n i).any λs=>ah (i∈bA n s)then ea n i else ea n i++[i]
structure Xk (n:List Ag) (i:Nat):Prop where
 EJ:∀j,j<i->∃s∈ea n i,j∈bA n s
 lt:∀s∈ea n i,s<i
 Eg:(ea n i).Pairwise (·<·)
 le:∀s∈ea n i,∀x∈bA n s,s<=x
 JH:(ea n i).Pairwise λs t=>∀x∈bA n s,x∉bA n t
def vU{d:List Ag}(m:nS d):∀i,i<=A d->Xk d i
 |0,_=>⟨Zs,by simp[ea],by simp[ea],by simp[ea],by simp[ea]⟩
 |i+1,C=>by
  have h:=vU m i Zo;have z:=(kO m (show i<A d by omega)).2.2.2;by_cases l:((ea d i).any λa=>ah<|i∈bA d a)=W
  .have e:ea d (i+1)=ea d i:=by rw[ea,aM l]
   obtain⟨a,u,w⟩:=m'.1 l;refine⟨λj s=>?_,(Yy e) (λa q=>Nat.lt_succ_of_lt<|h.lt a q),(Yy e) h.Eg,(Yy e) h.le,(Yy e) h.JH⟩;rw[e];by_cases q:j=i
   .subst q;exact⟨a,u,Yq w⟩
   exact h.EJ j Zo
  have e:ea d (i+1)=ea d i++[i]:=by rw[ea,aC l]
  have t:∀a∈ea d i,i∉bA d a:=λa q y=>l<|m'.2 ⟨a,q,Yq y⟩;have r:∀a∈ea d i,∀g∈bA d i,g∉bA d a:=λa q=>GW m Zo (Wl m<|iR (h.lt a q) Zo)<|t a q;refine⟨λj s=>?_,?_,?_,?_,?_⟩
  .rw[e];by_cases q:j=i
   .subst q;exact⟨j,Zs,z⟩
   obtain⟨a,f,b⟩:=h.EJ j Zo;exact⟨a,Yr f,b⟩
  .rw[e];intro a q;obtain q|q:=ca.1 q
   .exact Nat.lt_succ_of_lt<|h.lt a q
   simp at q;omega
  .rw[e,x8];exact⟨h.Eg,Zs,λf o b k=>by simp at k;subst k;exact h.lt f o⟩
  .rw[e];intro a q;obtain q|q:=ca.1 q
   .exact h.le a q
   simp at q;subst q;intro g p;obtain q|q:=Hm g a
   .obtain⟨B,f,b⟩:=h.EJ g q;exact absurd b<|r B f g p
   exact q
  rw[e,x8];exact⟨h.JH,Zs,λf o b k g p x=>by simp at k;subst k;exact r f o g x p⟩
def hM:List Int->List Int->Bool
 |[],[]=>af
 |[],_::_=>W
 |_::_,[]=>af
 |a::l,b::m=>if a=b then hM l m else ah (a<b)
theorem FW:∀b,hM b b=af
 |[]=>rfl
 |a::b=>by rw[hM,aM C,FW b]
theorem KH:∀d e,hM d e=af->hM e d=af->d=e
 |[],[],_,_=>rfl
 |[],_::_,h,_=>On
 |_::_,[],_,h=>On
 |a::d,b::e,h,f=>by
  rw[hM]at h f;by_cases g:a=b
  .subst g;rw[aM C]at h f;rw[KH d e h f]
  exact Zg
theorem KI:∀f g e,hM f g=W->hM g e=W->hM f e=W
 |[],[],_,h,_=>On
 |[],_::_,[],_,h=>On
 |[],_::_,_::_,_,_=>rfl
 |_::_,[],_,h,_=>On
 |_::_,_::_,[],_,h=>On
 |a::f,b::g,j::e,h,d=>by
  rw[hM]at h d⊢;by_cases k:a=b
  .subst k;rw[aM C]at h;by_cases i:a=j
   .subst i;rw[aM C]at d⊢;exact KI f g e h d
   rw[aC i]at d⊢;exact d
  exact Zg
def Jb(n:List Ag):List Nat->Nat
 |[]=>0
 |k::r=>r.foldl (λb k=>if hM (eN n<|bA n k) (eN n<|bA n b)then k else b) k
theorem Jc(a:List Ag):∀(r:ax)(b:Nat),r.foldl (λb k=>if hM (eN a<|bA a k) (eN a<|bA a b)then k else b) b∈b::r
 |[],b=>by simp
 |k::r,b=>by
  rw[oj];have d:=Jc a r (if hM (eN a<|bA a k) (eN a<|bA a b)then k else b);split at d<;>grind
def QY(a:gt≠[]):Jb g0 gt∈gt:=by
 obtain _|⟨b,r⟩:=gt
 .exact absurd C a
 exact Jc g0 r b
def mR(l:ax):ax:=l.mergeSort λa b=>ah<|a<=b
def dz(n:List Ag):List<|Nat×Nat:=(ea n<|A n).tail.map λs=>(Jb n (mR<|bA n s),s)
def gx(n:List Ag)(x y:Nat×Nat):Bool:=hM (eN n<|bA n x.1) (eN n<|bA n y.1)||(ah (eN n (bA n x.1)=eN n (bA n y.1))&&ah (x.2<y.2))
def ym(n:List Ag)(R:List<|Nat×Nat):Prop:=R.Perm (dz n)/\R.Pairwise λx y=>gx n x y=W
theorem KN(a:gx g0 ai4 ajm=W)(b:gx g0 ajm ai4=W):False:=by
 grind [gx,KI,FW]
def ym.ahC{R a:List (Nat×Nat)}(d:ym g0 R)(e:ym g0 a):R=a:=
 List.Perm.eq_of_pairwise (λ_ _ _ _ f b=>(KN f b).elim) d.2 e.2 (d.1.trans e.1.symm)
def p9(n:List Ag)(R:List<|Nat×Nat):ax:=bA n 0++ao (R.map λx=>bA n x.1)
theorem LR(e:0<A g0):∃r,ea g0 (A g0)=0::r:=by
 have d:∀a,∃r,ea g0 (a+1)=0::r:=λa=>by
  induction a with
  |zero=>exact⟨[],by simp[ea]⟩
  |succ a f=>
   grind [ea]
 obtain⟨a,b⟩:∃a,A g0=a+1:=⟨A g0-1,Zo⟩;rw[b];exact d a
theorem sa(a:ax):(mR a).Perm a:=Hl ..
def ahc(a:nS g0)(b:am<A g0)(d:a0∈bA g0 am):(bA g0 a0).Perm<|bA g0 am:=
 (MS (kO a<|(kO a b).2.1 a0 d).1 (kO a b).1).2 (ahd a b d)
def Sv{a g:g2->List ld}:∀{l:List g2},(∀x∈l,(a x).Perm<|g x)->(l.map a).flatten.Perm (ao<|l.map g)
 |[],_=>.refl _
 |x::l,b=>by
  simp only[b4,dT];exact(b x Zs).append (Sv λe d=>b e<|Yr d)
def aeO{a:List Ag}(e:nS a)(s:0<A a){R:List (Nat×Nat)}(u:ym a R):(p9 a R).Perm<|cz<|A a:=by
 have j:=vU e (A a)<|bJ _;obtain⟨r,l⟩:=LR s;have k:∀d∈ea a (A a),d<A a:=j.lt;have t:(p9 a R).Perm<|ao<|(ea a<|A a).map<|bA a:=by
  rw[l,b4,dT,p9];refine MC _<|((u.1.map _).flatten).trans ?_;rw[dz,l,tail_cons,eu];refine Sv λd f=>?_;have i:=k d (by rw[l];simp[f]);refine ahc e i<|(sa _).mem_iff.1 (QY λy=>?_);have m:=(kO e i).2.2.2;rw[<-(sa _).mem_iff,y]at m;cases m
 refine t.trans ((MS ?_ nodup_range).2 λh=>?_)
 .rw[List.Nodup,pairwise_flatten];refine⟨λx i=>?_,?_⟩
  .obtain⟨d,f,rfl⟩:=aP.1 i;exact(kO e<|k d f).1
  rw[Aq];exact j.JH.imp λq h g z w(p:h=z)=>q h g (p▸w)
 simp only[eL,aP,mem_range];constructor
 .rintro⟨x,⟨d,f,rfl⟩,g⟩;exact(kO e<|k d f).2.1 h g
 intro g;obtain⟨d,o,b⟩:=j.EJ h g;exact⟨_,⟨d,o,C⟩,b⟩
def pz(n:List Ag)(o:List Nat):List Ag:=o.map λk=>match n[k]? with
 |some a=>{a with p:=a.p.map λp=>((o.idxOf p.1.toNat:Int),p.2)}
 |none=>⟨0,0,0,[],[]⟩
section
structure Fit (t:O) (ay:List (List Pt)):Prop where
 g:t.bh=W
 a:t.ji (ay.length:Nat)=af
 c:∀j(h:j<ay.length),t.c_ ((ay.length-1-j:Nat))<=A ay[j]
theorem yG{k n:Int}:∀{l:cm}{f j:Nat}(e:j<A l),O.sL k l f n=af->l[j].ji (n+ez k (f+j))=af
 |[],_,_,e,_=>absurd e Zs
 |c::l,f,0,e,g=>by
  grind [O.sL]
 |c::l,f,j+1,e,g=>by
  rw[O.sL,xU]at g;have:=yG (Yq e) g.2;exact Zg
theorem rM{k v:Int}{d:IL}{ks:cm}(e:(O.mk k v d ks).bh=W):∀c∈ks,c.bh=W:=by
 grind [O.bh,O.i1]
def Mh{k:Int}(f:∀e,ez k e=0):∀(l:cm)(g:Nat)(e:Int),O.ke k l g e=(l.map λc=>c.c_ e).sum
 |[],_,_=>rfl
 |c::l,g,e=>by rw[O.ke,f,sk,Mh f l];rfl
def xz{k v:Int}{d:IL}{ks:cm}(e:mb (.mk k v d ks)=W):(k=1->ks=[]/\0<=v)/\(k=4\/k=6->A ks=1)/\(k=7->A ks=2):=by
 simp only[mb,cy,bY,j',xN]at e;refine⟨λf=>?_,λf=>?_,λf=>?_⟩
 .subst f;obtain _|⟨c,l⟩:=ks
  .simp at e;exact⟨C,e.1.2.1⟩
  simp at e;omega
 .obtain rfl|rfl:=f<;>simp at e<;>omega
 subst f;simp at e;omega
def iu(f:Int->Nat)(ay:List<|List Pt):List<|List Pt:=ay.mapIdx λj o=>o.drop<|f<|(ay.length-1-j:Nat)
theorem lr(e:Int->Nat)(ay:List<|List Pt):A (iu e ay)=ay.length:=by simp[iu]
theorem y6(f:Int->Nat)(ay:List<|List Pt)(e:Nat)(g:e<A (iu f ay)):(iu f ay)[e]=(ay[e]'(by simpa[lr]using g)).drop (f<|(ay.length-1-e:Nat)):=by simp[iu]
theorem R1(e f:Int->Nat)(ay:List<|List Pt):iu f (iu e ay)=iu (λg=>e g+f g) ay:=by
 grind [List.ext_getElem,lr,y6,drop_drop]
def ZU(ay:List<|List Pt):iu (λ_=>0) ay=ay:=lX AN λg e f=>by rw[y6];rfl
theorem R2(e:Int->Nat)(ay:List<|List Pt)(f:List Pt):(iu e<|ay++[f]).dropLast=iu (λi=>e<|i+1) ay:=by
 refine lX AN λj g h=>?_
 grind [lr,y6,List.getElem_append_left]
def qh(n:List Ag)(p:Pt):Option Pt:=(n[p.1.toNat]?).bind λa=>a.p[p.2.toNat]?
structure Lk (n:List Ag) (U:List Pt):Prop where
 nd:U.Nodup
 ok:∀p∈U,hZ n p
 ln:∀p,hZ n p->p∉U->∃q,qh n p=E q/\hZ n q/\q∉U/\qh n q=E p
def Lk.perm{n:List Ag}{U U':List Pt}(f:Lk n U)(e:U.Perm U'):Lk n U':=
 ⟨e.nodup_iff.1 f.nd,λh i=>f.ok h<|e.mem_iff.2 i,λh a b=>by
  have⟨i,c,d,j,m⟩:=f.ln h a λg=>b<|e.mem_iff.1 g;exact⟨i,c,d,λg=>j<|e.mem_iff.2 g,m⟩⟩
theorem UW{n:List Ag}{g h r:Pt}:hZ (la n g h) r↔hZ n r:=by
 refine⟨λ⟨e,f,a,i,j⟩=>⟨e,f,?_⟩,p8⟩
 grind [la]
theorem ahH{n:List Ag}{e f r:Pt}(g:hZ n e)(h:hZ n r):qh (la n e f) r=if r=e then E f else qh n r:=by
 have⟨i,j,a,m,o⟩:=g;have⟨p,q,b,s,t⟩:=h;unfold qh la;exact Zg
theorem Lk.gF{n:List Ag}{e f:Pt}{U:List Pt}(h:Lk n (e::f::U)):Lk (gF n e f) U:=by
 have q:=h.ok e Zs;have s:=h.ok f Zs;have⟨m,u⟩:=lg.1 h.nd;have⟨w,x⟩:=lg.1 u;have z:e≠f:=λo=>m<|Yx o;have v:∀r,hZ n r->qh (Fw.gF n e f) r=if r=f then E e else if r=e then E f else qh n r:=λr g=>by
  unfold Fw.gF
  grind [ahH,p8]
 refine⟨x,λr g=>p8<|p8<|h.ok r<|Yr g,λr g p=>?_⟩;have g:=UW.1<|UW.1 g;by_cases i:r=f
 .subst i;exact⟨e,cq,p8<|p8 q,λt=>m<|Yr t,cq⟩
 by_cases j:r=e
 .subst j;exact⟨f,cq,p8<|p8 s,w,cq⟩
 have⟨y,a,b,c,d⟩:=h.ln r g (by simp[i,j,p]);simp only[cF,lh]at c;exact⟨y,cq,p8<|p8 b,c.2.2,cq⟩
def zz(a:Nat)(m:Nat):List Pt:=(cz m).map λj:Nat=>((a:Int),(j:Int))
def Lk.add{n:List Ag}{U:List Pt}(h:Lk n U)(k l v:Int)(d:IL)(f:Nat):Lk (dV n k l v d f)<|zz (A n) f++U:=by
 have s:∀{r:Pt},hZ n r->hZ (dV n k l v d f) r:=λ⟨z,B,a,j,C⟩=>⟨z,B,a,by rw[dV,lY (dX.1 j).1];exact j,C⟩;have p:∀{r:Pt},hZ n r->r.1.toNat<A n:=λ⟨_,_,_,j,_⟩=>(dX.1 j).1;have u:∀{r:Pt},hZ n r->qh (dV n k l v d f) r=qh n r:=λe=>by unfold qh;rw[dV,lY<|p e]
 have t r (e:r∈zz (A n) f):r.1.toNat=A n:=by obtain⟨K,-,rfl⟩:=aP.1 e;simp
 refine⟨?_,λr e=>?_,λr e o=>?_⟩
 .rw[iQ];refine⟨?_,h.nd,λa D b F m=>?_⟩
  .exact(Aq.2 (List.nodup_range.imp λJ m=>J (by have i:=eo Prod.snd m;simp only at i;omega)))
  subst m;have i:=p (h.ok a F);rw[t a D]at i;omega
 .obtain q|q:=ca.1 e
  .obtain⟨K,G,rfl⟩:=aP.1 q;exact⟨Zs,Zs,_,by rw[dV];simp;rfl,Yq G⟩
  exact s<|h.ok r q
 have⟨L,M,a,g,w⟩:=e;rw[ca,lh]at o;have I:r.1.toNat<A n:=by
  obtain q|q:=Hm r.1.toNat<|A n
  .exact q
  rw[dV,kR q]at g;have y:r.1.toNat=A n:=by
   have i:=(dX.1 g).1;simp at i;omega
  rw[y]at g;simp at g;subst g;refine absurd (aP.2 ⟨r.2.toNat,oo.2 (by simp only[ss]at w;omega),Prod.ext ?_ ?_⟩) o.1<;>simp<;>omega
 have e:hZ n r:=⟨L,M,a,by rw[dV,lY I]at g;exact g,w⟩;have⟨x,a,b,c,d⟩:=h.ln r e o.2;refine⟨x,by rw[u e,a],s b,?_,by rw[u b,d]⟩;rw[ca,lh];exact⟨λf=>by have i:=p b;rw[t x f]at i;omega,c⟩
theorem qR{a b:List Pt}(f:∀e,a.count e=b.count e):a.Perm b:=List.perm_iff_count.2 f
theorem Sb(l:Int):∀(c:Nat)(n:List Ag)(e:Pt)(U:List Pt),Lk n (e::U)->Lk (ko c n e l).2.1 ((ko c n e l).1++(ko c n e l).2.2::U)
 |0,n,e,U,f=>f
 |c+1,n,e,U,f=>by
  refine(Sb l c _ _ _ ((f.add 4 l 0 [] 3).perm (U':=(A n,0)::e::(A n,2)::(A n,1)::U) (qR λg=>Oc)).gF).perm (qR λg=>?_)
  grind [ko]
theorem Sd{n:List Ag}{e:Pt}{U:List Pt}(l:Int)(c:Nat)(f:Lk n (e::U)):Lk (iX n e l c).2<|(iX n e l c).1++U:=by
 unfold iX;split
 .exact((f.add 5 0 0 [] 1).perm (U':=(A n,0)::e::U) (qR λg=>by simp[zz])).gF
 grind [Sb,qR]
theorem Sw:∀{ay:List (List Pt)}{f:Nat}{e:Pt}{g:List Pt},ay[f]?=E (e::g)->ay.flatten.Perm (e::ao (ay.modify f List.tail))
 |[],_,_,_,h=>jr
 |i::ay,0,e,g,h=>cq
 |i::ay,f+1,e,g,h=>by
  have:=Sw<|Yq h;exact Zg
structure Cq (t:O) (l:Int) (n:List Ag) (ay:List (List Pt)) (U:List Pt):Prop where
 v:(t.cmp l n ay).2.2=iu t.c_ ay
 lk:Lk (t.cmp l n ay).2.1 ((t.cmp l n ay).1::(ao (iu t.c_ ay)++U))
 lo:A n<=A (t.cmp l n ay).2.1
 hi:A (t.cmp l n ay).2.1<=A n+1000*t.b7
structure Hy (t:O) (n:List Ag) (ay:List (List Pt)) (U:List Pt):Prop where
 f:Fit t ay
 c:t.b7<=400
 k:Lk n (ay.flatten++U)
abbrev uk(a:Int)(j m:Nat):List Pt:=(cz m).map λi=>(a,((j+i:Nat):Int))
structure sA (ks:List O) (a:Int) (j:Nat) (n:List Ag) (ay:List (List Pt)) (U:List Pt):Prop where
 g:∀c∈ks,c.bh=W/\c.ji (ay.length:Nat)=af
 s:∀i(h:i<ay.length),(ks.map λc=>c.c_ ((ay.length-1-i:Nat))).sum<=A ay[i]
 c:O.dd ks<=400
 k:Lk n (uk a j (A ks)++(ay.flatten++U))
def abr(a:Int)(e f:Nat):uk a e (f+1)=(a,(e:Int))::uk a (e+1) f:=by
 rw[uk,Ar,b4,eu];congr 1;simp;intros;omega
theorem sA.hd{c:O}{ks:cm}{a:Int}{f:Nat}{n:List Ag}{ay:List (List Pt)}{U:List Pt}(e:sA (c::ks) a f n ay U):Hy c n ay ((a,(f:Int))::uk a (f+1) (A ks)++U):=by
 have h:=e.k;have i:=e.c;rw[dC,abr]at h;rw[O.dd]at i;exact⟨⟨(e.g c Zs).1,(e.g c Zs).2,λm j=>by have o:=e.s m j;simp only[b4,kS]at o;omega⟩,Zo,h.perm (qR λp=>cq)⟩
theorem sA.tl{c:O}{ks:cm}{a l:Int}{e:Nat}{n:List Ag}{ay:List (List Pt)}{U:List Pt}(f:sA (c::ks) a e n ay U)(h:Cq c l n ay ((a,(e:Int))::uk a (e+1) (A ks)++U)):sA ks a (e+1) (gF (c.cmp l n ay).2.1 (a,(e:Int)) (c.cmp l n ay).1) (c.cmp l n ay).2.2 U:=by
 have i:=f.c;rw[O.dd]at i;rw[h.v];exact⟨λd j=>by rw[lr];exact f.g d<|Yr j,λo m=>by
  rw[y6];simp only[lr,C9];have p:=f.s o (by simpa[lr]using m);simp only[b4,kS]at p;omega,Zo,(h.lk.perm (U':=(a,(e:Int))::(c.cmp l n ay).1::(uk a (e+1) (A ks)++(ao (iu c.c_ ay)++U))) (qR λq=>cq)).gF⟩
def RB{l a:Int}:∀(ks:cm),(∀c∈ks,∀n ay U,Hy c n ay U->Cq c l n ay U)->∀(e:Nat)(n:List Ag)(ay:List<|List Pt)(U:List Pt),sA ks a e n ay U->(O.mG ks l a e n ay).2=iu (λi=>(ks.map λc=>c.c_ i).sum) ay/\Lk (O.mG ks l a e n ay).1 (ao (iu (λi=>(ks.map λc=>c.c_ i).sum) ay)++U)/\
 A n<=A (O.mG ks l a e n ay).1/\A (O.mG ks l a e n ay).1<=A n+1000*O.dd ks
 |[],_,e,n,ay,U,h=>by
  simp only[O.mG,eO,sum_nil,ZU,O.dd];exact⟨trivial,by simpa[uk]using h.k,bJ _,Zo⟩
 |c::ks,j,e,n,ay,U,h=>by
  have f:=j c Zs n ay _ h.hd;have r:=RB ks (λd o=>j d<|Yr o) (e+1) _ _ U<|h.tl f;simp only[f.v,R1]at r;simp only[O.mG,f.v,b4,kS,O.dd];have m:((e:Int)+1)=((e+1:Nat):Int):=Zo;rw[m];refine⟨r.1,r.2.1,?_,?_⟩
  .have g:=r.2.2.1;rw[pu]at g;have g:=f.lo;omega
  have g:=r.2.2.2;rw[pu]at g;have g:=f.hi;omega
theorem K3{k v:Int}{d:IL}{ks:cm}(e:mb (.mk k v d ks)=W)(g:k≠1)(i:k≠6)(h:k≠4)(j:k≠7):
 ((k=2\/k=11)/\A ks=0/\A d=0)\/((k=3\/k=5)/\A ks=2/\A d=0)\/(k=8/\A ks<=3/\A d=0)\/((k=9\/k=10)/\A ks=1/\A d<=4):=by
 simp only[mb,cy,bY,ee]at e;have e:=e.1.1;rw[j']at e;by_cases f:k=1\/k=2\/k=11
 .rw[aM f]at e;simp only at e;omega
 exact Zg
theorem aeb{k v:Int}{d:IL}{ks:cm}(m:mb (.mk k v d ks)=W)(g:k≠1)(i:k≠6)(h:k≠4)(j:k≠7)(l:Int):∃e f:Nat,(kq k v l).2.2.2.1=e/\(kq k v l).2.2.2.2=f/\((e=0/\f=A ks)\/(e=1/\f=0)):=by
 have o:((k=2\/k=11)/\A ks=0)\/((k=3\/k=5)/\A ks=2)\/k=8\/((k=9\/k=10)/\A ks=1):=by
  have:=K3 m g i h j;omega
 unfold kq;exact Zg
def QI{k:Int}(e:k≠4)(f:k≠7)(g:Nat):ez k g=0:=by simp[ez,e,f]
theorem TV{e:List (List Pt)}{m:Nat}(g:A e=m+1)(f:e[m]?=E []):e=e.dropLast++[[]]:=
 by
  have h:e≠[]:=sG
  grind [dropLast_concat_getLast,Nat.add_sub_cancel]
section
variable{k v l:Int}{d:IL}{ks:cm}{a b c:O}{n:List Ag}{ay:List (List Pt)}{U:List Pt}
theorem Kg(o:Hy (.mk k v d ks) n ay U)(g:k=1):ks=[]/\0<=v/\v<ay.length/\∃e f,ay[ay.length-1-v.toNat]?=E (e::f)/\((.mk k v d ks:O).cmp l n ay)=(e,n,ay.modify (ay.length-1-v.toNat) List.tail):=by
 have⟨⟨m,j,p⟩,s,o⟩:=o;rw[O.bh,cy]at m;have⟨r,w,x⟩:=xz m.1;obtain⟨rfl,u⟩:=r g;rw[O.ji,aM g]at j;simp only[jo,ge_iff_le,Int.not_le]at j;have q:ay.length-1-v.toNat<ay.length:=Zo;have h:((ay.length-1-(ay.length-1-v.toNat):Nat):Int)=v:=Zo;have i:=p _ q;rw[O.c_,aM g,aM h.symm]at i;obtain⟨e,f,t⟩:∃e f,ay[ay.length-1-v.toNat]=e::f:=by
  rcases h:ay[ay.length-1-v.toNat]with _|⟨e,f⟩
  .rw[h]at i;simp at i
  exact⟨e,f,C⟩
 grind [O.RD]
def Kk(i:Hy (.mk k v d ks) n ay U):(k=6\/k=4->∃c,ks=[c])/\(k=7->∃a b,ks=[a,b])/\mb (.mk k v d ks)=W:=by
 have e:=i.f.g;rw[O.bh,cy]at e;have⟨o,j,m⟩:=xz e.1;exact⟨λp=>kw.1<|j Zo,λh=>by match ks,m h with|[a,b],_=>exact⟨a,b,C⟩,e.1⟩
theorem Ki(f:Hy (.mk k v d [c]) n ay U)(r:k=6):Hy c n ay U/\(O.mk k v d [c]).c_=c.c_:=by
 have⟨⟨p,h,s⟩,m,f⟩:=f;have i:∀e,ez k e=0:=QI Zo Zo;have g:k≠1:=Zo;have q e:(O.mk k v d [c]).c_ e=c.c_ e:=by rw[O.c_,aC g,Mh i];simp
 rw[O.b7]at m;simp only[O.dd]at m;exact⟨⟨⟨rM p c Zs,by
  rw[O.ji,aC g]at h;have o:=yG (j:=0) Zs h;rw[i,sk]at o;exact o,λj t=>cq⟩,Zo,f⟩,funext q⟩
theorem Kh{e:List Pt×List Ag}(g:Hy (.mk k v d [c]) n ay U)(q:k=4)(t:iX (dV n 2 l 0 [] 3) (A n,1) l (c.c_ 0)=e):
 Hy c e.2 (ay++[e.1]) ((A n,0)::(A n,2)::U)/\(∀f,(O.mk k v d [c]).c_ f=c.c_ (f+1))/\c.b7<=399/\A e.1=c.c_ 0/\A n+1<=A e.2/\A e.2<=A n+c.b7+2:=by
 have⟨⟨r,i,x⟩,y,g⟩:=g;have h:k≠1:=Zo;have m:ez k 0=1:=by simp[ez,q]
 have u f:(O.mk k v d [c]).c_ f=c.c_ (f+1):=by rw[O.c_,aC h,O.ke,O.ke,m];rfl
 have s:c.b7<=399:=by(grind [O.b7,O.dd])
 have B:=O.uG c 0;have f1:=Sc (dV n 2 l 0 [] 3) (A n,1) l<|c.c_ 0;have o:=Sd l (c.c_ 0)<|(g.add 2 l 0 [] 3).perm (U':=(A n,1)::(A n,0)::(A n,2)::(ay.flatten++U)) (qR λw=>Oc);rw[t]at f1 o;rw[na]at f1;refine⟨⟨⟨rM r c Zs,by
  rw[O.ji,aC h]at i;have p:=yG (j:=0) Zs i;rw[m]at p;simpa using p,λj z=>?_⟩,Zo,o.perm (qR λw=>cq)⟩,u,s,f1.2.2,f1.1,Zo⟩
 exact Zg
def Mi(f:k=7)(e:Int):(O.mk k v d [a,b]).c_ e=a.c_ e+b.c_ (e+1):=by
 have g:ez k 0=0:=by simp[ez,f]
 have h:ez k 1=1:=by simp[ez,f]
 rw[O.c_,aC Zo,O.ke,O.ke,O.ke,g,h,sk];rfl
def BF(f:Hy (.mk k v d [a,b]) n ay U)(g:k=7):Hy a n ay U/\a.b7+b.b7<=399:=by
 have⟨⟨o,h,m⟩,i,f⟩:=f;have p:ez k 0=0:=by simp[ez,g]
 rw[O.b7]at i;simp only[O.dd]at i;exact⟨⟨⟨rM o a Zs,by
  rw[O.ji,aC Zo]at h;have e:=yG (j:=0) Zs h;rw[p]at e;simpa using e,λj q=>by
   have e:=m j q;rw[Mi g]at e;omega⟩,Zo,f⟩,Zo⟩
theorem Kj{r:Pt×List Ag×List (List Pt)}{e:List Pt×List Ag}(i:Hy (.mk k v d [a,b]) n ay U)(h:k=7)(z:a.cmp l n ay=r)(y:iX r.2.1 r.1 l (b.c_ 0)=e)(f:Cq a l n ay U):
 Hy b e.2 (r.2.2++[e.1]) U/\A e.1=b.c_ 0/\A n<=A r.2.1/\A r.2.1<=A e.2/\A e.2<=A n+1000*a.b7+b.b7+1:=by
 have C:=(BF i h).2;have⟨⟨u,o,t⟩,D,i⟩:=i;have w:ez k 1=1:=by simp[ez,h]
 have F:=O.uG b 0;have g:=f.v;have s:=f.lk;have q:=f.lo;have B:=f.hi;rw[z]at g s q B;have f1:=Sc r.2.1 r.1 l<|b.c_ 0;have p:=Sd l (b.c_ 0) s;rw[y]at f1 p;refine⟨⟨⟨rM u b Zs,by
  rw[O.ji,aC Zo]at o;have m:=yG (j:=1) Zs o;rw[g];simp only[b9,lr,oW];simpa[w]using m,λj x=>?_⟩,Zo,by
  rw[g];exact p.perm (qR λG=>by(grind [List.flatten_append,List.flatten_cons,List.flatten_nil]))⟩,f1.2.2,q,f1.1,Zo⟩
 rw[g]at x;by_cases f:j<ay.length
 .have m:=t j f;rw[Mi h]at m
  grind [List.length_append,List.length_singleton,lr,List.getElem_append_left,y6,List.length_drop]
 grind [lr]
theorem Kl{e f:Nat}(h:Hy (.mk k v d ks) n ay U)(j:k≠1)(C:k≠6)(t:k≠4)(u:k≠7)(q r s:Int)(m:IL)(G:(e=0/\f=A ks)\/(e=1/\f=0)):
 sA ks (A n:Int) e (dV n q r s m<|A ks+1) ay (((A n:Int),(f:Int))::U)/\(O.mk k v d ks).c_=λi=>(ks.map λc=>c.c_ i).sum:=by
 have⟨⟨w,o,F⟩,g,h⟩:=h;have p:=QI t u;have y:(O.mk k v d ks).c_=λi=>(ks.map λc=>c.c_ i).sum:=funext λz=>by rw[O.c_,aC j,Mh p]
 rw[O.b7]at g;refine⟨⟨λc g=>⟨rM w c g,by
  rw[O.ji,aC j]at o;obtain⟨J,x,rfl⟩:=ec g;have B:=yG x o;rwa[p,sk]at B⟩,λz I=>sG,Zo,(h.add q r s m<|A ks+1).perm ?_⟩,y⟩
 have D:(zz (A n)<|A ks+1).Perm (((A n:Int),(f:Int))::uk (A n) e (A ks)):=by
  grind [zz,List.range_succ,perm_append_comm,List.range_succ_eq_map,List.map_congr_left]
 exact Zg
end
def pZ:∀(P:O)(l:Int)(n:List Ag)(ay:List<|List Pt)(U:List Pt),Hy P n ay U->Cq P l n ay U
|.mk k v d ks,l,n,ay,U,o=>by
 have x c (ax:c∈ks) l n ay U (a:Hy c n ay U):Cq c l n ay U:=pZ c l n ay U a;have⟨J,am,ah⟩:=Kk o;have t:(O.mk k v d ks).b7=1+O.dd ks:=by rw[O.b7]
 by_cases u:k=1
 .obtain⟨rfl,av,an,az,aA,ak,f⟩:=Kg (l:=l) o u;have G:iu (O.mk k v d []).c_ ay=ay.modify (ay.length-1-v.toNat) List.tail:=by
   refine lX AN λI S aq=>?_;rw[y6,O.c_,aM u,getElem_modify];have au:I<ay.length:=by simpa[lr]using S
   by_cases g:ay.length-1-v.toNat=I
   .rw[aM Zo,aM g,drop_one]
   rw[aC Zo,aC g];rfl
  refine⟨by rw[f,G],?_,(Yy f)<|bJ _,Yx f⟩;rw[f,G];exact o.k.perm<|(Sw ak).append_right U
 by_cases s:k=6
 .obtain⟨c,rfl⟩:=J<|aG s;have⟨X,p⟩:=Ki o s;have g:=x c Zs (l+1) n ay U X;have f:(O.mk k v d [c]).cmp l n ay=c.cmp (l+1) n ay:=O.EC s;simp only[O.dd]at t;exact⟨by rw[f,p];exact g.v,by rw[f,p];exact g.lk,(Yy f) g.lo,by rw[f,t];have:=g.hi;omega⟩
 by_cases q:k=4
 .obtain⟨c,rfl⟩:=J<|aj q;generalize w:iX (dV n 2 l 0 [] 3) (A n,1) l (c.c_ 0)=e;have⟨V,z,ar,f1,f2,f3⟩:=Kh o q w;have g:=x c Zs l e.2 (ay++[e.1]) _ V;have f:(O.mk k v d [c]).cmp l n ay=(((A n:Int),0),gF (c.cmp l e.2<|ay++[e.1]).2.1 (A n,2) (c.cmp l e.2<|ay++[e.1]).1,(c.cmp l e.2<|ay++[e.1]).2.2.dropLast):=O.EB q w C;have p:iu (O.mk k v d [c]).c_ ay=(iu c.c_<|ay++[e.1]).dropLast:=by rw[R2];congr 1;exact funext z
  have F:iu c.c_ (ay++[e.1])=(iu c.c_<|ay++[e.1]).dropLast++[[]]:=TV (m:=ay.length) AN (by simp[iu,f1]);have K:=g.lk;rw[F]at K;refine⟨by rw[f,p,<-g.v],?_,?_,?_⟩
  .rw[f,p];have B:=(K.perm (U':=(A n,2)::(c.cmp l e.2<|ay++[e.1]).1::(A n,0)::(ao (iu c.c_<|ay++[e.1]).dropLast++U)) (qR λD=>by simp only[eR,dT,fX,de,Hd,He];omega)).gF;exact B
  .rw[f];simp only[pu];have:=g.lo;omega
  rw[f,t];simp only[pu,O.dd];have:=g.hi;omega
 by_cases j:k=7
 .obtain⟨a,b,rfl⟩:=am j;simp only[O.dd]at t;have L:=x a Zs l n ay U (BF o j).1;generalize f:a.cmp l n ay=r;generalize w:iX r.2.1 r.1 l (b.c_ 0)=e;obtain⟨Y,f1,f2,f3,f4⟩:=Kj o j f w L;have y:=x b Zs l e.2 (r.2.2++[e.1]) U Y;have i:=O.ED (v:=v) (d:=d) j f w C;have M:=L.v;rw[f]at M;rw[M]at y i;have p:iu (O.mk k v d [a,b]).c_ ay=(iu b.c_<|iu a.c_ ay++[e.1]).dropLast:=by rw[R2,R1];congr 1;exact funext λal=>Mi j al
  have F:iu b.c_ (iu a.c_ ay++[e.1])=(iu b.c_<|iu a.c_ ay++[e.1]).dropLast++[[]]:=TV (m:=A<|iu a.c_ ay) AN (by simp[iu,f1]);have B:=y.lk;rw[F]at B;refine⟨by rw[i,p,<-y.v],?_,?_,?_⟩
  .rw[i,p];exact B.perm (qR λD=>by simp only[eR,dT,fX,de,Hd,He])
  .rw[i];have:=y.lo;simp only;omega
  rw[i,t];have:=y.hi;have:=(BF o j).2;simp only;omega
 have i:=O.EE (k:=k) (v:=v) (l:=l) (d:=d) (ks:=ks) (n:=n) (ay:=ay) u s q j;obtain⟨R,ap,ab,ae,ad⟩:=aeb ah u s q j l;rw[ab,ae]at i;obtain⟨Z,z⟩:=Kl o u s q j (kq k v l).1 (kq k v l).2.1 (kq k v l).2.2.1 d ad;have g:=RB ks (λc aa n ay U D=>x c aa l n ay U D) R _ ay _ Z;rw[na]at g;refine⟨by rw[i,z];exact g.1,?_,by rw[i];have:=g.2.2.1;simp only;omega,by rw[i,t];have:=g.2.2.2;simp only;omega⟩;rw[i,z];exact g.2.1.perm (qR λD=>by simp only[Hd,He];omega)
end
def KQ(e d g:Int):∀(f:cm)(b a:Nat)(i:a<A f),O.fZ e (Y (a+1) f) b d g=O.fZ e (Y a f) b d g++(f[a]).gO (d+ez e (b+a)) g
 |c::h,b,0,_=>by simp[O.fZ]
 |c::h,b,a+1,i=>by
  simp only[jz,O.fZ,jm,KQ e d g h (b+1) a<|Yq i,dy];rw[show b+1+a=b+(a+1)by omega]
structure Lb (c:O) (i l:Int) (out:List Int):Prop where
 g:c.bh=W
 o:c.ok
 i0:0<=i
 ib:i+c.cC<1000000000000
 l0:0<=l
 lb:l+c.cC<1000000000000
 b:A out+c.b7<=1000000000
def Lb.dh{b v f h:Int}{d:IL}{e:cm}{out:IL}(l:Lb (.mk b v d e) f h out){a:Nat}(j:a<A e):Lb e[a] (f+ez b a) (h+if b=6 then 1 else 0)<|out++O.fZ b (Y a e) 0 f (h+if b=6 then 1 else 0):=by
 obtain⟨m,i,s,o,t,p,q⟩:=l;have g:=aD j;have w:=O.yZ g;have u:=AY b a;have k:=O.yU e<|a+1;rw[O.tY e a j]at k;have r:=O.G6 b (Y a e) 0 f;simp only[O.ok]at i;rw[O.b7]at q;rw[O.cC]at o p;refine⟨rM m _ g,O.eJ i.2.2 _ g,Zo,Zo,yp,yp,?_⟩;rw[b9,O.KP];omega
theorem IS(m:O)(i j:Int)(out:IL)(h:Lb m i j out):jR aB 145 [.ag m.ds,I i,I j] [] 2 1 (Z out)<|Z<|out++m.gO i j:=by
 match m,h with
 |.mk a v d e,h=>
 have V:∀f(q:f<A e),jR aB 145 [.ag e[f].ds,I<|i+ez a f,I (j+if a=6 then 1 else 0)] [] 2 1 (Z<|out++O.fZ a (Y f e) 0 i (j+if a=6 then 1 else 0))<|Z<|out++O.fZ a (Y f e) 0 i (j+if a=6 then 1 else 0)++(e[f]).gO (i+ez a f) (j+if a=6 then 1 else 0):=λf q=>IS e[f] _ _ _<|h.dh q;have B:=h.g;rw[O.bh,cy]at B;obtain⟨am,-⟩:=xz B.1;have X:A e<=aE:=IH;unfold aE at X;have ay:=h.i0;have M:=h.ib;have az:=h.l0;have P:=h.lb;have R:=h.b;rw[O.cC]at M P;rw[O.b7]at R;have U:O.ds (.mk a v d e)=[I a,I v,bm d,.sl 4<|O.ab e]:=qs;have y:(O.mk a v d e).gO i j=if a=1 then(if v=i then[j]else[])else O.fZ a e 0 i (j+if a=6 then 1 else 0):=by rw[O.gO]
 have K:cE aB 110=E (2,1,8):=Zk;refine jR.Cc [1000023] [.tmp 8] C C Zk Zt C Zs (nW _) (nW _) λap l aK G ax k=>?_;have k:aL [3] l 2 1 (Z out) ap:=k;refine(ZN) ?_;have ae:¬(a=1/\v=i)->(O.mk a v d e).gO i j=O.fZ a e 0 i (j+if a=6 then 1 else 0):=λJ=>by
  rw[y];split
  .rename_i s;rw[(am s).1,aC λp=>J ⟨s,p⟩];rfl
  rfl
 have ao:cb.wrap (j+(if(a==6)=W then 1 else 0))=j+if a=6 then 1 else 0:=by
  by_cases s:a=6<;>simp only[s,ot,bx,bT]<;>exact dE _ Zo
 repeat' (first|(refine oC (λh=>?_) (λh=>?_)<;>simp only[h,go_sem])|(refine fx (λh=>?_) (λh=>?_)<;>simp only[h,go_sem]))
 .refine GK.cM (eC.eS (S:=[3]) (aq:=Z out) (bD:=Z [j]) K ((Pa)<|k.aA bF) (iI _) hF Zs C ch AJ λav aN aO ak aF=>?_);refine(ZN) ?_;rw[y,aM (by simp_all),aM (by simp_all),o5];exact ak.close
 all_goals
  rw[ae (by simp_all)];refine fG 27 (A e) (λf=>Fw.fF 48 [(1,I i),(2,I j),(4,.cp [I a,I v,bm d,.sl 4<|O.ab e]),(25,.sl 4<|O.ab e),(26,I<|A e)] λu l al x=>x=G/\aL [3,45] l 2 1 (Z<|out++O.fZ a (Y f e) 0 i (j+if a=6 then 1 else 0)) (u 3)) C ⟨C,by simp[bm,ej,aw],C,by simpa[aw,ej,O.fZ]using k.sub Zs⟩ ?_;clear k;rintro f u l al x _ q⟨rfl,k⟩;generalize t:u 3=au;rw[t]at k;refine ZL (λr=>?_) λh=>?_
  .have L:=O.bV e f r;have z:=O.bP e[f];have D:Y 4 e[f].ds=e[f].ds:=dj Zo;have aa:(e[f].ds).all cO=W:=(Pf)<|O.one e[f];have aH:=AY a f;have an:cb.wrap (i+ez a f)=i+ez a f:=dE _ Zo;simp only[L,z,D,aa,go_sem];refine pe [0,1,2,3,6,7,8,9,12,4,5,10,11,13,14] [10] [] fb Zk ?_;simp only[t,z,D,go_sem];refine bR _ (by have w:=binds a v d e f;rw[U]at w;exact w) sI<|(ad an)<|bR _ (GX _) Zs<|(ad ao)<|va [3,45] [.ag e[f].ds,I<|i+ez a f,I (j+if a=6 then 1 else 0)] [] au 2 1 _ _ (V f r) C (k.aA (by(grind [ai]))) ru ?_;intro F aJ ar ah hH;refine(ad<|hH 10 Zd Zd) ?_;refine jW wC r ⟨C,It,C,?_⟩;have p:=KQ a i (j+if a=6 then 1 else 0) e 0 f r;rw[ew]at p;rw[p,<-dy];have aI:aL [3,45] F 2 1 _ ar:=ah.sub Zs
   grind [aw,bj,eQ]
  obtain rfl:f=A e:=Zo;rw[cc]at k;exact(ad<|JJ h t)<|aL.close k
decreasing_by all_goals(have w:=fl (aD q);simp;omega)
theorem TP(q:O)(i l:Int)(out:IL)(h:Lb q i l out):jR aB 107 [.cp q.ds,I i,I l] [] 2 1 (Z out)<|Z<|out++q.gO i l:=by
 match q,h with
 |.mk e v d f,h=>
 generalize s:(l+if e=6 then 1 else 0)=k;have X:∀a(r:a<A f),jR aB 107 [.cp f[a].ds,I<|i+ez e a,I k] [] 2 1 (Z<|out++O.fZ e (Y a f) 0 i k)<|Z<|out++O.fZ e (Y a f) 0 i k++(f[a]).gO (i+ez e a) k:=λa r=>TP f[a] _ _ _ (s▸h.dh r);have F:=h.g;rw[O.bh,cy]at F;obtain⟨aN,-⟩:=xz F.1;have aa:A f<=aE:=IH;unfold aE at aa;have ax:=h.i0;have M:=h.ib;have ay:=h.l0;have P:=h.lb;have R:=h.b;rw[O.cC]at M P;rw[O.b7]at R;have U:=O.b6 f;have V:O.ds (.mk e v d f)=[I e,I v,bm d,.sl 4<|O.ab f]:=qs;have D:(O.mk e v d f).gO i l=if e=1 then(if v=i then[l]else[])else O.fZ e f 0 i k:=by rw[O.gO,s]
 have K:cE aB 110=E (2,1,8):=Zk;refine jR.Cc [1000024] [.tmp 8] C C Zk Zt C Zs (nW _) (nW _) λao p aK J av j=>?_;have j:aL [3] p 2 1 (Z out) ao:=j;refine(ZN) ?_;refine fx (λh=>?_) (λh=>?_)<;>simp only[h,go_sem]
 .have h:e=1:=by simpa using h
  rw[D,aM h];refine fx (λm=>?_) (λm=>?_)<;>simp only[m,go_sem]
  .refine GK.cM (eC.eS (S:=[3]) (aq:=Z out) (bD:=Z [l]) K (by simp only[aw,bx,bT,bj];exact j.aA bF) (iI _) hF Zs C ch AJ λau aO aP ah aF=>?_);refine(ZN) ?_;rw[aM<|Yq m,o5];exact ah.close
  rw[aC<|Yq m,de];exact j.close
 have L:e≠1:=Yq h;rw[D,aC L];have am:e=6->cb.wrap (l+1)=k:=λm=>by rw[<-s,aM m];exact dE _ Zo
 have an:e≠6->l=k:=λm=>by rw[<-s,aC m];omega
 refine fx (λh=>?_) (λh=>?_)<;>simp only[h,go_sem]<;>(first|simp only[am (Yq h)]|rw[an (Yq h)])
 all_goals
  clear h;refine lp 9 (A f) [0,1,2] (λa u p ak y=>y=J/\aL [3,55] p 2 1 (Z<|out++O.fZ e (Y a f) 0 i k) (u 3)) ⟨C,by simpa[aw,ej,O.fZ]using j.sub Zs⟩ ?_;clear j;rintro a u p ak y _ r⟨rfl,j⟩;generalize t:u 3=ar;rw[t]at j;refine dN U (λw=>?_) λh=>?_
  .have B:=O.bV f a w;have aH:=AY e a;have al:cb.wrap (i+ez e a)=i+ez e a:=dE _ Zo;refine(ad B)<|pe [0,1,2,3,4,5,6,7,8,11,12,9,10,13,14] [] [] fb Zk<|(ad<|JJ B t)<|bR _ (by have x:=TO e v d f a [];rw[V,de]at x;exact x) sI<|(ad al)<|va [3,55] [.cp f[a].ds,I<|i+ez e a,I k] [] ar 2 1 _ _ (X a w) C (j.aA (by simp only[bM];exact⟨ep,ep,Zs⟩)) ru ?_;intro G aJ ap ae az;refine(ZN) ?_;refine dI ⟨C,?_⟩;have z:=KQ e i k f 0 a w;rw[ew]at z;rw[z,<-dy];have aI:aL [3,55] G 2 1 _ ap:=ae.sub Zs
   grind [aw,bj,eQ]
  obtain rfl:a=A f:=Zo;rw[cc]at j;exact(ad<|JJ h t)<|aL.close j
decreasing_by all_goals(have x:=fl (aD r);simp;omega)
def GJ(a:Int):∀b:cm,O.CD b a=b.all λc=>c.fW a
 |[]=>by rw[O.CD];rfl
 |c::d=>by rw[O.CD,GJ a d];rfl
def Qs:km If a3=W↔∀a∈If,a=a3:=by simp[km]
theorem Zf(l:IL):A (Lib.compact l)<=1↔∀g∈l,g=l.getD 0 0:=by
 constructor
 .intro d g b;have j:l.getD 0 0∈l:=by cases l with
   |nil=>cases b
   |cons a l=>simp
  have b:=(RH l g).2 b;have j:=(RH l _).2 j;generalize l.getD 0 0=q at*;rcases k:Lib.compact l with _|⟨a,r⟩
  .rw[k]at b;cases b
  exact Zg
 intro d;obtain _|⟨a,l⟩:=l
 .simp[Lib.compact,Lib.compactUpTo]
 rw[Lib.compact,Lib.compactUpTo,bE,dC,Ar,xW];have o:(List.map Nat.succ<|cz<|A l).filter (Lib.keeps (a::l).toArray)=[]:=by
  rw[filter_eq_nil_iff];intro p m;obtain⟨f,e,rfl⟩:=aP.1 m;have e:=oo.1 e;have h:=d _<|aD (l:=a::l) (n:=f) ch;have i:=d _<|aD (l:=a::l) (n:=f+1) ch;simp[Lib.keeps,e,show f<A l+1 by omega];simp at h i;rw[i,h]
 rw[o];split<;>simp
def Zh(a:Int)(b:IL):∃r,Lib.compact (a::b)=a::r:=by
 rw[Lib.compact,Lib.compactUpTo,dC,Ar,xW,aM (by simp[Lib.keeps]),b4];exact⟨_,by simp;rfl⟩
theorem adh(a:IL)(b:Int):(km a b||km a (b+1))=!(ah (1<A (Lib.compact a))||(ah (0<A a)&&(ah (a.getD 0 0≠b)&&ah (a.getD 0 0≠b+1)))):=by
 rw[oi];simp only[tm,Qs,oV,xU,wg,jo,Nat.not_lt,Zf,dG,not_not];obtain _|⟨d,a⟩:=a
 .simp
 simp only[cF,ri,dC,C0,rj];exact Zg
def ac9(a:IL)(d:Int):(ah (A a<=1)&&km a d)=!(ah (1<A a)||(ah (A a=1)&&ah (a.getD 0 0≠d))):=by
 rw[oi];simp only[cy,Qs,oV,xU,wg,jo,Nat.not_lt,ee,dG,not_not];obtain _|⟨e,_|⟨b,a⟩⟩:=a<;>simp
theorem BX(a:O)(b:Int):O.fZ 0 [a] 0 0 b=a.gO 0 b:=by(grind [O.fZ,XL])
theorem af2(f v:Int)(d:IL)(e:cm)(a:Int)(z:(O.mk f v d e).bh=W)(ap:(O.mk f v d e).ok)(aq:(O.mk f v d e).b7<=100000000)(h0:0<=a)(aI:a<=9)
 (an:∀x∈e,∀w:Int,0<=w->w<=9->az 90 [.ag x.ds,I w] (B<|x.fW w)):az 90 [.ag<|O.ds<|.mk f v d e,I a]<|B<|(O.mk f v d e).fW a:=by
 have SZ:=rM z;have zg:=ap;simp only[O.ok]at zg;have ao:A e<=aE:=zg.2.1;rw[O.bh,cy]at z;obtain⟨-,au,av⟩:=xz z.1;rw[O.b7]at aq;have F x (hx:x∈e):Lb x 0 a []:=P0;have aR:O.ds (.mk f v d e)=[I f,I v,bm d,.sl 4<|O.ab e]:=qs;have aP:(O.mk f v d e).fW a=(ah (a<=8)&&(if f=4 then ah (A (O.fZ 0 (Y 1 e) 0 0 a)<=1)&&km (O.fZ 0 (Y 1 e) 0 0 a) a else if f=7 then km (O.fZ 0 (e.drop 1) 0 0 a) a||km (O.fZ 0 (e.drop 1) 0 0 a) (a+1)else W)&&e.all λc=>c.fW (a+if f=6 then 1 else 0)):=by rw[O.fW,GJ]
 refine(dH) ?_;refine fx (λy=>?_) (λy=>?_)<;>simp only[y,go_sem]
 .refine Fz.aK ?_
  first|omega|grind
 have aL:a<=8:=Ys y;have S x (hx:x∈e):az 147 [.ag x.ds,.cp [I a],.cp [I f,I v,bm d,.sl 4<|O.ab e]]<|B<|!x.fW (a+if f=6 then 1 else 0):=by
  have ay:cb.wrap (a+(if(f==6)=W then 1 else 0))=a+if f=6 then 1 else 0:=by
   grind [dE]
  have o:=O.bP x;have p:Y 4 x.ds=x.ds:=dj Zo;refine(cR) ?_;refine(IP<|JJ o p) ?_;refine bR _ (GX _) Zs ?_;refine(ad ay) ?_;refine bR _ (an x hx _ yp yp) ru ?_;refine(ZN) ?_;exact Fz.aK C
 have yV:=EG e (λx=>!x.fW (a+if f=6 then 1 else 0)) 147 [] [.cp [I a],.cp [I f,I v,bm d,.sl 4<|O.ab e]] ao Zs sI λx hx=>S x hx;have m:∀{b:Bool},b=(if f=4 then ah (A (O.fZ 0 (Y 1 e) 0 0 a)<=1)&&km (O.fZ 0 (Y 1 e) 0 0 a) a else if f=7 then km (O.fZ 0 (e.drop 1) 0 0 a) a||km (O.fZ 0 (e.drop 1) 0 0 a) (a+1)else W)->(O.mk f v d e).fW a=(b&&!(e.any λx=>!x.fW (a+if f=6 then 1 else 0))):=λaD=>cq;by_cases s:f=4
 .obtain⟨c,rfl⟩:∃c,e=[c]:=by
   match e,au (aG s)with
   |[c],_=>exact⟨c,C⟩
  have m:=m (b:=!(ah (1<A (c.gO 0 a))||(ah (A (c.gO 0 a)=1)&&ah ((c.gO 0 a).getD 0 0≠a)))) (by rw[aM s,jz,ww,BX,ac9]);have o:=O.bP c;have p:Y 4 c.ds=c.ds:=dj Zo;have l:=fm<|c.gO 0 a;have am:A (c.gO 0 a)<=100000000:=by have:=O.BY c 0 a;have:=O.uG c 0;have:=O.nr (show c∈[c]by simp);omega
  simp only[O.ab,O.sl]at yV;have f4:(f==4)=W:=Yr s;simp only[f4,O.ab,o,p,go_sem];refine(IP<|JJ o p) ?_;refine bR _ ((IS c 0 a []<|F c Zs).sp da (iI _) (nq _) ⟨_,func145,C,C⟩) ru ?_;refine(ad l) ?_;generalize c.gO 0 a=g at*;refine sX [] [] fb Zk ?_;obtain j|⟨i,j⟩|⟨i,b,r,j⟩:g=[]\/(∃i,g=[i])\/∃i b r,g=i::b::r:=by obtain _|⟨i,_|⟨b,r⟩⟩:=g<;>simp
  .have f1:ah ((g.length:Int)>1)=af:=by rw[j];rfl
   have f2:((g.length:Int)==1)=af:=Yf j;simp only[l,f1,f2,go_sem];refine bR _ yV ru ?_;simp only[go_sem];exact Fz.aK (by rw[m,j];simp)
  .have f1:ah ((g.length:Int)>1)=af:=by rw[j];rfl
   have f2:((g.length:Int)==1)=W:=Yf j;have ak:(Z g)[0]?=E [I i]:=Yf j;have D:([I i]:DL)[0]?=E (I i):=C;simp only[l,f1,f2,ak,go_sem];by_cases K:i=a
   .have f3:(i !=a)=af:=by simp[K]
    simp only[f3,go_sem];refine bR _ yV ru ?_;simp only[go_sem];exact Fz.aK cq
   have f3:(i !=a)=W:=by simp[K]
   refine(ad f3) ?_;exact Fz.aK cq
  have f1:ah ((g.length:Int)>1)=W:=by rw[j];simp;omega
  refine(ad<|JJ l f1) ?_;exact Fz.aK (by rw[m,j];simp)
 have f4:(f==4)=af:=Yr s;by_cases u:f=7
 .obtain⟨q,c,rfl⟩:∃q c,e=[q,c]:=by
   match e,av u with
   |[q,c],_=>exact⟨q,c,C⟩
  have m:=m (b:=!(ah (1<A (Lib.compact<|c.gO 0 a))||(ah (0<A (c.gO 0 a))&&(ah ((c.gO 0 a).getD 0 0≠a)&&ah ((c.gO 0 a).getD 0 0≠a+1))))) (by rw[aC s,aM u,MF,ra,BX,adh]);have o:=O.bP c;have p:Y 4 c.ds=c.ds:=dj Zo;have l:=fm<|c.gO 0 a;have am:A (c.gO 0 a)<=100000000:=by have:=O.BY c 0 a;have:=O.uG c 0;have:=O.nr (show c∈[q,c]by simp);omega
  simp only[O.ab,O.sl]at yV;have f7:(f==7)=W:=Yr u;simp only[f4,f7,O.ab,o,p,go_sem];refine sX [] [] fb Zk ?_;have D:([q.ds,c.ds]:cB)[1]?=E c.ds:=C;simp only[D,o,p,go_sem];refine va [] [.ag c.ds,I 0,I a] [] _ 2 1 _ _ (IS c 0 a []<|F c Zs) C .nil ru λaA aS x hx aN=>?_;refine(ZN) ?_;have U:=Ze<|c.gO 0 a;generalize c.gO 0 a=g at*;refine sX [] [53,60] fb Zk ?_;refine(ZN) ?_;refine Jg [41] [] _ 2 1 _ _ _ U C hx Zs λaB ar aO=>?_;have aQ:=RG g;obtain j|⟨i,r,j⟩:g=[]\/∃i r,g=i::r:=by cases g<;>simp
  .have f0:(A (Lib.compact g):Int)=0:=by rw[j];rfl
   have f1:(g.length:Int)=0:=Yf j;have f2:ah ((0:Int)>1)=af:=C;have f3:ah ((0:Int)>0)=af:=C;obtain⟨-,rfl⟩|⟨aU,X,-,rfl,-⟩:=hx<;>simp only[yW,l,f0,f1,f2,f3,go_sem]
   all_goals
    refine bR _ yV (by simp;exact⟨O.cl _,O.cl _⟩) ?_;simp only[go_sem];exact Fz.aK cq
  obtain⟨X,rfl,-⟩:=eG hx<|Yx j;have⟨aT,G⟩:=Zh i r;have⟨aH,al,t⟩:=eG ar (by rw[j,G];simp);injection al with _ V _
  subst V;rw[j,G]at t;simp only[bg,b4,dT]at t;have f1:ah ((g.length:Int)>0)=W:=Yx j;have R:cb.wrap (a+1)=a+1:=dE _ Zo;have f5:((0:Int)<(g.length:Int))=True:=Yx j;have aF:g.getD 0 0=i:=Yf j;by_cases ax:1<A (Lib.compact g)
  .have f2:ah ((A (Lib.compact g):Int)>1)=W:=by simp;omega
   simp only[yW,l,f2,go_sem];exact Fz.aK (by rw[m];simp[ax])
  have f2:ah ((A (Lib.compact g):Int)>1)=af:=co;by_cases M:i=a
  .have f3:(i !=a)=af:=by simp[M]
   simp only[yW,l,t,f2,f3,f5,go_sem];exact P'
  have f3:(i !=a)=W:=Yr M;by_cases P:i=a+1
  .have f4:(i !=a+1)=af:=by simp[P]
   simp only[yW,l,t,f2,f3,f5,f4,R,go_sem];exact P'
  have f4:(i !=a+1)=W:=Yr P;simp only[yW,l,t,f2,f3,f5,f4,R,go_sem];exact Fz.aK cq
 have f7:(f==7)=af:=Yr u;refine(bQ<|JJ f4 f7) ?_;exact Fz.aK cq
def V6(c:O)(e:Int)(f:c.bh=W)(a:c.ok)(g:c.b7<=100000000)(k:0<=e)(l:e<=9):az 90 [.ag c.ds,I e]<|B<|c.fW e:=by
 match c,f,a,g with
 |.mk m v d o,f,a,g=>
 refine af2 m v d o e f a g k l λi h p j b=>?_;have:=O.nr h;rw[O.b7]at g;simp only[O.ok]at a;exact V6 i p (rM f i h) (O.eJ a.2.2 i h) Zo j b
theorem KB(a:IL)(d:Int)(m:A a<=aE):az 108 [.sl 1<|Z a,I d]<|B<|km a d:=by
 unfold aE at m;have o:=fm a;refine(dH)<|fG 5 (A a) (λb=>Fw.Inv 18 [(0,.sl 1<|Z a),(1,I d)]<|(Y b a).all (λx=>ah<|x=d)=W) C ⟨C,uU,Zs⟩ ?_;rintro b q p s _ _ r g;refine dN o (λe=>?_) λj=>?_
 .have i:=yE a b e;refine(ad i) ?_;by_cases f:a[b]=d
  .have f1:(a[b] !=d)=af:=by simp[f]
   refine(ad f1) ?_;refine jW wC e ⟨C,bU,?_⟩;rw[lK e,g];simp[f]
  have f1:(a[b] !=d)=W:=by simp[f]
  exact(ad f1)<|Fz.aK (u4 e<|Yr f).symm
 have l:b=A a:=Zo;rw[l,cc]at g;exact(ad j)<|Fz.aK g.symm
def af1(e v:Int)(d:IL)(b:cm)(a:Int)(K:(O.mk e v d b).bh=W)(aq:(O.mk e v d b).ok)(ar:(O.mk e v d b).b7<=100000000)(h0:0<=a)(aF:a<=9)
 (P:∀x∈b,∀f:Int,0<=f->f<=9->az 67 [.cp x.ds,I f] (B<|x.fW f)):az 67 [.cp<|O.ds<|.mk e v d b,I a]<|B<|(O.mk e v d b).fW a:=by
 have SZ:=rM K;have zg:=aq;simp only[O.ok]at zg;have ao:A b<=aE:=zg.2.1;unfold aE at ao;rw[O.bh,cy]at K;obtain⟨-,au,av⟩:=xz K.1;rw[O.b7]at ar;have am:=O.b6 b;have ap x (hx:x∈b):Lb x 0 a []:=P0;have aH:O.ds (.mk e v d b)=[I e,I v,bm d,.sl 4<|O.ab b]:=qs;have S x (hx:x∈b):az 107 [.cp x.ds,I 0,I a,bp]<|.sl 1<|Z<|x.gO 0 a:=(TP x 0 a []<|ap x hx).sp da (iI _) (nq _) ⟨_,func107,C,C⟩;have M x (hx:x∈b):A (x.gO 0 a)<=100000000:=by have:=O.BY x 0 a;have:=O.uG x 0;have:=O.nr hx;omega
 have F:(O.mk e v d b).fW a=(ah (a<=8)&&(if e=4 then ah (A (O.fZ 0 (Y 1 b) 0 0 a)<=1)&&km (O.fZ 0 (Y 1 b) 0 0 a) a else if e=7 then km (O.fZ 0 (b.drop 1) 0 0 a) a||km (O.fZ 0 (b.drop 1) 0 0 a) (a+1)else W)&&b.all λc=>c.fW (a+if e=6 then 1 else 0)):=by rw[O.fW,GJ]
 refine(dH) ?_;refine fx (λg=>?_) (λg=>?_)<;>simp only[g,go_sem]
 .refine Fz.aK ?_;have g:¬a<=8:=Ys g;rw[F];simp[g]
 have ak:a<=8:=Ys g;have X:cb.wrap (a+1)=a+1:=dE _ Zo;generalize i:(if e=4 then ah (A (O.fZ 0 (Y 1 b) 0 0 a)<=1)&&km (O.fZ 0 (Y 1 b) 0 0 a) a else if e=7 then km (O.fZ 0 (b.drop 1) 0 0 a) a||km (O.fZ 0 (b.drop 1) 0 0 a) (a+1)else W)=o at F;have no:o=af->af=(O.mk e v d b).fW a:=λj=>by rw[F,j];simp
 have ax:o=W->(O.mk e v d b).fW a=b.all λc=>c.fW (a+if e=6 then 1 else 0):=λj=>by rw[F,j];simp[ak]
 by_cases t:e=4;have f4:(e==4)=W:=Yr t;obtain⟨c,m⟩:∃c,b=[c]:=by
  match b,au (aG t)with
  |[c],_=>exact⟨c,C⟩
 rw[aM t,m,jz,ww,BX]at i;have hx:c∈b:=Yx m;have R:=fm<|c.gO 0 a;have w:(O.ab b)[0]?=E c.ds:=by rw[m,O.ab];rfl
 have al:=M c hx;have:=S c hx;refine(bQ<|JJ f4<|JJ w R) ?_;by_cases U:A (c.gO 0 a)<=1;have f1:ah ((A (c.gO 0 a):Int)>1)=af:=co;refine(ad f1) ?_;refine bR _ (KB _ a jC) Zs ?_;cases s:km (c.gO 0 a) a
 .refine(ZN) ?_;exact Fz.aK<|no (by rw[<-i,s];simp)
 refine(ZN) ?_;have l:o=W:=by rw[<-i,s];simp[U]
 rotate_left 1
 .have f1:ah ((A (c.gO 0 a):Int)>1)=W:=by simp;omega
  refine(ad f1) ?_;exact Fz.aK<|no (by rw[<-i];simp[U])
 rw[aC t]at i;have f4:(e==4)=af:=Yr t;by_cases u:e=7;have f7:(e==7)=W:=Yr u;obtain⟨D,c,m⟩:∃D c,b=[D,c]:=by
  match b,av u with
  |[D,c],_=>exact⟨D,c,C⟩
 rw[aM u,m,MF,ra,BX]at i;have hx:c∈b:=Yx m;have R:=fm<|c.gO 0 a;have w:(O.ab b)[1]?=E c.ds:=by rw[m,O.ab,O.ab];rfl
 have aB:((1:Int)<(A b:Int))=True:=Yx m;have al:=M c hx;have:=S c hx;refine(bQ<|JJ f4<|JJ f7 w) ?_;refine bR _ (KB _ a jC) Zs ?_;cases s:km (c.gO 0 a) a;refine(ad X) ?_;refine bR _ (KB _ (a+1) jC) Zs ?_;cases V:km (c.gO 0 a) (a+1)
 .refine(ZN) ?_;exact Fz.aK<|no (by rw[<-i,s,V];rfl)
 refine(ZN) ?_;have l:o=W:=by rw[<-i,s,V];rfl
 rotate_left 1
 refine(ZN) ?_;have l:o=W:=by rw[<-i,s];rfl
 rotate_left 1
 have f7:(e==7)=af:=Yr u;refine(ad<|JJ f4 f7) ?_;have l:o=W:=by rw[<-i,aC u]
 rotate_left 1
 all_goals
  have l:=ax l;refine lp 7 (A b) [0,1] (λr _ _ _ _=>(Y r b).all (λc=>c.fW (a+if e=6 then 1 else 0))=W) Zs ?_;rintro r aA ay aL _ _ aI y;refine dN am (λp=>?_) λg=>?_
  .have w:=O.bV b r p;have hx:=aD p;obtain⟨f,q⟩:∃f,(a+if e=6 then 1 else 0)=f:=⟨_,C⟩;rw[q]at y l;have G:0<=f/\f<=9:=by subst q;split<;>omega
   refine(ZN) ?_;refine fx (λg=>?_) (λg=>?_)<;>simp only[g,w,X,go_sem]
   .have j:a+1=f:=by rw[<-q,aM<|Yq g]
    simp only[j];refine bR _ (P _ hx f G.1 G.2) ru ?_;cases z:(b[r]).fW f
    .refine(ZN) ?_;exact Fz.aK (by rw[l,u4 p z])
    refine(ZN) ?_;exact dI (by rw[q,lK p,y,z];rfl)
   have j:a=f:=by rw[<-q,aC<|Yq g];omega
   refine bR _ (j▸P _ hx f G.1 G.2) ru ?_;cases z:(b[r]).fW a
   .refine(ZN) ?_;exact Fz.aK (by rw[l,<-j,u4 p z])
   refine(ZN) ?_;exact dI (by rw[q,lK p,y,<-j,z];rfl)
  have an:r=A b:=Zo;rw[an,cc]at y;refine(ad g) ?_;exact Fz.aK (by rw[l,y])
def KD(c:O)(e:Int)(f:c.bh=W)(a:c.ok)(g:c.b7<=100000000)(k:0<=e)(l:e<=9):az 67 [.cp c.ds,I e]<|B<|c.fW e:=by
 match c,f,a,g with
 |.mk m v d o,f,a,g=>
 refine af1 m v d o e f a g k l λi h p j b=>?_;have:=O.nr h;rw[O.b7]at g;simp only[O.ok]at a;exact KD i p (rM f i h) (O.eJ a.2.2 i h) Zo j b
theorem Ti(c:O)(f:c.b7<=100000000)(b:c.ok):az 47 [.ag c.ds]<|B<|c.valid&&!c.ji 0&&c.fW 0:=by
 have a:=O.bP c;have d:Y 4 c.ds=c.ds:=dj Zo;refine(cR) ?_;have:=isClosed c Zo b;refine(bQ<|JJ a d) ?_;cases g:c.valid&&!c.ji 0
 .exact(ZN)<|Fz.aK C
 refine(ad<|JJ a d) ?_;have e:c.bh=W:=by(grind [O.valid])
 have:=V6 c 0 e b f Zo Zo;exact(ZC)<|Fz.aK C
def gB(g:bi)(m:Nat):cB:=(cz m).map λj=>[.rf (1100+j) (g j) 0]
def Dv(g:bi)(m:Nat):D:=.sl 1<|gB g m
def mZ(b:bi)(a:Nat):A (gB b a)=a:=by simp[gB]
def WV(a:bi)(b:a0<am):(gB a am)[a0]?=E [.rf (1100+a0) (a a0) 0]:=by simp[gB,b]
theorem G9(b:bi)(d a:Nat):gB (λe=>if e=a then d else b e) (a+1)=gB b a++[[.rf (1100+a) d 0]]:=by
 grind [gB,List.range_succ,List.map_congr_left]
def Ac(a:bi)(d:Nat):∀r∈gB a d,A r=1:=λr b=>by obtain⟨f,e,rfl⟩:=aP.1 b;rfl
def WW(e:bi)(f b:Nat):(ao (gB e b)++[D.rf (1100+b) f 0]).all cO=W:=by
 rw[en];intro d a;obtain a|a:=ca.1 a
 .obtain⟨r,g,a⟩:=eL.1 a;obtain⟨i,h,rfl⟩:=aP.1 g;simp at a;subst a;rfl
 simp at a;subst a;rfl
def Ml(b:bi)(g:am<=800):∀r∈gB b am,∀d∈r,In BL d:=λr f d a=>by
 obtain⟨h,e,rfl⟩:=aP.1 f;have:=oo.1 e;simp at a;subst a;exact .rf _ _<|i6.2 Zo
def yf(H H0:a'):Prop:=∀t,t<1000\/1000000000<=t->H t=H0 t
def HF(f:bI)(args:Nat->(bi)->Nat->DL)(t:O)(l:Int):Prop:=∀(a:Nat)(g:bi)(n:List Ag)(ay:List<|List Pt)(U:List Pt)(m:Nat)(s:St)(dst:ON)(K:aU),ay.length=m->Hy t n ay U->BI a s.H n->VI s.H g ay->ay.length+t.b7<=800->A n+1000*t.b7<=100000000->
 (∀H b,BI a H (t.cmp l n ay).2.1->VI H g (t.cmp l n ay).2.2->yf H s.H->K ({s with H:=H,n:=b}.put dst<|.ag<|gQ (t.cmp l n ay).1))->er aB s f (args a g m) dst K
def AF(t:O)(l:Int):Prop:=HF 151 (λa g m=>[.rf 1000 a 0,.ag t.ds,I l,Dv g m]) t l
def vO(a:Pt):Cl<|.ag<|gQ a:=Cl.bC (by simp[gQ])
def VI.cg(b:VI fd g8 up)(f:∀a,1100<=a->a<2000->hO a=fd a):VI hO g8 up:=⟨b.1,λe d=>by have:=b.1;rw[f _ Zo Zo];exact b.2 e d⟩
def VI.YF(b:VI fd g8 up)(e:∀a,a<up.length->hO (1100+a)=fd (1100+a)):VI hO g8 up:=⟨b.1,λa d=>by rw[e _ d];exact b.2 a d⟩
theorem VI.snoc{H':a'}{d:List Pt}(e:VI fd g8 up)(f:∀a,a<up.length->H' (1100+a)=fd (1100+a))(i:H' (1100+up.length)=E ⟨am,365,1,[.sl 5<|d.map gQ],Q⟩)(g:up.length+1<=800):VI H' (λa=>if a=up.length then am else g8 a)<|up++[d]:=by
 refine⟨Yq g,λa h=>?_⟩;by_cases b:a<up.length
 .rw[f a b,e.2 a b];simp[tt b,show a≠up.length by omega]
 exact Zg
def VI.pop(b:VI fd (λa=>if a=a0 then am else g8 a) up)(f:up.length=a0+1):VI fd g8 up.dropLast:=by
 refine⟨by simp;have:=b.1;omega,λa d=>?_⟩;have e:a<a0:=Ys d;rw[b.2 a Zo];simp[show a≠a0 by omega]
def lG.fin{g:St}{d:D}{H H2:a'}{n:bi}{j:bi}(i:BI am H2 g0)(l:VI H2 j up)(e:∀a∈BL,H a=H2 a)(p:In BL d)(o:i3=g.T)
 (m:∀H r,BI am H g0->VI H j up->yf H g.H->c2 ({g with H:=H,n:=r}.put g7 d)):lG g g7 c2 d H n i3:=
 ⟨o,p,λa f s q=>i.bB a f s<|(e a f).symm.trans q,λk h b=>m k n (i.aA λa f=>(h a f).trans<|e a f) (l.aA λa f _=>(h a f).trans<|e a f) λa f=>b a DC⟩
def Tq{k v g:Int}{d:IL}{ks:cm}{j:Nat}(F:j<A ks)(t:AF ks[j] g):
 HF 211 (λf e l=>[I j,.cp [.rf 1000 f 0],.cp [I k,I v,bm d,.sl 4<|O.ab ks],.cp [I g],.cp [Dv e l]]) ks[j] g:=by
 rintro f e P m U l ah X V rfl M B K w y z;have s:=O.bV ks j F;have D:=O.bP ks[j];have G:Y 4 ks[j].ds=ks[j].ds:=dj Zo;have Z:=O.b6 ks;refine nj [] [.cell 6 252] C C Zk Zt C Zs λR i=>?_;simp only[Dv,go_sem];refine(uZ<|JJ s<|JJ D G) ?_;refine aj<|aj (t f e P m U _ _ _ _ C M ((B.aA i).aA λb a=>Yu<|dO a (u:=6)) ((K.aA λb a _=>i b a).aA λb a _=>Yu<|dO a (u:=6)) w y λS ad o p q=>?_);have r:=q 6 Zd;simp only[gQ,r,go_sem];exact lG.fin o p (λb a=>Yu<|dO a (u:=6)) (vO _).bB C z
def Rr(a:bi)(b:Nat)(m:b<=800)(k:sB bv.H)(j:∀p,c2<|{bv with n:=p}.put g7<|.cs 1<|gB a b):er aB bv 216 [Dv a b] g7 c2:=by
 have l:=mZ a b;refine nj [] [.tmp 2] C C Zk Zt C Zs λs g=>?_;simp only[Dv,l,go_sem];refine lG.same g (λf e q o=>k f e q<|(g f e).symm.trans o) C (.cs _ (.sl _ λt r u d h i=>Ml a m r (fE h) d<|fE i)) (λf e=>C) (j _)
theorem agX(k v l:Int)(d:IL)(ks:cm)(a6:(O.mk k v d ks).ok)(cz:0<=l)(a5:∀bh∈ks,AF bh l)(bW:∀bh∈ks,k=6->AF bh (l+1))(bA:l+1<=1000):AF (.mk k v d ks) l:=by
 rintro F a n ay U m cf cu cj rfl ar a3 bG aM aN hK;obtain⟨bM,ci,bZ⟩:=Kk ar;have cy:O.ds (.mk k v d ks)=[I k,I v,bm d,.sl 4<|O.ab ks]:=qs;have bx:=O.b6 ks;have bf:=bG.1;refine nj [1000099,1000128] [.cell 8 252] C C Zk Zt C Zs λbO bs=>?_;have S:=a3.aA bs;have Z:=bG.aA λt ht _=>bs t ht;simp only[Dv,go_sem];refine aj<|aj (ad7 (S.aA λt ht=>Yu<|dO ht (u:=8)) λcE=>?_);simp only[z3,go_sem];by_cases aF:k=1
 .obtain⟨rfl,bH,cD,p,b',aV,hr⟩:=Kg (l:=l) ar aF;have f1:(k==1)=W:=Yr aF;have bA:=mZ a ay.length;generalize bY:ay.length-1-v.toNat=bg;rw[bY]at aV hr;have ba:bg<ay.length:=Zo;have aV:ay[bg]=p::b':=by rw[bL ba]at aV;exact Aw aV
  have aY:cb.wrap (cb.wrap ((ay.length:Int)-1)-v)=(bg:Int):=by
   have a8:cb.wrap ((ay.length:Int)-1)=(ay.length:Int)-1:=dE _ Zo;rw[a8,dE _ Zo];omega
  simp only[f1,bA,aY,WV a ba,q_,go_sem];refine aj<|aj (ad6 (S.aA λt ht=>qw) (Z.aA λt ht _=>qw) ba aV λw az b1 b2 aC=>?_);have b8:=aC 8 Zo;exact P2
 have cn:(k==1)=af:=Yr aF;by_cases aI:k=6
 .obtain⟨e,rfl⟩:=bM<|aG aI;subst aI;have aY:cb.wrap (l+1)=l+1:=dE _ Zo;have al:=O.bP e;have ap:Y 4 e.ds=e.ds:=dj Zo;simp only[O.ab,go_sem];refine(uZ<|JJ al<|JJ ap aY) ?_;have hr:(O.mk 6 v d [e]).cmp l n ay=e.cmp (l+1) n ay:=O.EC C;rw[O.b7,O.dd,O.dd]at aM aN;refine aj<|aj (bW e Zs C F a n ay U _ _ _ _ C (Ki ar C).1 (S.aA λt ht=>qw) (Z.aA λt ht _=>qw) Zo Zo λw az b1 b2 aC=>?_);have b8:=aC 8 Zd;exact P2
 have cr:(k==6)=af:=Yr aI;by_cases aH:k=4
 .obtain⟨e,rfl⟩:=bM<|aj aH;subst aH;have al:=O.bP e;have ap:Y 4 e.ds=e.ds:=dj Zo;have a':e.ok:=O.eJ (by simp only[O.ok]at a6;exact a6.2.2) e Zs;generalize ak:iX (dV n 2 l 0 [] 3) (A n,1) l (e.c_ 0)=i;obtain⟨bn,cC,cw,f1,f2,f3⟩:=Kh ar C ak;have q:=pZ e l _ _ _ bn;have hr:(O.mk 4 v d [e]).cmp l n ay=(((A n:Int),0),gF (e.cmp l i.2<|ay++[i.1]).2.1 (A n,2) (e.cmp l i.2<|ay++[i.1]).1,(e.cmp l i.2<|ay++[i.1]).2.2.dropLast):=O.EB C ak C;rw[hr]at hK;rw[O.b7,O.dd,O.dd]at aM aN;have bX:=O.ua e;have bH:=O.uG e 0;simp only[O.ab,go_sem];refine aj<|aj (wK (S.aA λt ht=>qw) Zo Zo λw az b1 b2=>?_);replace b1:BI F w<|dV n 2 l 0 [] 3:=b1;have b8:=b2 8 Zd Zd Zd;have B:=b2 9 Zd Zd Zd;simp only[a_,bN,dG,bj,dv]at b8 B;refine(ZN) ?_;refine pe [0,1,2,3,6,7,8,9,10,4,5,11,12,13] [9] [] fb Zk ?_;simp only[B,al,ap,go_sem];refine bR _ XC (by simp[z3]) ?_;simp only[z3,go_sem];have a8:=JC e 0 Zo Zo Zo a';refine(ZC) ?_;refine aj<|aj (Se (p:=(A n,1)) b1 (uw (j:=1) Zd) DD (by omega:ay.length<800) λK a7 P d1 d2 d3=>?_);replace d3:∀t,t≠1100+ay.length->t≠1000->t≠1001->t<2000\/1000000000<=t->K t=w t:=d3;rw[ak]at d1 d2;have d8:=(d3 8 Zo Zd Zd Zd).trans b8;have d9:=(d3 9 Zo Zd Zd Zd).trans B;refine(ZN) ?_;refine⟨d3 9 Zo Zd Zd Zd,lq [0,1,2,3,4,5,6,7,8,9,11,12,10,13,14,15] [] [98] ?_⟩;refine(ad<|JJ al ap) ?_;refine aj<|aj (Rr a ay.length bf d1.bB λaO=>(ad @mZ) ?_);refine⟨⟨WW a P ay.length,Zo,l3⟩,?_⟩;obtain⟨y,am⟩:∃y:Nat->Nat,(λj=>if j=ay.length then P else a j)=y:=⟨_,C⟩;have bd:gB y (ay.length+1)=gB a ay.length++[[.rf (1100+ay.length) P 0]]:=am▸G9 a P ay.length;rw[show ay.length+1=A (gB y<|ay.length+1)from(mZ _ _).symm];refine aj<|aj<|Ra (t:=99) (pre:=[.rf 1000 F 0,.ag e.ds,I l]) (post:=[]) (ob:=⟨aO 99,314,1,ao (gB a ay.length)++[.rf (1100+ay.length) P 0],Q⟩) (aq:=gB y<|ay.length+1) bF C Nat.one_pos (Yx bd) (Ac y _) ?_;have be:VI K a ay:=⟨bf,λj X=>(d3 _ Zo Zo Zo Zo).trans<|(b2 _ Zo Zo Zo).trans<|(by simp[ai,show 1100+j≠8 by omega,show 1100+j≠9 by omega]:_=bO (1100+j)).trans<|Z.2 j X⟩;refine a5 e Zs F y i.2 (ay++[i.1]) _ _ _ _ _ Zs bn (d1.aA λt ht=>by simp[aT,ai,dO ht (u:=99)]) (am▸be.snoc (λj X=>by simp[aT,ai,show 1100+j≠99 by omega]) (by simp[aT,ai,d2,show 1100+ay.length≠99 by omega]) Zo) ch Zo λaS bI D M ah=>?_;have aU:aS 8=_:=(ah 8 Zd).trans<|(by simp[aT,ai]:_=K 8).trans d8;have a9:aS 9=_:=(ah 9 Zd).trans<|(by simp[aT,ai]:_=K 9).trans d9;refine(ZN) ?_;refine aj<|aj (wa (p:=(A n,2)) (q:=(e.cmp l i.2<|ay++[i.1]).1) D (q.lk.ok _ Zs) (q.lk.ok _ Zs) λbT b9 au z=>?_);have av:=(z 8 Zd Zd Zd).trans aU;have ax:=(z 9 Zd Zd Zd).trans a9;refine(ad<|JJ av ax) ?_;exact lG.fin au (VI.pop (am▸M.cg λt ht b0=>z t Zo Zo<|aG b0) (by rw[q.v,lr];simp)) (λt ht=>Yu<|dO ht (u:=8)) (vO (A n,0)).bB C hK
 have co:(k==4)=af:=Yr aH;by_cases aK:k=7
 .obtain⟨f,b,rfl⟩:=ci aK;subst aK;have al:=O.bP b;have ap:Y 4 b.ds=b.ds:=dj Zo;have a':b.ok:=O.eJ (by simp only[O.ok]at a6;exact a6.2.2) b Zs;have bp:=BF ar C;have o:=pZ f l _ _ _ bp.1;generalize hr:f.cmp l n ay=r;generalize ak:iX r.2.1 r.1 l (b.c_ 0)=i;obtain⟨bo,f1,f2,f3,f4⟩:=Kj ar C hr ak o;have aX:=pZ b l _ _ _ bo;have a0:=O.ED (v:=v) (d:=d) (n:=n) (ay:=ay) (l:=l) C hr ak C;rw[a0]at hK;have bK:=o.v;have bJ:=o.lk;have ce:=o.hi;rw[hr]at bK bJ ce;have an:A r.2.2=ay.length:=by rw[bK,lr]
  rw[O.b7,O.dd,O.dd,O.dd]at aM aN;have bX:=O.ua b;have bH:=O.uG b 0;simp only[O.ab,go_sem];refine pe [0,1,3,4,5,6,7,2,8,9,10] [] [] fb Zk ?_;have bl:([f.ds,b.ds]:cB)[1]?=E b.ds:=C;simp only[bl,al,ap,go_sem];have bz:=Tq (k:=7) (v:=v) (d:=d) (ks:=[f,b]) (j:=0) Zs<|a5 f Zs;simp only[Dv,O.ab,fA]at bz;refine aj<|aj (bz F a n ay U _ _ _ _ C bp.1 (S.aA λt ht=>qw) (Z.aA λt ht _=>qw) Zo Zo λw az b1 b2 aC=>?_);simp only[hr]at b1 b2;have b8:=aC 8 Zd;have B:=aC 9 Zd;simp only[a_,bN,dG,bj,dv]at b8 B;have a8:=JC b 0 Zo Zo Zo a';refine(bQ hr) ?_;refine aj<|aj (Se b1 (bJ.ok _ Zs) Zo (by omega:A r.2.2<800) λK a7 P d1 d2 d3=>?_);rw[ak]at d1 d2;rw[an]at d2;replace d3:∀t,t≠1100+ay.length->t≠1000->t≠1001->t<2000\/1000000000<=t->K t=w t:=λt f=>d3 t ((Yy an) f);have d8:=(d3 8 Zo Zd Zd Zd).trans b8;refine(ad an) ?_;refine lq [0,1,2,3,4,5,6,8,9,7,10,11,12] [] [127] ?_;simp only[bl,al,ap,go_sem];refine aj<|aj (Rr a ay.length bf d1.bB λaO=>(ad @mZ) ?_);refine⟨⟨WW a P ay.length,Zo,l3⟩,?_⟩;obtain⟨y,am⟩:∃y:Nat->Nat,(λj=>if j=ay.length then P else a j)=y:=⟨_,C⟩;have bd:gB y (ay.length+1)=gB a ay.length++[[.rf (1100+ay.length) P 0]]:=am▸G9 a P ay.length;rw[show ay.length+1=A (gB y<|ay.length+1)from(mZ _ _).symm];refine aj<|aj<|Ra (t:=128) (pre:=[.rf 1000 F 0,.ag b.ds,I l]) (post:=[]) (ob:=⟨aO 128,314,1,ao (gB a ay.length)++[.rf (1100+ay.length) P 0],Q⟩) (aq:=gB y<|ay.length+1) bF C Nat.one_pos (Yx bd) (Ac y _) ?_;have be:VI K a r.2.2:=b2.YF λj X=>d3 _ Zo Zo Zo Zo;refine a5 b Zs F y i.2 (r.2.2++[i.1]) _ _ _ _ _ (Yr an) bo (d1.aA λt ht=>by simp[aT,ai,dO ht (u:=128)]) (am▸an▸be.snoc (λj X=>by simp[aT,ai,show 1100+j≠128 by omega]) (by simp[aT,ai,d2,an,show 1100+ay.length≠128 by omega]) Zo) ch Zo λaS bI D M ah=>?_;have aU:aS 8=_:=(ah 8 Zd).trans<|(by simp[aT,ai]:_=K 8).trans d8;simp only[gQ,aU,go_sem];exact lG.fin D (VI.pop (am▸M) (by rw[aX.v,lr];simp[an])) (λt ht=>Yu<|dO ht (u:=8)) (vO (b.cmp l i.2<|r.2.2++[i.1]).1).bB C hK
 have ct:(k==7)=af:=Yr aK;have a0:=O.EE (k:=k) (v:=v) (l:=l) (d:=d) (ks:=ks) (n:=n) (ay:=ay) aF aI aH aK;rw[O.b7]at aM aN;have a2:∀(g R s:Int)(aL i:Nat),kq k v l=(g,R,s,(aL:Int),(i:Int))->(aL=0/\i=A ks)\/(aL=1/\i=0)->sA ks (A n:Int) aL (dV n g R s d<|A ks+1) ay (((A n:Int),(i:Int))::U)/\(O.mk k v d ks).cmp l n ay=(((A n:Int),(i:Int)),O.mG ks l (A n) aL (dV n g R s d<|A ks+1) ay):=λg R s aL i bU q=>⟨(Kl ar aF aI aH aK g R s d q).1,by rw[a0,bU]⟩;clear a0;have a4:∀j(X:j<A ks),HF 211 (λF a m=>[I j,.cp [.rf 1000 F 0],.cp [I k,I v,bm d,.sl 4<|O.ab ks],.cp [I l],.cp [Dv a m]]) ks[j] l:=λj X=>Tq X<|a5 _<|aD X;obtain⟨b_,aP,aQ⟩|⟨ca,aP,aQ⟩|⟨cc,aP,aQ⟩|⟨cd,aP,aQ⟩:=K3 bZ aF aI aH aK
 .obtain rfl:ks=[]:=pI.1 aP;obtain rfl:d=[]:=pI.1 aQ;obtain⟨g,R,s,D,M⟩:∃g R s,kq k v l=(g,R,s,((0:Nat):Int),((0:Nat):Int))/\((k=2/\g=6/\R=0/\s=v)\/(k=11/\g=12/\R=l/\s=v)):=by
   obtain rfl|rfl:=b_
   .exact⟨6,0,v,qt,aG ⟨C,C,C,C⟩⟩
   grind [kq]
  have G:=a2 g R s 0 0 D<|aG ⟨C,C⟩;rw[G.2]at hK;clear D;obtain⟨rfl,rfl,rfl,rfl⟩|⟨rfl,rfl,rfl,rfl⟩:=M;refine(ZN) ?_;refine lq [0,1,2,5,3,4,6,7] [9] [] ?_
  rotate_left 1
  refine(ZN) ?_;refine lq [0,1,2,3,6,4,5,7,8] [9] [] ?_
  all_goals
   refine(ZN) ?_;refine aj<|aj (wK (S.aA λt ht=>qw) Zo Zo λw az b1 b2=>?_);have b8:=b2 8 Zd Zd Zd;simp only[a_,bN,dG,bj,dv]at b8;refine(ZN) ?_;refine⟨b2 9 Zd Zd Zd,(ad b8) ?_⟩;exact lG.fin b1 (Z.cg λt f b=>(b2 t Zo Zo<|aG b).trans D') (λt ht=>Yu<|dO ht (u:=8)) (vO (A n,0)).bB C hK
 .obtain⟨f,b,rfl⟩:∃f b,ks=[f,b]:=by match ks,aP with|[f,b],_=>exact⟨f,b,C⟩
  obtain rfl:d=[]:=pI.1 aQ;have V:=a4 0 Zs;have a3:=a4 1 Zs;simp only[O.dd]at aM aN;simp only[Dv,O.ab,fA,jm]at V a3;obtain⟨g,s,D,M⟩:∃g s,kq k v l=(g,l,s,((0:Nat):Int),((2:Nat):Int))/\((k=3/\g=7/\s=v)\/(k=5/\g=3/\s=0)):=by
   obtain rfl|rfl:=ca
   .grind [kq]
   exact⟨3,0,qt,aj ⟨C,C,C⟩⟩
  have G:=a2 g l s 0 2 D<|aG ⟨C,C⟩;have o:=pZ f l _ _ _ G.1.hd;have bt:=G.1.tl o;have aX:=pZ b l _ _ _ bt.hd;rw[G.2]at hK;have b3:=o.hi;have b4:=aX.hi;rw[na]at b3;rw[pu]at b4;clear D;obtain⟨rfl,rfl,rfl⟩|⟨rfl,rfl,rfl⟩:=M;simp only[O.ab,go_sem];refine sX [] [] fb Zk ?_
  rotate_left 1
  all_goals
   simp only[O.ab,go_sem];refine aj<|aj (wK (S.aA λt ht=>qw) Zo Zo λw az b1 b2=>?_);have b8:=b2 8 Zd Zd Zd;have B:=b2 9 Zd Zd Zd;simp only[a_,bN,dG,bj,dv]at b8 B;refine(ZK) ?_;have aW:VI w a ay:=Z.cg λt f b=>(b2 t Zo Zo<|aG b).trans D';refine aj<|aj (V F a _ ay _ _ _ _ _ C G.1.hd b1 aW Zo DD λK a7 d1 d2 d3=>?_);have d8:=(d3 8 Zd).trans b8;have d9:=(d3 9 Zd).trans B;refine(ZN) ?_;refine aj<|aj (wa (p:=(A n,0)) d1 (o.lk.ok _ Zs) (o.lk.ok _ Zs) λbi aO au z=>?_);have av:=(z 8 Zd Zd Zd).trans d8;have ax:=(z 9 Zd Zd Zd).trans d9;refine(ZK) ?_;refine aj<|aj (a3 F a _ _ _ _ _ _ _ (by rw[o.v,lr]) bt.hd au (d2.cg λt f b=>z t Zo Zo<|aG b) (by rw[o.v,lr];omega) (by rw[pu];omega) λaS bI D M ah=>?_);have aU:=(ah 8 Zd).trans av;have a9:=(ah 9 Zd).trans ax;refine(ZN) ?_;refine aj<|aj (wa (p:=(A n,1)) D (aX.lk.ok _ Zs) (aX.lk.ok _ Zs) λbT b9 j1 j2=>?_);have j8:=(j2 8 Zd Zd Zd).trans aU;have j9:=(j2 9 Zd Zd Zd).trans a9;simp only[j8,j9,go_sem];exact lG.fin j1 (M.cg λt f b=>j2 t Zo Zo<|aG b) (λt ht=>Yu<|dO ht (u:=8)) (vO (A n,2)).bB C hK
 .obtain rfl:d=[]:=pI.1 aQ;subst cc;have G:=a2 9 l v 1 0 qt<|aj ⟨C,C⟩;rw[G.2]at hK;have aY:cb.wrap ((A ks:Int)+1)=((A ks+1:Nat):Int):=gJ _ Zo;refine(ad<|JJ bx aY) ?_;refine aj<|aj (wK (S.aA λt ht=>qw) Zo Zo λw az b1 b2=>?_);have b8:=b2 8 Zd Zd Zd;have B:=b2 9 Zd Zd Zd;simp only[a_,bN,dG,bj,dv]at b8 B;have aW:VI w a ay:=Z.cg λt f b=>(b2 t Zo Zo<|aG b).trans (by(grind [ai]));refine(ad bx) ?_;refine lp 144 (A ks) [4,8,9,10,14,143] (λq bV aR b5 bk=>bk=cf.T/\aR 8=w 8/\aR 9=w 9/\∃(m:List Ag)(aB:List<|List Pt),O.mG (ks.drop q) l (A n) ((q+1:Nat):Int) m aB=O.mG ks l (A n) ((1:Nat):Int) (dV n 9 l v []<|A ks+1) ay/\sA (ks.drop q) (A n) (q+1) m aB (((A n:Int),((0:Nat):Int))::U)/\BI F aR m/\VI aR a aB/\aB.length=ay.length/\A m+1000*O.dd (ks.drop q)<=100000000) ⟨C,C,C,_,ay,cq,by rw[ra];exact G.1,b1,aW,C,by rw[ra,na];omega⟩ ?_;rintro q bV aR b5 bk ck cA⟨bu,bq,br,m,aB,aZ,a1,bD,bv,bw,bE⟩;refine ZL (λbb=>?_) λcv=>?_
  .rw[ml bb]at aZ a1 bE;rw[O.dd]at bE;have o:=pZ ks[q] l _ _ _ a1.hd;have cx:=O.nr<|aD bb;have V:=a4 q bb;simp only[Dv]at V;refine(IP<|gJ q Zo) ?_;refine aj<|aj (V F a _ aB _ _ _ _ _ bw a1.hd bD bv Zo Zo λK a7 d1 d2 d3=>?_);have d8:=d3 8 Zd;have d9:=d3 9 Zd;refine(ZN) ?_;refine aj<|aj (wa (p:=(A n,((q+1:Nat):Int))) d1 (o.lk.ok _ Zs) (o.lk.ok _ Zs) λbi aO au z=>?_);have av:=(z 8 Zd Zd Zd).trans<|d8.trans bq;have ax:=(z 9 Zd Zd Zd).trans<|d9.trans br;refine(ZN) ?_;refine dI ⟨bu,av,ax,_,_,aZ,a1.tl o,au,d2.cg λt f b=>z t Zo Zo<|aG b,by rw[o.v,lr,bw],?_⟩;rw[pu];have a8:=o.hi;omega
  obtain rfl:q=A ks:=Zo;rw[Hf,O.mG]at aZ;simp only[bq,br,b8,B,go_sem];rw[<-aZ]at hK;exact lG.fin bD bv (λt ht=>Yu<|dO ht (u:=8)) (vO (A n,0)).bB bu hK
 obtain⟨f,rfl⟩:=kw.1 aP;have V:=a4 0 Zs;simp only[O.dd]at aM aN;simp only[Dv,O.ab,fA]at V;obtain⟨g,D,M⟩:∃g,kq k v l=(g,l,0,((0:Nat):Int),((1:Nat):Int))/\((k=9/\g=10)\/(k=10/\g=11)):=by
  obtain rfl|rfl:=cd
  .exact⟨10,qt,aG ⟨C,C⟩⟩
  exact⟨11,qt,aj ⟨C,C⟩⟩
 have G:=a2 g l 0 0 1 D<|aG ⟨C,C⟩;have o:=pZ f l _ _ _ G.1.hd;rw[G.2]at hK;clear D;obtain⟨rfl,rfl⟩|⟨rfl,rfl⟩:=M
 all_goals
  simp only[O.ab,go_sem];refine aj<|aj (Qj (S.aA λt ht=>qw) Zo Zo (m:=2) Zo λw az b1 b2=>?_);have b8:=b2 8 Zd Zd Zd;have B:=b2 9 Zd Zd Zd;simp only[a_,bN,dG,bj,dv]at b8 B;refine(ZK) ?_;have aW:VI w a ay:=Z.cg λt f b=>(b2 t Zo Zo<|aG b).trans D';refine aj<|aj (V F a _ ay _ _ _ _ _ C G.1.hd b1 aW Zo DD λK a7 d1 d2 d3=>?_);have d8:=(d3 8 Zd).trans b8;have d9:=(d3 9 Zd).trans B;refine(ZN) ?_;refine aj<|aj (wa (p:=(A n,0)) d1 (o.lk.ok _ Zs) (o.lk.ok _ Zs) λbi aO au z=>?_);have av:=(z 8 Zd Zd Zd).trans d8;have ax:=(z 9 Zd Zd Zd).trans d9;refine(ad<|JJ av ax) ?_;exact lG.fin au (d2.cg λt f b=>z t Zo Zo<|aG b) (λt ht=>Yu<|dO ht (u:=8)) (vO (A n,1)).bB C hK
def L2(g:O)(a:Int)(f:g.ok)(j:0<=a)(h:a+g.b7<=1000):AF g a:=by
 match g,f,h with
 |.mk k v d l,f,h=>
 have i:=f;simp only[O.ok]at i;rw[O.b7]at h;exact agX k v a d l f j (λe b=>L2 e a (O.eJ i.2.2 e b) j<|Yo<|O.nr b) (λe b _=>L2 e (a+1) (O.eJ i.2.2 e b) Zo<|Yo<|O.nr b) Zo
structure o0 (c:O):Prop where
 g:c.bh=W
 a:c.ji 0=af
 n:c.b7<=400
 o:c.ok
def o0.hy(b:o0 n5):Hy n5 (dV [] 1 0 0 [] 1) [] [(0,0)]:=by
 refine⟨⟨b.g,b.a,λi e=>by simp at e⟩,b.n,?_⟩;have f:Lk [] []:=⟨.nil,Zs,λj⟨_,_,h,d,_⟩=>by simp at d⟩;exact f.add 1 0 0 [] 1
def o0.lk{a:O}(f:o0 a):Lk a.hN []/\1<=A a.hN/\A a.hN<=1+1000*a.b7/\hZ (a.cmp 0 (dV [] 1 0 0 [] 1) []).2.1 (0,0)/\hZ (a.cmp 0 (dV [] 1 0 0 [] 1) []).2.1 (a.cmp 0 (dV [] 1 0 0 [] 1) []).1:=by
 have d:=pZ a 0 _ _ _ f.hy;have b:=d.lk;have e:iu a.c_ []=[]:=C;rw[e,fX,aY]at b;have g:=d.lo;have h:=d.hi;simp only[na,gR]at g h;refine⟨(b.perm<|List.Perm.swap _ _ _).gF,?_,?_,b.ok _ Zs,b.ok _ Zs⟩<;>rw[O.hN]<;>simp only[pu]<;>omega
theorem ain{b:Nat}{a:O}{e:St}(d:o0 a)(l:BI b e.H [])(k:∀H t,BI b H a.hN->yf H e.H->c2 ({e with H:=H,n:=t}.put g7<|.tp [])):er aB e 91 [.rf 1000 b 0,.ag a.ds] g7 c2:=by
 have m:=O.bP a;have q:Y 4 a.ds=a.ds:=dj Zo;have D:=d.n;obtain⟨J,K,L,r,s⟩:=d.lk;refine nj [] [] C C Zk Zt C Zs λw j=>?_;have i:=l.aA j;refine(ZN) ?_;refine aj<|aj (wK i Zs Zo λx M g B=>(ad<|JJ m q) ?_);refine aj<|aj<|Ji (sz:=1) [.rf 1000 b 0,.ag a.ds,I 0] [] (L2 a 0 d.o Zo Zo b (λ_=>0) (dV [] 1 0 0 [] 1) [] _ 0 _ _ _ C d.hy g ⟨Zs,Zs⟩ ch (by(grind [na])) λy P d1 d2 d3=>(ZN) ?_);refine aj<|aj (wa (p:=(0,0)) d1 r s λz R f G=>(ZN) ?_);exact⟨_,Vr,C,(Cl.jf Zs).bB,f.bB,λA d1 d2=>k _ _ (f.aA d1) λu F=>d2 u DC⟩
def qO(a b:Int):az 175 [I a,I b]<|.ag [I a,I b]:=by
 refine(ia [] [.cell 4 177]) ?_;exact .cl _<|Cl.bC Zs
def r6(p:Pt):D:=.ag [I p.1,I p.2]
def zD(a:Pt):Cl<|r6 a:=Cl.bC Zs
structure SI (b:Nat) (H:Nat->Option Ob) (n:List Ag) (g:Nat->Nat) (ay:List (List Pt)):Prop where
 x:∃a,BS 277 2 b [a] H n/\aL [1002] H 342 1 (gB g ay.length) a
 l:ay.length<=800
 v:∀j(h:j<ay.length),∃(os:List Pt)(nx:Nat),H (1100+j)=E ⟨g j,344,2,[.sl 2 (b3 os),I nx],Q⟩/\A os<=1000/\nx<=A os/\(ay[j]≠[]->os.drop nx=ay[j])
theorem SI.aA{H H':a'}(d:SI am H g0 g8 up)(b:∀a∈BL,H' a=H a):SI am H' g0 g8 up:=by
 have⟨⟨h,e,f⟩,g,i⟩:=d;exact⟨⟨h,e.aA b,f.aA (by(grind [List.mem_singleton,i6]))⟩,g,λk j=>by(grind [i6])⟩
theorem SI.hN(d:SI am fd g0 g8 up)(g:∀b,BS 277 2 am [b] fd g0->BS 277 2 am [b] hO i5)(i:∀a,a≠1000->a≠1001->a<2000->hO a=fd a):SI am hO i5 g8 up:=by
 have⟨⟨b,e,f⟩,h,j⟩:=d;exact⟨⟨b,g b e,f.aA cq⟩,h,λl k=>cq⟩
def SI.bB(a:SI am fd g0 g8 up):sB fd:=by obtain⟨⟨e,b,d⟩,-⟩:=a;exact b.bB
def BU{n:List Ag}{p q:Pt}{a:St}(h:SI am a.H n g8 up)(m:hZ n p)(o:hZ n q)
 (k:∀H d,SI am H (gF n p q) g8 up->Fr H a.H->c2 ({a with H:=H,n:=d}.put g7<|.tp [])):er aB a 174 [.rf 1000 am 0,r6 p,r6 q] g7 c2:=by
 have⟨⟨s,h1,i⟩,l,j⟩:=h;exact link _ (aj C) h1 m o λH d b1 e=>k H d (SI.hN ⟨⟨s,h1,i⟩,l,j⟩ (λt h'=>Ov) λr f b g=>e r f b<|aG g) e
def Qm{n:List Ag}{v a:Int}{d:IL}{e:St}(j:SI am e.H n g8 up)(p:A n+1<=100000000)(o:A d<=1000)(t:0<a/\a<=1000)
 (m:∀H f,SI am H (dV n a3 g1 v d a.toNat) g8 up->Fr H e.H->c2 ({e with H:=H,n:=f}.put g7<|I<|A n)):er aB e 172 [.rf 1000 am 0,I a3,I g1,I v,bm d,I a] g7 c2:=by
 obtain⟨a,rfl⟩:∃a3:Nat,a=a3:=⟨a.toNat,Zo⟩;have⟨⟨s,h1,k⟩,q,l⟩:=j;exact Xo h1 p o Zo λH f b1 g=>m H f (SI.hN ⟨⟨s,h1,k⟩,q,l⟩ (λu h'=>Ov) λr h b i=>g r h b<|aG i) g
def AV{n:List Ag}{v a:Int}{b:St}(e:SI am b.H n g8 up)(g:A n+1<=100000000)(h:0<a/\a<=1000)
 (f:∀H i,SI am H (dV n a3 g1 v [] a.toNat) g8 up->Fr H b.H->c2 ({b with H:=H,n:=i}.put g7<|I<|A n)):er aB b 172 [.rf 1000 am 0,I a3,I g1,I v,bp,I a] g7 c2:=
 Ji [.rf 1000 am 0,I a3,I g1,I v] [I a] (Qm (d:=[]) e g Zs h f)
def SI.fin{g:St}{d:D}{H H2:a'}{n:bi}{i:bi}(h:SI am H2 g0 i up)(e:∀a∈BL,H a=H2 a)(o:In BL d)(m:i3=g.T)
 (l:∀H q,SI am H g0 i up->yf H g.H->c2 ({g with H:=H,n:=q}.put g7 d)):lG g g7 c2 d H n i3:=
 ⟨m,o,λa f r p=>h.bB a f r<|(e a f).symm.trans p,λj k b=>l j n (h.aA λa f=>(k a f).trans<|e a f) λa f=>b a DC⟩
def Du(f:bI)(args:Nat->DL)(t:O)(l:Int):Prop:=∀(a:Nat)(g:bi)(n:List Ag)(ay:List<|List Pt)(U:List Pt)(s:St)(dst:ON)(K:aU),Hy t n ay U->SI a s.H n g ay->ay.length+t.b7<=800->A n+1000*t.b7<=100000000->
 (∀H b,SI a H (t.cmp l n ay).2.1 g (t.cmp l n ay).2.2->yf H s.H->K ({s with H:=H,n:=b}.put dst<|r6 (t.cmp l n ay).1))->er aB s f (args a) dst K
def tG(t:O)(l:Int):Prop:=Du 173 (λa=>[.rf 1000 a 0,.cp t.ds,I l]) t l
theorem xA{k v l kk ll vv:Int}{f o:Nat}{d:IL}{ks:cm}(a:k≠1/\k≠6/\k≠4/\k≠7)(ap:kq k v l=(kk,ll,vv,(f:Int),(o:Int)))(aq:(f=0/\o=A ks)\/(f=1/\o=0))(ao:A d<=1000)(aN:A ks<=100)(au:ks≠[]->ll=l)(ar:∀aF∈ks,tG aF l):
 Du 243 (λr=>[.rf 1000 r 0,.cp [I k,I v,bm d,.sl 4<|O.ab ks],I kk,I ll,I vv,I f,I o]) (.mk k v d ks) l:=by
 intro r D e x U aB aL aJ av am aa ae z;have J:=O.b6 ks;rw[O.b7]at aa ae;have ak:=(Kl av a.1 a.2.1 a.2.2.1 a.2.2.2 kk ll vv d aq).1;rw[O.EE a.1 a.2.1 a.2.2.1 a.2.2.2,ap]at z;refine nj [] [.cell 14 177] C C Zk Zt C Zs λaH ah=>?_;have an:=am.aA ah;have aC:cb.wrap ((A ks:Int)+1)=((A ks+1:Nat):Int):=gJ _ Zo;refine(ad<|JJ J aC) ?_;refine aj<|aj (Qm (d:=d) (an.aA λP j=>Yu<|dO j (u:=14)) Zo ao Zo λS aP X Y=>?_);have y:=Y 14 Zd Zd Zd;simp only[bN,dv]at y;refine(ZN) ?_;refine lp 17 (A ks) [0,1,3,5,6,14,16] (λq Z w az B=>B=aB.T/\w 14=S 14/\∃(i:List Ag)(b:List<|List Pt),O.mG (ks.drop q) l (A e) ((q+f:Nat):Int) i b=O.mG ks l (A e) (f:Int) (dV e kk ll vv d<|A ks+1) x/\sA (ks.drop q) (A e) (q+f) i b (((A e:Int),(o:Int))::U)/\SI r w i D b/\b.length=x.length/\A i+1000*O.dd (ks.drop q)<=100000000) ⟨C,C,_,x,by rw[ra,ew];rfl,by rw[ra,ew];exact ak,X,C,by rw[ra,na];omega⟩ ?_;rintro q Z w az B aK aO⟨G,F,i,b,s,t,K,al,L⟩;refine dN J (λg=>?_) λa=>?_
 .obtain rfl:ll=l:=au (by rintro rfl;simp at g);rw[ml g]at s t L;rw[O.dd]at L;have m:=pZ ks[q] ll _ _ _ t.hd;have aM:=O.nr<|aD g;have R:cb.wrap ((f:Int)+(q:Int))=((q+f:Nat):Int):=wI;refine(ad<|O.bV ks q g) ?_;refine aj<|aj (ar ks[q] (aD g) r D _ b _ _ _ _ t.hd K Zo Zo λV aQ d1 d2=>?_);have d14:=(d2 14 Zd).trans F;simp only[r6,R,go_sem];refine pe [0,1,2,3,4,5,6,8,7,9] [18] [] fb Zk ?_;refine(ad R) ?_;refine bR _ (qO _ _) Zs ?_;refine(ZN) ?_;refine aj<|aj (BU (p:=(A e,((q+f:Nat):Int))) (q:=(ks[q].cmp ll i b).1) (d1.aA λP j=>Yu<|dO j (u:=18)) (m.lk.ok _ Zs) (m.lk.ok _ Zs) λaI aR ax M=>?_);have ay:=(M 14 Zd Zd Zd).trans<|(by simp[ai]:_=V 14).trans d14;refine(ZN) ?_;refine⟨M 18 Zd Zd Zd,jW wC g ⟨C,It,G,ay,_,_,?_,?_,ax,by rw[m.v,lr,al],?_⟩⟩
  .rw[<-s,show q+1+f=q+f+1 by omega];rfl
  .rw[show q+1+f=q+f+1 by omega];exact t.tl m
  rw[pu];have:=m.hi;omega
 obtain rfl:q=A ks:=Zo;rw[Hf,O.mG]at s;refine(ad y) ?_;refine bR _ (qO _ _) Zs ?_;refine(ad<|JJ F y) ?_;rw[<-s]at z;exact SI.fin K (λP j=>Yu<|dO j (u:=14)) (zD (A e,o)).bB G z
theorem BS.rest{ty e b:Nat}{Cs:DL}{H':a'}{h:D}(p:BS ty e b a9 fd g0)(i:fd 1000=E ⟨b,ty,e,h::a9,Q⟩)(j:H' 1000=E ⟨b,ty,e,h::Cs,Q⟩)(u:∀d∈Cs,In BL d)
 (q:∀a,a=1001\/2000<=a->H' a=fd a) (B:∀a,1002<=a->a<2000->∀g,H' a=E g->∀d∈g.cells,In BL d):BS ty e b Cs H' g0:=by
 have⟨⟨C,o,m,x,y⟩,t,s⟩:=p;rw[i]at m;cases m;refine⟨⟨h,o,j,x.aA cq,λw r=>(q _<|aj Zo).trans<|y w r⟩,λa l g k=>?_,s⟩;have A:=i6.1 l;by_cases z:a=1000
 .subst z;rw[j]at k;cases k;intro d f;obtain rfl|f:=cF.1 f
  .exact t _ l _ i d Zs
  exact u d f
 exact Zg
theorem ahG{a:Pt}{d b:Pt}(e:v0.1.toNat≠a.1.toNat):la (la g0 v0 d) a b=la (la g0 a b) v0 d:=by
 refine CY λf=>?_
 grind [la]
def adn{a:Pt}(b:v0.1.toNat≠a.1.toNat):gF g0 v0 a=gF g0 a v0:=by rw[gF,gF,ahG b]
def abI(a:∀r∈ip,∀d∈r,In gt d):In gt<|.sl am ip:=.sl _ λf r g d b e=>a r (fE b) d<|fE e
theorem G8(b:bi)(a:Nat):A (ao<|gB b a)=a:=by rw[iY<|Ac b a,mZ,h_]
theorem WT(b:bi)(a:Nat)(d:D):(ao<|gB b a++[[d]])[a]?=E d:=by(grind [G8])
def WX(a:bi)(m b:Nat)(d:D):(ao<|gB a m++[[d]]).set m (.rf (1100+m) b 0)=ao (gB (λe=>if e=m then b else a e)<|m+1):=by
 rw[G9,eR,eR,Dd _ _ (by rw[G8];omega),G8];simp
def WU(a:bi)(m d:Nat):Y m (gB (λb=>if b=m then d else a b)<|m+1).flatten=ao (gB a m):=by
 rw[G9,eR,take_left'<|G8 a m]
theorem SI.push{g7 g nx:Nat}{H':a'}{o os:List Pt}(t:SI am fd g0 g8 up)(j:fd 1000=E ⟨am,277,2,[eq,hw],Q⟩)(p:H' 1000=E ⟨am,277,2,[eq,.ms 1002 g<|up.length+1],Q⟩)
 (q:H' 1002=E ⟨g,342,1,ao<|gB (λe=>if e=up.length then g7 else g8 e)<|up.length+1,Q⟩) (s:H' (1100+up.length)=E ⟨g7,344,2,[.sl 2<|b3 os,I nx],Q⟩) (i:∀a,1001<=a->a≠1002->a≠1100+up.length->H' a=fd a)
 (J:A os<=1000) (G:nx<=A os) (hd:o≠[]->os.drop nx=o) (u:up.length+1<=800):SI am H' g0 (λe=>if e=up.length then g7 else g8 e)<|up++[o]:=by
 have⟨⟨P,h,z⟩,F,B⟩:=t;have⟨O,y,k,L,M⟩:=h.ob;rw[j]at k;cases k;refine⟨⟨_,h.rest j p Iv (λa K=>i a Zo Zo Zo) λa x b w f=>?_,aj ⟨1002,g,Zs,by rw[mZ,b9];rfl,cq⟩⟩,co,λe C=>?_⟩
 .by_cases l:a=1002
  .subst l;rw[q]at f;cases f;intro d hd;have⟨r,hr,hd⟩:=eL.1 hd;exact Ml _ u r hr d hd
  by_cases m:a=1100+up.length
  .subst m;rw[s]at f;cases f;exact Pu
  exact h.bB a (i6.2 Zo) w<|(i a Zo l m).symm.trans f
 exact Zg
theorem SI.Vb{e:Nat}(i:SI am fd g0 (λa=>if a=e then a0 else g8 a) up)(p:up.length=e+1)(b:BS 277 2 am [.ms 1002 a2 e] hO i5)(w:∀a,a<e->hO (1100+a)=fd (1100+a)):
 SI am (ai hO 1002<|some ⟨a2,342,1,ao<|gB g8 e,Q⟩) i5 g8 up.dropLast:=by
 have x:=i.l;have j:A up.dropLast=e:=Yr p;refine⟨⟨_,b.keep (λh k o=>a_ _ _ Zo) λh k u o t f=>?_,aj ⟨1002,a2,Zs,by rw[mZ,j],by(grind [bN])⟩⟩,Zo,λa q=>?_⟩
 .by_cases m:h=1002
  .subst m;rw[bN]at f;cases f;intro d g;have⟨r,s,g⟩:=eL.1 g;exact Ml g8 Zo r s d g
  rw[a_ _ _ m]at f;exact b.bB h k t f
 rw[j]at q;have⟨z,y,B,C,D,F⟩:=i.v a Zo
 grind [a_]
def ada{v g:Int}{d:IL}{a:O}(R:a.ok)(bH:0<=g)(bJ:a.c_ 0<=1)(a3:tG a g):
 Du 244 (λi=>[.rf 1000 i 0,.cp [I 4,I v,bm d,.sl 4 [a.ds]],I g]) (.mk 4 v d [a]) g:=by
 intro i k f ay U bX bt bs a7 a1 aV aW au;rw[O.b7,O.dd,O.dd]at aV aW;generalize r:iX (dV f 2 g 0 [] 3) (A f,1) g (a.c_ 0)=o;have⟨ap,bK,bz,f1,f2,f3⟩:=Kh a7 C r;have q:=pZ a g _ _ _ ap;rw[O.EB C r C]at au;have bA:=O.ua a;have a2:cE aB 275=E (342,1,8):=Zk;refine nj [39,1000044,1000073] [.cell 6 177] C C Zk Zt C Zs λbr aZ=>?_;have ax:=a1.aA aZ;refine(ZN) ?_;refine aj<|aj (AV (ax.aA λt G=>Yu<|dO G (u:=6)) Zo Zo λab ba w aS=>?_);replace w:SI i ab (dV f 2 g 0 [] 3) k ay:=w;have z:=aS 6 Zd Zd Zd;simp only[bN,dv]at z;have:=KC a 0 Zo Zo Zo R;refine(ZC)<|fx (λP=>?_) λP=>?_;have az:a.c_ 0=0:=Yq P;refine(ZN) ?_;refine aj<|aj (AV w DD Zo λaN bP d1 d2=>?_);replace d1:SI i aN (dV (dV f 2 g 0 [] 3) 5 0 0 [] 1) k ay:=d1;have d6:=(d2 6 Zd Zd Zd).trans z;refine(ad @na)<|pe [0,1,2,3,5,4,6,7] [] [] fb Zk<|(ZN)<|bR _ (qO _ _) Zs<|(ZN)<|bR _ (qO _ _) Zs<|(ZN) ?_;have aD:A (dV f 2 g 0 [] 3)=A f+1:=na ..;refine aj<|aj (BU (p:=(A f,1)) (q:=((A f+1:Nat),0)) d1 (zB<|uw (j:=1) Zd) (aD▸uw (j:=0) Zd) λm s ah aT=>?_);have ak:=(aT 6 Zd Zd Zd).trans d6;have aF:o.1=[]\/o.1=[((A f:Int),1)]:=aG (by rw[<-r,az];rfl);have V:SI i m o.2 k ay:=by
  rw[adn Zs]at ah;rw[<-r,az];exact(eo (λbn=>SI i m (gF (dV (dV f 2 g 0 [] 3) 5 0 0 [] 1) (((bn:Nat):Int),0) (A f,1)) k ay) aD).mpr ah
 rotate_left 1
 have aC:a.c_ 0=1:=by have:a.c_ 0≠0:=by simpa using P
                      omega
 obtain⟨m,s,ar,a4⟩:∃m s,m=ab/\s=ba:=⟨_,_,C,C⟩;rw[<-ar]at w z;have ak:=z;have aF:o.1=[]\/o.1=[((A f:Int),1)]:=aj (by rw[<-r,aC];rfl);have V:SI i m o.2 k ay:=by rw[<-r,aC];exact w
 rw[<-ar,<-a4]
 all_goals
  have⟨bo,aY,a5⟩:=V.x;have⟨aL,bv,X,bL,bM⟩:=aY.ob;refine(ZN)<|dP [1000] [37,40]<|(ad X)<|bR _ (qO _ _) Zs<|(ad @jt) ?_;have bI:=ax.l;refine js (S:=[1002]) (aq:=gB k ay.length) (bD:=[[.rf 39 (s 39) 0]]) Zs a2 ((Pa)<|a5.aA bF) (Ac _ _) qu Zs C (by rw[mZ];show(ay.length+1)*8<=_;omega) Ow (by show 41<75;decide) λM bQ b0 a6 F=>?_;have j0:M 1000=E ⟨i,277,2,[aL,bo],Q⟩:=(F 1000 Zd Zd).trans<|Yu X;have a8:M 39=E ⟨s 39,344,2,[.sl 2 [[I<|A f,I 1]],I 0],Q⟩:=(F 39 Zd Zd).trans bF;obtain⟨aU,rfl,aX⟩:=eG a6 Zs;refine(ad @j0)<|GK.Uz 39 (1100+ay.length) 41 ay.length 0 (by simp only[a_,dG,bj,dv];exact a8) (by simp only[a_,dG,bj,dv];exact aX) Zd Zo (by exact WT _ _ _) λaO bU am a' aI y=>?_;rw[WX]at aI;obtain⟨al,bE⟩:∃al:Nat->Nat,(λj=>if j=ay.length then am else k j)=al:=⟨_,C⟩;replace y:∀u,u≠39->u≠1100+ay.length->u≠41->aO u=ai M 1000 (E ⟨i,277,2,[aL,.ms 41 aU<|A<|gB k ay.length++[[D.rf 39 (s 39) 0]]],Q⟩) u:=y;have a9:=(y 1000 Zd Zo Zd).trans<|bN _ _ _;refine GK.qQ 41 1002 1000 1 (ay.length+1) aI a9 Zd Zd (by simp[mZ]) λaP bV bu bd be Y=>GK.cM ?_;have a0:=V.push (H':=aP) (o:=o.1) (os:=[((A f:Int),1)]) (nx:=0) X (Yq be) bd ((Y _ Zo Zo Zo).trans a') (λt aR b a=>(Y t Zo b Zo).trans<|(y t Zo a Zo).trans<|(a_ _ _ Zo).trans<|(F t Zo ch).trans<|Yu (show t≠39 by omega)) Zs Zs (by obtain e|e:=aF<;>simp[e]) Zo;refine(ZN) ?_;refine aj<|aj (a3 i _ o.2 (ay++[o.1]) _ _ _ _ ap a0 ch Zo λaQ bW aK bf=>?_);have bg:=(bf 6 Zd).trans<|(Y 6 Zd Zd Zd).trans<|(y 6 Zd Zo Zd).trans<|(a_ _ _ Zd).trans<|(F 6 Zd Zd).trans<|(by simp[ai]:_=m 6).trans ak;have⟨b2,B,aH⟩:=aK.x;have⟨b1,bw,Z,bY,bZ⟩:=B.ob;have av:A (a.cmp g o.2<|ay++[o.1]).2.2=ay.length+1:=by rw[q.v,lr];simp
  rw[av]at aH;obtain⟨an,rfl,t1⟩:=eG aH (by simp[gB]);rw[mZ]at Z B;have bi:cb.wrap (((ay.length+1:Nat):Int)-1)=(ay.length:Int):=wI;simp only[r6,go_sem];refine dP [1000] [] ?_;have bk:((ay.length:Int)<=((ay.length+1:Nat):Int))=True:=co;have bl:(Option.isSome (E 1)=W)=True:=Zs;simp only[Z,bi,bk,bl,go_sem];refine pe [0,1,2,3,5,4,6] [9] [] fb Zk<|(ZN)<|bR _ (qO _ _) Zs<|(ZN) ?_;refine aj<|aj (link _ (aj C) (p:=(A f,2)) (q:=(a.cmp g o.2<|ay++[o.1]).1) (B.rest (Cs:=[.ms 1002 an ay.length]) Z bF Iv (λt G=>Ox) λt aR b bb R=>B.bB t (i6.2 Zo) bb<|cQ Ox R) (q.lk.ok _ Zs) (q.lk.ok _ Zs) λaM bO bh K=>(ZN) ?_);refine⟨K 9 Zd Zd Zd,?_⟩;have bp:aM 1002=E ⟨an,342,1,ao<|gB (λj=>if j=ay.length then am else k j)<|ay.length+1,Q⟩:=(K 1002 Zd Zd Zd).trans (by simp[ai];exact t1);have bq:=(K 6 Zd Zd Zd).trans<|(by simp[ai]:_=aQ 6).trans bg;refine GK.cut 1002 ay.length bp C ?_;rw[WU];exact(ZN)<|bR _ (qO _ _) Zs<|(ad bq)<|SI.fin (aK.Vb av bh λj bG=>(K _ Zo Zo Zo).trans (by simp[ai,show 1100+j≠9 by omega,show 1100+j≠1000 by omega])) (λt G=>Yu<|dO G (u:=6)) (zD (A f,0)).bB C au
def nz:BA:={data:=#[109,97,105,110]}
def KK{V:aF}{ds:aO}(e:fO V ds=0)(m:(bH.mk V ds).sz<=1048576)(k:(bH.mk V ds).ok):qS (.mk V ds)/\A ds<=8/\(∀a∈cJ V ds,a.b7<=1000000000/\a.ok)/\A (cJ V ds)<=1000000:=by
 have j:gU V ds=0:=by
  by_cases a:gU V ds=0
  .exact a
  rw[fO,aM a]at e;exact e
 have b:=p0<|sV<|vj j;have h:=p' b k;have l:qS<|.mk V ds:=by
  have b:=b;rw[i_]at b;split at b
  .assumption
  cases b
 have g:=I4 (V:=V) (ds:=ds) (λd i=>(h.bd d i).2.2) m;exact⟨l,h.pg.len,λa f=>⟨gS (g a f).n Zo,(g a f).o⟩,Yo<|(Ep e).1⟩
def adE{b:aF}{a:aO}(k:(bH.mk b a).sz<=1048576)(i:(bH.mk b a).ok)(j:qS<|.mk b a)(l:A a<=8):az 22 [.ag [ae.sl b,aa.sl a]]<|.tp [I (if eV a nz<0 then 0 else eV a nz),I (if eV a nz<0 then 3 else 0)]:=by
 have f:=WH (.mk b a) k i;have e:=Bd b a nz jC;have g:Cl<|.ag [ae.sl b,aa.sl a]:=Cl.bC da;rw[bH.ds,b_ j]at f;rw[nz]at e⊢;simp only[ae.sl,aa.sl]at f e g⊢;refine(ki [] [.tmp 2,.tmp 3])<|(ZC) ?_;by_cases d:eV a {data:=#[109,97,105,110]}<0
 .rw[aM d,aM d];refine(ad<|b_ d) ?_;exact .cl _<|Cl.jf Zs
 rw[aC d,aC d];refine(ad<|bW d) ?_;exact .cl _<|Cl.jf Zs
end
end Go.Fw
