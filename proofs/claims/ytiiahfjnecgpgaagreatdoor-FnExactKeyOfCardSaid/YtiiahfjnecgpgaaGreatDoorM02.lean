/- A part of the proof about KeyOf. No condition. -/
import Derived.LoopN
import Derived.Laws.CopyRow
import Derived.MapKept
import Derived.Laws.BytesArg
import Derived.Test.YtiiahfjnecgpgaaGreatDoorM01
set_option maxRecDepth 100000
set_option maxHeartbeats 8000000
set_option linter.unusedSimpArgs false
set_option linter.unusedVariables false
set_option linter.defProp false
open Go renaming maxLen->ao,Program->ay,Value->aE,TypeId->aQ,World->aL,FuncId->bK,Oper->da,run_underlying->dU,undef->cC,execOp->dl,Operand->eV,Op->eU,Act->cq
open Go.Builtin renaming append_->jH
open Go.Result renaming andThen_ok->gl
open Go.Sem renaming run_bind->eW
open Option renaming some->E,none->aa
open Bool renaming true->ad,false->al
namespace Go.Fw
noncomputable section
section
open Go.RowKit
def kr:D->Option (List D)
 |.ag ds=>E ds
 |.tp _=>aa
 |.any=>aa
 |.sc v=>E (v.cells.toList.map .sc)
 |.sl sz rows=>E [.sl sz rows]
 |.cs sz rows=>E [.cs sz rows]
 |.cp ds=>E [.cp ds]
 |.pa b ds=>E [.pa b ds]
 |.rf s g o=>E [.rf s g o]
 |.ms s g l=>E [.ms s g l]
 |.mp s g=>E [.mp s g]
 |.fn f a b=>E [.fn f a b]
def b4:D->Bool
 |.ag _=>al
 |.tp _=>al
 |.any=>al
 |.sc v=>v.oneCell'
 |_=>ad
def Lz{e:View}{b:D}{v:aE}(d:b4 b=ad)(h:Rd e b v):v.oneCell'=ad:=by
 cases h<;>first|(rename_i f _;cases f<;>rfl)|first|rfl|(simp[b4]at d;done)|exact d
def Ce{x:View}{C:D}{v:aE}{cs:DL}(b:kr C=E cs)(S:Rd x C v):
 cs.length=v.cells.size/\∀(i:Nat)(e:D),cs[i]?=E e->∃d,v.cells[i]?=E d/\Rd x e d:=by
 have one:∀(e:D)(d:aE),v.cells=#[d]->cs=[e]->Rd x e d->cs.length=v.cells.size/\∀(i:Nat)(e:D),cs[i]?=E e->∃d,v.cells[i]?=E d/\Rd x e d:=by
  exact Zg
 cases S with
 |sc v=>
  simp only[kr,dy]at b;subst b;refine⟨Zs,λi e t=>?_⟩;rw[gF]at t;simp only[jg]at t;obtain⟨d,Q,rfl⟩:=t;exact⟨d,by simpa using Q,.sc d⟩
 |any v=>cases b
 |nil j=>simp only[kr,dy]at b;exact one _ _ A b.symm (.nil j)
 |fu j a o z=>simp only[kr,dy]at b;exact one _ _ A b.symm (.fu j a o z)
 |sl j B f u o k y z m p q=>simp only[kr,dy]at b;exact one _ _ A b.symm (.sl j B f u o k y z m p q)
 |cs j B v F y=>simp only[kr,dy]at b;exact one _ _ (by cases F<;>rfl) b.symm (.cs j B v F y)
 |ag l vs m R=>
  simp only[kr,dy]at b;subst b;refine⟨by simp[Value.cells,m],λi e t=>?_⟩;obtain⟨d,U,V⟩:=Rd.sJ m R t;exact⟨d,by simpa[Value.cells]using U,V⟩
 |tp=>cases b
 |cp l f u k p q=>simp only[kr,dy]at b;exact one _ _ A b.symm (.cp l f u k p q)
 |pa f l k J L p q=>simp only[kr,dy]at b;exact one _ _ A b.symm (.pa f l k J L p q)
 |rf s g u a r h=>simp only[kr,dy]at b;exact one _ _ A b.symm (.rf s g u a r h)
 |ms s g W a o r h=>simp only[kr,dy]at b;exact one _ _ A b.symm (.ms s g W a o r h)
 |mp s g f r h=>simp only[kr,dy]at b;exact one _ _ A b.symm (.mp s g f r h)
 |fn I l G vs k m O h K=>simp only[kr,dy]at b;exact one _ _ A b.symm (.fn I l G vs k m O h K)
def na(cells:DL)(off:Nat)(cs:DL):DL:=cells.take off++cs++cells.drop (off+cs.length)
def Mr(b d:DL)(e:Nat)(f:e+d.length<=b.length):(na b e d).length=b.length:=by simp[na];omega
def Mq(e f:DL)(b d:Nat)(h:b+f.length<=e.length):(na e b f)[d]?=if b<=d/\d<b+f.length then f[d-b]? else e[d]?:=by
 unfold na;have i:(e.take b).length=b:=by simp;omega
 exact Zg
def qs(b:Nat->Option (Nat×Nat)):List D->List (Nat×D)->Option (List D)
 |cells,[]=>E cells
 |cells,(i,d)::rest=>
  match b i,kr d with
  |some (off,e),E cs=>if cs.length=e/\off+cs.length<=cells.length then qs b (na cells off cs) rest else aa
  |_,_=>aa
def Qg(f:VL)(h:Nat):∀(b:Nat)(d:iA),h+b+f.length<=d.size->
 let i:=(f.zipIdx b).foldl (λk(j:aE×Nat)=>k.setIfInBounds (h+j.2) j.1) d
 i.size=d.size/\∀e,i[e]?=if h+b<=e/\e<h+b+f.length then f[e-(h+b)]? else d[e]?:=by
 induction f with
 |nil=>intro b d _;simp;intro e m o;omega
 |cons v f p=>
  intro b d l;simp only[di]at l;obtain⟨m,o⟩:=p (b+1) (d.setIfInBounds (h+b) v) de;simp only[List.zipIdx_cons,iZ];exact Zg
def CE{V:View}(y:Nat->Option (Nat×Nat)):∀(o:List (Nat×D))(e:List (Nat×aE))(j:DL)(h:iA)(k:DL),
 o.map (·.1)=e.map (·.1)->(∀(m:Nat)(b:D)(v:aE),(o.map (·.2))[m]?=E b->(e.map (·.2))[m]?=E v->Rd V b v)->
 j.length=h.size->(∀(d:Nat)(b:D),j[d]?=E b->∃p,h[d]?=E p/\Rd V b p)->qs y j o=E k->
 ∃l,Instr.fill y h e=E l/\k.length=l.size/\l.size=h.size/\∀(d:Nat)(b:D),k[d]?=E b->∃p,l[d]?=E p/\Rd V b p
 |[],e,j,h,k,i,t,x,r,f=>by
  cases e with
  |nil=>simp only[qs,dy]at f;subst f;exact⟨h,A,x,A,r⟩
  |cons C e=>simp at i
 |(m,b)::o,e,j,h,k,i,t,x,r,f=>by
  cases e with
  |nil=>simp at i
  |cons C e=>
   obtain⟨X,v⟩:=C;simp only[bp,vZ]at i;obtain⟨rfl,i⟩:=i;simp only[qs]at f;split at f
   .rename_i q Y z S Q;split at f
    .rename_i B;obtain⟨W,U⟩:=Ce Q (t 0 b v Zs Zs);obtain⟨f1,f2⟩:=Qg v.cells.toList q 0 h Zg;simp only[kL,qV]at f1 f2;obtain⟨l,G,I,J,K⟩:=CE y o e (na j q z) _ k i (λm b v L O=>t (m+1) b v (by simpa using L) (by simpa using O))
      (by rw[Mr _ _ _ B.2,f1,x]) (λd F u=>by
       rw[Mq _ _ _ _ B.2]at u;rw[f2 d];by_cases R:q<=d/\d<q+z.length
       .exact Zg
       .rw[av R]at u;rw[av Zo];exact r d F u) f
     refine⟨l,?_,I,by rw[J,f1],K⟩;simp only[Instr.fill,S];rw[av de];rw[<-G,<-Array.foldl_toList,Array.toList_zipIdx]
    .cases f
   .cases f
def lL(P:ay)(f:bK):Prop:=∃b,P.funcs[f]?=E b/\(b.name== "runtime.NumGoroutine")=al/\b.body.isNone=al
structure Sp (P:ay) (f:bK) (dV:List D) (r:D):Prop where
 ok:lL P f
 run:∀(w:aL)(M:Nat->Prop)(vs:List aE),MB M w->dV.length=vs.length->
  (∀(i:Nat)(d:D)(v:aE),dV[i]?=E d->vs[i]?=E v->Rd (view w M (λ_=>aa) db) d v)->
  Calls P f vs.toArray w λe w'=>∃v,e=.returned v/\Below w.heap.size w w'/\Rd (view w' M (λ_=>aa) db) r v
inductive Fz (H:Nat->Option Ob):D->D->Prop
 |cl (d:D) (h:Cl d):Fz H d d
 |nil (sz:Nat):Fz H (.sc (.slice aa 0 0)) (.sl sz [])
 |cs (sz:Nat) (rows:List (List D)) (h:Cl (.sl sz rows)):Fz H (.cs sz rows) (.sl sz rows)
 |ms (s:Nat) (ob:Ob) (rows:List (List D)) (es:Nat->Nat->D) (o:H s=E ob) (m:ob.keys=aa) (t:0<ob.sz) (b:∀(i:Nat)(r:List D),rows[i]?=E r->r.length=ob.sz)
  (k:∀(i:Nat)(r:List D)(j:Nat)(d:D),rows[i]?=E r->r[j]?=E d->ob.cells[i*ob.sz+j]?=E (es i j))
  (l:∀(i:Nat)(r:List D)(j:Nat)(d:D),rows[i]?=E r->r[j]?=E d->Fz H (es i j) d):Fz H (.ms s ob.gen rows.length) (.sl ob.sz rows)
 |rf (s:Nat) (ob:Ob) (off:Nat) (es:List D) (ds:Nat->D) (o:H s=E ob) (m:ob.keys=aa) (k:∀(j:Nat)(e:D),es[j]?=E e->ob.cells[off+j]?=E (ds j))
  (l:∀(j:Nat)(e:D),es[j]?=E e->Fz H (ds j) e):Fz H (.rf s ob.gen off) (.cp es)
 |fn (f:bK) (dV bs cs ds:List D) (b:dV.length=bs.length) (q:cs.length=ds.length) (h:∀(i:Nat)(d e:D),dV[i]?=E d->bs[i]?=E e->Fz H d e)
  (p:∀(i:Nat)(d e:D),cs[i]?=E d->ds[i]?=E e->Fz H d e):Fz H (.fn f dV cs) (.fn f bs ds)
 |ag (ds es:List D) (b:ds.length=es.length) (h:∀(i:Nat)(d e:D),ds[i]?=E d->es[i]?=E e->Fz H d e):Fz H (.ag ds) (.ag es)
 |tp (ds es:List D) (b:ds.length=es.length) (h:∀(i:Nat)(d e:D),ds[i]?=E d->es[i]?=E e->Fz H d e):Fz H (.tp ds) (.tp es)
section
variable{P:ay}{w0:Bs}{M:cb}{g:dm}{s:St}{a:cq}{w:aL}
def Nn{e:b5}(b f:Nat)(h:aE)(d:(view w M g e).C b f=E h):(view w M (λ_=>aa) db).C b f=E h/\((view w M g e).K b->(view w M (λ_=>aa) db).K b):=
 ⟨dK (dr d) (cR d).1 Zs,id⟩
def Rd.freeze(I:aS w0 M g s a w){j f:D}(ar:Fz s.H j f):∀{v:aE},Rd (view w M g s.n) j v->Rd (view w M (λ_=>aa) db) f v:=by
 induction ar with
 |cl j B=>intro v e;exact e.closed Nn B
 |nil ae=>intro v e;cases e;exact .nil ae
 |cs ae A B=>intro v e;cases e with|cs _ _ _ an _=>exact an.closed Nn B
 |ms V z A q S G ax F K aq o=>
  intro v e;obtain⟨au,m,J,vs,C,R,ab,W,aw,Q⟩:=I.obj V z S;cases e with|ms _ _ _ ah ak _ e=>
  obtain⟨rfl,rfl⟩:=e m J C;have L:¬M m:=λr=>(I.m0 m r).2 _ _ _ C;have x:∀(b:Nat)(p:DL)(d:Nat)(j:D),A[b]?=E p->p[d]?=E j->∃l,vs[b*z.sz+d]?=E l/\Rd (view w M g s.n) (q b d) l:=
   λb p d j i y=>Q _ _ (K b p d j i y)
  refine .sl z.sz A m 0 ak (λb d=>vs.getD (b*z.sz+d) cC) ?_ W F (λb p d j i y=>?_) λb p d j i y=>?_
  .cases aD:A.length with
   |zero=>exact iy _
   |succ r=>
    have av:r<A.length:=Zo;have Z:=bR av;have ap:0<(A[r]).length:=by rw[F r _ Z];exact ax
    obtain⟨l,k,_⟩:=x r _ 0 _ Z (bR ap);have Y:=(iY.1 k).1;rw[ab G,kL]at Y;have:=Nat.lt_of_mul_lt_mul_right Y;omega
  .obtain⟨l,k,_⟩:=x b p d j i y;refine dK ?_ L Zs;rw[nH (R.cells G),ek,k];simp[iv,k]
  .obtain⟨l,k,O⟩:=x b p d j i y;have:=o b p d j i y O;simpa[iv,k]using this
 |rf V z U q t S G K aq o=>
  intro v e;obtain⟨au,m,J,vs,C,R,ab,W,aw,Q⟩:=I.obj V z S;cases e with|rf _ _ _ ah _ e=>
  have:=e m J C;subst this;have L:¬M m:=λr=>(I.m0 m r).2 _ _ _ C;have x:∀(d:Nat)(f:D),q[d]?=E f->∃l,vs[U+d]?=E l/\Rd (view w M g s.n) (t d) l:=λd f h=>Q _ _ (K d f h);refine .cp q m U (λd=>vs.getD (U+d) cC) (λd f h=>?_) λd f h=>?_
  .obtain⟨l,k,_⟩:=x d f h;refine dK ?_ L Zs;rw[nH (R.cells G),k];simp[iv,k]
  .obtain⟨l,k,O⟩:=x d f h;have:=o d f h O;simpa[iv,k]using this
 |fn am ai bs cs t F X _ _ o ay=>
  intro v e;cases e with|fn _ _ _ aB aC aF aG az aA=>
  refine .fn am bs t aB aC Zo Zo (λb f v h u=>?_) λb f v h u=>?_
  .have i:b<ai.length:=by have:=(ej.1 h).1;omega
   exact o b _ f (bR i) h (az b _ v (bR i) u)
  .have i:b<cs.length:=by have:=(ej.1 h).1;omega
   exact ay b _ f (bR i) h (aA b _ v (bR i) u)
 |ag t q F B o=>
  intro v e;cases e with|ag _ vs X e=>
  refine .ag q vs Zo λb f v h u=>?_;have i:b<t.length:=by have:=(ej.1 h).1;omega
  exact o b _ f (bR i) h (e b _ v (bR i) u)
 |tp t q F B o=>
  intro v e;cases e with|tp _ vs X e=>
  refine .tp q vs Zo λb f v h u=>?_;have i:b<t.length:=by have:=(ej.1 h).1;omega
  exact o b _ f (bR i) h (e b _ v (bR i) u)
def tT:D->Option aE
 |.sc v=>E v
 |_=>aa
def mN:D->Option aE
 |.sc v=>E v
 |.tp ds=>(ds.mapM tT).map λvs=>.tuple vs.toArray
 |_=>aa
def K4{l:View}:∀(b:DL)(h vs:VL),b.mapM tT=E h->b.length=vs.length->
 (∀(f:Nat)(d:D)(v:aE),b[f]?=E d->vs[f]?=E v->Rd l d v)->h=vs
 |[],h,vs,e,i,_=>by
  exact Zg
 |d::b,h,vs,e,i,k=>by
  cases vs with
  |nil=>simp at i
  |cons v vs=>
   rw[k_]at e;simp only[wg,iJ,wh,dy]at e;obtain⟨t,j,r,q,rfl⟩:=e;have m:=k 0 d v Zs Zs;cases d<;>simp[tT]at j;subst j;cases m;rw[K4 b r vs q (by simpa using i) (λf d v o p=>k (f+1) d v (by simpa using o) (by simpa using p))]
def Yh{f:View}{d:D}{e v:aE}(b:mN d=E e)(l:Rd f d v):v=e:=by
 cases l<;>simp[mN]at b
 .exact b
 .rename_i h vs i k;obtain⟨m,j,rfl⟩:=b;rw[K4 h m vs j i k]
end
def cy(P:ay)(t:aQ):Option (aQ×Nat×Nat):=
 match P.underlying t with
 |some (.slice e)=>match P.info? e with
  |some i=>match i.zero with
   |some b=>if b.cells.size=i.size/\0<i.size then E (e,i.size,i.bytes)else aa
   |none=>aa
  |none=>aa
 |_=>aa
def pF{P:ay}{i e:aQ}{d h:Nat}(f:cy P i=E (e,d,h)):
 ∃b j,P.underlying i=E (.slice e)/\P.info? e=E b/\b.zero=E j/\j.cells.size=d/\0<d/\b.size=d/\b.bytes=h:=by
 unfold cy at f;split at f
 .exact Zg
 .cases f
def pe(P:ay)(t:aQ):Option (DL):=((P.info? t).bind (·.zero)).map λb=>b.cells.toList.map .sc
def pf(P:ay)(e:aQ):DL:=(pe P e).getD []
def iH(s:St)(t:Nat)(e:aQ)(sz:Nat)(cells:DL):St:={s with H:=aj (aj s.H t aa) t (E {gen:=s.n t,elem:=e,sz,cells}),n:=bump s.n t}
def o8(s:St)(t0 t:Nat)(e:aQ)(sz:Nat)(cells:DL):St:={s with H:=aj (aj s.H t0 aa) t (E {gen:=s.n t,elem:=e,sz,cells}),n:=bump s.n t}
def DN(s:St)(t:Nat):St:={s with H:=aj (aj s.H t aa) t (E {gen:=s.n t,elem:=0,sz:=1,cells:=[],keys:=E []}),n:=bump s.n t}
def zh(P:ay)(t:aQ):Option (List (Nat×Nat)):=
 match P.underlying t with
 |some (.struct b)=>b.toList.mapM λf=>(lA P f.type).map λn=>(f.offset,n)
 |_=>aa
def oF(b:Int):Option D->Option Int
 |none=>E b
 |some (.sc (.int _ n))=>E n
 |_=>aa
def AT(P:ay)(t:aQ)(x:D)(e d:Option D):Option D:=
 match x with
 |.sc (.string b)=>match oF 0 e,oF b.size d with
  |some l,E h=>if gi P t=0/\0<=l/\l<=h/\h<=b.size then E (.sc (.string (b.extract l.toNat h.toNat)))else aa
  |_,_=>aa
 |.sl sz rows=>match oF 0 e,oF rows.length d with
  |some l,E h=>if oQ P t=E sz/\0<=l/\l<=h/\h<=rows.length then E (.sl sz ((rows.take h.toNat).drop l.toNat))else aa
  |_,_=>aa
 |.sc (.slice aa 0 0)=>match oF 0 e,oF 0 d with
  |some l,E h=>if(oQ P t).isSome=ad/\l=0/\h=0 then E (.sc (.slice aa 0 0))else aa
  |_,_=>aa
 |.ms i g f=>match oF 0 e,oF f d with
  |some l,E h=>if(oQ P t).isSome=ad/\l=0/\0<=h/\h<=f then E (.ms i g h.toNat)else aa
  |_,_=>aa
 |_=>aa
def yX(P:ay)(t:aQ)(x:D)(b d:D):Option D:=
 match b,d with
 |.sc (.int _ n),.sc (.int _ m)=>(match x with
  |.sl sz rows=>if oQ P t=E sz/\n=rows.length/\m=rows.length then E (.cs sz rows)else aa
  |.sc (.slice aa 0 0)=>if(oQ P t).isSome=ad/\n=0/\m=0 then E (.sc (.slice aa 0 0))else aa
  |_=>aa)
 |_,_=>aa
def vh(P:ay)(t:aQ):Option (TypeDesc×aE):=
 match P.underlying t with
 |some (.map k e)=>match P.underlying k,(P.info? e).bind (·.zero)with
  |some d,E b=>E (d,b)
  |_,_=>aa
 |_=>aa
def xw:TypeDesc->aE->Bool
 |.bool,.bool _=>ad
 |.int k,.int b _=>b==k
 |.string,.string _=>ad
 |_,_=>al
def mO(d:TypeDesc)(k:aE):List aE->Option (Option Nat)
 |[]=>E aa
 |e::b=>match Instr.sameNow d k e with
  |some ad=>E (E 0)
  |some al=>(mO d k b).map (·.map (·+1))
  |none=>aa
def vi(P:ay)(t:aQ):Option aE:=
 match P.underlying t with
 |some (.map k e)=>if lz P k=ad then(P.info? e).bind (·.zero)else aa
 |_=>aa
def o4(s:St):D->Option Nat
 |.pa _ (.pa b _::_)=>E b
 |.rf t g 0=>match s.H t with|some ob=>if ob.gen=g/\ob.keys=aa then(match ob.cells with|.pa b _::_=>E b|_=>aa)else aa|none=>aa
 |_=>aa
def ky(s:St)(b:Nat):List aE->List D->Option (Option Nat)
 |[],[]=>E aa
 |.pointer (E ⟨b',0,aa⟩)::ks,c::cs=>if o4 s c=E b' then(if b=b' then E (E 0)else(ky s b ks cs).map (·.map (·+1)))else aa
 |_,_=>aa
def R3{s b:St}(d:b.H=s.H):o4 b=o4 s:=by funext e;unfold o4;rw[d]
def Du{s h:St}(f:h.H=s.H){e:Nat}:∀(d:VL)(b:DL),ky h e d b=ky s e d b
 |[],[]=>rfl
 |[],_::_=>rfl
 |_::_,[]=>by unfold ky;split<;>first|rfl|(split<;>rfl)|simp_all
 |k::d,l::b=>by
  unfold ky;split
  .rfl
  .rename_i i j;cases i;cases j;rw[R3 f,Du f]
  .rfl
def tw(b:aE)(ok:Bool)(cells:List D):Option (Option Nat)->Option D
 |some aa=>E (if ok then .tp [.sc b,.sc (.bool al)]else .sc b)
 |some (E j)=>match cells[j]? with
  |some c=>E (if ok then .tp [c,.sc (.bool ad)]else c)
  |none=>aa
 |none=>aa
def tu(P:ay)(s:St)(t:aQ)(ok:Bool):D->D->Option D
 |.mp e gn,.sc h=>match vh P t,s.H e with
  |some (d,f),E ob=>match ob.keys with
   |some ks=>if ob.gen=gn/\xw d h=ad then tw f ok ob.cells (mO d h ks)else aa
   |none=>aa
  |_,_=>aa
 |.mp e gn,.pa b _=>match vi P t,s.H e with
  |some f,E ob=>match ob.keys with
   |some ks=>if ob.gen=gn then tw f ok ob.cells (ky s b ks ob.cells)else aa
   |none=>aa
  |_,_=>aa
 |_,_=>aa
def vy(s:St)(d:Nat)(ob:Ob)(ks:List aE)(e:aE)(b:D):Option (Option Nat)->Option (Prop×St)
 |some aa=>E (ob.cells.length=ks.length,{s with H:=aj s.H d (E {ob with keys:=E (ks++[e]),cells:=ob.cells++[b]})})
 |some (E j)=>E (True,{s with H:=aj s.H d (E {ob with cells:=ob.cells.set j b})})
 |none=>aa
def py(P:ay)(t:aQ):Bool:=match P.underlying t with|some (.slice e)=>(match P.underlying e with|some (.int .u8)=>ad|_=>al)|_=>al
def bytesOf:List D->Option (List Int)
 |[]=>E []
 |.sc (.int .u8 n)::ds=>(bytesOf ds).map (n::·)
 |_=>aa
def uJ(b:Nat)(ds:DL):Option D:=match bytesOf (ds.take b)with|some ns=>if ns.length=b then E (.sc (.string (strOfNums ns)))else aa|none=>aa
def rz(P:ay)(s:St)(src dst:aQ):D->Option D
 |.ms t g b=>if py P src=ad/\gi P dst=0 then(match s.H t with|some ob=>if ob.gen=g/\ob.keys=aa then uJ b ob.cells else aa|none=>aa)else aa
 |.sl sz rows=>if py P src=ad/\gi P dst=0/\sz=1 then uJ rows.length rows.flatten else aa
 |.sc (.slice aa 0 0)=>if py P src=ad/\gi P dst=0 then E (.sc (.string ByteArray.empty))else aa
 |_=>aa
def LH:Option D->Option D->Option D
 |some d,_=>E d
 |none,x=>x
def eH(P:ay)(s:St):eU->Option D
 |.build t parts=>match zh P t,pe P t with
  |some f,E j=>(qs (λi=>f[i]?) j (parts.toList.map λx=>(x.1,s.ev x.2))).map .ag
  |_,_=>aa
 |.slice t x d b e=>match e with|none=>AT P t (s.ev x) (d.map s.ev) (b.map s.ev)|some y=>match d,b with|none,E h=>yX P t (s.ev x) (s.ev h) (s.ev y)|_,_=>aa
 |.lookup t x k ok=>tu P s t ok (s.ev x) (s.ev k)
 |.convert src dst x=>LH (rz P s src dst (s.ev x)) (pb P s (.convert src dst x))
 |.call c=>match c.callee,c.args.toList with
  |.builtin .max,[x,y]=>(match s.ev x,s.ev y with
   |.sc (.int k m),.sc (.int _ n)=>E (.sc (.int k (if n>m then n else m)))
   |_,_=>aa)
  |_,_=>pb P s (.call c)
 |op=>pb P s op
def cF(s:St)(e:aQ)(sz:Nat):D->Option (Nat×List D)
 |.sl b rows=>if b=sz then E (rows.length,rows.flatten)else aa
 |.ms t g m=>match s.H t with
  |some ob=>if ob.gen=g/\ob.sz=sz/\ob.cells.length=m*sz/\ob.elem=e/\ob.keys=aa then E (m,ob.cells)else aa
  |none=>aa
 |.sc (.slice (E _) 0 _)=>E (0,[])
 |_=>aa
def sH(s:St)(t e sz d b:Nat)(rows:List (List D)):D->Option (Prop×St×D)
 |.sc (.slice aa 0 0)=>if b=sz then E (True,s,.cs sz rows)else aa
 |.sl _ []=>if b=sz then E (True,s,.cs sz rows)else aa
 |f=>match cF s e sz f with
  |some (m,cs)=>if b=sz then E ((rows.flatten++cs).all b4=ad/\0<m/\(rows.length+m)*d<=140737488355328/\rows.length+m<=ao,iH s t e sz (rows.flatten++cs),.ms t (s.n t) (rows.length+m))else aa
  |none=>aa
def Co:D->Option (Nat×List (List D))
 |.cs sz rows=>E (sz,rows)
 |_=>aa
def ql(P:ay)(s:St)(ty:aQ)(b:Nat)(parts:Array (Nat×eV)):Option (Prop×D):=
 match cy P ty with
 |some (_,sz,_)=>match qs (λi=>E (i*sz,sz)) (List.replicate (b*sz) .any) (parts.toList.map λx=>(x.1,s.ev x.2))with
  |some cs=>E (b*sz<=16777216/\b<=1,if b=1 then .sl sz [cs]else .cs sz [])
  |none=>aa
 |none=>aa
def fr(P:ay)(mu:List Nat)(s:St)(t:Nat):eU->Option (Prop×St×D)
 |.box e x=>match kr (s.ev x)with
  |some cs=>if t∈mu then E (True,iH s t e cs.length cs,.rf t (s.n t) 0)else E (True,s,.cp cs)
  |none=>aa
 |.alloc e=>match pe P e with
  |some cs=>E (True,iH s t e cs.length cs,.rf t (s.n t) 0)
  |none=>aa
 |.makeMap _ r=>match r with
  |none=>E (True,DN s t,.mp t (s.n t))
  |some _=>aa
 |.buildSlice ty b parts=>match cy P ty with
  |some (e,sz,_)=>match qs (λi=>E (i*sz,sz)) (List.replicate (b*sz) .any) (parts.toList.map λx=>(x.1,s.ev x.2))with
   |some cs=>E (b*sz<=16777216,iH s t e sz cs,.ms t (s.n t) b)
   |none=>aa
  |none=>aa
 |.makeSlice ty l c=>match cy P ty,s.ev l,s.ev c with
  |some (e,sz,d),.sc (.int _ n),.sc (.int _ m)=>
   E (m=n/\0<=n/\(d:Int)*n<=281474976710656/\n<=9223372036854775807,iH s t e sz (List.replicate n.toNat (pf P e)).flatten,.ms t (s.n t) n.toNat)
  |_,_,_=>aa
 |.call c=>match c.callee,c.args.toList,c.argTypes.toList with
  |.builtin .append,[x,y],[ty,j]=>match cy P ty with
   |some (e,sz,d)=>if j=ty then
    match s.ev x,s.ev y with
    |.ms t0 gn b,.sc (.slice aa 0 0)=>match s.H t0 with
     |some ob=>if ob.gen=gn/\ob.sz=sz/\ob.cells.length=b*sz/\ob.elem=e/\ob.keys=aa then E (True,s,.ms t0 gn b)else aa
     |none=>aa
    |.sc (.slice aa 0 0),.sc (.slice aa 0 0)=>E (True,s,.sc (.slice aa 0 0))
    |.sc (.slice aa 0 0),.sc (.slice (E _) 0 _)=>E (True,s,.sc (.slice aa 0 0))
    |.sc (.slice aa 0 0),f=>match cF s e sz f with
     |some (m,cs)=>E (cs.all b4=ad/\0<m/\m*d<=140737488355328/\m<=ao,iH s t e sz cs,.ms t (s.n t) m)
     |none=>aa
    |.ms t0 gn b,f=>match s.H t0,cF s e sz f with
     |some ob,E (m,cs)=>
      if ob.gen=gn/\ob.sz=sz/\ob.cells.length=b*sz/\ob.elem=e/\ob.keys=aa then
       E (cs.all b4=ad/\(b+m)*d<=140737488355328/\b+m<=ao,o8 s t0 t e sz (ob.cells++cs),.ms t (s.n t) (b+m))
      else aa
     |_,_=>aa
    |.cs h rows,f=>sH s t e sz d h rows f
    |_,_=>aa
    else match Co (s.ev x)with
     |some (h,rows)=>if cy P j=E (e,sz,d)then sH s t e sz d h rows (s.ev y)else aa
     |none=>match tj P j,s.ev x,s.ev y with
     |some _,.sc (.slice aa 0 0),.sc (.int _ n)=>E (0<n/\n.toNat*d<=140737488355328/\n.toNat<=ao,iH s t e sz (List.replicate n.toNat (pf P e)).flatten,.ms t (s.n t) n.toNat)
     |_,_,_=>aa
   |none=>aa
  |_,_,_=>aa
 |_=>aa
def kY(P:ay)(s:St):eU->Option (Prop×St)
 |.store ty x y=>match s.ev x,kr (s.ev y),lA P ty with
  |.rf t gn off,E cs,E n=>match s.H t with
   |some ob=>if ob.gen=gn/\ob.keys=aa then E (cs.length=n/\off+cs.length<=ob.cells.length/\cs.all b4=ad,{s with H:=aj s.H t (E {ob with cells:=na ob.cells off cs})})else aa
   |none=>aa
  |_,_,_=>aa
 |.mapUpdate t m k v=>match s.ev m,s.ev k,vh P t with
  |.mp e gn,.sc f,E (d,_)=>match s.H e with
   |some ob=>match ob.keys with
    |some ks=>if ob.gen=gn/\xw d f=ad then vy s e ob ks f (s.ev v) (mO d f ks)else aa
    |none=>aa
   |none=>aa
  |.mp e gn,.pa b _,_=>match vi P t,s.H e with
   |some _,E ob=>match ob.keys with
    |some ks=>if ob.gen=gn/\ky s b ks ob.cells=E aa then E (ob.cells.length=ks.length,{s with H:=aj s.H e (E {ob with keys:=E (ks++[.pointer (E ⟨b,0,aa⟩)]),cells:=ob.cells++[s.ev v]})})else aa
    |none=>aa
   |_,_=>aa
  |_,_,_=>aa
 |_=>aa
section
variable{P:ay}{w0:Bs}{M:cb}{g:dm}{s:St}{a:cq}{w:aL}
def mj(w:aL)(b:Obj):(w.alloc b).heap[w.heap.size]?=E b:=heap_alloc_new w b
def ru(w:aL)(b:Obj):Below w.heap.size w (w.alloc b):=(Below.refl _ _).alloc (b_ _) b
def yF(w:aL)(b:Obj):Below w.heap.size w (w.drew.alloc b):=((Below.refl _ _).drew).alloc (b_ _) b
def aS.make(m:aS w0 M g s a w){w':aL}(b:Nat)(f:aQ)(sz e:Nat)(cells:DL)(vs:iA)(d:Below w.heap.size w w')(j:w'.heap[w.heap.size]?=E (.cells vs f (0,0)))
 (t:vs.size=e*sz) (o:e<=ao) (r:cells.length<=vs.size) (p:∀(k:Nat)(i:D),cells[k]?=E i->∃l,vs[k]?=E l/\Rd (view w M g s.n) i l):
 ∃h,aS w0 M h (iH s b f sz cells) a w'/\(view w M g s.n).Ext (view w' M h (bump s.n b))/\h b=E (s.n b,w.heap.size,e):=by
 obtain⟨x,y⟩:=m.rebind (w':=w') b b w.heap.size e vs {gen:=s.n b,elem:=f,sz,cells} A (λu q _=>d.block u q) (.inl (b_ _)) (xB j) (.of j A) (λ_=>t) o r p d.os d.tape d.output d.size;exact⟨_,x,y,bH _ _ _⟩
def LM(k:aS w0 M g s a w)(e:List (Nat×eV)):(e.map λb=>(b.1,s.ev b.2)).map (·.1)=(e.map λb=>(b.1,a.eval b.2)).map (·.1)/\
 ∀(f:Nat)(h:D)(v:aE),((e.map λb=>(b.1,s.ev b.2)).map (·.2))[f]?=E h->((e.map λb=>(b.1,a.eval b.2)).map (·.2))[f]?=E v->Rd (view w M g s.n) h v:=by
 refine⟨Zs,λf h v d i=>?_⟩;simp only[dZ,gF]at d i;cases j:e[f]? with
 |none=>rw[j]at d;cases d
 |some b=>rw[j]at d i;cases d;cases i;exact k.ev b.2
def NB{e:aQ}{f:DL}(b:pe P e=E f):∃d i,P.info? e=E d/\d.zero=E i/\f=i.cells.toList.map .sc:=by
 unfold pe at b;cases h:P.info? e with
 |none=>simp[h]at b
 |some d=>
  simp only[h,jS,jg]at b;exact Zg
def AR{V:View}(h:iA)(f:Nat)(e:D)(d:(h.toList.map D.sc)[f]?=E e):∃b,h[f]?=E b/\Rd V e b:=by
 rw[gF]at d;simp only[jg]at d;obtain⟨b,i,rfl⟩:=d;exact⟨b,by simpa using i,.sc b⟩
def Ic(f:aS w0 M g s a w)(b:Option eV):∀d,b.map s.ev=E d->∃v,b.map a.eval=E v/\Rd (view w M g s.n) d v:=by
 intro d e;cases b with
 |none=>cases e
 |some b=>cases e;exact⟨_,A,f.ev b⟩
def vF(j:IntKind)(b:Int)(e:Nat)(f:BoundsCode)(h:0<=b)(i:b<=e)(d:aL):(Instr.sliceBound (.int j b) e f).run P d=.ok b.toNat d:=by
 simp[Instr.sliceBound,asIntOf,h,i]
def vG(r:Bool)(h f:Nat)(d b:Int)(j i:Option aE)(q:(j=aa/\d=0)\/∃e,j=E (.int e d))(p:(i=aa/\b=h)\/∃e,i=E (.int e b))
 (k:0<=d) (t:d<=b) (l:b<=f) (o:aL):(Instr.sliceBounds r h f j i aa).run P o=.ok (d.toNat,b.toNat,f) o:=by
 rcases q with⟨rfl,rfl⟩|⟨e,rfl⟩<;>rcases p with⟨rfl,rfl⟩|⟨m,rfl⟩
 .simp[Instr.sliceBounds]
 .simp only[Instr.sliceBounds,eW,Sem.run_pure,gl,vF m b f _ Zo l];rfl
 .simp only[Instr.sliceBounds,eW,Sem.run_pure,gl,vF e d h _ k Zo];simp
 .simp only[Instr.sliceBounds,eW,Sem.run_pure,gl,vF m b f _ Zo l,vF e d b.toNat _ k Zo]
def Vf{R:View}{X:aQ}{av:D}{ak u:Option D}{au:aE}{h:D}(b:AT P X av ak u=E h)(K:Rd R av au)(t r:Option aE)
 (J:∀h,ak=E h->∃v,t=E v/\Rd R h v) (I:∀h,u=E h->∃v,r=E v/\Rd R h v) (O:ak=aa->t=aa) (L:u=aa->r=aa):
 ∃v,Rd R h v/\∀d:aL,(Instr.sliceAt X au t r aa).run P d=.ok v d:=by
 have aA:gi P X=0->P.underlying X=E .string:=λy=>by unfold gi at y;split at y<;>simp_all
 have i:∀(Z:Int)(k:Option D)(S:Option aE)(V:Int),oF Z k=E V->(∀h,k=E h->∃v,S=E v/\Rd R h v)->(k=aa->S=aa)->(S=aa/\V=Z)\/∃az,S=E (.int az V):=by
  intro Z k S V j am ae;unfold oF at j;split at j
  .cases j;exact .inl ⟨ae A,A⟩
  .obtain⟨v,y,ay⟩:=am _ A;cases ay;cases j;exact .inr ⟨_,y⟩
  .cases j
 unfold AT at b;split at b
 .rename_i k;cases K;split at b
  .rename_i f e p z;split at b
   .rename_i m;obtain⟨o,x,G,Y⟩:=m;cases b;refine⟨_,.sc _,λd=>?_⟩;simp[Instr.sliceAt,Instr.slice,dU (aA o),vG (P:=P) al k.size k.size f e t r (i 0 _ _ _ p J O) (i _ _ _ _ z I L) x G Y d]
   .cases b
  .cases b
 .rename_i Q W;split at b
  .rename_i f e p z;split at b
   .rename_i m;obtain⟨o,x,G,Y⟩:=m;cases b;obtain⟨y,C,B⟩:=sU o;cases K with
    |nil=>
     have j:=λd=>vG (P:=P) ad 0 0 f e t r (i 0 _ _ _ p J O) (i _ _ _ _ z I L) x G Y d;have ab:f.toNat=0/\e.toNat=0:=by exact Zg
     refine⟨.slice aa 0 0,by simpa using Rd.nil Q,λd=>?_⟩;have:=j d;simp[ab]at this;simp[Instr.sliceAt,Instr.slice,dU C,this,kZ B]
    |fu _ U l aq=>
     have j:=λd=>vG (P:=P) ad 0 l f e t r (i 0 _ _ _ p J O) (i _ _ _ _ z I L) x G Zg d;have ab:f.toNat=0/\e.toNat=0:=by exact Zg
     refine⟨.slice (E U) 0 l,by simpa using Rd.fu Q U l aq,λd=>?_⟩;have:=j d;simp only[ab]at this;simp only[Instr.sliceAt,Instr.slice,eW,dU C,gl,this,kZ B];split
     .simp
     .simp[Addr.add]
    |sl _ _ k ar l aD m aq ax am ae=>
     have j:=λd=>vG (P:=P) ad W.length l f e t r (i 0 _ _ _ p J O) (i _ _ _ _ z I L) x G Zo d;have aw:((W.take e.toNat).drop f.toNat).length=e.toNat-f.toNat:=by simp;omega
     have an:∀(q:Nat)(F:DL),((W.take e.toNat).drop f.toNat)[q]?=E F->W[f.toNat+q]?=E F:=by
      exact Zg
     refine⟨.slice (E ⟨k,if l=f.toNat then ar else ar+f.toNat*Q,aa⟩) (e.toNat-f.toNat) (l-f.toNat),?_,λd=>?_⟩
     .rw[<-aw];refine .sl Q _ k _ _ (λq ai=>aD (f.toNat+q) ai) Zo Zo (λq F u=>ax _ _ (an q F u)) (λq F ai h u ap=>?_) λq F ai h u ap=>ae _ _ _ _ (an q F u) ap;exact Zg
     .have:=j d;simp only[Instr.sliceAt,Instr.slice,eW,dU C,gl,this,kZ B];split
      .simp
      .simp[add_lit]
   .cases b
  .cases b
 .split at b
  .rename_i aB aG p e;split at b
   .rename_i m;obtain⟨m,rfl,rfl⟩:=m;obtain⟨Q,o⟩:=pk.1 m;cases b;cases K;obtain⟨y,C,B⟩:=sU o;refine⟨_,.sc _,λd=>?_⟩;simp[Instr.sliceAt,Instr.slice,dU C,vG (P:=P) ad 0 0 0 0 t r (i 0 _ _ _ p J O) (i 0 _ _ _ e I L) Zo Zo Zo d,kZ B]
   .cases b
  .cases b
 .rename_i sl aF aC;split at b
  .rename_i aB e p z;split at b
   .rename_i m;obtain⟨o,rfl,x,G⟩:=m;obtain⟨Q,o⟩:=pk.1 o;cases b;obtain⟨y,C,B⟩:=sU o;cases K with|ms _ _ _ U l ah K=>
    refine⟨.slice (E U) e.toNat l,.ms _ _ _ _ _ ⟨ah.1,by have:=ah.2;omega⟩ K,λd=>?_⟩;simp only[Instr.sliceAt,Instr.slice,eW,dU C,gl,vG (P:=P) ad aC l 0 e t r (i 0 _ _ _ p J O) (i _ _ _ _ z I L) Zo x (by have:=ah.2;omega) d,kZ B];split<;>simp[Addr.add_zero']
   .cases b
  .cases b
 .cases b
def Ds{b:TypeDesc}{v:aE}(d:xw b v=ad):MapKept.IsKey b v:=by
 cases b<;>cases v<;>simp_all[xw,MapKept.IsKey]
def CG(h:TypeDesc)(k:aE):∀(d:List MapEntry)(l:ON),mO h k (d.map (·.key))=E l->
 ∀f,(l=aa/\Instr.findNow h k d f=E aa)\/∃j e,l=E j/\d[j]?=E e/\Instr.findNow h k d f=E (E (f+j,e.val))/\Instr.sameNow h k e.key=E ad
 |[],l,b,f=>by simp only[cB,mO,dy]at b;exact .inl ⟨b.symm,A⟩
 |e::d,l,b,f=>by
  simp only[bp,mO]at b;split at b
  .rename_i i;cases b;exact .inr ⟨0,e,A,A,by simp[Instr.findNow,i],i⟩
  .rename_i i;simp only[jg]at b;obtain⟨t,r,rfl⟩:=b;rcases CG h k d t r (f+1)with⟨rfl,m⟩|⟨j,o,rfl,m,p,q⟩
   .exact .inl ⟨A,by simp[Instr.findNow,i,m]⟩
   .exact .inr ⟨j+1,o,A,by simpa using m,by simp[Instr.findNow,i,p];omega,q⟩
  .cases b
def K2{P:ay}{k:aQ}{i:TypeDesc}{l:aE}(b:vh P k=E (i,l)):∃f d e,P.underlying k=E (.map f d)/\P.underlying f=E i/\P.info? d=E e/\e.zero=E l:=by
 unfold vh at b;split at b
 .rename_i f d o;split at b
  .rename_i p q m j;cases b;cases h:P.info? d with
   |none=>simp[h]at j
   |some e=>exact⟨f,d,e,o,m,h,by simpa[h]using j⟩
  .cases b
 .cases b
def U7{e:TypeDesc}{d b:aE}(f:Instr.sameNow e d b=E ad):b=d/\Instr.sameBits 10000 b d=ad:=by
 cases e<;>cases d<;>cases b<;>simp_all[Instr.sameNow,Instr.sameBits,MapKept.bytes_beq]
def R4(p:aS w0 M g s a w){h:D}{t:aE}{f:Nat}(b:o4 s h=E f)(q:Rd (view w M g s.n) h t):∃e i,w.heap[f]?=E (.cells e i (0,0)):=by
 unfold o4 at b;split at b
 .cases b;cases q with|pa _ _ e y B z j=>
  have:=j 0 _ A;generalize e 0=F at this;cases this with|pa _ _ _ _ d _ _=>exact d
 .split at b
  .rename_i r o;split at b
   .split at b
    .rename_i m;cases b;obtain⟨_,u,x,vs,_,_,_,_,_,k⟩:=p.obj _ r o;obtain⟨C,_,l⟩:=k 0 _ (by rw[m];rfl);cases l with|pa _ _ _ _ d _ _=>exact d
    .cases b
   .cases b
  .cases b
 .cases b
def Dv(I:aS w0 M g s a w){k:aQ}(G:lz P k=ad){h:Nat}(O:∃p e,w.heap[h]?=E (.cells p e (0,0))){w':aL}(z:Below w.heap.size w w'):∀(f:List MapEntry)(r:DL)(i:ON)(d:Nat),ky s h (f.map (·.key)) r=E i->(∀j∈r,∃J,Rd (view w M g s.n) j J)->
 (i=aa/\(Instr.findAsking k (.pointer (E ⟨h,0,aa⟩)) f d).run P w'=.ok aa w')\/∃m e,i=E m/\f[m]?=E e/\(Instr.findAsking k (.pointer (E ⟨h,0,aa⟩)) f d).run P w'=.ok (E (d+m,e.val)) w'
 |[],[],i,d,b,_=>by simp only[cB,ky,dy]at b;exact .inl ⟨b.symm,by simp[Instr.findAsking]⟩
 |[],_::_,i,d,b,_=>by simp[ky]at b
 |e::f,r,i,d,b,C=>by
  rw[bp]at b;unfold ky at b;split at b
  .rename_i S;cases S
  .rename_i ae ai j K y;have D:=(List.cons.inj y).1;have V:=(List.cons.inj y).2;subst V;split at b
   .rename_i U;obtain⟨J,Y⟩:=C j Zs;obtain⟨ab,L,Q⟩:=R4 I U Y;obtain⟨p,x,B⟩:=O;have F:∀{q:Nat}{u:Obj},w.heap[q]?=E u->w'.heap[q]?=E u:=λ{q u}o=>(z.block q (iY.1 o).1).trans o;have l:=Mj G w' ⟨p,x,F B⟩ ⟨ab,L,F Q⟩;split at b
    .rename_i t;subst t;cases b;rw[uk]at l;refine .inr ⟨0,e,A,A,?_⟩;simp only[Instr.findAsking,D,eW,l,gl,aI,kL];rfl
    .rename_i t;rw[beq_false_of_ne t]at l;simp only[jg]at b;obtain⟨Z,W,rfl⟩:=b;have X:(Instr.findAsking k (.pointer (E ⟨h,0,aa⟩)) (e::f) d).run P w'=(Instr.findAsking k (.pointer (E ⟨h,0,aa⟩)) f (d+1)).run P w':=by
      simp only[Instr.findAsking,D,eW,l,gl,uf,aV]
     rcases Dv I G ⟨p,x,B⟩ z f K Z (d+1) W (λj R=>C j (by simp[R]))with⟨rfl,o⟩|⟨m,ah,rfl,ak,am⟩
     .exact .inl ⟨A,X.trans o⟩
     .exact Zg
   .cases b
  .cases b
def K1{P:ay}{i:aQ}{j:aE}(b:vi P i=E j):∃f d e,P.underlying i=E (.map f d)/\lz P f=ad/\P.info? d=E e/\e.zero=E j:=by
 unfold vi at b;split at b
 .rename_i f d l;split at b
  .rename_i k;cases h:P.info? d with
   |none=>simp[h]at b
   |some e=>exact⟨f,d,e,l,k,h,by simpa[h]using b⟩
  .cases b
 .cases b
def Mi{P:ay}{w:aL}{b:aQ}(e:lz P b=ad)(i:Option Addr)(d:Bool)(h:Nat):(Instr.checkKey d (h+1) b (.pointer i)).run P w=.ok () w:=by
 obtain⟨k,j,f,_,_⟩:=xP e;simp[Instr.checkKey,dU f]
def Ml{P:ay}{w:aL}{d:aQ}(h:lz P d=ad)(f:Option Addr)(b:List MapEntry):(Instr.findKey d (.pointer f) b).run P w=(Instr.findAsking d (.pointer f) b 0).run P w:=by
 obtain⟨k,j,e,_,_⟩:=xP h;cases b with
 |nil=>simp[Instr.findKey,dU e,Instr.findNow,Instr.findAsking]
 |cons i b=>simp[Instr.findKey,dU e,Instr.findNow,Instr.sameNow]
def Tc(J:aS w0 M g s a w){R:aQ}{i:Bool}{L K:eV}{y:D}(b:tu P s R i (s.ev L) (s.ev K)=E y):
 ∃v,Rd (view w M g s.n) y v/\∀w',Below w.heap.size w w'->(Instr.lookup R (a.eval L) (a.eval K) i).run P w'=.ok v w':=by
 have m:=J.ev L;have z:=J.ev K;unfold tu at b;split at b
 .rename_i ay aC Q Z Y;rw[Z]at m;rw[Y]at z;generalize a.eval L=aR at m;generalize a.eval K=aP at z;cases z;split at b
  .rename_i ax k C ak an;split at b
   .rename_i aM am;split at b
    .rename_i hc;obtain⟨ae,aI⟩:=hc;obtain⟨aH,F,c,vs,ah,t,_,aF,aK,jY⟩:=J.obj ay C an;cases m with|mp _ _ q _ m=>
     have:=m F c (by rw[<-ae];exact ah);subst this;obtain⟨aA,V,p,ap,B,ai,au⟩:=K2 ak;unfold gH at t;rw[am]at t;obtain⟨l,U,G,rfl,ar,-⟩:=t;have av:∀w':aL,(zeroValue V).run P w'=.ok k w':=λw'=>by simp[zeroValue,typeInfo,ai,au]
     have I:∀w',Below w.heap.size w w'->∀f,(Instr.findNow ax Q l.toList 0=E f)->
      (Instr.lookup R (.map (E q)) Q i).run P w'=.ok (if i then .tuple #[(f.map (·.2)).getD k,.bool f.isSome]else(f.map (·.2)).getD k) w':=λw' h f ab=>by
      have W:w'.heap[q]?=E (.map l U):=by rw[h.block q (iY.1 G).1];exact G
      simp only[Instr.lookup,eW,dU ap,MapKept.run_getObj_map W,Sem.run_pure,gl,MapKept.run_checkKey B (Ds aI),MapKept.run_findKey B ab];cases f with
      |none=>cases i<;>simp[av]
      |some f=>obtain⟨j,v⟩:=f;cases i<;>rfl
     cases r:mO ax Q (l.toList.map (·.key))with
     |none=>rw[r]at b;cases b
     |some f=>
      rw[r]at b;rcases CG ax Q l.toList f r 0 with⟨rfl,O⟩|⟨j,o,rfl,O,aD,_⟩
      .simp only[tw,dy]at b;subst b;refine⟨_,?_,λw' h=>I w' h aa O⟩;cases i
       .exact .sc k
       .refine .tp _ [k,.bool al] A λp y v d e=>?_
        match p,d,e with
        |0,d,e=>simp at d e;subst d;subst e;exact .sc _
        |1,d,e=>simp at d e;subst d;subst e;exact .sc _
      .simp only[tw]at b;split at b
       .rename_i S X;obtain⟨u,aw,k2⟩:=jY j S X;have aq:u=o.val:=by
         have:vs.toList[j]?=E u:=by simpa using aw
         rw[<-ar,gF,O]at this;simpa using this.symm
        subst aq;simp only[dy]at b;subst b;refine⟨_,?_,λw' h=>I w' h _ aD⟩;cases i
        .exact k2
        .refine .tp _ [o.val,.bool ad] A λp y v d e=>?_
         match p,d,e with
         |0,d,e=>simp at d e;subst d;subst e;exact k2
         |1,d,e=>simp at d e;subst d;subst e;exact .sc _
       .cases b
    .cases b
   .cases b
  .cases b
 .rename_i ay aC F aT Z Y;rw[Z]at m;rw[Y]at z;generalize a.eval L=aR at m;generalize a.eval K=aP at z;cases z with|pa _ _ aX aU aJ aV O=>
  split at b
  .rename_i k C ak an;split at b
   .rename_i aM am;split at b
    .rename_i ae;obtain⟨aH,aB,c,vs,ah,t,_,aF,aK,jY⟩:=J.obj ay C an;cases m with|mp _ _ q _ m=>
     have:=m aB c (by rw[<-ae];exact ah);subst this;obtain⟨aA,V,p,ap,B,ai,au⟩:=K1 ak;unfold gH at t;rw[am]at t;obtain⟨l,U,G,rfl,ar,-⟩:=t;have av:∀w':aL,(zeroValue V).run P w'=.ok k w':=λw'=>by simp[zeroValue,typeInfo,ai,au]
     have aE:∀c∈C.cells,∃u,Rd (view w M g s.n) c u:=λc hc=>by
      exact FB
     have I:∀w',Below w.heap.size w w'->∀f,(Instr.findAsking aA (.pointer (E ⟨F,0,aa⟩)) l.toList 0).run P w'=.ok f w'->
      (Instr.lookup R (.map (E q)) (.pointer (E ⟨F,0,aa⟩)) i).run P w'=.ok (if i then .tuple #[(f.map (·.2)).getD k,.bool f.isSome]else(f.map (·.2)).getD k) w':=λw' h f ab=>by
      have W:w'.heap[q]?=E (.map l U):=by rw[h.block q (iY.1 G).1];exact G
      simp only[Instr.lookup,eW,dU ap,MapKept.run_getObj_map W,Sem.run_pure,gl,Mi B,Ml B,ab];cases f with
      |none=>cases i<;>simp[av]
      |some f=>obtain⟨j,v⟩:=f;cases i<;>rfl
     cases r:ky s F (l.toList.map (·.key)) C.cells with
     |none=>rw[r]at b;cases b
     |some f=>
      rw[r]at b;have az:=λw'(h:Below w.heap.size w w')=>Dv (w':=w') J B aJ h l.toList C.cells f 0 r aE;cases f with
      |none=>
       simp only[tw,dy]at b;subst b;refine⟨_,?_,λw' h=>I w' h aa ?_⟩
       .cases i
        .exact .sc k
        .refine .tp _ [k,.bool al] A λp y v d e=>?_
         match p,d,e with
         |0,d,e=>simp at d e;subst d;subst e;exact .sc _
         |1,d,e=>simp at d e;subst d;subst e;exact .sc _
       .rcases az w' h with⟨_,x⟩|⟨j,o,x,_⟩
        .exact x
        .cases x
      |some j=>
       simp only[tw]at b;split at b
       .rename_i S X;obtain⟨u,aw,k2⟩:=jY j S X;simp only[dy]at b;subst b;have aq:∀o,l.toList[j]?=E o->u=o.val:=λo aG=>by
         have:vs.toList[j]?=E u:=by simpa using aw
         rw[<-ar,gF,aG]at this;simpa using this.symm
        refine⟨if i then .tuple #[u,.bool ad]else u,?_,λw' h=>?_⟩
        .cases i
         .exact k2
         .refine .tp _ [u,.bool ad] A λp y v d e=>?_
          match p,d,e with
          |0,d,e=>simp at d e;subst d;subst e;exact k2
          |1,d,e=>simp at d e;subst d;subst e;exact .sc _
        .rcases az w' h with⟨x,_⟩|⟨aW,o,x,aN,aO⟩
         .cases x
         .cases x;rw[aq o aN];exact I w' h _ aO
       .cases b
    .cases b
   .cases b
  .cases b
 .cases b
def Ip:∀{e:DL}{d:IL},bytesOf e=E d->d.length=e.length/\∀(h:Nat)(f:D),e[h]?=E f->f=.sc (.int .u8 (d.getD h 0))
 |[],d,b=>by simp[bytesOf]at b;subst b;simp
 |.sc (.int .u8 l)::e,d,b=>by
  simp only[bytesOf,jg]at b;obtain⟨m,i,rfl⟩:=b;obtain⟨j,k⟩:=Ip i;exact Zg
def OJ(J:aS w0 M g s a w){src j:aQ}{t:eV}{x:D}(b:rz P s src j (s.ev t)=E x):
 ∃v,Rd (view w M g s.n) x v/\∀d,Below w.heap.size w d->(convert src j (a.eval t)).run P d=.ok v d:=by
 have aE:∀{e},py P src=ad->P.underlying src=E (.slice e)->P.underlying e=E (.int .u8):=λb f=>by
  unfold py at b;rw[f]at b;simp only at b;split at b
  .assumption
  .cases b
 have L:py P src=ad->∃e,P.underlying src=E (.slice e)/\P.underlying e=E (.int .u8):=λb=>by
  have ap:=b;unfold py at b;split at b
  .rename_i e f;exact⟨e,f,aE ap f⟩
  .cases b
 have O:gi P j=0->P.underlying j=E .string:=λe=>by unfold gi at e;split at e<;>simp_all
 have Z:∀(o m l r:Nat)(F:DL),uJ o F=E x->(∀(i:Nat)(e:D),F[i]?=E e->i<o->∃C,w.cell? ⟨l,r+i,aa⟩=E C/\Rd (view w M g s.n) e C)->py P src=ad->gi P j=0->
  ∃v,Rd (view w M g s.n) x v/\∀d,Below w.heap.size w d->(convert src j (.slice (E ⟨l,r,aa⟩) o m)).run P d=.ok v d:=by
  intro o m l r F q k W X;obtain⟨e,f,p⟩:=L W;unfold uJ at q;split at q
  .rename_i aF aC;split at q
   .rename_i ai;cases q;obtain⟨aN,aG⟩:=Ip aC;refine⟨_,.sc _,λd aq=>run_convert_bytes_arg d src e f p l r o m aF ai (λB G=>?_) j (O X)⟩;have ay:B<(F.take o).length:=Zo;have z:=bR ay;rw[aG B _ z]at z;rw[sA,aM G]at z;obtain⟨C,u,Y⟩:=k B _ z G;cases Y;exact yE aq u
   .cases q
  .cases q
 have h:=J.ev t;unfold rz at b;split at b
 .rename_i aI aK o y;rw[y]at h;generalize a.eval t=am at h;split at b
  .rename_i k;split at b
   .rename_i ak aD;split at b
    .rename_i av;obtain⟨au,aA⟩:=av;obtain⟨z,l,an,vs,aw,ax,_,aL,ai,ar⟩:=J.obj aI ak aD;cases h with|ms _ _ _ R m _ h=>
     obtain⟨rfl,rfl⟩:=h l an (by rw[<-au];exact aw);refine Z o m l 0 ak.cells b (λi e I _=>?_) k.1 k.2;obtain⟨C,u,Y⟩:=ar i e I;exact⟨C,by rw[nH (ax.cells aA),ek];exact u,Y⟩
    .cases b
   .cases b
  .cases b
 .rename_i aO Q y;rw[y]at h;generalize a.eval t=am at h;split at b
  .rename_i k;obtain⟨S,U,rfl⟩:=k;have ab:Q=[]->x=.sc (.string ByteArray.empty):=by
    rintro rfl;simp[uJ,bytesOf]at b;rw[<-b];rfl
   cases h with
   |nil=>
    obtain⟨e,f,p⟩:=L S;rw[ab A];exact⟨_,.sc _,λd _=>run_convert_bytes_nil d src e f p 0 0 j (O U)⟩
   |fu _ R m aB=>
    obtain⟨e,f,p⟩:=L S;rw[ab A];refine⟨_,.sc _,λd _=>?_⟩;rw[run_convert_bytes_string d src j e _ _ _ f p (O U)];have:=run_bytesToString (P:=P) d R 0 m [] (by simpa using run_loadCells_list (P:=P) d R [] Zs);simpa using this
   |sl _ _ l r m aJ k aB ah W X=>
    refine Z Q.length m l r Q.flatten b (λi e I az=>?_) S U;have K:=bR az;have V:0<(Q[i]).length:=by rw[ah i _ K];decide
    have ae:=sW (λaH J=>by obtain⟨B,G⟩:=hQ.1 J;exact ah B aH G) K (bR V);simp only[lc,kL]at ae;rw[ae]at I;cases I;have u:=W i _ 0 _ K (bR V);simp only[lc,kL]at u;exact⟨aJ i 0,dr u,X i _ 0 _ K (bR V)⟩
  .cases b
 .rename_i y;rw[y]at h;generalize a.eval t=am at h;cases h;split at b
  .rename_i k;obtain⟨e,f,p⟩:=L k.1;cases b;exact⟨_,.sc _,λd _=>run_convert_bytes_nil d src e f p 0 0 j (O k.2)⟩
  .cases b
 .cases b
def Pa{P:ay}{o:View}{O:aQ}{U B J:D}{S Q R:aE}{y:D}(d:yX P O U B J=E y)(C:Rd o U S)(Y:Rd o B Q)(t:Rd o J R):
 ∃v,Rd o y v/\∀b:aL,(Instr.sliceAt O S aa (E Q) (E R)).run P b=.ok v b:=by
 unfold yX at d;split at d
 .rename_i F K G I;cases Y;cases t;have p:∀(e f:Nat)(b:aL),K=(e:Int)->I=(e:Int)->e<=f->(Instr.sliceBounds ad e f aa (E (.int F K)) (E (.int G I))).run P b=.ok (0,e,e) b:=by
   rintro e f b rfl rfl h;simp only[Instr.sliceBounds,eW,Sem.run_pure,gl,vF G (e:Int) f _ Zo Zo,sv,vF F (e:Int) e _ Zo Zo]
  split at d
  .rename_i q i;split at d
   .rename_i h;obtain⟨r,j,k⟩:=h;cases d;obtain⟨V,m,l⟩:=sU r;cases C with
    |nil=>
     refine⟨.slice aa 0 0,.cs _ _ _ (.nil q) A,λb=>?_⟩;have:=p 0 0 b (by simpa using j) (by simpa using k) Zo;simp[Instr.sliceAt,Instr.slice,dU m,this,kZ l]
    |fu _ u f t=>
     refine⟨.slice (E u) 0 0,.cs _ _ _ (.fu q u 0 Zo) A,λb=>?_⟩;have:=p 0 f b (by simpa using j) (by simpa using k) Zo;simp[Instr.sliceAt,Instr.slice,dU m,this,kZ l]
    |sl _ _ x L f ae h t Z W X=>
     refine⟨.slice (E ⟨x,L,aa⟩) i.length i.length,.cs _ _ _ (.sl q i x L i.length ae (b_ _) Zo Z W X) (by simp[noRoom]),λb=>?_⟩;have:=p i.length f b j k h;simp only[Instr.sliceAt,Instr.slice,eW,dU m,gl,this,kZ l];by_cases z:i.length=0
     .simp[z]
     .simp[z,Addr.add]
   .cases d
  .split at d
   .rename_i h;obtain⟨r,j,k⟩:=h;cases d;obtain⟨q,ab⟩:=pk.1 r;obtain⟨V,m,l⟩:=sU ab;cases C;refine⟨.slice aa 0 0,.sc _,λb=>?_⟩;have:=p 0 0 b (by simpa using j) (by simpa using k) Zo;simp[Instr.sliceAt,Instr.slice,dU m,this,kZ l]
   .cases d
  .cases d
 .cases d
def Er(f:aS w0 M g s a w){o:da}{p:D}(b:eH P s o.op=E p):
 ∃v,Rd (view w M g s.n) p v/\∀d,Below w.heap.size w d->(dl a.eval o).run P d=.ok (.value v) d:=by
 unfold eH at b;split at b
 .rename_i K parts h;split at b
  .rename_i j aH x am;simp only[jg]at b;obtain⟨R,Y,rfl⟩:=b;obtain⟨r,z,q,an,rfl⟩:=NB am;unfold zh at x;split at x
   .rename_i B C;obtain⟨au,av⟩:=LM f parts.toList;obtain⟨y,f1,f2,f3,f4⟩:=CE (V:=view w M g s.n) (λr=>j[r]?) _ _ _ z.cells R au av Zs (λO p ab=>AR z.cells O p ab) Y;have ah:∀d:aL,(B.mapM λi=>do pure (i.offset,<-sizeOf i.type):Sem (Array (Nat×Nat))).run P d=.ok j.toArray d:=by
     intro d;have aw:∀(t:List Field)(j:List (Nat×Nat)),(t.mapM λi=>(lA P i.type).map λJ=>(i.offset,J))=E j->(t.mapM λi=>do pure (i.offset,<-sizeOf i.type):Sem (List (Nat×Nat))).run P d=.ok j d:=by
      intro t
      induction t with
      |nil=>intro j b;simp at b;subst b;rfl
      |cons i t aq=>
       intro j b;rw[k_]at b;simp only[wg,iJ,wh,dy,jg]at b;obtain⟨e,⟨J,ae,rfl⟩,ax,f,rfl⟩:=b;rw[k_];simp only[eW,kZ ae,gl,aq ax f,Sem.run_pure]
     rw[<-Array.toArray_toList (xs:=B),List.mapM_toArray,<-bind_pure_comp,eW,aw B.toList j x];rfl
    refine⟨.agg y,?_,λd _=>?_⟩
    .have:y=y.toList.toArray:=Zs;rw[this];exact .ag _ _ (by simp[f2]) λO p v aA L=>by
      exact Zg
    .simp only[dl,h];refine kb ?_;have ap:(zeroValue K).run P d=.ok z d:=by simp[zeroValue,typeInfo,q,an]
     have A:(parts.map λ(e:Nat×eV)=>(e.1,a.eval e.2)).toList=parts.toList.map λe=>(e.1,a.eval e.2):=Zs;have W:Instr.fill (λr=>j.toArray[r]?) z.cells (parts.map λ(e:Nat×eV)=>(e.1,a.eval e.2)).toList=E y:=by rw[A,<-f1];congr 1;funext r;simp
     simp only[Instr.build,eW,ap,gl,dU C];rw[ah d];simp only[gl];rw[W];rfl
   .cases x
  .cases b
 .rename_i K e I q aD h;split at b
  .obtain⟨v,k,l⟩:=Vf b (f.ev e) (I.map a.eval) (q.map a.eval) (Ic f I) (Ic f q) (λU=>by cases I<;>simp_all) (λU=>by cases q<;>simp_all);exact⟨v,k,λd _=>by simp only[dl,h,Option.map_none];exact kb (l d)⟩
  .rename_i u;split at b
   .rename_i Z;obtain⟨v,k,l⟩:=Pa (P:=P) b (f.ev e) (f.ev Z) (f.ev u);exact⟨v,k,λd _=>by simp only[dl,h,Option.map_none,ey];exact kb (l d)⟩
   .cases b
 .rename_i K e ar aE h;obtain⟨v,k,l⟩:=Tc f b;exact⟨v,k,λd m=>by simp only[dl,h];exact kb (l d m)⟩
 .rename_i src S e h;cases m:rz P s src S (s.ev e)with
  |none=>
   rw[m]at b;refine Et f (o:=o) ?_;rw[h];exact b
  |some ay=>
   rw[m]at b;cases b;obtain⟨v,k,l⟩:=OJ f m;exact⟨v,k,λd m=>by simp only[dl,h];exact kb (l d m)⟩
 .rename_i Q h;split at b
  .rename_i e u X az;have A:Q.args=#[e,u]:=by exact Zg
   have F:=f.ev e;have G:=f.ev u;split at b
   .rename_i ar aC aB J C L;rw[C]at F;rw[L]at G;generalize ai:a.eval e=aF at F;generalize ak:a.eval u=aG at G;cases F;cases G;cases b;exact⟨_,.sc _,λd _=>by simp[dl,h,resolve,X,A,ai,ak,invoke,builtin,Builtin.max_,Builtin.max2]⟩
   .cases b
  .rw[<-h]at b;exact Et f b
 .exact Et f b
end
section
variable{P:ay}{w0:Bs}{M:cb}{g:dm}{s:St}{a:cq}{w:aL}
def X_{f:View}{e:DL}{v:aE}(j:e.length=v.cells.size/\∀(b:Nat)(i:D),e[b]?=E i->∃d,v.cells[b]?=E d/\Rd f i d):
 ∀(b:Nat)(h:D),e[b]?=E h->∃d,v.cells[b]?=E d/\Rd f h d:=j.2
def Ll(az:aS w0 M g s a w){u:aQ}{ah:Nat}{V:D}{Y:aE}(L:Rd (view w M g s.n) V Y){O:Nat}{t:DL}(d:cF s u ah V=E (O,t))(an:t.all b4=ad):
 (O=0/\t=[]/\Y=.slice aa 0 0)\/∃(r:Addr)(x:Nat)(m:VL),Y=.slice (E r) O x/\m.length=O*ah/\t.length=m.length/\(∀(b:Nat)(h:aE),m[b]?=E h->w.cell? (r.add b)=E h)/\
  (∀h∈m,h.oneCell'=ad)/\∀(b:Nat)(e:D),t[b]?=E e->∃h,m[b]?=E h/\Rd (view w M g s.n) e h:=by
 have U:∀(m:VL),t.length=m.length->(∀(b:Nat)(e:D),t[b]?=E e->∃h,m[b]?=E h/\Rd (view w M g s.n) e h)->∀h∈m,h.oneCell'=ad:=by
  intro m p R h aB;obtain⟨b,j,rfl⟩:=dG aB;have ab:b<t.length:=Zo;obtain⟨aP,F,I⟩:=R b _ (bR ab);rw[bR j]at F;cases F;exact Lz (b6.1 an _ (ax ab)) I
 cases V with
 |sl o f=>
  simp only[cF]at d;split at d
  .rename_i aA;subst aA;cases d;cases L with
   |nil=>exact .inl ⟨A,A,A⟩
   |fu _ r G aw=>exact .inr ⟨r,G,[],A,Zs,Zs,λl h q=>by simp at q,U [] Zs (λb e j=>by simp at j),λb e j=>by simp at j⟩
   |sl _ _ Q z G ai R aw p F I=>
    have K:∀(f:ct),(∀(k:Nat)(i:DL),f[k]?=E i->i.length=o)->f.flatten.length=f.length*o:=by
     intro f
     induction f with
     |nil=>intro _;simp
     |cons i f X=>
      intro p;simp only[dN,bF,di];rw[X λk i d=>p (k+1) i (by simpa using d),p 0 i Zs,p'];omega
    have Z:∀(f:ct),(∀(k:Nat)(i:DL),f[k]?=E i->i.length=o)->∀(l:Nat)(e:D),f.flatten[l]?=E e->∃k b i,l=k*o+b/\f[k]?=E i/\i[b]?=E e:=by
     intro f
     induction f with
     |nil=>intro _ l e d;simp at d
     |cons i f X=>
      intro p l e d;rw[dN]at d;have aL:=p 0 i Zs;by_cases q:l<i.length
      .rw[jR q]at d;exact⟨0,l,i,Zo,Zs,d⟩
      .rw[jv Zo]at d;obtain⟨k,b,aD,u,F,I⟩:=X (λk i d=>p (k+1) i (by simpa using d)) _ _ d;exact⟨k+1,b,aD,by rw[p'];omega,by simpa using F,I⟩
    let m:VL:=(List.range (f.length*o)).map λl=>ai (l/o) (l%o)
    have J:∀(b:Nat)(e:D),f.flatten[b]?=E e->∃h,m[b]?=E h/\Rd (view w M g s.n) e h:=by
     intro l e q;obtain⟨k,b,i,u,B,C⟩:=Z f p l e q;have j:b<o:=by rw[<-p k i B];exact(ej.1 C).1
     have S:l<f.length*o:=by rw[<-K f p];exact(ej.1 q).1
     have W:l/o=k:=by rw[u,Nat.mul_comm,Nat.mul_add_div Zo,Nat.div_eq_of_lt j,kL]
     have em:l%o=b:=by rw[u,Nat.mul_comm,Nat.mul_add_mod,Nat.mod_eq_of_lt j]
     refine⟨ai k b,?_,I k i b e B C⟩;simp only[m];rw[gF,yg S];simp[W,em]
    have y:m.length=f.length*o:=by simp[m]
    refine .inr ⟨⟨Q,z,aa⟩,G,m,A,y,by rw[y,K f p],λl h q=>?_,U m (by rw[y,K f p]) J,J⟩;have S:l<f.length*o:=by rw[<-y];exact(ej.1 q).1
    obtain⟨k,b,i,u,B,C⟩:=Z f p l _ (bR (by rw[K f p];exact S));have j:b<o:=by rw[<-p k i B];exact(ej.1 C).1
    have W:l/o=k:=by rw[u,Nat.mul_comm,Nat.mul_add_div Zo,Nat.div_eq_of_lt j,kL]
    have em:l%o=b:=by rw[u,Nat.mul_comm,Nat.mul_add_mod,Nat.mod_eq_of_lt j]
    simp only[m]at q;rw[gF,yg S]at q;simp only[ey,dy,W,em]at q;subst q;have:=dr (F k i b _ B C);rw[add_lit,u,<-re];exact this
  .cases d
 |ms aF aI aO=>
  simp only[cF]at d;split at d
  .rename_i z ay;split at d
   .rename_i R;obtain⟨ak,aG,am,aH,av⟩:=R;cases d;obtain⟨aK,Q,x,vs,aq,ar,aN,aJ,K,ap⟩:=az.obj aF z ay;cases L with|ms _ _ _ r G _ L=>
    obtain⟨rfl,rfl⟩:=L Q x (by rw[<-ak];exact aq);have y:(vs.toList.take z.cells.length).length=z.cells.length:=by simp;omega
    have J:∀(b:Nat)(e:D),z.cells[b]?=E e->∃h,(vs.toList.take z.cells.length)[b]?=E h/\Rd (view w M g s.n) e h:=by
     intro b e j;obtain⟨h,B,C⟩:=ap b e j;have au:=(ej.1 j).1;exact⟨h,by rw[sA,aM au];simpa using B,C⟩
    refine .inr ⟨⟨Q,0,aa⟩,G,vs.toList.take z.cells.length,A,by rw[y,am],y.symm,λb h j=>?_,U _ y.symm J,J⟩;rw[sA]at j;split at j
    .rw[add_lit,nH (ar.cells av),ek];simpa using j
    .cases j
   .cases d
  .cases d
 |sc v=>
  have aC:∃r x,v=.slice (E r) 0 x/\O=0/\t=[]:=by
   cases v with
   |slice a ae x=>
    cases a with
    |none=>simp[cF]at d
    |some r=>cases ae with
     |zero=>simp[cF]at d;exact⟨r,x,A,d.1.symm,d.2⟩
     |succ ae=>simp[cF]at d
   |_=>simp[cF]at d
  obtain⟨r,x,rfl,rfl,rfl⟩:=aC;cases L;exact .inr ⟨_,_,[],A,Zs,Zs,λl h q=>by simp at q,U [] Zs (λb e j=>by simp at j),λb e j=>by simp at j⟩
 |_=>cases d
end
section
variable{P:ay}{w0:Bs}{M:cb}{g:dm}{s:St}{a:cq}{w:aL}
def Tj(b:iA)(e d:Nat)(h:0<b.size)(f:d<e):(madeCells b e)[d]?=b[d%b.size]?:=by
 simp[madeCells,f,Nat.mod_lt _ h]
def D'(e:DL):∀(n d:Nat)(f:D),(List.replicate n e).flatten[d]?=E f->d<n*e.length/\e[d%e.length]?=E f
 |0,d,f,b=>by simp at b
 |n+1,d,f,b=>by
  rw[List.replicate_succ,dN]at b;by_cases h:d<e.length
  .rw[jR h]at b;exact⟨by exact Zg,by rw[Nat.mod_eq_of_lt h];exact b⟩
  .rw[jv Zo]at b;obtain⟨j,i⟩:=D' e n _ f b;refine⟨by exact Zg,?_⟩;rw[Nat.mod_eq_sub_mod Zo];exact i
def Ry{P:ay}{e:aQ}{d:IntKind}(b:tj P e=E d):P.underlying e=E (.int d):=by unfold tj at b;split at b<;>simp_all
def U4{P:ay}(w:aL)(j k G e:aQ)(d:TypeInfo)(h:aE){D:IntKind}(z:P.underlying j=E (.slice e))(A:P.underlying k=E (.int D))(r:P.info? e=E d)(C:d.zero=E h){f:Nat}(t:d.size=f)(y:0<f)
 (F:IntKind) (b:Nat) (i:0<b) (u:b<=ao) (I:b*d.bytes<=140737488355328):
 (jH #[j,k] G #[.slice aa 0 0,.int F b]).run P w=.ok (.slice (E ⟨w.heap.size,0,aa⟩) b (grownCap w b 0 e)) (w.drew.alloc (.cells (Builtin.zeroCells h.cells b++Builtin.zeroCells h.cells (grownCap w b 0 e-b)) e)):=by
 have x:b≠0:=Zo;unfold ao at u;have B:IntKind.i64.wrap (b:Int)=(b:Int):=by rw[IntKind.wrap_i64];omega
 have l:¬((b:Int)<0):=Zo;have m:¬(281474976710656<(b:Int)*(d.bytes:Int)):=by exact Zg
 have o:¬(9223372036854775807<(b:Int)):=Zo;have p:¬(281474976710656<Builtin.nextslicecap b 0*d.bytes):=by rw[nextslicecap_zero i];omega
 have q:¬(b*f=0):=by have:=Nat.mul_pos i y;omega
 simp[jH,dU z,dU A,sizeOf,typeInfo,zeroValue,r,C,t,asInt,asIntOf,B,l,m,o,p,q,x,Question.forced,run_firstCells_none,newRow,grownCap]
def pV{b:View}{h e f i d:Nat}(k:e<b.n h)(j:f<=d)(p:b.g h=E (e,i,d)):Rd b (.ms h e f) (.slice (E ⟨i,0,aa⟩) f d):=
 .ms _ _ _ _ _ ⟨k,j⟩ λl m o=>by exact Zg
def UU{b:View}{e d f i h:Nat}(j:d<b.n e)(o:b.g e=E (d,f,i)):Rd b (.rf e d h) (.pointer (E ⟨f,h,aa⟩)):=
 .rf _ _ _ _ j λk l m=>by exact Zg
def B1(t:aS w0 M g s a w){o e:aQ}{sz ab:Nat}(aM:cy P o=E (e,sz,ab))(C:aQ)(d:Nat){ah ax:D}{au av:aE}(X:Rd (view w M g s.n) ah au)(aW:Rd (view w M g s.n) ax av)
 {f:Nat} {q:DL} (aP:cF s e sz ax=E (f,q)) (aK:q.all b4=ad):
 (ah=a'->0<f->f*ab<=140737488355328->f<=ao->
  ∃v w' r,(jH #[o,o] C #[au,av]).run P w=.ok v w'/\aS w0 M r (iH s d e sz q) a w'/\Rd (view w' M r (bump s.n d)) (.ms d (s.n d) f) v)/\
 (∀t0 b h,ah=.ms t0 h.gen b->s.H t0=E h->h.sz=sz->h.cells.length=b*sz->h.elem=e->h.keys=aa->(b+f)*ab<=140737488355328->b+f<=ao->
  ∃v w' r,(jH #[o,o] C #[au,av]).run P w=.ok v w'/\aS w0 M r (o8 s t0 d e sz (h.cells++q)) a w'/\Rd (view w' M r (bump s.n d)) (.ms d (s.n d) (b+f)) v):=by
 obtain⟨K,Q,W,U,aG,aH,a5,B,aB⟩:=pF aM;have aF:=Ll t aW aP aK;constructor
 .intro ak aO ay I;subst ak;cases X;rcases aF with⟨rfl,_⟩|⟨R,ae,k,rfl,y,aX,Y,aI,Z⟩
  .omega
  .have am:=grownCap_ge w f 0 e;obtain⟨r,z,ar,a0⟩:=t.make d e sz (grownCap w f 0 e) q (k.toArray++Builtin.zeroCells Q.cells (grownCap w f 0 e-f)) (yF w _) (mj w.drew _)
    (by simp only[p5,nq,size_zeroCells,y,aH,<-p'];congr 1;omega) (grownCap_le_maxLen w f 0 e I)
    Zg (λm F j=>by
     obtain⟨O,x,L⟩:=Z m F j;have aC:=(ej.1 x).1;exact⟨O,by exact Zg,L⟩)
   exact⟨_,_,r,run_append_nil (P:=P) w o C e K Q W U aG R f ae k (by rw[y,B]) Y aO (by have:=I;simp only[ao]at this;omega) (by rw[aB];omega),z,pV (by show s.n d<bump s.n d d;rw[kU];omega) am a0⟩
 .intro t0 b h ak aR aZ aJ aY aD ay I;subst ak;cases X with|ms _ _ _ a1 i a3 X=>
  obtain⟨a2,l,ae,vs,S,p,u,ai,aN,aL⟩:=t.obj t0 h aR;obtain⟨rfl,rfl⟩:=X l ae S;have u:=u aD;have p:=p.cells aD;rw[aZ]at u;rw[aY]at p;have az:=(t.base _ _ _ _ S).2;rcases aF with⟨rfl,rfl,rfl⟩|⟨R,aw,k,rfl,y,aX,Y,aI,Z⟩
  .have aU:w.ownsRow 0 e sz (.slice (E ⟨l,0,aa⟩) b i) b (vs.toList.take (b*sz)):=by
    refine⟨by simp;omega,.inr ⟨l,i,vs,A,iy _,p,?_,ai,u,A⟩⟩;exact Zg
   obtain⟨z,ar⟩:=t.rebind (w':=w) t0 d l i vs {gen:=s.n d,elem:=e,sz,cells:=h.cells++[]} A (λ_ _ _=>A) (.inr ⟨_,_,S⟩) az (.of p A) (λ_=>u) ai (by simpa using aN) (by simpa using aL) A A A (b_ _);exact⟨_,w,_,run_append_owned_none (P:=P) w 0 o C e K sz W U _ b _ aU,z,pV (by show s.n d<bump s.n d d;rw[kU];omega) Zg (bH _ _ _)⟩
  .by_cases ap:b+f<=i
   .have aA:b*K.size+k.length<=vs.size:=by rw[B,y,u,<-p'];exact ui _ ap
    have V:=run_append_room (P:=P) w o C e K W U l b i vs p R f aw k (by rw[y,B]) Y aI ap aA;rw[B]at V aA;have J:(vs.toList.take (b*sz)).length=b*sz:=by simp;omega
    have aV:(vs.toList.take (b*sz)++k++vs.toList.drop (b*sz+k.length)).toArray.size=vs.size:=by simp;omega
    obtain⟨z,ar⟩:=t.rebind (w':=w.setRow l (vs.toList.take (b*sz)++k++vs.toList.drop (b*sz+k.length)).toArray) t0 d l i _ {gen:=s.n d,elem:=e,sz,cells:=h.cells++q} A
     (λaq _ an=>setRow_other w l aq _ an) (.inr ⟨_,_,S⟩) (by simp;exact az) (setRow_heap w l vs _ e _ p) (λ_=>by rw[aV,u]) ai
     Zg (λm F j=>by
      rw[wa];by_cases aC:m<h.cells.length
      .exact Zg
      .rw[jv Zo]at j;obtain⟨O,x,L⟩:=Z _ F j;refine⟨O,?_,L⟩;have:=(ej.1 x).1;rw[dM,jv Zo,J,jR Zo,<-aJ];exact x) A A A Zs
    exact⟨_,_,_,V,z,pV (by show s.n d<bump s.n d d;rw[kU];omega) ap (bH _ _ _)⟩
   .have aT:∀(m:Nat)(v:aE),(vs.toList.take (b*sz))[m]?=E v->w.cell? ((⟨l,0,aa⟩:Addr).add m)=E v:=by
     intro m v j;rw[sA]at j;split at j
     .rw[add_lit,nH p,ek];simpa using j
     .cases j
    have J:(vs.toList.take (b*sz)).length=b*sz:=by simp;omega
    have V:=run_append_grow (P:=P) w o C e K Q W U aG ⟨l,0,aa⟩ b i (vs.toList.take (b*sz)) (by rw[J,B]) aT R f aw k (by rw[y,B]) Y Zo
     (by have:=I;simp only[ao]at this;omega) (growslice_fits Zo (by rw[aB];exact ay))
    have am:=grownCap_ge w (b+f) i e;have G:=yF w (.cells ((vs.toList.take (b*sz)).toArray++k.toArray++Builtin.zeroCells Q.cells (grownCap w (b+f) i e-(b+f))) e);obtain⟨z,ar⟩:=t.rebind (w':=w.drew.alloc (.cells ((vs.toList.take (b*sz)).toArray++k.toArray++Builtin.zeroCells Q.cells (grownCap w (b+f) i e-(b+f))) e)) t0 d w.heap.size (grownCap w (b+f) i e) _ {gen:=s.n d,elem:=e,sz,cells:=h.cells++q} A
     (λaq an _=>G.block aq an) (.inl (b_ _)) (xB (mj w.drew _)) (.of (mj w.drew _) A)
     (λ_=>by simp only[p5,nq,size_zeroCells,J,y,aH,<-p'];congr 1;omega) (grownCap_le_maxLen w _ i e I)
     Zg (λm F j=>by
      by_cases aC:m<h.cells.length
      .exact Zg
      .rw[jv Zo]at j;obtain⟨O,x,L⟩:=Z _ F j;refine⟨O,?_,L⟩;have a4:=(ej.1 x).1;rw[uc de,Bg de,wa,nq,J,<-aJ];exact x) G.os G.tape G.output G.size
    exact⟨_,_,_,V,z,pV (by show s.n d<bump s.n d d;rw[kU];omega) am (bH _ _ _)⟩
end
section
variable{P:ay}{w0:Bs}{M:cb}{g:dm}{s:St}{a:cq}{w:aL}
def NZ(R:aS w0 M g s a w){y i:aQ}{sz W:Nat}(p:cy P y=E (i,sz,W))(C:aQ)(e:Nat){rows:ct}{Y:D}{F U:aE}(S:Rd (view w M g s.n) (.cs sz rows) F)(ap:Rd (view w M g s.n) Y U)
 {f:Nat} {cs:DL} (ah:cF s i sz Y=E (f,cs)) (J:(rows.flatten++cs).all b4=ad) (aG:0<f) (Z:(rows.length+f)*W<=140737488355328) (Q:rows.length+f<=ao):
 ∃v l k,(jH #[y,y] C #[F,U]).run P w=.ok v l/\aS w0 M k (iH s e i sz (rows.flatten++cs)) a l/\Rd (view l M k (bump s.n e)) (.ms e (s.n e) (rows.length+f)) v:=by
 rw[List.all_append,b3]at J;cases S with|cs _ _ _ S ak=>
 have aw:∀(z:Addr)(t:VL),F=.slice (E z) rows.length rows.length->t.length=rows.length*sz->rows.flatten.length=t.length->(∀(b:Nat)(j:aE),t[b]?=E j->w.cell? (z.add b)=E j)->
  (∀(b:Nat)(h:D),rows.flatten[b]?=E h->∃j,t[b]?=E j/\Rd (view w M g s.n) h j)->
  ∃v l k,(jH #[y,y] C #[F,U]).run P w=.ok v l/\aS w0 M k (iH s e i sz (rows.flatten++cs)) a l/\Rd (view l M k (bump s.n e)) (.ms e (s.n e) (rows.length+f)) v:=by
  rintro z t rfl ai K aH aI;obtain⟨x,V,an,ae,aq,ar,am,L,ab⟩:=pF p;rcases Ll R ap ah J.2 with⟨rfl,_⟩|⟨G,ay,av,rfl,au,a1,aL,a2,aM⟩
  .omega
  have aJ:=run_append_grow (P:=P) w y C i x V an ae aq z rows.length rows.length t (by rw[ai,L]) aH G f ay av (by rw[au,L]) aL Zo
   (by have:=Q;simp only[ao]at this;omega) (growslice_fits Zo (by rw[ab];exact Z))
  have aB:=grownCap_ge w (rows.length+f) rows.length i;obtain⟨k,aT,a3,aU⟩:=R.make e i sz (grownCap w (rows.length+f) rows.length i) (rows.flatten++cs) (t.toArray++av.toArray++Builtin.zeroCells V.cells (grownCap w (rows.length+f) rows.length i-(rows.length+f))) (yF w _) (mj w.drew _)
   (by simp only[p5,nq,size_zeroCells,ai,au,ar,<-p'];congr 1;omega) (grownCap_le_maxLen w _ _ i Q)
   (by simp only[p5,nq,bF];omega) (λb h d=>by
    by_cases aD:b<rows.flatten.length
    .rw[jR aD]at d;obtain⟨j,m,r⟩:=aI b h d;refine⟨j,?_,r⟩;rw[uc de,uc de,wa];exact m
    .rw[jv Zo]at d;obtain⟨j,m,r⟩:=aM _ h d;refine⟨j,?_,r⟩;have B:=(ej.1 m).1;rw[uc de,Bg de,wa,nq,<-K];exact m)
  exact⟨_,_,k,aJ,aT,pV (by show s.n e<bump s.n e e;rw[kU];omega) aB aU⟩
 cases S with
 |nil=>
  obtain⟨v,l,k,aO,aP,aR⟩:=(B1 R p C e (.sc (.slice aa 0 0)) ap ah J.2).1 A aG (by simpa using Z) (by simpa using Q);exact⟨v,l,k,aO,by simpa using aP,by simpa using aR⟩
 |fu _ G I aY=>
  have:I=0:=by have:=l6.1 ak;omega
  subst this;exact aw G [] A Zs Zs Zs Zs
 |sl _ _ ax aN I aV aX aZ O az aA=>
  have:I=rows.length:=by have:=l6.1 ak;omega
  subst this;have K:=jM (rows:=rows) (sz:=sz) λo q=>by obtain⟨x,p⟩:=hQ.1 q;exact O x o p
  have X:∀b,b<rows.length*sz->∃o h,rows[b/sz]?=E o/\o[b%sz]?=E h/\rows.flatten[b]?=E h:=λb d=>by
   have aC:b/sz<rows.length:=Nat.div_lt_of_lt_mul (by rw[Nat.mul_comm];exact d);have q:=bR aC;have aF:=O _ _ q;have u:b%sz<(rows[b/sz]).length:=by rw[aF];exact Nat.mod_lt _ (by obtain⟨x,V,an,ae,aq,ar,am,L,ab⟩:=pF p;exact am)
   refine⟨_,_,q,bR u,?_⟩;have:=sW (sz:=sz) (λo q=>by obtain⟨x,p⟩:=hQ.1 q;exact O x o p) q (bR u);rwa[Nat.div_add_mod' b sz]at this
  refine aw ⟨ax,aN,aa⟩ ((List.range (rows.length*sz)).map λb=>aV (b/sz) (b%sz)) A Zs (by simp[K]) (λb j d=>?_) λb h d=>?_
  .rw[gF]at d;obtain⟨a0,u,rfl⟩:=jg.1 d;have B:=(ej.1 u).1;rw[yg (by simpa using B)]at u;cases u;obtain⟨o,h,m,r,_⟩:=X b (by simpa using B);have:=dr (az _ _ _ _ m r);rw[re,Nat.div_add_mod' b sz]at this;rw[add_lit];exact this
  .have B:=(ej.1 d).1;obtain⟨o,aW,m,r,aK⟩:=X b Zo;rw[aK]at d;cases d;exact⟨_,by rw[gF,yg Zo];rfl,aA _ _ _ _ m r⟩
end
section
variable{P:ay}{w0:Bs}{M:cb}{g:dm}{s:St}{a:cq}{w:aL}
def PF{d:View}{j:Nat}{i:ct}{v:aE}(b:Rd d (.cs j i) v):∃h f e,v=.slice h f e:=by
 cases b with|cs _ _ _ b _=>cases b<;>exact⟨_,_,_,A⟩
def H3(i:aS w0 M g s a w){m t:aQ}{A p B:Nat}(x:cy P m=E (t,A,p))(F:aQ)(C:Nat){z:ct}{r:D}{G I:aE}(d:Rd (view w M g s.n) (.cs B z) G)(k:Rd (view w M g s.n) r I)
 {y:Prop} {l:St} {q:D} (b:sH s C t A p B z r=E (y,l,q)) (L:y):
 ∃v o u,(jH #[m,m] F #[G,I]).run P w=.ok v o/\aS w0 M u l a o/\Rd (view o M u l.n) q v:=by
 obtain⟨ae,am,h,f,Z,ab,Y,X,W⟩:=pF x;unfold sH at b;split at b
 .split at b
  .rename_i e;subst e;cases b;cases k;have j:=d;cases d with|cs _ _ _ d _=>
   refine⟨_,w,g,?_,i,j⟩;cases d with
   |nil=>simp[jH,dU h,sizeOf,typeInfo,f,Builtin.lenOf,Builtin.firstCells]
   |fu=>simp[jH,dU h,sizeOf,typeInfo,f,Builtin.lenOf,Builtin.firstCells,storeCells]
   |sl _ _ U ai V ak J=>simp[jH,dU h,sizeOf,typeInfo,f,Builtin.lenOf,Builtin.firstCells,storeCells,J]
  .cases b
 .split at b
  .rename_i e;subst e;cases b;have j:=d;cases d with|cs _ _ _ d _=>
   refine⟨_,w,g,?_,i,j⟩;cases k<;>cases d<;>simp[jH,dU h,sizeOf,typeInfo,f,Builtin.lenOf,Builtin.firstCells,loadCells,loadCellsFrom,storeCells, *]
  .cases b
 .split at b
  .rename_i ah cs K;split at b
   .rename_i e;subst e;cases b;obtain⟨O,Q,R,S⟩:=L;exact NZ i x F C d k K O Q R S
   .cases b
  .cases b
end
section
variable{P:ay}{w0:Bs}{M:cb}{g:dm}{s:St}{a:cq}{w:aL}
def Im(K:aS w0 M g s a w){p:da}{q:aQ}{b:Nat}{parts:Array (Nat×eV)}(J:p.op=.buildSlice q b parts){m:aQ}{d y:Nat}(G:cy P q=E (m,d,y)){j:DL}
 (C:qs (λk=>E (k*d,d)) (List.replicate (b*d) .any) (parts.toList.map λf=>(f.1,s.ev f.2))=E j) (Y:b*d<=16777216):
 ∃e:iA,(dl a.eval p).run P w=.ok (.value (.slice (E ⟨w.heap.size,0,aa⟩) b b)) (w.alloc (.cells e m))/\j.length=e.size/\e.size=b*d/\0<d/\∀(i:Nat)(h:D),j[i]?=E h->∃l,e[i]?=E l/\Rd (view w M g s.n) h l:=by
 obtain⟨k,W,x,r,Q,Z,O,t,X⟩:=pF G;obtain⟨R,S⟩:=LM K parts.toList;have A:∀(zc:iA),((Array.range (b*d)).map (zc[·%zc.size]!)).size=b*d:=by intro zc;simp
 have U:∀(zc:iA),∃e,Instr.fill (λk=>E (k*d,d)) ((Array.range (b*d)).map (zc[·%zc.size]!)) (parts.map λ(f:Nat×eV)=>(f.1,a.eval f.2)).toList=E e/\j.length=e.size/\e.size=b*d/\∀(i:Nat)(h:D),j[i]?=E h->∃l,e[i]?=E l/\Rd (view w M g s.n) h l:=by
  intro zc;obtain⟨e,f1,f2,f3,f4⟩:=CE (V:=view w M g s.n) (λk=>E (k*d,d)) _ _ _ ((Array.range (b*d)).map (zc[·%zc.size]!)) j R S Zs (λi h u=>by
   have F:h=.any:=by
    have:=eg u;exact(List.mem_replicate.1 this).2
   have I:i<b*d:=by simpa using(ej.1 u).1
   subst F;exact⟨_,Array.getElem?_eq_getElem (by simpa using I),.any _⟩) C
  refine⟨e,?_,f2,by rw[f3,A],f4⟩;rw[<-f1];congr 1;simp
 obtain⟨e,f1,f2,f3,f4⟩:=U (if b*d=0 then #[]else W.cells);have L:(dl a.eval p).run P w=.ok (.value (.slice (E ⟨w.heap.size,0,aa⟩) b b)) (w.alloc (.cells e m)):=by
  simp only[dl,J,eW];have B:(Instr.buildSlice q b (parts.map λ(f:Nat×eV)=>(f.1,a.eval f.2))).run P w=.ok (.slice (E ⟨w.heap.size,0,aa⟩) b b) (w.alloc (.cells e m)):=by
   by_cases o:b*d=0
   .rw[aM o]at f1;simp[Instr.buildSlice,dU x,sizeOf,typeInfo,r,t,o,newRow]at f1⊢;rw[f1];simp
   .rw[av o]at f1;have z:¬16777216<b*d:=Zo;simp[Instr.buildSlice,dU x,sizeOf,typeInfo,r,t,o,z,zeroValue,Q,newRow]at f1⊢;simp[f1]
  rw[B];rfl
 exact⟨e,L,f2,f3,O,f4⟩
def Pg(l:aS w0 M g s a w){o:da}{B:aQ}{t:Nat}{parts:Array (Nat×eV)}(J:o.op=.buildSlice B t parts){z:Prop}{f:D}(b:ql P s B t parts=E (z,f))(K:z):
 ∃v x,(dl a.eval o).run P w=.ok (.value v) x/\aS w0 M g s a x/\Rd (view x M g s.n) f v:=by
 unfold ql at b;split at b
 .rename_i k p S G;split at b
  .rename_i q F;cases b;obtain⟨u,L,f2,f3,V,f4⟩:=Im l J G F K.1;have y:=ru w (.cells u k);refine⟨_,_,L,l.grow y,?_⟩;split
   .rename_i C;subst C;have O:(view w M g s.n).Ext (view (w.alloc (.cells u k)) M g s.n):=
     sq (b':=w.heap.size) (λ_=>b_ _) (λj I _=>y.block j I) (.inl (b_ _)) λ_ _ _ _ k=>.inl k
    have one:∀{d:Nat}{h:DL},[q][d]?=E h->d=0/\h=q:=λ{d h}b=>by
     cases d with
     |zero=>cases b;exact⟨A,A⟩
     |succ d=>simp at b
    refine .sl p [q] _ 0 1 (λ_ e=>u.getD e cC) Zs (by simp[ao]) (λd h i=>?_) (λd h e f i r=>?_) λd h e f i r=>?_
    .rw[(one i).2];omega
    .obtain⟨rfl,rfl⟩:=one i;obtain⟨R,m,_⟩:=f4 e f r;refine dK ?_ (λj=>?_) λW X U j=>?_
     .rw[nH (mj w _),show 0+0*p+e=e by omega,m];simp[iv,m]
     .have:=(l.m0 _ j).1;omega
     .have:=(l.base _ _ _ _ j).2;omega
    .obtain⟨rfl,rfl⟩:=one i;obtain⟨R,m,Q⟩:=f4 e f r;have:=Q.mono O;simpa[iv,m]using this
   .obtain rfl:t=0:=Zo;exact .cs p [] _ (.fu p _ 0 Zs) A
  .cases b
 .cases b
def Mz(e:aS w0 M g s a w){bq:aD}{l:da}{t:Nat}{a3:Prop}{aW:St}{u:D}(b:fr P bq s t l.op=E (a3,aW,u))(W:a3):
 ∃v w' g',(dl a.eval l).run P w=.ok (.value v) w'/\aS w0 M g' aW a w'/\Rd (view w' M g' aW.n) u v:=by
 unfold fr at b;split at b
 .rename_i d i q;split at b
  .rename_i Q aq;have G:=Ce aq (e.ev i);have aK:=ru w (.cells (a.eval i).cells d);have pQ:(dl a.eval l).run P w=.ok (.value (.pointer (E ⟨w.heap.size,0,aa⟩))) (w.alloc (.cells (a.eval i).cells d)):=by
    simp[dl,q,Instr.box,newVar,newRow]
   split at b
   .cases b;obtain⟨g',r1,aw,r3⟩:=e.make t d Q.length 1 Q (a.eval i).cells aK (mj w _) (by rw[Nat.one_mul];exact G.1.symm) (by simp[ao]) Zo G.2;exact FG
   .cases b;have a8:=e.grow aK;have f:(view w M g s.n).Ext (view (w.alloc (.cells (a.eval i).cells d)) M g s.n):=
     sq (b':=w.heap.size) (λ_=>b_ _) (λz aN _=>aK.block z aN) (.inl (b_ _)) λ_ _ _ _ d=>.inl d
    refine⟨_,_,g,pQ,a8,.cp Q _ _ (λK=>(a.eval i).cells.getD K cC) (λK u I=>?_) (λK u I=>?_)⟩
    .obtain⟨ax,B,_⟩:=G.2 K u I;refine dK ?_ (λz=>?_) λbI bK p z=>?_
     .rw[nH (mj w _),ek,B];simp[iv,B]
     .have:=(e.m0 _ z).1;omega
     .have:=(e.base _ _ _ _ z).2;omega
    .obtain⟨ax,B,X⟩:=G.2 K u I;have:=X.mono f;simpa[iv,B]using this
  .cases b
 .rename_i d q;split at b
  .rename_i Q aq;cases b;obtain⟨J,j,x,R,rfl⟩:=NB aq;have pQ:(dl a.eval l).run P w=.ok (.value (.pointer (E ⟨w.heap.size,0,aa⟩))) (w.alloc (.cells j.cells d)):=by
    simp[dl,q,Instr.alloc,zeroValue,typeInfo,x,R,newVar,newRow]
   obtain⟨g',r1,aw,r3⟩:=e.make t d (j.cells.toList.map D.sc).length 1 (j.cells.toList.map D.sc) j.cells (ru w _) (mj w _) Zs (by simp[ao]) Zs λK u I=>AR j.cells K u I;exact FG
  .cases b
 .rename_i O bt q;split at b
  .cases b;have pQ:(dl a.eval l).run P w=.ok (.value (.map (E w.heap.size))) (w.alloc (.map #[] 0)):=by
    simp[dl,q,Instr.makeMap,newObj];rfl
   obtain⟨r1,aw⟩:=e.rebind (w':=w.alloc (.map #[] 0)) t t w.heap.size 0 #[] {gen:=s.n t,elem:=0,sz:=1,cells:=[],keys:=E []} A (λz aN _=>(ru w _).block z aN) (.inl (b_ _))
    (gH.lt (ob:={gen:=s.n t,elem:=0,sz:=1,cells:=[],keys:=E []}) (vs:=#[]) ⟨#[],0,mj w _,A,A,Zs,Zs⟩) ⟨#[],0,mj w _,A,A,Zs,Zs⟩ (λz=>by cases z) (by simp[ao]) Zs Zs A A A Zs
   exact⟨_,_,_,pQ,r1,.mp t (s.n t) _ (by show s.n t<bump s.n t t;rw[kU];omega) (λam p d=>by
    have d:aj (aj g t aa) t (E (s.n t,w.heap.size,0)) t=E (s.n t,am,p):=d;rw[bH]at d;cases d;rfl)⟩
  .cases b
 .rename_i O C parts q;split at b
  .rename_i d sz aZ y;split at b
   .rename_i Q aq;cases b;obtain⟨bw,pQ,f2,f3,ai,f4⟩:=Im e q y aq W;obtain⟨g',r1,aw,r3⟩:=e.make t d sz C Q bw (ru w _) (mj w _) f3 (by have:C<=C*sz:=Nat.le_mul_of_pos_right _ ai;simp only[ao];omega) Zo f4;exact Fm
   .cases b
  .cases b
 .rename_i O a2 p q;split at b
  .rename_i d sz aZ z aV bo h y bd G;cases b;obtain⟨rfl,bh,a9,a7⟩:=W;obtain⟨J,j,L,x,R,S,ai,ah,aA⟩:=pF y;have aO:=e.ev a2;rw[bd]at aO;have aM:=e.ev p;rw[G]at aM;generalize be:a.eval a2=bJ at aO;generalize a':a.eval p=vc at aM;cases aO;cases aM;have pQ:(dl a.eval l).run P w=.ok (.value (.slice (E ⟨w.heap.size,0,aa⟩) h.toNat h.toNat)) (w.alloc (.cells (madeCells j.cells (h.toNat*J.size)) d)):=by
    simp only[dl,q,be,a',eW,run_make w O d J j L x R z bo h h bh (oq _) (by rw[aA];exact a9) a7];rfl
   have av:pf P d=j.cells.toList.map D.sc:=by simp[pf,pe,x,R]
   have bn:(j.cells.toList.map D.sc).length=sz:=by simp[S]
   obtain⟨g',r1,aw,r3⟩:=e.make t d sz h.toNat (List.replicate h.toNat (pf P d)).flatten (madeCells j.cells (h.toNat*J.size)) (ru w _) (mj w _) (by rw[size_madeCells,ah])
    (by simp only[ao];omega) (by rw[size_madeCells,ah,av];simp[S]) (λK u I=>by
     rw[av]at I;obtain⟨a0,a1⟩:=D' _ _ _ _ I;rw[bn]at a0 a1;obtain⟨ax,B,X⟩:=AR (V:=view w M g s.n) j.cells _ _ a1;exact⟨ax,by rw[Tj _ _ _ Zo (by rw[ah];exact a0),S];exact B,X⟩)
   exact Fm
  .cases b
 .rename_i p q;split at b
  .rename_i i r O F aL aJ aR;split at b
   .rename_i d sz aZ y;split at b
    .rename_i bj;subst bj;have an:p.args=#[i,r]:=by apply qU;simpa using aJ
     have ap:p.argTypes=#[F,F]:=by apply qU;simpa using aR
     have f:=e.ev i;have k:=e.ev r;have m:∀v w',(jH #[F,F] l.type #[a.eval i,a.eval r]).run P w=.ok v w'->(dl a.eval l).run P w=.ok (.value v) w':=by
      intro v w' aT;simp[dl,q,resolve,aL,an,ap,invoke,builtin,aT]
     obtain⟨J,j,L,x,R,S,ai,ah,aA⟩:=pF y;split at b
     .rename_i t0 a6 C o U;split at b
      .rename_i ob aQ;split at b
       .rename_i G;obtain⟨aE,aF,aG,aH,aB⟩:=G;cases b;rw[o]at f;rw[U]at k;generalize au:a.eval i=aX at f m;generalize aU:a.eval r=aY at k m;cases k;have bm:=f;cases f with|ms _ _ _ bx aI _ f=>
        obtain⟨bB,am,p,vs,bb,az,ar,a_,bf,bA⟩:=e.obj t0 ob aQ;obtain⟨rfl,rfl⟩:=f am p (by rw[<-aE];exact bb);have ar:=ar aB;have az:=az.cells aB;rw[aF]at ar;rw[aH]at az;have bi:w.ownsRow 0 d sz (.slice (E ⟨am,0,aa⟩) C aI) C (vs.toList.take (C*sz)):=by
         refine⟨by simp;omega,.inr ⟨am,aI,vs,A,iy _,az,?_,a_,ar,A⟩⟩;have:C*sz<=aI*sz:=by rw[<-ar,<-aG];exact bf
         exact Nat.le_of_mul_le_mul_right this ai
        exact⟨_,w,g,m _ _ (run_append_owned_none (P:=P) w 0 F l.type d J sz L x _ C _ bi),e,bm⟩
       .cases b
      .cases b
     .rename_i o U;cases b;rw[o]at f;rw[U]at k;generalize au:a.eval i=aX at f m;generalize aU:a.eval r=aY at k m;cases f;cases k;exact⟨_,w,g,m _ _ (run_append_owned_none (P:=P) w 0 F l.type d J sz L x _ 0 [] (World.ownsRow_nil _ _ _ _)),e,.sc _⟩
     .rename_i o U;cases b;rw[o]at f;rw[U]at k;generalize au:a.eval i=aX at f m;generalize aU:a.eval r=aY at k m;cases f;cases k;exact⟨_,w,g,m _ _ (by simp[jH,dU L,sizeOf,typeInfo,x,Builtin.lenOf,Builtin.firstCells,loadCells,loadCellsFrom]),e,.sc _⟩
     .rename_i o _ _;split at b
      .rename_i h Q aP;cases b;obtain⟨aC,ak,Y,br⟩:=W;obtain⟨v,w',g',Z,ab,ae⟩:=(B1 e y l.type t f k aP aC).1 o ak Y br;exact⟨v,w',g',m _ _ Z,ab,ae⟩
      .cases b
     .rename_i t0 a6 C o _;split at b
      .rename_i ob h Q aQ aP;split at b
       .rename_i G;obtain⟨aE,aF,aG,aH,aB⟩:=G;cases b;obtain⟨aC,ak,Y⟩:=W;obtain⟨v,w',g',Z,ab,ae⟩:=(B1 e y l.type t f k aP aC).2 t0 C ob (by rw[o,aE]) aQ aF aG aH aB ak Y;exact⟨v,w',g',m _ _ Z,ab,ae⟩
       .cases b
      .cases b
     .rename_i a4 rows o;rw[o]at f;obtain⟨v,w',g',Z,ab,ae⟩:=H3 e y l.type t f k b W;exact⟨v,w',g',m _ _ Z,ab,ae⟩
     .cases b
    .split at b
     .rename_i a4 rows ay;split at b
      .rename_i bk;have o:s.ev i=.cs a4 rows:=by
        generalize s.ev i=a5 at ay;cases a5<;>simp only[Co,reduceCtorEq,dy,Prod.mk.injEq]at ay;rw[ay.1,ay.2]
       have an:p.args=#[i,r]:=by apply qU;simpa using aJ
       have ap:p.argTypes=#[O,F]:=by apply qU;simpa using aR
       have f:=e.ev i;have k:=e.ev r;rw[o]at f;obtain⟨v,w',g',Z,ab,ae⟩:=H3 e y l.type t f k b W;obtain⟨J,j,L,_⟩:=pF y;obtain⟨bC,bL,bl,_⟩:=pF bk;refine⟨v,w',g',?_,ab,ae⟩;have bs:(jH #[O,F] l.type #[a.eval i,a.eval r]).run P w=.ok v w':=by
        rw[<-Z];obtain⟨bG,bF,bz,au⟩:=PF f;rw[au];simp[jH,dU L,dU bl,sizeOf,typeInfo]
       simp[dl,q,resolve,aL,an,ap,invoke,builtin,bs]
      .cases b
     split at b
     .rename_i bD bp aV bc o U;cases b;obtain⟨aC,ak,Y⟩:=W;have an:p.args=#[i,r]:=by apply qU;simpa using aJ
      have ap:p.argTypes=#[O,F]:=by apply qU;simpa using aR
      have f:=e.ev i;have k:=e.ev r;have m:∀v w',(jH #[O,F] l.type #[a.eval i,a.eval r]).run P w=.ok v w'->(dl a.eval l).run P w=.ok (.value v) w':=by
       intro v w' aT;simp[dl,q,resolve,aL,an,ap,invoke,builtin,aT]
      obtain⟨J,j,L,x,R,S,ai,ah,aA⟩:=pF y;rw[o]at f;rw[U]at k;generalize au:a.eval i=aX at f m;generalize aU:a.eval r=aY at k m;cases f;cases k;obtain⟨h,rfl⟩:∃h:Nat,aV=(h:Int):=⟨aV.toNat,Zo⟩;simp only[sv]at ak Y⊢;have pQ:=U4 (P:=P) w O F l.type d J j L (Ry bc) x R ah ai bp h Zo Y (by rw[aA];exact ak);have ba:=grownCap_ge w h 0 d;have av:pf P d=j.cells.toList.map .sc:=by simp[pf,pe,x,R]
      obtain⟨g',r1,aw,r3⟩:=e.make t d sz (grownCap w h 0 d) (List.replicate h (pf P d)).flatten (Builtin.zeroCells j.cells h++Builtin.zeroCells j.cells (grownCap w h 0 d-h)) (yF w _) (mj w.drew _)
       (by simp only[p5,size_zeroCells,S,<-p'];congr 1;omega) (grownCap_le_maxLen w h 0 d Y)
       (by rw[p5,size_zeroCells,S,jM (rows:=List.replicate h (pf P d)) (sz:=sz) (λbt e=>by rw[(List.mem_replicate.1 e).2,av];simpa using S),q'];omega) (λK u I=>by
        obtain⟨B,X⟩:=D' _ _ _ _ I;rw[av]at B X;simp only[bW,qV]at B X;obtain⟨ax,bu,bv⟩:=AR (V:=view w M g s.n) j.cells _ u X;refine⟨ax,?_,bv⟩;rw[uc (by rw[size_zeroCells];exact B)];have bg:K%j.cells.size<j.cells.size:=Nat.mod_lt _ Zo;rw[<-bu];simp[Builtin.zeroCells,B,bg])
      exact⟨_,_,g',m _ _ pQ,r1,pV (by show s.n t<bump s.n t t;rw[kU];omega) ba r3⟩
     .cases b
   .cases b
  .cases b
 .cases b
end
end
end
end Go.Fw
