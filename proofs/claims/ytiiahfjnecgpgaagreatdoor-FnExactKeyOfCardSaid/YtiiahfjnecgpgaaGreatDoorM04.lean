/- A part of the proof about KeyOf. No condition. -/
import Derived.RangeFuncRecord
import Derived.RangeFuncCalls
import Derived.OrdersIn
import Derived.TacticsIn
import Derived.Maps.RangeWalk
import Derived.Test.YtiiahfjnecgpgaaGreatDoorM01
import Derived.Test.YtiiahfjnecgpgaaGreatDoorM03
set_option maxRecDepth 100000
set_option maxHeartbeats 8000000
set_option linter.unusedSimpArgs false
set_option linter.unusedVariables false
set_option linter.defProp false
open Go renaming Program->ay,TypeId->aQ,World->aL,FuncId->bK,Oper->da,undef->cC,Exit->gk,Operand->eV,Op->eU,Act->cq,Value->aE,Func->iw,Code->dH,maxLen->ao,execOp->dl,wpList->f'
open Option renaming some->E,none->aa
open Bool renaming true->ad,false->al
namespace Go.Fw
noncomputable section
section
open Go.RowKit
def r'(op:eU):Bool:=ma op==0||ma op==1
def Aa(bc:List Nat)(s:St):eU->Prop
 |.load _ x=>match s.ev x with|.rf a _ _=>a∈bc|_=>True
 |_=>True
def uW(bc:aD)(dst:ON)(s s':St):Prop:=s'.nt=s.nt/\(∀t,dst≠E t->s'.env t=s.env t)/\∀a∈bc,s'.H a=s.H a
def z_(b:Bool)(bc:aD)(s:St)(op:eU):Prop:=match b with|true=>True|false=>Aa bc s op
def Eo(op:eU):Bool:=match op with|.store ..=>ad|.mapUpdate ..=>ad|_=>al
def tK(op:eU)(bc:aD):aD:=match op with|.store ..=>[]|.mapUpdate ..=>[]|_=>bc
def Ul{op:eU}(a:Eo op=al)(bc:aD):tK op bc=bc:=by cases op<;>first|rfl|(simp[Eo]at a)
def uK(P:ay)(s:St)(f:D)(args:List D)(dst:Option Nat)(K:St->Prop):Prop:=
 match f with
 |.fn g first en=>∃r,(Sp P g (first++args++en) r/\∀d∈first++args++en,Cl d)/\K (s.put dst r)
 |_=>False
def Ch(s:St)(dst:Option Nat)(K:St->Prop):Option (Prop×D)->Prop
 |some (p,d)=>p/\K (s.put dst d)
 |none=>False
def wN(P:ay)(op:eU)(dst:Option Nat)(K:St->Prop)(s:St):Prop:=
 match op with
 |.call ⟨.value f,args,_⟩=>uK P s (s.ev f) (args.toList.map s.ev) dst K
 |.buildSlice ty a parts=>Ch s dst K (ql P s ty a parts)
 |_=>False
def jB(P:ay)(mu bc:aD)(b a:Bool)(op:eU)(dst:ON)(K:aU)(s:St):Prop:=
 if b=ad then z_ a bc s op/\ka s dst K (eH P s op)else if a=ad then wN P op dst K s else ef P mu op dst (λs'=>uW (tK op bc) dst s s'/\K s') s
def x3(P:ay)(mu bc cQ:List Nat)(ops:List (Option Nat))(o:da)(K:St->Prop)(s:St):Prop:=
 match o.guard with
 |none=>jB P mu bc (r' o.op) (pS cQ o.dst) o.op o.dst K s
 |some (j,a)=>ij (lo ops s j) a (jB P mu bc (r' o.op) (pS cQ o.dst) o.op o.dst K) (sb o.dst K) s
def jn(bc cQ:List Nat)(o:da):Nat:=
 match ma o.op with
 |0=>3
 |1=>if pS cQ o.dst=ad then 1 else if bc.isEmpty=ad then 3 else 2
 |2=>if pS cQ o.dst=ad then 3 else 0
 |3=>if pS cQ o.dst=ad then 3 else 0
 |_=>0
def ss(P:ay)(bc:aD)(lv:Nat)(ops:f_)(s:St)(o:da)(d:D):Prop:=
 ∀(H:bt)(n:b5)(T:dd)(N:Nat),(lv<3->∀a∈bc,H a=s.H a)->(lv<2->H=s.H/\T=s.T)->vW P ops {s with H:=H,n:=n,T:=T,N:=N} o d
def mE(P:ay)(mu bc:aD)(lv:da->Nat)(ops:f_)(o:da)(K:aU)(s:St):Prop:=
 if lv o=0 then ef P mu o.op o.dst (λs'=>uW (tK o.op bc) o.dst s s'/\K s') s else∃d,ss P bc (lv o) ops s o d/\K (s.put o.dst d)
def w7(lv:da->Nat)(ops:f_)(a b:da):Bool:=a.apart ops b&&lv a !=0&&(lv b !=0||lv a==3||(lv a==2&&!Eo b.op))
inductive Ord where
 |fin (l:List Nat)
 |bE (l:List Nat) (k1:Nat) (b:Ord) (a:Nat) (d:Ord)
 |sZ (l:List Nat) (k1:Nat) (b:Ord) (a:Nat) (d:Ord) (e:Nat) (f:Ord)
def Ord.len:Ord->Nat
 |.fin l=>l.length
 |.bE l _ a _ _=>l.length+(a.len+1)
 |.sZ l _ a _ _ _ _=>l.length+(a.len+1)
def tq(lv:da->Nat)(ops:Array da)(b:Array Bool->Bool):List Nat->Array Bool->Bool
 |[],a=>b a
 |k::l,a=>(Region.ready .any ops a).contains k&&((List.range ops.size).all λj=>match ops[k]?,ops[j]? with
  |some d,E e=>a.getD j ad||j==k||w7 lv ops d e||uP .any ops ops.size j k
  |_,_=>al)&&tq lv ops b l (a.setIfInBounds k ad)
def qD(lv:da->Nat)(ops:Array da):Ord->Array Bool->Bool
 |.fin l,e=>tq lv ops (λa=>(Region.ready .any ops a).isEmpty) l e
 |.bE l k1 b d f,e=>tq lv ops (λa=>(Region.ready .any ops a).contains k1&&((Region.ready .any ops a).all λj=>j==k1||j==d)&&b.len==f.len&&qD lv ops b (a.setIfInBounds k1 ad)&&qD lv ops f (a.setIfInBounds d ad)) l e
 |.sZ l k1 b d f g h,e=>tq lv ops (λa=>(Region.ready .any ops a).contains k1&&((Region.ready .any ops a).all λj=>j==k1||j==d||j==g)&&b.len==f.len&&b.len==h.len&&qD lv ops b (a.setIfInBounds k1 ad)&&qD lv ops f (a.setIfInBounds d ad)&&qD lv ops h (a.setIfInBounds g ad)) l e
def lU(lv:da->Nat)(ops:f_)(o:Ord):Bool:=(o.len==ops.size)&&qD lv ops o (Array.replicate ops.size al)&&ops.all λo=>lv o !=0||o.guard.isNone
def gD(ops:gY)(l:aD):gY:=l.filterMap λi=>ops[i]?
def pc(step:da->(St->Prop)->St->Prop)(ops:List da):Ord->(St->Prop)->St->Prop
 |.fin l,K,s=>mC step (gD ops l) K s
 |.bE l k1 b a d,K,s=>mC step (gD ops l) (λs=>mC step (gD ops [k1]) (pc step ops b K) s/\mC step (gD ops [a]) (pc step ops d K) s) s
 |.sZ l k1 b a d e f,K,s=>mC step (gD ops l) (λs=>mC step (gD ops [k1]) (pc step ops b K) s/\mC step (gD ops [a]) (pc step ops d K) s/\mC step (gD ops [e]) (pc step ops f K) s) s
def pv(P:ay)(mu bc:List Nat)(lv:da->Nat)(ops:Array da)(K:St->Prop):Nat->Array Bool->St->Prop
 |0,a,s=>Region.ready .any ops a=[]/\K s
 |b+1,a,s=>(Region.ready .any ops a=[]->K s)/\
  ∀i∈Region.ready .any ops a,∃o,ops[i]?=E o/\mE P mu bc lv ops o (pv P mu bc lv ops K b (a.setIfInBounds i ad)) s
section
variable{P:ay}{mu bc cQ:aD}{lv:da->Nat}{ops:f_}
def Vq{s s':St}(b:s'.H=s.H)(d:s'.n=s.n){p:Nat}{op:eU}(f:∀a∈op.operands,s'.ev a=s.ev a):
 fr P mu s' p op=(fr P mu s p op).map λe=>(e.1,{s' with H:=e.2.1.H,n:=e.2.1.n},e.2.2):=by
 cases op
 case box h a=>
  simp only[fr];rw[f a rr];cases kr (s.ev a)with
  |none=>rfl
  |some u=>
   simp only;split
   .simp[iH,b,d]
   .simp[<-b,<-d]
 case alloc h=>
  simp only[fr];cases pe P h with
  |none=>rfl
  |some u=>simp[iH,b,d]
 case makeMap h w=>
  simp only[fr];cases w<;>simp[DN,b,d]
 case buildSlice m i z=>
  simp only[fr];rw[D1 (s:=s) (s':=s') λa l=>f a (by simpa[Op.operands]using l)];split
  .split<;>simp[iH,b,d]
  .rfl
 case makeSlice m i j=>
  simp only[fr];rw[f i rr,f j rr];split<;>simp[iH,b,d]
 case call j=>
  obtain⟨t,args,q⟩:=j;cases t
  case builtin r=>
   cases r
   case append=>
    have g:∀a∈args.toList,s'.ev a=s.ev a:=λa l=>f a (by simp[Op.operands,Call.operands];simpa using l);simp only[fr];generalize args.toList=i at g
    match i,q.toList,g with
    |[a,x],[m,B],g=>
     simp only;rw[g a Zs,g x Zs,b];cases cy P m with
     |none=>rfl
     |some e=>
      obtain⟨h,A,y⟩:=e;simp only[Lj b]
      repeat' split
      all_goals(try unfold sH)
      all_goals(try simp only[Lj b])
      repeat' split
      all_goals first|rfl|(simp[<-b,<-d];done)|(simp[iH,b,d];done)|(simp[o8,b,d];done)
    |[],_,_=>rfl
    |[_],_,_=>rfl
    |_::_::_::_,_,_=>rfl
    |[_,_],[],_=>rfl
    |[_,_],[_],_=>rfl
    |[_,_],_::_::_::_,_=>rfl
   all_goals rfl
  all_goals rfl
 all_goals rfl
def Vu{s b:St}(d:b.H=s.H)(g:b.n=s.n){op:eU}(a:∀e∈op.operands,b.ev e=s.ev e):
 kY P b op=(kY P s op).map λf=>(f.1,{b with H:=f.2.H,n:=f.2.n}):=by
 cases op
 case store i e j=>
  simp only[kY];rw[a e rr,a j rr,d];split
  .exact Zg
  .rfl
 case mapUpdate i h k v=>
  simp only[kY];rw[a h rr,a k rr,a v rr,d];split
  .split
   .split
    .split
     .unfold vy;split<;>simp[<-g,d]
     .rfl
    .rfl
   .rfl
  .split
   .split
    .simp only[Du d];split<;>simp[<-g]
    .rfl
   .rfl
  .rfl
 all_goals rfl
def Xh{op:eU}{dst x:ON}{d:D}{K:aU}{s:St}(f:∀y∈op.operands,(s.put x d).ev y=s.ev y)(z:∀a,dst=E a->x≠E a)(h:ef P mu op dst K (s.put x d)):
 ef P mu op dst (λg=>(∀a,x=E a->g.env a=s.env a)/\K (g.put x d)) s:=by
 have r:∀(b:St)(e:D),(∀a,x=E a->b.env a=s.env a)->∀a,x=E a->(b.put dst e).env a=s.env a:=λb e j a i=>by
  rw[<-j a i];have:(b.put dst e).ev (.tmp a)=b.ev (.tmp a):=LU λaA aw k=>by exact Zg
  exact this
 have w:∀(H:bt)(n:b5)(T:dd)(e:D),({s.put x d with H:=H,n:=n,T:=T}:St).put dst e=(({s with H:=H,n:=n,T:=T}:St).put dst e).put x d:=λH n T e=>by
  rw[put_comm _ (x:=dst) (y:=x) e d z];congr 1;cases x<;>simp only[St.put];split<;>rfl
 have B:∀{y:Option D},ka (s.put x d) dst K y->ka s dst (λg=>(∀a,x=E a->g.env a=s.env a)/\K (g.put x d)) y:=λ{y}k=>by
  cases y with
  |none=>exact k
  |some e=>exact⟨r s e λ_ _=>A,by rw[<-put_comm s (x:=x) (y:=dst) d e λa i k=>z a k i];exact k⟩
 have F:∀{o:eU},(∀y∈o.operands,(s.put x d).ev y=s.ev y)->eH P (s.put x d) o=eH P s o:=λl=>Ep oa l;have m:∀{a:Nat}{o:eU},(∀y∈o.operands,(s.put x d).ev y=s.ev y)->dst=E a->ls a K (fr P mu (s.put x d) a o)->ls a (λg=>(∀a,x=E a->g.env a=s.env a)/\K (g.put x d)) (fr P mu s a o):=λ{a o}l i k=>by
  rw[Vq oa xR l]at k;cases hs:fr P mu s a o with
  |none=>rw[hs]at k;exact k
  |some C=>
   obtain⟨ak,b,e⟩:=C;rw[hs]at k;have p:=Vr hs;refine⟨k.1,?_,?_⟩
   .rw[<-i];exact r b e λa _=>by rw[<-p]
   .have:=k.2;rw[<-i]at this;rw[<-i,<-p];have W:=w b.H b.n s.T e;have t:({s.put x d with H:=b.H,n:=b.n,T:=s.T}:St)={s.put x d with H:=b.H,n:=b.n}:=by rw[<-r_ (s:=s) (dst:=x) (d:=d)]
    exact Zg
 have I:∀{o:eU},(∀y∈o.operands,(s.put x d).ev y=s.ev y)->tV dst K (kY P (s.put x d) o)->tV dst (λg=>(∀a,x=E a->g.env a=s.env a)/\K (g.put x d)) (kY P s o):=λ{o}l k=>by
  rw[Vu oa xR l]at k;cases hs:kY P s o with
  |none=>rw[hs]at k;exact k
  |some C=>
   obtain⟨ak,b⟩:=C;rw[hs]at k;have p:=Vv hs;refine⟨k.1,r b _ λa _=>by rw[<-p],?_⟩;have:=k.2;rw[<-p];have W:=w b.H b.n s.T (.sc (.tuple #[]));have t:({s.put x d with H:=b.H,n:=b.n,T:=s.T}:St)={s.put x d with H:=b.H,n:=b.n}:=by rw[<-r_ (s:=s) (dst:=x) (d:=d)]
   exact Zg
 have av:∀(T:dd)(e:D),({s.put x d with T:=T}:St).put dst e=(({s with T:=T}:St).put dst e).put x d:=λT e=>by
  have:=w s.H s.n T e;have t:({s.put x d with H:=s.H,n:=s.n,T:=T}:St)={s.put x d with T:=T}:=by
   rw[show s.H=(s.put x d).H from oa.symm,show s.n=(s.put x d).n from xR.symm]
  rw[t]at this;exact this
 cases op
 case call R=>
  obtain⟨S,args,ar⟩:=R;cases S
  case value X=>
   have ab:∀y∈args.toList,(s.put x d).ev y=s.ev y:=λy ai=>f y (by simp[Op.operands,Call.operands];exact .inr (by simpa using ai));simp only[ef]at h⊢;rw[f X (by simp[Op.operands,Call.operands]),ze ab]at h;unfold jc at h⊢;split at h
   .rcases h with⟨q,j,u⟩|⟨O,L,am,U,q,j,u,G,Z,au⟩|h
    .rw[oa,r_]at j;exact .inl ⟨q,j,r s q λ_ _=>A,by rw[<-put_comm s (x:=x) (y:=dst) d q λa i k=>z a k i];exact u⟩
    .rw[r_]at j;rw[oa]at G;refine .inr (.inl ⟨O,L,am,U,q,j,u,G,Z,λe aq l=>?_⟩);exact Zg
    .refine .inr (.inr λap J Y M an env ah vs ae ax=>?_);have V:({s.put x d with env:=env}:St)={s with env:=env}:=by
      cases x<;>simp only[St.put];split<;>rfl
     obtain⟨ay,az⟩:=h ap J Y M an env (by rw[V];exact ah) vs ae Zg;exact Zg
   .exact h.elim
  case invoke=>simp only[ef]at h⊢;rw[F f]at h;exact B h
  case builtin Q=>
   cases Q
   case append=>
    cases dst with
    |none=>exact h
    |some a=>simp only[ef]at h⊢;exact m f A h
   all_goals(simp only[ef]at h⊢;rw[F f]at h;exact B h)
 case store=>simp only[ef]at h⊢;exact I f h
 case mapUpdate=>simp only[ef]at h⊢;exact I f h
 case box=>cases dst with|none=>exact h|some a=>simp only[ef]at h⊢;exact m f A h
 case alloc=>cases dst with|none=>exact h|some a=>simp only[ef]at h⊢;exact m f A h
 case makeMap=>cases dst with|none=>exact h|some a=>simp only[ef]at h⊢;exact m f A h
 case buildSlice=>cases dst with|none=>exact h|some a=>simp only[ef]at h⊢;exact m f A h
 case makeSlice=>cases dst with|none=>exact h|some a=>simp only[ef]at h⊢;exact m f A h
 all_goals(simp only[ef]at h⊢;rw[F f]at h;exact B h)
def Vt{s b:St}{e:aQ}{a:eV}(h:b.ev a=s.ev a)(g:∀d f o,s.ev a=.rf d f o->b.H d=s.H d):eH P b (.load e a)=eH P s (.load e a):=by
 simp only[eH,pb];rw[h];cases i:s.ev a<;>simp only[qE];rw[g _ _ _ i]
def A'{o:da}(b:lv o=0){K:aU}{s:St}:mE P mu bc lv ops o K s=ef P mu o.op o.dst (λa=>uW (tK o.op bc) o.dst s a/\K a) s:=aM b
def qS{o:da}(b:lv o≠0){K:aU}{s:St}:mE P mu bc lv ops o K s=∃a,ss P bc (lv o) ops s o a/\K (s.put o.dst a):=av b
def A_{o:da}{K b:aU}(e:∀s,K s->b s){s:St}(a:mE P mu bc lv ops o K s):mE P mu bc lv ops o b s:=by
 by_cases d:lv o=0
 .rw[A' d]at a⊢;exact vR (λs a=>⟨a.1,e _ a.2⟩) a
 .rw[qS d]at a⊢;exact⟨_,a.choose_spec.1,e _ a.choose_spec.2⟩
def EW{e:Nat}{s b:St}{o:da}{f:D}(m:b.nt=s.nt)(j:∀i∈o.looksAt ops,b.env i=s.env i)(l:e<3->∀d∈bc,b.H d=s.H d)(g:e<2->b.H=s.H/\b.T=s.T)(k:ss P bc e ops s o f):ss P bc e ops b o f:=
 λH n T N p h=>X0 (s:={s with H:=H,n:=n,T:=T,N:=N}) m A A j (k H n T N (λa d hs=>(p a d hs).trans (l a d hs)) λa=>⟨(h a).1.trans (g a).1,(h a).2.trans (g a).2⟩)
def xQ{s:St}{x:ON}{d:D}{a:Nat}(b:x≠E a):(s.put x d).env a=s.env a:=LU (x:=.tmp a) λf e k=>b (by cases k;exact e)
def Xf{j f:da}(i:w7 lv ops j f=ad){K:aU}{s:St}(h:mE P mu bc lv ops j (mE P mu bc lv ops f K) s):mE P mu bc lv ops f (mE P mu bc lv ops j K) s:=by
 simp only[w7,b3,qW,bne_iff_ne,l6,oo]at i;obtain⟨⟨B,l⟩,i⟩:=i;obtain⟨r,t,u⟩:=Oper.apart_spec B;rw[qS l]at h;obtain⟨d,x,h⟩:=h;have L:∀{A:ON}{g w:D}{o:da}{s:St},(∀a,A=E a->a∉o.looksAt ops)->ss P bc (lv o) ops s o w->ss P bc (lv o) ops (s.put A g) o w:=λe=>EW AF (λa b=>xQ λk=>e a k b) (λ_ _ _=>by rw[oa]) λ_=>⟨oa,r_⟩;by_cases m:lv f=0
 .rw[A' m]at h⊢;refine vR (λz⟨G,⟨p,I,q⟩,J⟩=>?_) (Xh (I9 λa b=>xQ λk=>r a k b) (λa b k=>t a k b) h);rw[AF,AF]at p;have y:∀a,f.dst≠E a->z.env a=s.env a:=λa b=>by
   by_cases e:j.dst=E a
   .exact G a e
   .rw[<-xQ (s:=z) (d:=d) e,I a b,xQ e]
  rw[qS l];simp only[oa]at q;refine⟨⟨p,y,q⟩,d,EW p (λa b=>y a λk=>u a k b) (λF M hs=>q M ?_) (λF=>by omega) x,J⟩;rwa[Ul (by rcases i with(h|h)|h;exact absurd m h;omega;exact h.2)]
 .rw[qS m]at h⊢;obtain⟨g,C,h⟩:=h;refine⟨g,EW AF.symm (λa b=>(xQ λk=>r a k b).symm) (λ_ _ _=>by rw[oa]) (λ_=>⟨oa.symm,r_.symm⟩) C,?_⟩;rw[qS l];exact⟨d,L u x,by rw[<-put_comm s d g t];exact h⟩
def BX{y:Bs}(u:(ops.all λo=>lv o !=0||o.guard.isNone)=ad){K:aU}{j:gk->cq->aL->Prop}(q:∀a d,LK y K a d->j .normal a d):∀(h:Nat)(p:nv){i:cb}{m:dm}{s:St}{a:cq}{d:aL},aS y i m s a d->pv P mu bc lv ops K h p s->wpAny P .any ops j h p a d
 |0,_,i,m,s,a,d,g,e=>⟨e.1,q _ _ ⟨s,m,i,e.2,g⟩⟩
 |h+1,p,i,m,s,a,d,g,e=>by
  refine⟨λl=>q _ _ ⟨s,m,i,e.1 l,g⟩,λw G=>?_⟩;obtain⟨o,z,f⟩:=e.2 w G;unfold wpOp;simp only[z];have x:∀{B:Prop},o.wp P a d (LK y (pv P mu bc lv ops K h (p.setIfInBounds w ad))) j->o.wp P a d (wpAny P .any ops j h (p.setIfInBounds w ad)) j\/B:=λe=>.inl (Oper.wp_mono (λa d⟨O,L,I,C,D⟩=>BX u q h _ D C) e);by_cases t:lv o=0
  .have F:o.guard=aa:=by simpa[t]using Array.all_eq_true'.1 u o (Array.mem_of_getElem? z)
   rw[aM (by simp[Region.wanted,F])];rw[A' t]at f;exact x (yd g (vR (λs e=>e.2) f))
  .rw[qS t]at f;obtain⟨J,b,f⟩:=f;have b:=b s.H s.n s.T s.N (λ_ _ _=>A) λ_=>⟨A,A⟩;unfold vW at b;split at b
   .rename_i r;rw[aM (by simp[Region.wanted,r])];exact x (NA g b f)
   .rename_i M Q r;rcases Jv g b with⟨l,b⟩|⟨l,b⟩
    .rw[aM (by simp only[Region.wanted,r];exact l)];exact x (NA g b f)
    .rw[av (by simp only[Region.wanted,r];rw[l];simp)];subst b;exact BX u q h _ (g.put (.sc cC) o.dst) f
def um(ops:f_)(a:nv):Prop:=∀j b,ops[j]?=E b->a.getD j al=ad->∀e∈b.after,Region.binds .any e=ad->a.getD e.on al=ad
def NT{K:aU}{e:Nat}{i:da}(y:ops[e]?=E i):∀(j:Nat)(b:nv)(s:St),um ops b->
 (∀a h,ops[a]?=E h->a≠e->b.getD a ad=al->w7 lv ops i h=ad\/uP .any ops ops.size a e=ad)->
 e∈Region.ready .any ops b->mE P mu bc lv ops i (pv P mu bc lv ops K j (b.setIfInBounds e ad)) s->pv P mu bc lv ops K (j+1) b s:=by
 intro j
 induction j with
 |zero=>
  intro b s p r u f;refine⟨λF=>Zg,λa g=>?_⟩;by_cases d:a=e
  .subst d;exact⟨i,y,f⟩
  .obtain⟨t,h,m,_⟩:=mem_ready.1 g;have x:b.getD e al=al:=by
    have:=(mem_ready.1 u).1;exact Zg
   rcases r a h m d t with q|w
   .have J:lv i≠0:=by simp[w7]at q;exact q.1.2
    rw[qS J]at f;obtain⟨O,_,f,_⟩:=f;have A:=ready_mono g d;rw[f]at A;cases A
   .exact absurd g (Cs p x _ _ w).1
 |succ j L=>
  intro b s p r u f;refine⟨λF=>Zg,λa g=>?_⟩;by_cases d:a=e
  .subst d;exact⟨i,y,f⟩
  obtain⟨t,h,m,_⟩:=mem_ready.1 g;have x:b.getD e al=al:=by
   have:=(mem_ready.1 u).1;exact Zg
  rcases r a h m d t with q|w
  .refine⟨h,m,A_ (λD l=>L (b.setIfInBounds a ad) D (Cg p g) (λk M G I C=>r k M G I ?_) (ready_mono u (Ne.symm d)) (by rw[Array.setIfInBounds_comm _ _ d];exact l)) (Xf q (A_ (λD l=>?_) f))⟩
   .by_cases z:a=k
    .subst z;exact t
    .rw[getD_set_ne ad z]at C;exact C
   .obtain⟨Q,B,l⟩:=l.2 a (ready_mono g d);rw[m]at B;cases B;exact l
  .exact absurd g (Cs p x _ _ w).1
section
variable{step:da->(aU)->aU}(hs:∀(k:Nat)(o:da),ops[k]?=E o->∀(K:aU)(s:St),step o K s->mE P mu bc lv ops o K s)
include hs
def yz{K R:aU}{j:Array Bool->Bool}{n:Nat}(l:∀(i:nv)(s:St),um ops i->j i=ad->R s->pv P mu bc lv ops K n i s):
 ∀(a:aD)(b:nv)(s:St),um ops b->tq lv ops j a b=ad->mC step (gD ops.toList a) R s->pv P mu bc lv ops K (a.length+n) b s
 |[],_,s,g,f,d=>by
  rw[gG,ek];exact l _ s g (by simpa[tq]using f) d
 |k::a,b,s,g,f,d=>by
  simp only[tq,b3]at f;obtain⟨⟨w,r⟩,q⟩:=f;have h:k∈Region.ready .any ops b:=by simpa using w
  obtain⟨_,o,e,_⟩:=mem_ready.1 h;have u:gD ops.toList (k::a)=o::gD ops.toList a:=by
   simp[gD,e]
  rw[u]at d;have:(k::a).length+n=(a.length+n)+1:=by simp;omega
  rw[this];refine NT e (a.length+n) b s g (λy A m t x=>?_) h (A_ (λz p=>yz l a _ z (Cg g h) q p) (hs k o e _ _ d));have:=b6.1 r y (rb.2 (iY.1 m).1);simpa[e,m,x,t]using this
def NV{K:aU}:∀(o:Ord)(a:nv)(s:St),um ops a->qD lv ops o a=ad->pc step ops.toList o K s->pv P mu bc lv ops K o.len a s:=by
 have one:∀{h:Ord}{n k:Nat}{e:nv}{s:St},um ops e->k∈Region.ready .any ops e->h.len=n->qD lv ops h (e.setIfInBounds k ad)=ad->mC step (gD ops.toList [k]) (pc step ops.toList h K) s->
  (∀(a:nv)(s:St),um ops a->qD lv ops h a=ad->pc step ops.toList h K s->pv P mu bc lv ops K h.len a s)->
  ∃o,ops[k]?=E o/\mE P mu bc lv ops o (pv P mu bc lv ops K n (e.setIfInBounds k ad)) s:=by
  intro h n k e s f w D C x G;obtain⟨_,o,q,_⟩:=mem_ready.1 w;have F:gD ops.toList [k]=[o]:=by simp[gD,q]
  rw[F]at x;exact⟨o,q,A_ (λO z=>by rw[<-D];exact G _ O (Cg f w) C z) (hs k o q _ _ x)⟩
 intro o
 induction o with
 |fin m=>exact λa s f l j=>yz hs (R:=K) (n:=0) (λe s _ g b=>⟨by simpa using g,b⟩) m a s f l j
 |bE m I L J M r t=>
  refine λa s f l j=>yz hs (λe s i g b=>?_) m a s f l j;simp only[b3,b6,qW,l6,List.contains_iff_mem]at g;obtain⟨⟨⟨⟨f1,f2⟩,f3⟩,f4⟩,f5⟩:=g;refine⟨λp=>(by rw[p]at f1;cases f1),λu d=>?_⟩;rcases f2 u d with rfl|rfl
  .exact one i d A f4 b.1 r
  .exact one i d f3.symm f5 b.2 t
 |sZ m I L J M Q S r t B=>
  refine λa s f l j=>yz hs (λe s i g b=>?_) m a s f l j;simp only[b3,b6,qW,l6,List.contains_iff_mem]at g;obtain⟨⟨⟨⟨⟨⟨f1,f2⟩,f3⟩,y⟩,f4⟩,f5⟩,f6⟩:=g;refine⟨λp=>(by rw[p]at f1;cases f1),λu d=>?_⟩;rcases f2 u d with(rfl|rfl)|rfl
  .exact one i d A f4 b.1 r
  .exact one i d f3.symm f5 b.2.1 t
  .exact one i d y.symm f6 b.2.2 B
end
def I1{step:da->(aU)->aU}{K:aU}{s:St}(hs:∀(k:Nat)(o:da),ops[k]?=E o->(lv o=0->o.guard=aa)->∀(K:aU)(s:St),step o K s->mE P mu bc lv ops o K s)(o:Ord)(l:P.follows .mixedOrders=ad)(a:lU lv ops o=ad)(i:pc step ops.toList o K s):rI P ops K s:=by
 refine⟨l,λx b e d h t m p=>?_⟩;simp only[lU,b3,l6]at a;refine BX (mu:=mu) (bc:=bc) a.2 (K:=K) (λd h⟨s,e,b,q,r⟩=>m d h ⟨s,e,b,q,r⟩) _ _ p ?_;have:=NV (λk o g=>hs k o g λj=>by simpa[j]using Array.all_eq_true'.1 a.2 o (Array.mem_of_getElem? g)) o _ s (λu w _ f=>by rw[Qr]at f;cases f) a.1.2 i;rw[a.1.1]at this;exact this
def wW{s:St}{H:bt}{n:b5}{T:dd}{N:Nat}:({s with H:=H,n:=n,T:=T,N:=N}:St).ev=s.ev:=funext λa=>by cases a<;>rfl
def Ju{f:aU}{e:Nat}{o:da}{K:aU}{s:St}(h:f s->∃b,(∀(H:bt)(n:b5)(T:dd)(N:Nat),(e<3->∀i∈bc,H i=s.H i)->(e<2->H=s.H/\T=s.T)->k8 P {s with H:=H,n:=n,T:=T,N:=N} o.op b)/\K (s.put o.dst b))
 (a:match o.guard with|none=>f s|some (d,j)=>ij (lo (fE ops.toList) s d) j f (sb o.dst K) s):∃b,ss P bc e ops s o b/\K (s.put o.dst b):=by
 unfold ss vW;cases g:o.guard with
 |none=>simp only[g]at a;exact h a
 |some t=>
  obtain⟨d,j⟩:=t;simp only[g]at a;have p:∀(H:bt)(n:b5)(T:dd)(N:Nat),lo (fE ops.toList) {s with H:=H,n:=n,T:=T,N:=N} d=lo (fE ops.toList) s d:=λ_ _ _ _=>A;simp only[p];unfold ij at a⊢;split at a
  .split at a
   .obtain⟨b,q,r⟩:=h a;exact⟨b,λH n T N l m=>by rw[aM ‹_›];exact q H n T N l m,r⟩
   .exact⟨.sc cC,λ_ _ _ _ _ _=>by rw[av ‹_›],a⟩
  .exact⟨.sc cC,λ_ _ _ _ _ _=>A,a⟩
  .exact a.elim
def TV{o:da}(D:jn bc cQ o≠0){K:aU}{s:St}(a:jB P mu bc (r' o.op) (pS cQ o.dst) o.op o.dst K s):
 ∃b,(∀(H:bt)(n:b5)(T:dd)(N:Nat),(jn bc cQ o<3->∀f∈bc,H f=s.H f)->(jn bc cQ o<2->H=s.H/\T=s.T)->k8 P {s with H:=H,n:=n,T:=T,N:=N} o.op b)/\K (s.put o.dst b):=by
 obtain⟨t,op,p,pos,O,R⟩:=o;unfold jB at a;dsimp only at a⊢;split at a
 .rename_i e;obtain⟨m,a⟩:=a;cases hs:eH P s op with
  |none=>rw[hs]at a;exact a.elim
  |some b=>
   rw[hs]at a;refine⟨b,λH n T N J I=>?_,a⟩;have j:ma op=0->eH P {s with H:=H,n:=n,T:=T,N:=N} op=E b:=λw=>by rw[Vs w λh _=>congrFun wW h];exact hs
   cases op
   case load M h=>
    show eH P _ (.load M h)=E b;rw[Vt (s:=s) (congrFun wW h) λf Q o u=>?_]
    .exact hs
    .by_cases d:pS cQ t=ad
     .exact congrFun (I (by simp[jn,ma,d])).1 f
     .simp only[z_,eq_false_of_ne_true d,Aa,u]at m;refine J ?_ f m;cases bc with
      |nil=>cases m
      |cons=>simp[jn,ma,d]
   case call i=>
    obtain⟨l,args,q⟩:=i;cases l
    case value=>cases e
    case invoke=>exact j A
    case builtin r=>cases r<;>first|exact j A|cases e
   all_goals first|exact j A|cases e
 .rename_i e;split at a
  .rename_i d;cases op<;>try exact a.elim
   case buildSlice p F parts=>
    simp only[wN]at a;cases g:ql P s p F parts with
    |none=>rw[g]at a;exact a.elim
    |some G=>
     rw[g]at a;exact⟨_,λH n T N _ _=>⟨G.1,by simp only[ql,wW]at g⊢;exact g,a.1⟩,a.2⟩
   rename_i i;obtain⟨l,args,q⟩:=i;cases l<;>try exact a.elim
   simp only[wN,uK]at a;split at a
   .obtain⟨L,⟨x,y⟩,z⟩:=a;rename_i C;exact⟨L,λH n T N _ _=>by simp only[k8,wW,C];exact .inl ⟨x,λ_ b B=>y b (eg B)⟩,z⟩
   .exact a.elim
  .rename_i d;exact absurd (by cases op<;>first|rfl|(exfalso;exact e A)|(simp only[jn];split<;>simp_all[r'])) D
def Vp{o:da}(h:jn bc cQ o=0->o.guard=aa){K:aU}{s:St}(b:x3 P mu bc cQ (fE ops.toList) o K s):mE P mu bc (jn bc cQ) ops o K s:=by
 by_cases a:jn bc cQ o=0
 .rw[A' a];unfold x3 at b;simp only[h a,jB]at b;obtain⟨l,op,p,pos,i,m⟩:=o;dsimp only at b a⊢;split at b
  .rename_i d;simp only[r',qW,l6]at d;rcases d with d|d<;>simp only[jn,d]at a
   .cases a
   .split at a
    .cases a
    .split at a<;>cases a
  .rename_i d;split at b
   .rename_i e;cases op<;>try exact b.elim
    case buildSlice=>simp[jn,ma,e]at a
    rename_i f;obtain⟨g,args,j⟩:=f;cases g<;>try exact b.elim
    simp[jn,ma]at a;exact absurd e (by simp[a])
   .exact b
 .rw[qS a];exact Ju (TV a) b
def LN:∀(a pre:gY),gD (pre++a) (List.range' pre.length a.length)=a
 |[],_=>rfl
 |o::a,pre=>by
  have:=LN a (pre++[o]);simp only[dM,bf,a8,bF,di,gG,ek]at this;simp only[gD,di,List.range'_succ]at this⊢;rw[List.filterMap_cons_some (b:=o) Zs,this]
def D2:gD ops.toList (List.range ops.size)=ops.toList:=by
 have:=LN ops.toList [];rw[List.range_eq_range'];simpa using this
end
def Cw{P:ay}{mu:aD}{ops:f_}{K:aU}{s:St}(o:Ord)(bc cQ:aD)(b:P.follows .mixedOrders=ad)(d:lU (jn bc cQ) ops o=ad)(a:pc (x3 P mu bc cQ (fE ops.toList)) ops.toList o K s):rI P ops K s:=
 I1 (λ_ _ _ e _ _ k=>Vp e k) o b d a
def jO(P:ay)(mu bc cQ:aD)(ops:List (ON))(l:gY)(K:aU):St->Prop:=mC (x3 P mu bc cQ ops) l K
def pd(P:ay)(mu bc cQ:aD)(ops:gY)(o:Ord)(K:aU)(s:St):Prop:=pc (x3 P mu bc cQ (fE ops)) ops o K s
section
variable{P:ay}{mu bc cQ:aD}{ops:List (ON)}{os:gY}{K:aU}{s:St}
def Xp{a:aD}:pd P mu bc cQ os (.fin a) K s=jO P mu bc cQ (fE os) (gD os a) K s:=cr A A
def Xq{d:aD}{a b:Nat}{e f:Ord}:pd P mu bc cQ os (.bE d a e b f) K s=jO P mu bc cQ (fE os) (gD os d) (λs=>jO P mu bc cQ (fE os) (gD os [a]) (pd P mu bc cQ os e K) s/\jO P mu bc cQ (fE os) (gD os [b]) (pd P mu bc cQ os f K) s) s:=cr A A
def Xr{e:aD}{a b d:Nat}{f g h:Ord}:pd P mu bc cQ os (.sZ e a f b g d h) K s=jO P mu bc cQ (fE os) (gD os e) (λs=>jO P mu bc cQ (fE os) (gD os [a]) (pd P mu bc cQ os f K) s/\jO P mu bc cQ (fE os) (gD os [b]) (pd P mu bc cQ os g K) s/\jO P mu bc cQ (fE os) (gD os [d]) (pd P mu bc cQ os h K) s) s:=cr A A
def T8:jO P mu bc cQ ops [] K s=K s:=cr A A
def T5{a:ON}{op:eU}{e:aQ}{pos:String}{d:Array Edge}{b:gY}:jO P mu bc cQ ops (⟨a,op,e,pos,d,aa⟩::b) K s=jB P mu bc (r' op) (pS cQ a) op a (jO P mu bc cQ ops b K) s:=cr A A
def T6{a:ON}{op:eU}{g:aQ}{pos:String}{f:Array Edge}{b:gY}{d:Nat}{e:Bool}:jO P mu bc cQ ops (⟨a,op,g,pos,f,E (d,e)⟩::b) K s=ij (lo ops s d) e (jB P mu bc (r' op) (pS cQ a) op a (jO P mu bc cQ ops b K)) (sb a (jO P mu bc cQ ops b K)) s:=cr A A
def TU{op:eU}{a:ON}:jB P mu bc ad ad op a K s=ka s a K (eH P s op):=by simp[jB,z_]
def TS{op:eU}{a:ON}:jB P mu bc ad al op a K s=(Aa bc s op/\ka s a K (eH P s op)):=by simp[jB,z_]
def TR{b:eV}{args:Array eV}{d:Array aQ}{a:ON}:jB P mu bc al ad (.call ⟨.value b,args,d⟩) a K s=uK P s (s.ev b) (args.toList.map s.ev) a K:=by simp[jB,wN]
def TQ{d:aQ}{b:Nat}{parts:Array (Nat×eV)}{a:ON}:jB P mu bc al ad (.buildSlice d b parts) a K s=Ch s a K (ql P s d b parts):=by simp[jB,wN]
def Pj{b:ON}{d:Prop}{a:D}:Ch s b K (E (d,a))=(d/\K (s.put b a)):=cr A A
def D0{op:eU}{a:ON}:jB P mu bc al al op a K s=ef P mu op a (λb=>uW (tK op bc) a s b/\K b) s:=by simp[jB]
end
def CQ{bc:aD}{h f:Nat}{e:lf}{b d:bt}{r t:b5}{l m:dd}{i j:Nat}{p:D}:uW bc (E h) ⟨e,b,r,f,l,i⟩ ⟨af e h p,d,t,f,m,j⟩=∀g∈bc,d g=b g:=by
 apply propext;constructor
 .exact λa=>a.2.2
 .exact λa=>⟨A,λu q=>by simp only[af];rw[av];rintro rfl;exact q A,a⟩
def Qj{bc:aD}{f:Nat}{e:lf}{b d:bt}{m p:b5}{j l:dd}{h i:Nat}:uW bc aa ⟨e,b,m,f,j,h⟩ ⟨e,d,p,f,l,i⟩=∀g∈bc,d g=b g:=by
 apply propext;exact⟨λa=>a.2.2,λa=>⟨A,λ_ _=>A,a⟩⟩
def oP{P:ay}{mu:aD}{ops:f_}{K:aU}{s:St}(o:Ord)(bc cQ:aD)(b:P.follows .mixedOrders=ad)(d:lU (jn bc cQ) ops o=ad)(a:pd P mu bc cQ ops.toList o K s):qq P mu ops K s:=Cw o bc cQ b d a
def IZ{P:ay}{mu:aD}{ops:f_}{K:aU}{s:St}(a bc cQ:aD)(d:P.follows .mixedOrders=ad)(e:lU (jn bc cQ) ops (.fin a)=ad)(b:jO P mu bc cQ (fE ops.toList) (gD ops.toList a) K s):qq P mu ops K s:=Cw (.fin a) bc cQ d e b
def PL{P:ay}{mu:aD}{ops:f_}{K:aU}{s:St}(bc cQ:aD)(b:P.follows .mixedOrders=ad)(d:lU (jn bc cQ) ops (.fin (List.range ops.size))=ad)(a:jO P mu bc cQ (fE ops.toList) ops.toList K s):qq P mu ops K s:=IZ _ bc cQ b d (by rw[D2];exact a)
def uR{P:ay}{mu:aD}{ops:f_}{K:aU}{s:St}(a:aU)(o:Ord)(bc cQ:aD)(d:P.follows .mixedOrders=ad)(e:lU (jn bc cQ) ops o=ad)(b:pd P mu bc cQ ops.toList o a s)(f:∀s,a s->K s):qq P mu ops K s:=Cy f (oP o bc cQ d e b)
def wU(P:ay)(ops:f_)(p:Prop)(K:aU)(s:St):Prop:=(P.follows .mixedOrders=ad/\lU (λ_=>1) ops (.fin (List.range ops.size))=ad/\p)\/rI P ops K s
def PK{P:ay}{ops:f_}{a:Prop}{K:aU}{s:St}(d:P.follows .mixedOrders=ad)(e:lU (λ_=>1) ops (.fin (List.range ops.size))=ad)(b:a):wU P ops a K s:=.inl ⟨d,e,b⟩
def Cu{P:ay}{ops:f_}{f:Prop}{K:aU}{s:St}(a bc cQ:aD)(d:P.follows .mixedOrders=ad)(e:lU (jn bc cQ) ops (.fin a)=ad)(b:jO P [] bc cQ (fE ops.toList) (gD ops.toList a) K s):wU P ops f K s:=.inr (Cw (.fin a) bc cQ d e b)
def Cv{P:ay}{ops:f_}{e:Prop}{K:aU}{s:St}(bc cQ:aD)(b:P.follows .mixedOrders=ad)(d:lU (jn bc cQ) ops (.fin (List.range ops.size))=ad)(a:jO P [] bc cQ (fE ops.toList) ops.toList K s):wU P ops e K s:=Cu _ bc cQ b d (by rw[D2];exact a)
def Xu{P:ay}{mu:aD}{b:gw}{s:St}{i:Nat}{os:f_}(_:Ai os.toList=al):vc P mu (.region i os ad) b s=wU P os (vS P (fE os.toList) os.toList (xO b .normal) s) (xO b .normal) s:=
 propext ⟨.inr,λa=>a.elim (λ⟨d,e,h⟩=>I1 (mu:=[]) (bc:=[]) (step:=MA P (fE os.toList)) (λk o _ _ K s a=>by
  rw[qS Zs];exact Ju (λa=>let⟨g,d,e⟩:=Xg a;⟨g,λl q p m _ f=>Nz (f Zo).1 (f Zo).2 (λj _=>congrFun wW j) d,e⟩) a) _ d e (by show mC _ (gD os.toList (List.range os.size)) _ _;rw[D2];exact h)) id⟩
def yQ{P:ay}{s:St}{e:bK}{first a args:DL}{d:ON}{K:aU}(b:D)(g:Sp P e (first++args++a) b)(i:∀f∈first++args++a,Cl f)(h:K (s.put d b)):uK P s (.fn e first a) args d K:=⟨b,⟨g,i⟩,h⟩
end
section
open Go.RowKit
structure gp (P:ay) (f:bK) (dV:List D) (e:aQ) (sz:Nat) (rows:List (List D)):Prop where
 ok:lL P f
 uM:∀d∈rows.flatten,Cl d
 run:∀(w:aL)(M:Nat->Prop)(vs:List aE),MB M w->dV.length=vs.length->
  (∀(i:Nat)(d:D)(v:aE),dV[i]?=E d->vs[i]?=E v->Rd (view w M (λ_=>aa) db) d v)->
  Calls P f vs.toArray w λz w'=>∃v y,z=.returned v/\Below w.heap.size w w'/\lF w' M e sz rows v y/\∀b,y=E b->w.heap.size<=b
variable {g3:ay}{g5:bK}{gc:aU}
def OQ{a:St}{t:Nat}{args:DL}{e:aQ}{sz:Nat}{h:ct}(s:gp g3 g5 args e sz h)
 (J:∀d∈args,Cl d) (F:h=[]->gc (a.put (E t) (.sc (.slice aa 0 0))))
 (G:gc ((iH a t e sz h.flatten).put (E t) (.ms t (a.n t) h.length))):gx g3 a g5 args (E t) gc:=by
 intro an g i ah r am hr vs L S;refine⟨s.ok,?_⟩;have Q:∀{d:D}{v:aE},Cl d->Rd (view r g i a.n) d v->Rd (view r (λb=>g b\/∃t x c,i t=E (x,b,c)) (λ_=>aa) db) d v:=λl k=>k.closed (λb Y q z=>by
  refine⟨?_,hM⟩;obtain⟨j,p⟩:=cR z;refine dK (dr z) ?_ Zs;rintro(k|⟨t,x,c,k⟩)
  .exact j k
  .exact p _ _ _ k) l
 refine(s.run r (λb=>g b\/∃t x c,i t=E (x,b,c)) vs ⟨λb k=>?_,.inl hr.jr.1,hr.jr.2⟩ L (λW d v j p=>Q (J d (eg j)) (S W d v j p))).mono ?_
 .exact Bq
 rintro ap w'⟨v,ae,rfl,f,y,V⟩;refine⟨v,?_⟩;cases ae with
 |none=>
  obtain⟨O,rfl⟩:=y;exact⟨_,a.H,a.n,a.T,i,g,A,hr.grow f,.sc _,F O⟩
 |some b=>
  obtain⟨c,ab,rfl,w,R,u,M,I⟩:=y;have P:=hr.D8 (w':=w') t t b c ab {gen:=a.n t,elem:=e,sz,cells:=h.flatten} A (λk K _=>f.block k K) (.inl (V b A)) (xB w) (.of w A) (λ_=>R) u.1 M
   (λX d l=>by
    obtain⟨q,B,C⟩:=I X d l;refine⟨q,B,C.mono ⟨λai Y q e=>⟨?_,hM⟩,λ_=>iy _,λa x b c U e=>absurd U (ow _)⟩⟩;obtain⟨o,_⟩:=cR e;refine dK (dr e) (λk=>o (.inl (.inl k))) λZ x ak k=>?_;by_cases m:Z=t
    .subst m;rw[bH]at k;cases k;exact o (.inr A)
    .rw[bV _ _ m,bV _ _ m]at k;exact o (.inl (.inr ⟨_,_,_,k⟩))) f.os f.tape f.output f.size
  exact⟨_,_,_,a.T,_,g,A,P,pV (by show a.n t<bump a.n t t;rw[kU];omega) u.2 (bH _ _ _),G⟩
variable {h:Nat}
def yP{a:St}{first d args:DL}(e:aQ)(j:Nat)(i:ct)(m:gp g3 g5 (first++args++d) e j i)
 (p:∀l∈first++args++d,Cl l) (g:∀H n k,aH [h] H e j i k->(∀b,b≠h->H b=a.H b)->gc ({a with H:=H,n:=n}.put (E h) k)):jc g3 a (.fn g5 first d) args (E h) gc:=
 .inr (.inr (OQ m p (λo=>g a.H a.n _ (.inl ⟨o,A⟩) λ_ _=>A) (g _ _ _ (.inr ⟨h,a.n h,Zs,A,by simp[bH]⟩) λb f=>by show aj (aj a.H h aa) h _ b=_;rw[bV _ _ f,bV _ _ f])))
variable {a3:DL}{bv:aQ}{V:Nat}
def gp.eo{a:iw}{e:dH}{f:ct}(ai:aD)(y:eP)(t:g3.funcs[g5]?=E a)(s:a.body=E e)(j:(a.name== "runtime.NumGoroutine")=al)
 (S:a.ntmps=V) (W:a.results.toList=y) (R:a3.length<=V) (zC:∀d∈f.flatten,Cl d) (J:vc g3 ai e (tQ g3 y bv h f) (sd a3 V)):gp g3 g5 a3 bv h f:=by
 subst W;refine⟨⟨a,t,j,by rw[s];rfl⟩,zC,λm F vs K Q Y=>?_⟩;subst S;refine calls_of_wp t s (wp_mono (lD e _ (aS.start (Ts:=[]) aa A K Q R (λae d v hd Z=>(Y ae d v hd Z).mono (kI λb=>by exact Zg)) Zs Zs) J) λI p g⟨z,au,aq,k1,k2⟩=>?_);have r:∀d,dj g3 z a.results.toList=E d->rB bv h f z d->p.defers=[]/\∃v,(results a p.tmps).run g3 g=.ok v g/\∃B D,Ending.returned v=.returned B/\Below m.heap.size m g/\lF g F bv h f B D/\∀b,D=E b->m.heap.size<=b:=by
  rintro d hd i;obtain⟨v,C,ap⟩:=qM k2 hd;refine⟨k2.defers,v,ap,v,?_⟩;rcases i with⟨j,rfl⟩|⟨am,ak,rfl,U,rfl,rfl,⟨ax,av⟩,w⟩
  .cases C;exact⟨aa,A,mL k2.below Zs,⟨j,A⟩,Zs⟩
  .obtain⟨_,b,e,an,kv,P,X,i,aw,M⟩:=k2.obj am ak U;have kv:=kv;cases C with|ms _ _ _ ar G O ab=>
   obtain⟨rfl,rfl⟩:=ab b e kv;refine⟨E b,A,mL k2.below Zs,⟨G,an,A,P.cells w,X w,⟨i,O.2⟩,?_,λah d hd=>?_⟩,λb' L=>?_⟩
   .exact Zg
   .obtain⟨u,u1,u2⟩:=M ah d Zg;exact GX
   .cases L;rcases(k2.base _ _ _ _ kv).1 with k|⟨_,k,_⟩
    .exact k
    .cases k
 cases I
 case normal=>obtain⟨d,hd,l⟩:=k1;exact r d hd l
 case ret=>obtain⟨d,hd,l⟩:=k1;exact r d hd l
 all_goals exact k1.elim
def GK.empty{e:aU}{d:St}(b o:Nat)(u:d.env b=.sl o [])(w:e {d with env:=af d.env b (.sc (.slice aa 0 0))})(k:∀f r,e {d with env:=af d.env b (.sc (.slice (E f) 0 r))}):GK e d:=by
 intro F p s f C a;have g:=a.env b;rw[u]at g;generalize B:f.tmps.getD b cC=v at g;have i:∀j,v=j->e {d with env:=af d.env b (.sc j)}->∃m t q,e m/\aS F q t m f C:=λj z x=>by
  refine⟨_,s,p,x,a.defers,a.size,λh=>?_,a.obj,a.base,a.inj,a.below,a.m0,a.mm,a.zm,a.tree,a.nd,a.og,a.wm⟩;show Rd _ (if h=b then _ else _) _;by_cases l:h=b
  .subst l;rw[aM A,B,z];exact .sc _
  .rw[av l];exact a.env h
 generalize y:D.sl o []=G at g;cases g<;>cases y
 .exact i _ A w
 .exact i _ A (k _ _)
 .exact i _ A (k _ _)
structure wq (P:ay) (f:bK) (post:List D) (e:aQ) (sz:Nat) (rows a:List (List D)) (r:D):Prop where
 ok:lL P f
 len:a.length=rows.length
 cl:∀d∈rows.flatten,Cl d
 uM:∀d∈a.flatten,Cl d
 Yg:(mN r).isSome=ad
 run:∀(w:aL)(M:Nat->Prop)(vs:List aE)(u:aE)(x:Option Nat),MB M w->(∀b,x=E b->¬M b)->post.length=vs.length->
  (∀(i:Nat)(d:D)(v:aE),post[i]?=E d->vs[i]?=E v->Rd (view w (λb=>M b\/x=E b) (λ_=>aa) db) d v)->
  lF w M e sz rows u x->
  Calls P f (u::vs).toArray w λz w'=>∃v,z=.returned v/\(lu w M λb=>x=E b).Ok w'/\lF w' M e sz a u x/\∀V,Rd V r v
variable {i0:ON}{i2 up:ct}
def OU{s:St}{post:DL}{x:D}{a:aQ}{sz:Nat}{I:D}{S:aD}(h:wq g3 g5 post a sz i2 up I)(B:aH S s.H a sz i2 x)
 (Y:∀d∈post,Cl d) (W:∀H,aH S H a sz up x->(∀t,t∉S->H t=s.H t)->gc ({s with H:=H}.put i0 I)):gx g3 s g5 (x::post) i0 gc:=by
 intro aL e f ai g env hr vs av z;obtain⟨ae,u,ah,rfl,ak,R,U,aP,V⟩:=Mv (pre:=[]) av z;obtain rfl:ae=[]:=by cases ae with|nil=>rfl|cons=>simp at ak
 refine⟨h.ok,?_⟩;rcases B with⟨rfl,rfl⟩|⟨t0,K,X,rfl,az⟩
 .cases U;have pP:∀{d:D}{v:aE},Cl d->Rd (view g e f s.n) d v->Rd (view g (λb=>(e b\/∃t x c,f t=E (x,b,c))\/(aa:ON)=E b) (λ_=>aa) db) d v:=λw k=>k.closed (λb ab u q=>by
   refine⟨?_,hM⟩;obtain⟨m,p⟩:=cR q;refine dK (dr q) ?_ Zs;rintro((k|⟨t,x,c,k⟩)|k)
   .exact m k
   .exact p _ _ _ k
   .cases k) w
  refine(h.run g (λb=>e b\/∃t x c,f t=E (x,b,c)) ah _ aa ⟨λb k=>?_,.inl hr.jr.1,hr.jr.2⟩ Zs R (λC d v m p=>pP (Y d (eg m)) (V C d v m p)) ⟨A,A⟩).mono ?_
  .exact Bq
  rintro aM F⟨v,rfl,l,aR,z⟩;have hb:Below g.heap.size g F:=mL l Zs;refine⟨v,I,s.H,s.n,s.T,f,e,A,hr.grow hb,z _,W s.H (.inl ⟨?_,A⟩) λ_ _=>A⟩;have:=h.len;simpa using this
 .obtain⟨aI,b0,Q,aK,i,L,aC,an,ax,JD⟩:=hr.obj t0 _ az;have i:f t0=E (K,b0,Q):=i;have L:=L.cells A;cases U with|ms _ _ _ aN J ar B=>
  obtain⟨rfl,rfl⟩:=B b0 Q i;have CZ:¬e b0:=λk=>(hr.m0 b0 k).2 _ _ _ i;have pP:∀{d:D}{v:aE},Cl d->Rd (view g e f s.n) d v->Rd (view g (λb=>(e b\/∃t x c,f t=E (x,b,c)/\b≠b0)\/E b0=E b) (λ_=>aa) db) d v:=λw k=>k.closed (λb ab u q=>by
   refine⟨?_,hM⟩;obtain⟨m,p⟩:=cR q;refine dK (dr q) ?_ Zs;rintro((k|⟨t,x,c,k,_⟩)|k)
   .exact m k
   .exact p _ _ _ k
   .cases k;exact p _ _ _ i) w
  refine(h.run g (λb=>e b\/∃t x c,f t=E (x,b,c)/\b≠b0) ah _ (E b0) ⟨λb k=>?_,.inl hr.jr.1,hr.jr.2⟩ ?_ R (λC d v m p=>pP (Y d (eg m)) (V C d v m p)) ⟨J,aK,A,L,aC A,⟨an,ar.2⟩,ax,λj d hj=>?_⟩).mono ?_
  .exact FN
  .exact FO
  .exact Ha
  rintro aM F⟨v,rfl,l,⟨c,aJ,aG,au,aB,am,aw,ap⟩,z⟩;obtain rfl:J=c:=by injection aG
  have G:∀k,k<g.heap.size->k≠b0->F.heap[k]?=g.heap[k]?:=λk y nS=>l.block k λq=>by
   rcases q with q|q
   .exact absurd q (by simp only;omega)
   .cases q;exact nS A
  have aq:=(hr.base _ _ _ _ i);have Z:(view g e f s.n).Ext (view F e f s.n):=sq (b':=b0) (λ_=>b_ _) (λk y nS=>G k y nS) (.inr ⟨_,_,_,i⟩) λ_ _ _ _ a=>.inl a;have aA:aS aL e f {s with env:=env,H:=aj s.H t0 (E {gen:=K,elem:=a,sz,cells:=up.flatten})} ai F:=by
   refine⟨hr.defers,hr.size,λC=>(hr.env C).mono Z,λr O o=>?_,λr x b c a=>⟨(hr.base _ _ _ _ a).1,gv (hr.base _ _ _ _ a).2 l.size⟩,hr.inj,hr.below.step l.os l.tape l.output l.size λk y=>G k (gv (Bs.r7 y) hr.below.size) λq=>y (q▸aq.1),
    λb k=>⟨gv (hr.m0 b k).1 l.size,(hr.m0 b k).2⟩,hr.mm,hr.zm,tX (s:={s with env:=env}) hr λb k=>G b (hr.m0 b k).1 λq=>CZ (q▸k),hr.nd,hr.og,hr.wm⟩
   by_cases M:r=t0
   .subst M;have o:aj s.H r _ r=E O:=o;rw[bH]at o;cases o;refine⟨aI,b0,J,aJ,i,.of au A,λ_=>aB,am.1,aw,λj d w=>?_⟩;obtain⟨u,k1,k2⟩:=ap j d w;refine⟨u,k1,k2.mono ⟨λb' ab u a=>⟨?_,hM⟩,λ_=>iy _,λs x b c B a=>absurd B (ow _)⟩⟩;obtain⟨P,_⟩:=cR a;refine dK (dr a) (λk=>P (.inl (.inl k))) λr x aO k=>?_;by_cases hb:b'=b0
    .exact P (.inr hb)
    .exact P (.inl (.inr ⟨_,_,_,k,hb⟩))
   .have o:aj s.H t0 _ r=E O:=o;rw[bV _ _ M]at o;refine(hr.obj r O o).mono Z λx b c a=>⟨a,G b (hr.base _ _ _ _ a).2 λq=>?_⟩;subst q;exact M (hr.inj _ _ _ _ _ _ _ a i)
  refine⟨v,I,_,s.n,s.T,f,e,A,aA,z _,W _ (.inr ⟨t0,K,X,by rw[h.len],bH _ _ _⟩) λt aF=>bV _ _ λq=>aF (q▸X)⟩
def It{a:St}{first g args:DL}(S:aD)(post:DL)(f:D)(b:aQ)(d:Nat)(i j:ct)(h:D)(l:wq g3 g5 post b d i j h)
 (o:first++args++g=f::post) (q:aH S a.H b d i f) (p:∀k∈post,Cl k)
 (m:∀H,aH S H b d j f->(∀e,e∉S->H e=a.H e)->gc ({a with H:=H}.put i0 h)):jc g3 a (.fn g5 first g) args i0 gc:=by
 refine .inr (.inr ?_);rw[o];exact OU l q p m
def wS(e:aQ)(sz:Nat)(rows:ct)(s:St):Prop:=∃ob,s.H 0=E ob/\ob.gen=0/\ob.elem=e/\ob.sz=sz/\ob.cells=rows.flatten/\ob.keys=aa
def AK(P:ay)(a:List ResultVar)(e:aQ)(sz:Nat)(rows:List (List D))(r:D)(nil:Bool):gk->St->Prop
 |.normal,s=>dj P s a=E r/\(nil=ad\/wS e sz rows s)
 |.ret,s=>dj P s a=E r/\(nil=ad\/wS e sz rows s)
 |_,_=>False
def wq.eo{i:ay}{e:iw}{u:dH}{post:DL}{o:aQ}{q k:ct}{p:D}{nt:Nat}(ai:aD)(S:eP)(M:i.funcs[g5]?=E e)(K:e.body=E u)(aJ:(e.name== "runtime.NumGoroutine")=al)
 (aK:e.ntmps=nt) (aM:e.results.toList=S) (aG:post.length+1<=nt) (F:k.length=q.length) (aA:∀m∈q.flatten,Cl m) (ab:∀m∈k.flatten,Cl m) (L:(mN p).isSome=ad)
 (au:q=[]->vc i ai u (AK i S o h k p ad) (sd (.sc (.slice aa 0 0)::post) nt)) (av:vc i ai u (AK i S o h k p al) (se [] post o h q nt)):wq i g5 post o h q k p:=by
 subst aM;refine⟨⟨e,M,aJ,by rw[K];rfl⟩,F,aA,ab,L,λI r vs an ap X aP aF ah ae=>?_⟩;subst aK;cases ap with
 |none=>
  obtain⟨a,rfl⟩:=ae;have aL:k=[]:=by subst a;simpa using F
  have P:=aS.start (dV:=a'::post) (vs:=.slice aa 0 0::vs) (nt:=e.ntmps) (Ts:=[]) aa A X de de (λaR m v g Q=>by
   cases aR with
   |zero=>simp at g Q;subst g;subst Q;exact .sc _
   |succ R=>exact(ah R m v (by simpa using g) (by simpa using Q)).mono (kI λf=>by rintro(d|⟨_,d,_⟩);exact .inl d;cases d)) Zs Zs
  refine calls_of_wp M K (wp_mono (lD u _ P (au a)) λJ t l⟨G,ar,aq,j,b⟩=>?_);have w:dj i G e.results.toList=E p->t.defers=[]/\∃v,(results e t.tmps).run i l=.ok v l/\∃B,Ending.returned v=.returned B/\(lu I r λf=>(aa:ON)=E f).Ok l/\lF l r o h k (.slice aa 0 0) aa/\∀s,Rd s p B:=λg=>by
   obtain⟨v,U,V⟩:=qM b g;exact⟨b.defers,v,V,v,A,⟨b.below.os,b.below.tape,b.below.output,b.below.size,λd O=>b.below.block d λz=>O (z.elim .inl λ⟨_,z,_⟩=>by cases z)⟩,⟨aL,A⟩,λs=>Ct L U⟩
  cases J
  case normal=>exact w j.1
  case ret=>exact w j.1
  all_goals exact j.elim
 |some f=>
  obtain⟨x,a0,rfl,aC,aN,Z,aH,ax⟩:=ae;have a:=aS.My (pre:=[]) (us:=[]) (nt:=e.ntmps) X (aP f A) A aF (by simpa using aG) Zs ah aC aN Z aH ax;have P:aS ⟨I,r,λd=>E f=E d,aj (λ_=>aa) 0 (E (0,f,x)),bump db 0,[]⟩ r (aj (λ_=>aa) 0 (E (0,f,x))) (se [] post o h q e.ntmps) _ I:=
   ⟨a.defers,a.size,a.env,a.obj,a.base,a.inj,⟨a.below.os,a.below.tape,a.below.output,a.below.size,a.below.block⟩,a.m0,a.mm,a.zm,a.tree,a.nd,Og.start,λ_ _=>iy _⟩
  refine calls_of_wp M K (wp_mono (lD u _ P av) λJ t l⟨G,ar,aq,j,b⟩=>?_);have w:dj i G e.results.toList=E p->wS o h k G->t.defers=[]/\∃v,(results e t.tmps).run i l=.ok v l/\∃B,Ending.returned v=.returned B/\(lu I r λd=>E f=E d).Ok l/\lF l r o h k (.slice (E ⟨f,0,aa⟩) q.length x) (E f)/\∀s,Rd s p B:=by
   rintro g⟨aT,aU,aV,rfl,rfl,ak,am⟩;obtain⟨v,U,V⟩:=qM b g;obtain⟨_,C,W,us,y,aE,aO,aw,aI,az⟩:=b.obj 0 aT aU;have y:=y;rw[aV]at y;have Y:aj (λ_=>aa) 0 (E (0,f,x)) 0=E (0,C,W):=b.og.2 0 0 C W (by show 0<bump db 0 0;rw[kU];omega) y;rw[bH]at Y;cases Y;refine⟨b.defers,v,V,v,A,⟨b.below.os,b.below.tape,b.below.output,b.below.size,λd O=>b.below.block d O⟩,⟨x,us,by rw[F],aE.cells am,aO am,⟨aw,by rw[F];exact Z.2⟩,by rw[<-ak];exact aI,λR m g=>?_⟩,λs=>Ct L U⟩;have aB:=eg g;rw[<-ak]at g;obtain⟨an,aW,aX⟩:=az R m g;refine⟨an,aW,aX.closed (λC a1 ap d=>⟨?_,hM⟩) (ab m aB)⟩;obtain⟨aY,aZ⟩:=cR d;refine dK (dr d) ?_ Zs;rintro(z|rfl)
   .exact aY ((b.mm C).2 (.inl z))
   .exact aZ _ _ _ y
  cases J
  case normal=>exact w j.1 (j.2.resolve_left Zs)
  case ret=>exact w j.1 (j.2.resolve_left Zs)
  all_goals exact j.elim
variable {ce:St}
def UG:dj g3 ce []=E (.tp []):=cr A A
variable {wp:eP}{am:D}
def UT{nil:Bool}:AK g3 wp bv h i2 am nil .ret ce=(dj g3 ce wp=E am/\(nil=ad\/wS bv h i2 ce)):=cr A A
def US{nil:Bool}:AK g3 wp bv h i2 am nil .normal ce=(dj g3 ce wp=E am/\(nil=ad\/wS bv h i2 ce)):=cr A A
end
section
open Go.RowKit
section
variable{P:ay}{mu:aD}{s:St}{t i j:Nat}{ty e:aQ}{sz sM:Nat}{K:aU}{S:aD}{rows bx:ct}
def Lk{b:D}{d:Nat×DL}(a:cF s e sz b=E d)(g:0<d.1):(∃l k,b=.sl l k)\/∃t f h,b=.ms t f h:=by
 unfold cF at a;split at a
 .exact .inl ⟨_,_,A⟩
 .exact .inr ⟨_,_,_,A⟩
 .cases a;exact absurd g Zs
 .cases a
def dS.eF(p:cy P ty=E (e,sz,sM))(u:aH S s.H e sz rows (s.env i))(y:∀k∈rows,k.length=sz)(b:cF s e sz (s.env j)=E (bx.length,bx.flatten))(f:0<bx.length)(l:bx.flatten.all b4=ad)
 (o:(rows.length+bx.length)*sM<=140737488355328) (r:rows.length+bx.length<=ao)
 (m:∀H n w,aH [t] H e sz (rows++bx) w->(∀d,d≠t->d∉S->H d=s.H d)->K ({s with H:=H,n:=n}.put (E t) w)):
 dS P mu (.call ⟨.builtin .append,#[.tmp i,.tmp j],#[ty,ty]⟩) (E t) K s:=by
 show ls t K (fr P mu s t (.call ⟨.builtin .append,#[.tmp i,.tmp j],#[ty,ty]⟩));have D:=u;rcases u with⟨rfl,h⟩|⟨t0,C,hS,h,z⟩
 .have g:fr P mu s t (.call ⟨.builtin .append,#[.tmp i,.tmp j],#[ty,ty]⟩)=E (bx.flatten.all b4=ad/\0<bx.length/\bx.length*sM<=140737488355328/\bx.length<=ao,iH s t e sz bx.flatten,.ms t (s.n t) bx.length):=by
   rcases Lk b f with⟨B,k,a⟩|⟨t1,x,A,a⟩<;>rw[a]at b<;>simp only[fr,St.ev,h,a,p,aI]<;>rw[b]
  rw[g];refine⟨⟨l,f,by simpa using o,by simpa using r⟩,m (iH s t e sz bx.flatten).H _ _ (.inr ⟨t,s.n t,Zs,Zs,?_⟩) λd k1 k2=>?_⟩
  .simp[iH,bH]
  .simp only[iH];rw[bV _ _ k1,bV _ _ k1]
 .have g:fr P mu s t (.call ⟨.builtin .append,#[.tmp i,.tmp j],#[ty,ty]⟩)=E (bx.flatten.all b4=ad/\(rows.length+bx.length)*sM<=140737488355328/\rows.length+bx.length<=ao,o8 s t0 t e sz (rows.flatten++bx.flatten),.ms t (s.n t) (rows.length+bx.length)):=by
   rcases Lk b f with⟨B,k,a⟩|⟨t1,x,A,a⟩<;>rw[a]at b<;>simp only[fr,St.ev,h,a,p,aI]<;>rw[z,b]<;>simp only[jM y,iK,aI]
  rw[g];refine⟨⟨l,o,r⟩,m (o8 s t0 t e sz (rows.flatten++bx.flatten)).H _ _ (.inr ⟨t,s.n t,Zs,Zs,?_⟩) λd k1 k2=>?_⟩
  .simp[o8,bH]
  .exact FP
def GK.uE(B:i≠j)(hi:cy P ty=E (e,sz,sM))(u:aH S s.H e sz rows (s.env i))(p:∀I∈rows,I.length=sz)(F:cF s e sz (s.env j)=E (bx.length,bx.flatten))(G:bx=[]->s.env j=.sl sz [])(g:bx.flatten.all b4=ad)
 (o:(rows.length+bx.length)*sM<=140737488355328) (r:rows.length+bx.length<=ao)
 (h:∀H n f m,(∀d,d≠j->m d=s.env d)->aH [t] H e sz (rows++bx) f->(∀b,b≠t->b∉S->H b=s.H b)->K ({s with env:=m,H:=H,n:=n}.put (E t) f)):
 GK (dS P mu (.call ⟨.builtin .append,#[.tmp i,.tmp j],#[ty,ty]⟩) (E t) K) s:=by
 by_cases x:bx=[]
 .subst x;have w:=G A;rcases u with⟨rfl,l⟩|⟨t0,J,hS,l,C⟩
  .have y:∀v,(v=.slice aa 0 0\/∃a c,v=.slice (E a) 0 c)->dS P mu (.call ⟨.builtin .append,#[.tmp i,.tmp j],#[ty,ty]⟩) (E t) K {s with env:=af s.env j (.sc v)}:=λv hv=>by
    show ls t K (fr P mu _ t (.call ⟨.builtin .append,#[.tmp i,.tmp j],#[ty,ty]⟩));have e1:af s.env j (.sc v) i=a':=by simp only[af];rw[av B];exact l
    have e2:af s.env j (.sc v) j=.sc v:=by simp[af]
    have k:fr P mu {s with env:=af s.env j (.sc v)} t (.call ⟨.builtin .append,#[.tmp i,.tmp j],#[ty,ty]⟩)=E (True,{s with env:=af s.env j (.sc v)},.sc (.slice aa 0 0)):=by
     exact FI
    rw[k];exact⟨trivial,h s.H s.n _ _ (λd D=>by simp[af,D]) .nil λ_ _ _=>A⟩
   exact GK.empty j sz w (y _ (.inl A)) λa c=>y _ (.inr ⟨a,c,A⟩)
  .refine GK.intro ?_;show ls t K (fr P mu s t (.call ⟨.builtin .append,#[.tmp i,.tmp j],#[ty,ty]⟩));have k:fr P mu s t (.call ⟨.builtin .append,#[.tmp i,.tmp j],#[ty,ty]⟩)=E (([]:DL).all b4=ad/\(rows.length+0)*sM<=140737488355328/\rows.length+0<=ao,o8 s t0 t e sz (rows.flatten++[]),.ms t (s.n t) (rows.length+0)):=by
    simp only[fr,St.ev,l,w,hi,aI,cF,gG,fX,C,jM p,iK]
   rw[k];refine⟨⟨A,by simpa using o,by simpa using r⟩,h (o8 s t0 t e sz (rows.flatten++[])).H _ _ s.env (λ_ _=>A) (.inr ⟨t,s.n t,Zs,Zs,?_⟩) λb k1 k2=>?_⟩
   .simp[o8,bH]
   .exact FP
 .exact GK.intro (dS.eF hi u p F (q0.2 x) g o r λH n f g z=>h H n f s.env (λ_ _=>A) g z)
end
def fj.nil{sz:Nat}:fj (.sc (.slice aa 0 0)) (.sl sz []):=λb v a=>by cases a;exact .nil sz
def ib.Ac{P:ay}{k:bK}{d g f h:D}{post:DL}{e:aQ}{sz:Nat}{rows o:ct}(b:ib P k [d,g] post e sz rows o)(w:fj f d)(x:fj h g):ib P k [f,h] post e sz rows o:=
 ⟨b.ok,b.cl,b.uM,λG p F vs C I u z q r m B y=>b.run G p F vs C I u z q r (λi J v a l=>by
  match i,a with
  |0,a=>simp at a;subst a;exact w _ _ (m 0 _ v A l)
  |1,a=>simp at a;subst a;exact x _ _ (m 1 _ v A l)) B y⟩
end
section
open Go.RowKit
variable {i4:aL}{sm:cb}{bv:aQ}{h:Nat}{i2:ct}{i0:ON}
def lF.rd{v:aE}(k:lF i4 sm bv h i2 v i0)(j:∀e∈i2,e.length=h)(u:∀a,i0=E a->¬sm a):
 Rd (view i4 sm (λ_=>aa) db) (.sl h i2) v:=by
 cases i0 with
 |none=>obtain⟨rfl,rfl⟩:=k;exact .nil h
 |some a=>
  obtain⟨r,q,rfl,t,z,m,y,o⟩:=k;refine .sl h i2 a 0 r (λd g=>q.getD (d*h+g) cC) m.2 m.1 (λd e b=>j e (eg b)) (λd e g s b i=>?_) λd e g s b i=>?_
  .obtain⟨p,f,l⟩:=o _ _ (sW j b i);refine dK ?_ (u a A) Zs;rw[nH t,ek,f];simp[f]
  .obtain⟨p,f,l⟩:=o _ _ (sW j b i);have:q.getD (d*h+g) cC=p:=by simp[f]
   rw[this];exact l.mono (kI λx w=>.inl w)
variable {g3:ay}{g5:bK}{a3:DL}
def gp.sp{e:aQ}{rows:ct}(b:gp g3 g5 a3 e h rows)(j:∀r∈rows,r.length=h):Sp g3 g5 a3 (.sl h rows):=
 ⟨b.ok,λs f vs d k m=>(b.run s f vs d k m).mono λw t⟨v,u,p,g,l,o⟩=>⟨v,p,g,l.rd j λa i q=>by have:=d.1 a q;have:=o a i;omega⟩⟩
def ib.Em{pre:DL}(d:ib g3 g5 pre [] bv h [] i2):gp g3 g5 (pre++[a']) bv h i2:=
 ⟨d.ok,d.uM,λu i vs l o g=>by
  obtain⟨b,a,rfl⟩:∃b a,vs=b++[a]:=by
   have:vs≠[]:=by exact Zg
   exact⟨vs.dropLast,vs.getLast this,(List.dropLast_concat_getLast this).symm⟩
  have f:pre.length=b.length:=by simpa using o
  have q:a=.slice aa 0 0:=by
   have:=g pre.length (.sc (.slice aa 0 0)) a Zs (by simp[f]);cases this;rfl
  subst q;refine(d.run u i b [] _ aa l Zs f A (λt j v x y=>?_) Zs ⟨A,A⟩).mono λB z⟨v,w,s,m,p,r⟩=>⟨v,w,s,mL m Zs,p,λe k=>?_⟩
  .refine(g t j v Zg Zg).mono (kI λe=>?_);rintro(k|k)
   .exact k
   .cases k
  .rcases r e k with k|k
   .exact k
   .cases k⟩
end
section
open Go.RowKit
inductive eh (b:Nat):D->Prop
 |here (ds:List D):eh b (.pa b ds)
 |pa (b':Nat) {ds:List D} {d:D} (e:d∈ds) (h:eh b d):eh b (.pa b' ds)
 |cp {ds:List D} {d:D} (e:d∈ds) (h:eh b d):eh b (.cp ds)
 |ag {ds:List D} {d:D} (e:d∈ds) (h:eh b d):eh b (.ag ds)
 |tp {ds:List D} {d:D} (e:d∈ds) (h:eh b d):eh b (.tp ds)
 |sl {sz:Nat} {rows:List (List D)} {r:List D} {d:D} (hr:r∈rows) (e:d∈r) (h:eh b d):eh b (.sl sz rows)
 |cs {sz:Nat} {rows:List (List D)} (h:eh b (.sl sz rows)):eh b (.cs sz rows)
 |fn (f:bK) {dV bs:List D} {d:D} (e:d∈dV\/d∈bs) (h:eh b d):eh b (.fn f dV bs)
def eh.cell{z:View}{t:Nat}{m:D}(x:eh t m):∀{v:aE},Rd z m v->∃B p,z.C t B=E p:=by
 have i:∀{u:DL}{m:D},m∈u->∃h,u[h]?=E m:=λb=>hQ.1 b
 induction x with
 |here u=>
  intro v d;cases d with|pa _ _ q A I r k=>exact⟨0,q 0,r 0 _ (bR A)⟩
 |pa L b _ e=>
  intro v d;obtain⟨h,f⟩:=i b;cases d with|pa _ _ q A I r k=>exact e (k h _ f)
 |cp b _ e=>
  intro v d;obtain⟨h,f⟩:=i b;cases d with|cp _ _ _ q r k=>exact e (k h _ f)
 |ag b _ e=>
  intro v d;obtain⟨h,f⟩:=i b;cases d with|ag _ vs l o=>
  obtain⟨p,_,j⟩:=Rd.sJ l o f;exact e j
 |tp b _ e=>
  intro v d;obtain⟨h,f⟩:=i b;cases d with|tp _ vs l o=>
  obtain⟨p,_,j⟩:=Rd.sJ l o f;exact e j
 |sl y b _ e=>
  intro v d;obtain⟨h,f⟩:=hQ.1 y;obtain⟨K,G⟩:=i b;cases d with
  |nil=>cases y
  |fu=>cases y
  |sl _ _ t B O q R S l r k=>exact e (k h _ K _ f G)
 |cs _ e=>
  intro v d;cases d with|cs _ _ _ x _=>exact e x
 |fn Q b _ e=>
  intro v d;cases d with|fn _ _ _ vs q l J o F=>
  rcases b with b|b
  .obtain⟨h,f⟩:=i b;obtain⟨p,_,j⟩:=Rd.sJ l o f;exact e j
  .obtain⟨h,f⟩:=i b;obtain⟨p,_,j⟩:=Rd.sJ J F f;exact e j
def Bl(s:St)(b:Nat):Prop:=(∀j,¬eh b (s.env j))/\(∀t ob,s.H t=E ob->∀d∈ob.cells,¬eh b d)/\s.N<=b
section
variable{P:ay}{w0:Bs}{M:cb}{g:dm}{s:St}{a:cq}{w:aL}
def aS.Li(d:aS w0 M g s a w){q t b i:Nat}(h:g q=E (t,b,i)):Bl s b:=by
 have o:∀{e:D}{v:aE},Rd (view w M g s.n) e v->¬eh b e:=λf j=>by
  obtain⟨B,C,m⟩:=j.cell f;exact(cR m).2 _ _ _ h
 refine⟨λl=>o (d.env l),λr p k e f=>?_,d.wm b (d.base _ _ _ _ h).1⟩;obtain⟨_,u,x,vs,_,_,_,_,_,y⟩:=d.obj r p k;obtain⟨A,z⟩:=hQ.1 f;exact Zg
end
def GK.ptr{t:aU}{s:St}(l i x:Nat)(h:Ob)(B:s.env l=.rf i x 0)(I:s.H i=E h)(R:h.gen=x)(G:h.keys=aa)(C:0<h.cells.length)(Q:∀d∈h.cells,Cl d)
 (F:∀f,Bl s f->t {s with env:=af s.env l (.pa f h.cells),H:=aN [i] s.H}):GK t s:=by
 intro w0 M g a w hr;obtain⟨U,f,z,vs,kv,oZ,W,O,V,jY⟩:=hr.obj i h I;have oZ:=oZ.cells G;have b:=hr.aN [i];have JB:∀q r m,aN [i] g q≠E (r,f,m):=λq r m e=>by
  exact FU
 have JA:¬M f:=λk=>(hr.m0 f k).2 _ _ _ kv;refine⟨_,aN [i] g,M,F f (hr.Li kv),b.defers,b.size,λj=>?_,b.obj,b.base,b.inj,b.below,b.m0,b.mm,b.zm,b.tree,b.nd,b.og,b.wm⟩;show Rd _ (if j=l then _ else _) _;by_cases y:j=l
 .subst y;rw[aM A];have o:=hr.env j;rw[B]at o;generalize a.tmps.getD j cC=v at o;cases o with|rf _ _ _ K S J=>
  have:=J f z Zg;subst this;have X:∀{d:D}{u:aE},Cl d->Rd (view w M g s.n) d u->Rd (view w M (aN [i] g) s.n) d u:=λhd k=>k.closed (λL Y r p=>⟨dK (dr p) (cR p).1 λq Z m e=>(cR p).2 _ _ _ (j_ e).2,hM⟩) hd;refine .pa f h.cells (λk=>vs.getD k cC) C ⟨vs,h.elem,oZ⟩ (λk d hd=>?_) λk d hd=>?_
  .exact Fx
  .obtain⟨u,u1,u2⟩:=jY k d hd;have:vs.getD k cC=u:=by simp[u1]
   exact Zg
 .rw[av y];exact b.env j
section
variable{P:ay}{w0:Bs}{M:cb}{g:dm}{s:St}{a:cq}{w:aL}
def Rd.ln(m:aS w0 M g s a w)(b:aD){h d:D}(l:Fz (bi b s.H) h d)(k:Cl d){v:aE}(j:Rd (view w M g s.n) h v):Rd (view w M (Fw.aN b g) s.n) d v:=
 (Rd.CR m b l j).closed (λ_ _ _ f=>⟨dK (dr f) (λe=>(cR f).1 (.inl e)) λo p i e=>(cR f).1 (.inr ⟨o,p,i,e⟩),hM⟩) k
end
def GK.ln{j:aU}{s:St}(d:aD)(e:Nat)(h:D)(o:Fz (bi d s.H) (s.env e) h)(m:Cl h)(l:j {s with env:=af s.env e h,H:=aN d s.H}):GK j s:=by
 intro w0 M g a w i;have b:=i.aN d;refine⟨_,aN d g,M,l,b.defers,b.size,λf=>?_,b.obj,b.base,b.inj,b.below,b.m0,b.mm,b.zm,b.tree,b.nd,b.og,b.wm⟩;show Rd _ (if f=e then _ else _) _;by_cases k:f=e
 .subst k;rw[aM A];exact Rd.ln i d o m (i.env f)
 .rw[av k];exact b.env f
def GK.qx{y:aU}{s:St}(e:aD)(l q:Nat)(d:Ob)(m o:D)(F:s.H l=E d)(ai:l∉e)(t:d.cells[q]?=E m)(Z:Fz (bi e s.H) m o)(Y:Cl o)
 (X:y {s with H:=aj (aN e s.H) l (E {d with cells:=d.cells.set q o})}):GK y s:=by
 intro w0 M g a w x;have b:=x.aN e;refine⟨_,aN e g,M,X,b.defers,b.size,b.env,λf J i=>?_,b.base,b.inj,b.below,b.m0,b.mm,b.zm,b.tree,b.nd,b.og,b.wm⟩;have i:aj (aN e s.H) l (E {d with cells:=d.cells.set q o}) f=E J:=i;by_cases G:f=l
 .subst G;rw[bH]at i;cases i;have ae:aN e s.H f=E d:=by unfold aN;rw[av ai];exact F
  obtain⟨am,A,B,vs,K,k,an,ap,aq,L⟩:=b.obj f d ae;refine⟨am,A,B,vs,K,k,an,ap,by simpa using aq,λj az p=>?_⟩;have ab:=(ej.1 t).1;by_cases C:j=q
  .subst C;rw[List.getElem?_set_self ab]at p;cases p;obtain⟨_,V,W,Q,r,ar,_,_,_,au⟩:=x.obj f d F;have ah:g f=E (d.gen,A,B):=(j_ K).2;have r:g f=E (d.gen,V,W):=r;rw[ah]at r;cases r;obtain⟨aI,ax,ay⟩:=au j m t;obtain⟨aw,O,aJ⟩:=L j m t;exact⟨aw,O,by
    have h:=ar;have I:Q[j]?=vs[j]?:=by
     unfold gH at k h;split at k
     .rename_i u;rw[u]at h;rw[k]at h;cases h;rfl
     .rename_i aH u;rw[u]at h;obtain⟨aF,aC,R,aA,S,-⟩:=k;obtain⟨aG,aE,z,aB,U,-⟩:=h;rw[R]at z;cases z;have:vs.toList=Q.toList:=S.symm.trans U;rw[<-vX,<-vX,this]
    rw[ax,O]at I;cases I;exact Rd.ln x e Z Y ay⟩
  .rw[List.getElem?_set_ne (λak=>C ak.symm)]at p;exact L j az p
 .rw[bV _ _ G]at i;exact b.obj f J i
end
section
open Go.RowKit
variable {a3:DL}
def eO.cp(a:eO a3):Cl (.cp a3):=Cl.eX a.all
def eO.ag(a:eO a3):Cl (.ag a3):=Cl.bu a.all
def l9(b:eO a3:=by repeat' (first|exact eO.n|refine eO.c ?_ ?_|assumption|exact aO _|exact jW _|exact lk _|exact O.cI _|exact ai.cI _|exact ah.cI _|exact Y.cI _|exact Core.cI _|exact aA.cI _|exact Nd.cl _|exact Bi.cl _|exact oL _|exact nK _|exact oH _|exact Cl.bu (by assumption)|exact Cl.eX (by assumption)|exact Cl.bu (O.cl _)|exact Cl.eX (Y.cl _)|exact Cl.bu (Core.cl _)|exact Cl.bu (Y.cl _)|exact Cl.eX (Core.cl _)|exact Cl.fH (ai.bA _)|exact Cl.fH (ah.bA _)|exact Cl.fH (O.bA _)|exact Cl.fH (Y.bA _)|exact Cl.fH (Core.bA _)|exact Cl.fH (aA.bA _)|exact Cl.fH (by assumption)|refine eO.ag ?_|refine eO.cp ?_|exact ed λa _=>Bi.cl a|exact ed λa _=>Nd.cl a|exact Cl.qu (by assumption) (by assumption)|refine Cl.qu (eO.all ?_) (eO.all ?_)|simp)):eO a3:=b
def cu(b:eO a3:=by exact l9):∀a∈a3,Cl a:=b.all
variable {g3:ay}{ce:St}{g5:bK}{i0:ON}{gc:aU}
def hU{first a args:DL}{b:D}(d:Sp g3 g5 (first++args++a) b)(f:eO (first++args++a))(e:gc (ce.put i0 b)):
 jc g3 ce (.fn g5 first a) args i0 gc:=bB b d f.all e
def Iv{first a args:DL}{b:D}(d:Sp g3 g5 (first++args++a) b)(f:eO (first++args++a))(e:gc (ce.put i0 b)):
 pA g3 ce (.fn g5 first a) args i0 gc:=eK b d f.all A e
inductive ny (H:Nat->Option Ob):List D->List D->Prop
 |n:ny H [] []
 |c {d e:D} {l m:List D} (h:Fz H d e) (t:ny H l m):ny H (d::l) (e::m)
variable {fd:bt}{g0:DL}
def ny.len(a:ny fd a3 g0):g0.length=a3.length:=by induction a with|n=>rfl|c _ _ b=>simp[b]
def ny.zip(b:ny fd a3 g0):∀a∈a3.zip g0,Fz fd a.1 a.2:=by
 induction b with
 |n=>simp
 |c b _ e=>intro a d;rcases cJ.1 d with rfl|d;exact b;exact e a d
def wO{first b args bs:DL}{a:D}(e:Sp g3 g5 bs a)(d:ny ce.H (first++args++b) bs)(g:(mN a).isSome=ad)(f:gc (ce.put i0 a)):
 jc g3 ce (.fn g5 first b) args i0 gc:=sN bs a e d.len d.zip g f
def fm{b:St}{first j args bs:DL}{d:aU}{a:D}(e:aD)(h:Sp g3 g5 bs a)(k:ny (bi e b.H) (first++args++j) bs)(o:Cl a)(i:d ({b with H:=aN e b.H}.put i0 a)):
 jc g3 b (.fn g5 first j) args i0 d:=Cb e bs a h k.len k.zip o i
example (g3:ay) (b:St) (g5:bK) (f g a:D) (l:Cl f) (m:Cl g) (h:Sp g3 g5 [f,g] a) (d:aU) (i:d (b.put (E 3) a)):jc g3 b (.fn g5 [] []) [f,g] (E 3) d:=by
 refine hU h (.c l (.c m .n)) ?_;exact i
def oc(P:ay)(a:List ResultVar)(K:D->(Nat->Option Ob)->(Nat->Nat)->List TE->Prop):gk->St->Prop
 |.ret,s=>∃d,dj P s a=E d/\K d s.H s.n s.T
 |.normal,s=>∃d,dj P s a=E d/\K d s.H s.n s.T
 |_,_=>False
def Wk(P:ay)(c:dH)(Q:gw)(s:St):Prop:=∀(b:Bs)(M:cb)(g:dm)(a:cq)(w:aL),aS b M g s a w->c.wp P (LQ b Q) a w
variable {g4:aD}{v1:dH}{YH:gw}
def Wk.of(a:vc g3 g4 v1 YH ce):Wk g3 v1 YH ce:=λ_ _ _ _ _ b=>lD v1 _ b a
variable {YU:gw}
def Wk.mono{a:St}(i:∀b a,YH b a->YU b a)(f:Wk g3 v1 YH a):Wk g3 v1 YU a:=λ_ _ _ _ _ j=>wp_mono (f _ _ _ _ _ j) λb _ _⟨a,e,d,g,h⟩=>⟨a,e,d,i b a g,h⟩
def Is{f:St}{fn:iw}{c:dH}{nt:Nat}{args:DL}{o:ON}(G:eP)(z:g3.funcs[g5]?=E fn)(hb:fn.body=E c)(P:(fn.name== "runtime.NumGoroutine")=al)
 (Q:fn.ntmps=nt) (S:fn.results.toList=G) (Y:args.length<=nt)
 (K:Wk g3 c (oc g3 G λd H n T=>gc ({f with H:=H,n:=n,T:=T}.put o d)) {env:=ba args,H:=f.H,n:=f.n,nt:=nt,T:=f.T,N:=f.N}):gx g3 f g5 args o gc:=by
 subst S;subst Q;intro s w p J q env hr vs X hv;refine⟨⟨fn,z,P,by rw[hb];rfl⟩,?_⟩
 let u:Bs:=⟨q,s.M,λb=>(∃t x c,p t=E (x,b,c))\/∃e∈f.T,b∈e.F,p,f.n,[]⟩
 have qJ:∀b,u.own b->s.own b:=λb k=>by
  exact Hi
 have R:aS u w p {env:=ba args,H:=f.H,n:=f.n,nt:=fn.ntmps,T:=f.T,N:=f.N} {tmps:=vs.toArray++Array.replicate (fn.ntmps-vs.toArray.size) cC,defers:=[]} q:=by
  exact FZ
 refine calls_of_wp z hb (wp_mono (K _ _ _ _ _ R) λe y m⟨g,l,j,q1,a⟩=>?_);have core:∀d,dj g3 g fn.results.toList=E d->gc ({f with H:=g.H,n:=g.n,T:=g.T}.put o d)->y.defers=[]/\∃v,(results fn y.tmps).run g3 m=.ok v m/\∃(I:aE)(d:D)(H:bt)(n:b5)(T:dd)(l:dm)(j:cb),Ending.returned v=.returned I/\
  aS s j l {f with env:=env,H:=H,n:=n,T:=T} J m/\Rd (view m j l n) d I/\gc ({f with H:=H,n:=n,T:=T}.put o d):=by
  intro d hd L;obtain⟨v,V,W⟩:=qM a hd;have C:(view q w p f.n).Ext (view m j l g.n):=by
   refine⟨λb ab ae h=>?_,a.og.1,a.og.2⟩;have Z:b<q.heap.size:=by
    have:=dr h;simp only[World.cell?]at this;exact Zg
   have r:¬u.own b:=by
    rintro(k|⟨t,x,c,k⟩|⟨e,he,hb⟩)
    .exact Zg
    .exact(cR h).2 _ _ _ k
    .exact(cR h).1 ((hr.mm b).2 (.inr ⟨e,he,hb⟩))
   have B:=a.below.block b r;refine⟨dK ?_ (λk=>?_) λt x c k=>r (a.base _ _ _ _ k).1,λ⟨U,e,k⟩=>⟨U,e,B.trans k⟩⟩
   .have:=dr h;simp only[World.cell?]at this⊢;rw[B];exact this
   .rcases(a.mm b).1 k with k|⟨e,he,hb⟩
    .exact(cR h).1 ((hr.mm b).2 (.inl k))
    .exact r ((a.tree e he).2 b hb)
  refine⟨a.defers,v,W,v,d,g.H,g.n,g.T,l,j,A,⟨hr.defers,hr.size,λi=>(hr.env i).mono C,a.obj,λt x b c e=>⟨qJ b (a.base _ _ _ _ e).1,(a.base _ _ _ _ e).2⟩,a.inj,?_,a.m0,a.mm,hr.zm,λe he=>⟨(a.tree e he).1,λb hb=>qJ b ((a.tree e he).2 b hb)⟩,a.nd,hr.og.ext C,hr.wm⟩,V,L⟩;exact hr.below.step a.below.os a.below.tape a.below.output a.below.size λk O=>a.below.block k λh=>O (qJ k h)
 exact Hj
def pz{a:St}{b:iw}{nt:Nat}{args:DL}(m:aD)(d:eP)(h:g3.funcs[g5]?=E b)(g:b.body=E v1)(j:(b.name== "runtime.NumGoroutine")=al)
 (k:b.ntmps=nt) (l:b.results.toList=d) (i:args.length<=nt)
 (f:vc g3 m v1 (oc g3 d λe H n T=>gc ({a with H:=H,n:=n,T:=T}.put i0 e)) {env:=ba args,H:=a.H,n:=a.n,nt:=nt,T:=a.T,N:=a.N}):gx g3 a g5 args i0 gc:=Is d h g j k l i (.of f)
structure jj (P:ay) (f:bK) (dV:List D) (Q:Nat->D->Prop):Prop where
 ok:lL P f
 run:∀(w:aL)(M:Nat->Prop)(vs:List aE),MB M w->dV.length=vs.length->
  (∀(i:Nat)(d:D)(v:aE),dV[i]?=E d->vs[i]?=E v->Rd (view w M (λ_=>aa) db) d v)->
  Calls P f vs.toArray w λe w'=>∃v r,e=.returned v/\Below w.heap.size w w'/\Rd (view w' M (λ_=>aa) db) r v/\Cl r/\Q w.heap.size r
def D_(P:ay)(a:List ResultVar)(Q:Nat->D->Prop):gk->St->Prop
 |.ret,s=>∃d r,dj P s a=E d/\Fz s.H d r/\Cl r/\Q s.N r
 |.normal,s=>∃d r,dj P s a=E d/\Fz s.H d r/\Cl r/\Q s.N r
 |_,_=>False
variable {wp:eP}{YN:Nat → D → Prop}
def Yt{b:St}(d a:D)(e:dj g3 b wp=E d)(g:Fz b.H d a)(f:Cl a)(h:YN b.N a):D_ g3 wp YN .ret b:=⟨d,a,e,g,f,h⟩
def oe(dV:DL)(nt N:Nat):St:={env:=ba dV,H:=pW,n:=db,nt,N:=N}
variable {h:Nat}
def jj.eo{e:iw}{j:DL}(Y:aD)(B:eP)(z:g3.funcs[g5]?=E e)(y:e.body=E v1)(P:(e.name== "runtime.NumGoroutine")=al)
 (Q:e.ntmps=h) (S:e.results.toList=B) (O:j.length<=h) (I:∀t,vc g3 Y v1 (D_ g3 B λ_=>YN t) (oe j h t)):jj g3 g5 j YN:=by
 subst S;refine⟨⟨e,z,P,by rw[y];rfl⟩,λf G vs J M U=>?_⟩;subst Q;have a:=aS.start (Ts:=[]) aa A J M O (λX d v s V=>(U X d v s V).mono (kI λl=>by exact Zg)) Zs Zs;have a:aS _ _ _ (oe j e.ntmps f.heap.size) _ f:=⟨a.defers,a.size,a.env,a.obj,a.base,a.inj,a.below,a.m0,a.mm,a.zm,a.tree,a.nd,a.og,λl i=>by
  rcases i with i|⟨w,L,_⟩
  .exact i
  .cases L⟩
 refine calls_of_wp z y (wp_mono (lD v1 _ a (I f.heap.size)) λw u k⟨C,ah,ae,m,g⟩=>?_);have x:∀d b,dj g3 C e.results.toList=E d->Fz C.H d b->Cl b->YN f.heap.size b->u.defers=[]/\∃v,(results e u.tmps).run g3 k=.ok v k/\∃F b,Ending.returned v=.returned F/\Below f.heap.size f k/\Rd (view k G (λ_=>aa) db) b F/\Cl b/\YN f.heap.size b:=by
  intro d b s W K R;obtain⟨v,Z,ab⟩:=qM g s;exact⟨g.defers,v,ab,v,b,A,mL g.below Zs,(Rd.freeze g W Z).mono (kI λl i=>(g.mm l).2 (.inl i)),K,R⟩
 cases w
 case normal=>obtain⟨d,b,o,p,q,r⟩:=m;exact x d b o p q r
 case ret=>obtain⟨d,b,o,p,q,r⟩:=m;exact x d b o p q r
 all_goals exact m.elim
def Bk(s:St)(bs:DL)(b:Nat):Prop:=s.N<=b/\(∀t ob,s.H t=E ob->∀d∈ob.cells,¬eh b d)/\∀d∈bs,¬eh b d
variable {ws:Bs}{sm:cb}{YJ:dm}{YL:cq}{i4:aL}
def aS.Tx(i:aS ws sm YJ ce YL i4){bs:DL}{V:View}(k:∀a e b,V.C a e=E b->a<i4.heap.size)
 (m:∀d∈bs,∃v,Rd V d v) {a:Nat} (l:i4.heap.size<=a):Bk ce bs a:=by
 have s:∀{e b},(view i4 sm YJ ce.n).C a e=E b->False:=λf=>by
  have:=dr f;simp only[World.cell?]at this;exact Zg
 refine⟨i.wm a (.inl (fY i.below.size l)),λu t q d g h=>?_,λd g h=>?_⟩
 .obtain⟨_,_,_,vs,_,_,_,_,_,o⟩:=i.obj u t q;obtain⟨r,p⟩:=hQ.1 g;obtain⟨b,_,j⟩:=o r d p;obtain⟨e,b,f⟩:=h.cell j;exact s f
 .obtain⟨v,j⟩:=m d g;obtain⟨e,b,f⟩:=h.cell j;have:=k _ _ _ f;omega
def qi{e:St}{first i args bs:DL}(d:aD)(r:jj g3 g5 bs YN)(y:ny (bi d e.H) (first++args++i) bs)
 (A:∀p f,YN p f->Cl f->(∀b,p<=b->Bk e bs b)->gc ({e with H:=aN d e.H}.put i0 f)):jc g3 e (.fn g5 first i) args i0 gc:=by
 refine .inr (.inr λW h l P o Q hr vs S J=>⟨r.ok,?_⟩);have R:=y.len;have w:∀(a:Nat)(j:D)(v:aE),bs[a]?=E j->vs[a]?=E v->Rd (view o (λb=>h b\/∃t x c,aN d l t=E (x,b,c)) (λ_=>aa) db) j v:=λa j v u K=>by
  have g:a<(first++args++i).length:=by have:=(ej.1 u).1;omega
  refine Rd.CR hr d (y.zip ((first++args++i)[a],j) (hQ.2 ⟨a,?_⟩)) (J a _ v (bR g) K);rw[List.getElem?_zip_eq_some];exact⟨bR g,u⟩
 refine(r.run o (λb=>h b\/∃t x c,aN d l t=E (x,b,c)) vs ?_ Zo w).mono λx U⟨v,f,L,C,B,s,m⟩=>⟨v,f,aN d e.H,e.n,e.T,aN d l,h,L,(hr.aN d).grow C,?_,A _ f m s λb F=>?_⟩
 .exact Hx
 .refine B.closed (λb M O k=>⟨?_,hM⟩) s;exact Fa
 .refine(hr.Tx (bs:=bs) (V:=view o (λb=>h b\/∃t x c,aN d l t=E (x,b,c)) (λ_=>aa) db) (λb M O q=>?_) (λz G=>?_) F:Bk _ _ _)
  .have:=dr q;simp only[World.cell?]at this;cases m:o.heap[b]? with
   |none=>rw[m]at this;cases this
   |some _=>exact(iY.1 m).1
  .obtain⟨a,g⟩:=hQ.1 G;have I:a<vs.length:=by have:=(ej.1 g).1;omega
   exact⟨_,w a z _ g (bR I)⟩
variable {bv:aQ}{V:Nat}
def gp.none{b:ct}(f:gp g3 g5 [a'] bv h b)(k:∀r s,gp g3 g5 [.sc (.slice (E r) 0 s)] bv h b):gp g3 g5 [.sl V []] bv h b:=by
 refine⟨f.ok,f.uM,λd i vs u w y=>?_⟩;obtain⟨v,rfl⟩:∃v,vs=[v]:=by
  match vs,w with
  |[v],_=>exact⟨v,A⟩
 have m:=y 0 _ v A A;generalize a:D.sl V []=t at m;have g:∀e,gp g3 g5 [.sc e] bv h b->v=e->Calls g3 g5 #[v] d λz p=>∃v q,z=.returned v/\Below d.heap.size d p/\lF p i bv h b v q/\∀j,q=E j->d.heap.size<=j:=by
  rintro e x rfl;refine x.run d i [v] u A λo t e a l=>?_;cases o with
  |zero=>simp at a l;subst a;subst l;exact .sc _
  |succ o=>simp at a
 cases m<;>cases a
 .exact g _ f A
 .exact g _ (k _ _) A
 .exact g _ (k _ _) A
variable {WF:Ob}
def gH.same{vs f:iA}(b:gH i4 h WF vs)(a:gH i4 h WF f)(e:Nat):f[e]?=vs[e]?:=by
 unfold gH at b a;split at b
 .exact Zg
 .rename_i s k;rw[k]at a;obtain⟨q,o,g,l,i,-⟩:=b;obtain⟨r,p,d,m,j,-⟩:=a;rw[g]at d;cases d;have:=i.symm.trans j;rw[<-vX,<-vX,this]
def GK.Aj{a:St}(t0 t1 h m t:Nat)(f d:Ob)(S:a.H t0=E f)(z:f.keys=aa)(F:a.H h=E d)(B:h≠t0)(C:h≠t1)(u:d.cells[m]?=E (.ms t0 f.gen t))
 (U:gc {a with H:=aj (aj (aj a.H t0 aa) t1 (E {f with gen:=a.n t1})) h (E {d with cells:=d.cells.set m (.ms t1 (a.n t1) t)}),n:=bump a.n t1}):GK gc a:=by
 intro aH K j aC aA s;obtain⟨aE,i,q,vs,w,x,ai,W,Z,V⟩:=s.obj t0 f S;obtain⟨b,aF⟩:=s.rebind (w':=aA) t0 t1 i q vs {f with gen:=a.n t1} A (λ_ _ _=>A) (.inr ⟨_,_,w⟩) x.lt (.of (x.cells z) z) ai W Z V A A A (b_ _);refine⟨_,_,K,U,b.defers,b.size,b.env,λe G g=>?_,b.base,b.inj,b.below,b.m0,b.mm,b.zm,b.tree,b.nd,b.og,b.wm⟩;have g:aj (aj (aj a.H t0 aa) t1 (E {f with gen:=a.n t1})) h (E {d with cells:=d.cells.set m (.ms t1 (a.n t1) t)}) e=E G:=g;by_cases D:e=h
 .subst D;rw[bH]at g;cases g;have ab:aj (aj a.H t0 aa) t1 (E {f with gen:=a.n t1}) e=E d:=by rw[bV _ _ C,bV _ _ B];exact F
  obtain⟨ap,p,r,az,I,J,aq,ar,au,av⟩:=b.obj e d ab;refine⟨ap,p,r,az,I,J,aq,ar,by simpa using au,λl aB k=>?_⟩;have Y:=(ej.1 u).1;by_cases y:l=m
  .subst y;rw[List.getElem?_set_self Y]at k;cases k;obtain⟨_,M,P,aG,o,ak,_,_,_,am⟩:=s.obj e d F;have ae:j e=E (d.gen,p,r):=by
    have:aj (aj j t0 aa) t1 (E (a.n t1,i,q)) e=E (d.gen,p,r):=I;rwa[bV _ _ C,bV _ _ B]at this
   have o:j e=E (d.gen,M,P):=o;rw[ae]at o;cases o;obtain⟨aw,ax,ay⟩:=am l _ u;refine⟨aw,by rw[<-J.same ak l];exact ax,?_⟩;cases ay with|ms _ _ _ aD Q X ah=>
   obtain⟨rfl,rfl⟩:=ah i q w;refine .ms _ _ _ _ _ ⟨by show a.n t1<bump a.n t1 t1;rw[kU];omega,X.2⟩ λL O R=>?_;have:aj (aj j t0 aa) t1 (E (a.n t1,i,Q)) t1=E (a.n t1,L,O):=R;rw[bH]at this;cases this;exact⟨A,A⟩
  .rw[List.getElem?_set_ne (λan=>y an.symm)]at k;exact av l aB k
 .rw[bV _ _ D]at g;exact b.obj e G g
def GK.LO{h:St}(t0 p k:Nat)(g b:Ob)(P:h.H t0=E g)(S:g.keys=aa)(V:0<g.cells.length)(R:∀d∈g.cells,Cl d)(F:h.H p=E b)(W:p≠t0)(A:b.cells[k]?=E (.rf t0 g.gen 0))
 (Q:∀f,Bl h f->gc {h with H:=aj (aN [t0] h.H) p (E {b with cells:=b.cells.set k (.pa f g.cells)})}):GK gc h:=by
 intro aD r j aq K hr;obtain⟨ay,f,M,vs,kv,oZ,aA,aw,az,jY⟩:=hr.obj t0 g P;have oZ:=oZ.cells S;have a:=hr.aN [t0];have JB:∀x q w,aN [t0] j x≠E (q,f,w):=λx q w e=>by
  exact FU
 have JA:¬r f:=λk=>(hr.m0 f k).2 _ _ _ kv;refine⟨_,aN [t0] j,r,Q f (hr.Li kv),a.defers,a.size,a.env,λi G l=>?_,a.base,a.inj,a.below,a.m0,a.mm,a.zm,a.tree,a.nd,a.og,a.wm⟩;have l:aj (aN [t0] h.H) p (E {b with cells:=b.cells.set k (.pa f g.cells)}) i=E G:=l;by_cases C:i=p
 .subst C;rw[bH]at l;cases l;have X:aN [t0] h.H i=E b:=by unfold aN;rw[av (by simpa using W)];exact F
  obtain⟨ah,y,z,ap,I,J,ai,ak,am,an⟩:=a.obj i b X;refine⟨ah,y,z,ap,I,J,ai,ak,by simpa using am,λs q m=>?_⟩;have U:=(ej.1 A).1;by_cases B:s=k
  .subst B;rw[List.getElem?_set_self U]at m;cases m;obtain⟨_,L,O,aC,t,ab,_,_,_,ae⟩:=hr.obj i b F;have Y:j i=E (b.gen,y,z):=(j_ I).2;have t:j i=E (b.gen,L,O):=t;rw[Y]at t;cases t;obtain⟨u,u1,u2⟩:=ae s _ A;refine⟨u,by rw[<-J.same ab s];exact u1,?_⟩;cases u2 with|rf _ _ _ ar ax m=>
   have:=m f M kv;subst this;have Z:∀{d:D}{u:aE},Cl d->Rd (view K r j h.n) d u->Rd (view K r (aN [t0] j) h.n) d u:=λhd k=>k.closed (λau aB q o=>⟨dK (dr o) (cR o).1 λx aF w e=>(cR o).2 _ _ _ (j_ e).2,hM⟩) hd;refine .pa f g.cells (λk=>vs.getD k cC) V ⟨vs,g.elem,oZ⟩ (λk d hd=>?_) λk d hd=>?_
   .exact Fx
   .obtain⟨u,u1,u2⟩:=jY k d hd;have:vs.getD k cC=u:=by simp[u1]
    rw[this];exact Z (R d (eg hd)) u2
  .rw[List.getElem?_set_ne (λo=>B o.symm)]at m;exact an s q m
 .rw[bV _ _ C]at l;exact a.obj i G l
variable {g1:Type}
def ly{a:Nat->Option g1}:aN [] a=a:=by funext b;simp[aN]
def Ea{P:ay}{rs:eP}{b:D->(bt)->(b5)->List TE->Prop}{s:St}:oc P rs b .ret s=pY (dj P s rs) (λa=>b a s.H s.n s.T):=by
 apply propext;show(∃a,dj P s rs=E a/\b a s.H s.n s.T)↔_;exact yv
def UP{b:D->(bt)->(b5)->List TE->Prop}{a:St}:oc g3 wp b .normal a=pY (dj g3 a wp) (λd=>b d a.H a.n a.T):=Ea
def UM{P:ay}{rs:eP}{s:St}:D_ P rs YN .ret s=pY (dj P s rs) (λb=>∃a,Fz s.H b a/\Cl a/\YN s.N a):=by
 apply propext;show(∃b a,dj P s rs=E b/\Fz s.H b a/\Cl a/\YN s.N a)↔_;exact yv
attribute [go_sem] Ea UM
end
section
open Go.RowKit
mutual
def D.aJ(p:Nat->Nat):D->D
 |.sc v=>.sc v
 |.any=>.any
 |.sl sz rows=>.sl sz (D.mA p rows)
 |.cs sz rows=>.cs sz (D.mA p rows)
 |.ag ds=>.ag (D.fV p ds)
 |.tp ds=>.tp (D.fV p ds)
 |.cp ds=>.cp (D.fV p ds)
 |.pa b ds=>.pa b (D.fV p ds)
 |.rf s g o=>.rf (p s) g o
 |.ms s g l=>.ms (p s) g l
 |.mp s g=>.mp (p s) g
 |.fn f a b=>.fn f (D.fV p a) (D.fV p b)
def D.fV(p:Nat->Nat):List D->List D
 |[]=>[]
 |d::l=>d.aJ p::D.fV p l
def D.mA(p:Nat->Nat):List (List D)->List (List D)
 |[]=>[]
 |r::l=>D.fV p r::D.mA p l
end
def D.AI(b:b5):∀a,D.fV b a=a.map (D.aJ b)
 |[]=>rfl
 |d::a=>by rw[D.fV,D.AI b a];rfl
def D.AG(b:b5):∀a,D.mA b a=a.map (D.fV b)
 |[]=>rfl
 |d::a=>by rw[D.mA,D.AG b a];rfl
mutual
def D.jp{p:Nat->Nat}(e:∀x,p (p x)=x):∀d:D,(d.aJ p).aJ p=d
 |.sc v=>rfl
 |.any=>rfl
 |.sl sz rows=>by rw[D.aJ,D.aJ,D.D9 e rows]
 |.cs sz rows=>by rw[D.aJ,D.aJ,D.D9 e rows]
 |.ag ds=>by rw[D.aJ,D.aJ,D.sa e ds]
 |.tp ds=>by rw[D.aJ,D.aJ,D.sa e ds]
 |.cp ds=>by rw[D.aJ,D.aJ,D.sa e ds]
 |.pa b ds=>by rw[D.aJ,D.aJ,D.sa e ds]
 |.rf s g o=>by rw[D.aJ,D.aJ,e]
 |.ms s g l=>by rw[D.aJ,D.aJ,e]
 |.mp s g=>by rw[D.aJ,D.aJ,e]
 |.fn f a b=>by rw[D.aJ,D.aJ,D.sa e a,D.sa e b]
def D.sa{p:Nat->Nat}(e:∀x,p (p x)=x):∀l:List D,D.fV p (D.fV p l)=l
 |[]=>rfl
 |d::l=>by rw[D.fV,D.fV,D.jp e d,D.sa e l]
def D.D9{p:Nat->Nat}(e:∀x,p (p x)=x):∀l:List (List D),D.mA p (D.mA p l)=l
 |[]=>rfl
 |r::l=>by rw[D.mA,D.mA,D.sa e r,D.D9 e l]
end
variable {m2:b5}{a3:DL}{h:Nat}{am:D}
def kC(b:(D.fV m2 a3)[h]?=E am):∃a,a3[h]?=E a/\am=a.aJ m2:=by
 rw[D.AI,gF]at b;exact Zg
def tN(b:b5)(a:DL):(D.fV b a).length=a.length:=by rw[D.AI];simp
def LY(b:b5)(a:ct):(D.mA b a).length=a.length:=by rw[D.AG];simp
variable {i2:ct}
def AH(b:(D.mA m2 i2)[h]?=E a3):∃a,i2[h]?=E a/\a3=D.fV m2 a:=by
 rw[D.AG,gF]at b;exact Zg
def D.gO{g:b5}{e:D}(d:Cl e):e.aJ g=e:=by
 have f:∀b:DL,(∀(j:Nat)(e:D),b[j]?=E e->e.aJ g=e)->D.fV g b=b:=λb q=>by
  rw[D.AI];refine List.ext_getElem? λj=>?_;exact Zg
 induction d with
 |sc v=>rfl
 |any=>rfl
 |sl i h d a=>
  rw[D.aJ];congr 1;rw[D.AG];refine List.ext_getElem? λj=>?_;exact Zg
 |cs i h d a=>
  have a:D.sl i (D.mA g h)=.sl i h:=a;rw[D.sl.injEq]at a;show D.cs i (D.mA g h)=_;rw[a.2]
 |ag b d a=>rw[D.aJ,f b a]
 |tp b d a=>rw[D.aJ,f b a]
 |cp b d a=>rw[D.aJ,f b a]
 |pa m b d a=>rw[D.aJ,f b a]
 |fn o b k d p a l=>rw[D.aJ,f b a,f k l]
def Rd.aJ{u:aL}{r:cb}{i:dm}{q:b5}{d:b5}(X:∀W,d (d W)=W){m:D}{v:aE}(w:Rd (view u r i q) m v):Rd (view u r (λh=>i (d h)) λh=>q (d h)) (m.aJ d) v:=by
 have O:∀e t V,(view u r i q).C e t=E V->(view u r (λh=>i (d h)) λh=>q (d h)).C e t=E V:=λe t V S=>
  dK (dr S) (cR S).1 λf W B a=>(cR S).2 _ _ _ a
 have am:∀f,(view u r (λh=>i (d h)) λh=>q (d h)).g (d f)=(view u r i q).g f:=λf=>by show i (d (d f))=i f;rw[X]
 have R:∀f,(view u r (λh=>i (d h)) λh=>q (d h)).n (d f)=(view u r i q).n f:=λf=>by show q (d (d f))=q f;rw[X]
 induction w with
 |sc v=>exact .sc v
 |any v=>exact .any v
 |nil z=>exact .nil z
 |fu z L J Q=>exact .fu z L J Q
 |sl z U e t J A P Q x G ak l=>
  rw[D.aJ,<-LY d U];refine .sl z _ e t J A (by rw[LY];exact P) Q (λk Y j=>?_) (λk Y p m j o=>?_) λk Y p m j o=>?_
  .obtain⟨I,F,rfl⟩:=AH j;rw[tN];exact x k I F
  .obtain⟨I,F,rfl⟩:=AH j;obtain⟨b,M,rfl⟩:=kC o;exact O _ _ _ (G k I p b F M)
  .obtain⟨I,F,rfl⟩:=AH j;obtain⟨b,M,rfl⟩:=kC o;exact l k I p b F M
 |cs z U v _ P l=>exact .cs z (D.mA d U) v l P
 |ag K vs x _ l=>rw[D.aJ];exact .ag _ vs (by rw[tN];exact x) λk m v j y=>by obtain⟨b,a,rfl⟩:=kC j;exact l k b v a y
 |tp K vs x _ l=>rw[D.aJ];exact .tp _ vs (by rw[tN];exact x) λk m v j y=>by obtain⟨b,a,rfl⟩:=kC j;exact l k b v a y
 |cp K e t A G _ l=>rw[D.aJ];exact .cp _ e t A (λp m o=>by obtain⟨b,a,rfl⟩:=kC o;exact O _ _ _ (G p b a)) λp m o=>by obtain⟨b,a,rfl⟩:=kC o;exact l p b a
 |pa e K A s ab G _ l=>rw[D.aJ];exact .pa e _ A (by rw[tN];exact s) ab (λp m o=>by obtain⟨b,a,rfl⟩:=kC o;exact O _ _ _ (G p b a)) λp m o=>by obtain⟨b,a,rfl⟩:=kC o;exact l p b a
 |rf f i t L s w=>rw[D.aJ];exact .rf _ _ _ _ (by rw[R];exact s) λe B a=>w e B Zg
 |ms f i an L J s w=>rw[D.aJ];exact .ms _ _ _ _ _ ⟨by rw[R];exact s.1,s.2⟩ λe B a=>w e B Zg
 |mp f i e s w=>rw[D.aJ];exact .mp _ _ _ (by rw[R];exact s) λe B a=>w e B Zg
 |fn Z K ai vs A x ae _ _ l ah=>
  rw[D.aJ];exact .fn Z _ _ vs A (by rw[tN];exact x) (by rw[tN];exact ae) (λk m v j y=>by obtain⟨b,a,rfl⟩:=kC j;exact l k b v a y) λk m v j y=>by obtain⟨b,a,rfl⟩:=kC j;exact ah k b v a y
def Ob.aJ(p:b5)(ob:Ob):Ob:={ob with cells:=ob.cells.map (D.aJ p)}
def St.aJ(p:b5)(s:St):St:={s with env:=λi=>(s.env i).aJ p,H:=λt=>(s.H (p t)).map (Ob.aJ p),n:=λt=>s.n (p t)}
def Bs.aJ(p:b5)(a:Bs):Bs:={a with G:=λt=>a.G (p t),N:=λt=>a.N (p t)}
variable {ws:Bs}{sm:cb}{YJ:dm}{ce:St}{YL:cq}{i4:aL}
def aS.aJ{b:b5}(k:∀f,b (b f)=f)(a:aS ws sm YJ ce YL i4):aS (ws.aJ b) sm (λd=>YJ (b d)) (ce.aJ b) YL i4:=by
 refine⟨a.defers,a.size,λt=>(a.env t).aJ k,λd u s=>?_,λd f e g h=>a.base _ _ _ _ h,λd L f e g M K h p=>?_,⟨a.below.os,a.below.tape,a.below.output,a.below.size,a.below.block⟩,λe j=>⟨(a.m0 e j).1,λd f g=>(a.m0 e j).2 _ _ _⟩,a.mm,a.zm,a.tree,a.nd,⟨λd=>a.og.1 _,λd f e g j h=>a.og.2 _ _ _ _ j h⟩,a.wm⟩
 .obtain⟨w,q,rfl⟩:=jg.1 (show(ce.H (b d)).map (Ob.aJ b)=E u from s);obtain⟨x,e,g,vs,y,z,A,B,C,F⟩:=a.obj _ _ q;refine⟨x,e,g,vs,y,z,A,B,by simpa[Ob.aJ]using C,λl m i=>?_⟩;have i:(w.cells.map (D.aJ b))[l]?=E m:=i;rw[gF]at i;obtain⟨o,r,rfl⟩:=jg.1 i;obtain⟨G,I,J⟩:=F l o r;exact⟨G,I,J.aJ k⟩
 .have:=a.inj _ _ _ _ _ _ _ h p;exact Zg
def St.jp{a:b5}(b:∀f,a (a f)=f)(d:St):(d.aJ a).aJ a=d:=by
 obtain⟨o,g,s,t,k,j⟩:=d;simp only[St.aJ,St.mk.injEq,fa];refine⟨funext λq=>D.jp b _,funext λe=>?_,funext λe=>by rw[b]⟩;rw[b];cases g e with
 |none=>rfl
 |some i=>
  obtain⟨p,m,u,l,r⟩:=i;simp only[ey,Ob.aJ,dZ];congr 2;have:(D.aJ a∘D.aJ a)=id:=funext λh=>D.jp b h;rw[this,List.map_id]
def St.tO{a:b5}(b:St)(e:ON)(g:D):(b.put e g).aJ a=(b.aJ a).put e (g.aJ a):=by
 cases e with
 |none=>rfl
 |some f=>
  simp only[St.put];by_cases d:f<b.nt
  .rw[aM d,aM (show f<(b.aJ a).nt from d)];simp only[St.aJ,St.mk.injEq,fa];funext h;unfold af;split<;>rfl
  .rw[av d,av (show¬f<(b.aJ a).nt from d)]
variable {g3:ay}{g5:bK}{i0:ON}{gc:aU}
def yR{f:St}{args:DL}(a:b5)(d:∀k,a (a k)=k)(w:gx g3 (f.aJ a) g5 (D.fV a args) i0 λI=>gc (I.aJ a)):gx g3 f g5 args i0 gc:=by
 intro j m t p J env A vs z C;obtain⟨x,y⟩:=w (j.aJ a) m (λb=>t (a b)) p J (λe=>(env e).aJ a) (A.aJ d) vs (by rw[tN];exact z) λe h v i F=>by
  obtain⟨q,r,rfl⟩:=kC i;exact(C e q v r F).aJ d
 refine⟨x,y.mono λk K⟨v,h,H,n,T,u,o,G,B,i,g⟩=>?_⟩;have l:=B.aJ d;have g:gc (St.aJ a (St.put {f.aJ a with H:=H,n:=n,T:=T} i0 h)):=g;rw[St.tO]at g;have s:(j.aJ a).aJ a=j:=by simp only[Bs.aJ];congr 1<;>funext b<;>rw[d]
 rw[s]at l;refine⟨v,h.aJ a,λb=>(H (a b)).map (Ob.aJ a),λb=>n (a b),T,λb=>u (a b),o,G,?_,i.aJ d,?_⟩
 .have:({f.aJ a with env:=λe=>(env e).aJ a,H:=H,n:=n,T:=T}:St).aJ a={f with env:=env,H:=λb=>(H (a b)).map (Ob.aJ a),n:=λb=>n (a b),T:=T}:=by
   simp only[St.aJ,St.mk.injEq,fa];funext e;exact D.jp d _
  rw[<-this];exact l
 .have:({f.aJ a with H:=H,n:=n,T:=T}:St).aJ a={f with H:=λb=>(H (a b)).map (Ob.aJ a),n:=λb=>n (a b),T:=T}:=by
   simp only[St.aJ,St.mk.injEq,fa];funext e;exact D.jp d _
  rw[<-this];exact g
inductive In (L:List Nat):D->Prop
 |sc (v:aE):In L (.sc v)
 |any:In L .any
 |sl (sz:Nat) {rows:List (List D)} (h:∀(i:Nat)(r:List D)(j:Nat)(d:D),rows[i]?=E r->r[j]?=E d->In L d):In L (.sl sz rows)
 |cs (sz:Nat) {rows:List (List D)} (h:In L (.sl sz rows)):In L (.cs sz rows)
 |ag {ds:List D} (h:∀(i:Nat)(d:D),ds[i]?=E d->In L d):In L (.ag ds)
 |tp {ds:List D} (h:∀(i:Nat)(d:D),ds[i]?=E d->In L d):In L (.tp ds)
 |cp {ds:List D} (h:∀(i:Nat)(d:D),ds[i]?=E d->In L d):In L (.cp ds)
 |pa (b:Nat) {ds:List D} (h:∀(i:Nat)(d:D),ds[i]?=E d->In L d):In L (.pa b ds)
 |rf {s:Nat} (g o:Nat) (h:s∈L):In L (.rf s g o)
 |ms {s:Nat} (g l:Nat) (h:s∈L):In L (.ms s g l)
 |mp {s:Nat} (g:Nat) (h:s∈L):In L (.mp s g)
 |fn (f:bK) {ds es:List D} (h:∀(i:Nat)(d:D),ds[i]?=E d->In L d) (a:∀(i:Nat)(d:D),es[i]?=E d->In L d):In L (.fn f ds es)
variable {g4:aD}
def Cl.cD(f:Cl am):In g4 am:=by
 induction f with
 |sc v=>exact .sc v
 |any=>exact .any
 |sl b _ _ a=>exact .sl b a
 |cs b _ _ a=>exact .cs b a
 |ag _ _ a=>exact .ag a
 |tp _ _ a=>exact .tp a
 |cp _ _ a=>exact .cp a
 |pa d _ _ a=>exact .pa d a
 |fn e _ _ _ _ a g=>exact .fn e a g
def Rd.cD{x y:View}(w:∀d o O,x.C d o=E O->y.C d o=E O/\(x.K d->y.K d))(J:∀j,x.n j<=y.n j)(Y:∀j∈g4,y.g j=x.g j){a:D}{v:aE}(p:Rd x a v)(b:In g4 a):Rd y a v:=by
 induction p with
 |sc v=>exact .sc v
 |any v=>exact .any v
 |nil s=>exact .nil s
 |fu s z B I=>exact .fu s z B I
 |sl s L d o B t R I q u _ k=>
  cases b with|sl _ b=>
  exact .sl s L d o B t R I q (λf G i a e h=>(w _ _ _ (u f G i a e h)).1) (λf G i a e h=>k f G i a e h (b f G i a e h))
 |cs s L v _ w k=>cases b with|cs _ b=>exact .cs s L v (k b) w
 |ag l vs q _ k=>cases b with|ag b=>exact .ag l vs q λf a v e r=>k f a v e r (b f a e)
 |tp l vs q _ k=>cases b with|tp b=>exact .tp l vs q λf a v e r=>k f a v e r (b f a e)
 |cp l d o t u _ k=>cases b with|cp b=>exact .cp l d o t (λi a h=>(w _ _ _ (u i a h)).1) λi a h=>k i a h (b i a h)
 |pa d l t m S u _ k=>cases b with|pa _ b=>exact .pa d l t m ((w _ _ _ (u 0 _ (bR m))).2 S) (λi a h=>(w _ _ _ (u i a h)).1) λi a h=>k i a h (b i a h)
 |rf j F o z m p=>cases b with|rf _ _ b=>exact .rf j F o z (gv m (J j)) λd A M=>p d A Zg
 |ms j F X z B m p=>cases b with|ms _ _ b=>exact .ms j F X z B ⟨gv m.1 (J j),m.2⟩ λd A M=>p d A Zg
 |mp j F d m p=>cases b with|mp _ b=>exact .mp j F d (gv m (J j)) λd A M=>p d A Zg
 |fn Q l P vs t q U _ _ k V=>
  cases b with|fn _ b W=>
  exact .fn Q l P vs t q U (λf a v e r=>k f a v e r (b f a e)) λf a v e r=>V f a v e r (W f a e)
def kA(L b:aD)(H a:bt):Nat->ux:=λt=>if t∈b then a t else aN L H t
variable {on:aD}{fd i8:bt}
def K9(a:h∈on):kA g4 on fd i8 h=i8 h:=by simp[kA,a]
def K_(a:h∉on)(b:h∉g4):kA g4 on fd i8 h=fd h:=by simp[kA,a,aN,b]
def Iw{j:St}{args:DL}{R:ON}(l r:aD)
 (aO:gx g3 {j with H:=bi l j.H} g5 args R λah=>(∀b∈r,∀s,ah.H b=E s->∀y∈s.cells,In r y)/\(∀b,R=E b->b<j.nt->In r (ah.env b))/\gc {ah with H:=kA l r j.H ah.H}):gx g3 j g5 args R gc:=by
 intro Y P p Z t env hr vs aW aY
 let I:Nat->Option (ym):=λb=>if b∈l then p b else aa
 have pK:∀{b G},I b=E G->b∈l/\p b=E G:=λ{b G}e=>by
  simp only[I]at e;split at e
  .exact⟨‹_›,e⟩
  .cases e
 let O:Bs:=⟨t,λa=>Y.M a\/∃b f d,aN l p b=E (f,a,d),λa=>(∃b f d,I b=E (f,a,d))\/∃e∈j.T,a∈e.F,I,j.n,Z.defers⟩
 have X:∀a,O.own a->Y.own a:=λa k=>by
  rcases k with k|⟨b,f,d,k⟩|⟨e,m,q⟩
  .exact .inl (fY hr.below.size k)
  .exact(hr.base _ _ _ _ (pK k).2).1
  .exact(hr.tree e m).2 a q
 let ai:Nat->Prop:=λa=>P a\/∃b f d,aN l p b=E (f,a,d)
 have aT:∀b f a d,p b=E (f,a,d)->¬P a:=λb f a d e k=>(hr.m0 a k).2 _ _ _ e;have ax:(view t P p j.n).Ext (view t ai I j.n):=by
  refine⟨λa W J h=>⟨dK (dr h) ?_ λb f d e=>(cR h).2 _ _ _ (pK e).2,hM⟩,λ_=>b_ _,λb f a d _ e=>(pK e).2⟩;rintro(k|⟨b,f,d,k⟩)
  .exact(cR h).1 k
  .exact(cR h).2 _ _ _ (j_ k).2
 have aX:aS O ai I {j with H:=bi l j.H,env:=env} Z t:=by
  refine⟨A,hr.size,λV=>(hr.env V).mono ax,λb s i=>?_,λb f a d e=>⟨.inr (.inl ⟨b,f,d,e⟩),(hr.base _ _ _ _ (pK e).2).2⟩,λb aA f a d aB ak e o=>hr.inj _ _ _ _ _ _ _ (pK e).2 (pK o).2,⟨A,A,A,b_ _,λ_ _=>A⟩,λa k=>?_,λa=>?_,⟨λa k ae=>?_,.inl hr.zm.2.1,hr.jr.2⟩,λe m=>⟨(hr.tree e m).1,λa q=>.inr (.inr ⟨e,m,q⟩)⟩,hr.nd,⟨λ_=>b_ _,λ_ _ _ _ _ e=>e⟩,λa k=>hr.wm a (X a k)⟩
  .have i:(if b∈l then j.H b else aa)=E s:=i;split at i
   .rename_i L;refine(hr.obj b s i).mono ax λf a d e=>⟨?_,A⟩;show(if b∈l then p b else aa)=_;rw[aM L];exact e
   .cases i
  .rcases k with k|⟨b,f,d,k⟩
   .exact⟨(hr.m0 a k).1,λb f d e=>(hr.m0 a k).2 _ _ _ (pK e).2⟩
   .obtain⟨k1,k2⟩:=j_ k;refine⟨(hr.base _ _ _ _ k2).2,λaA aB ak e=>?_⟩;exact FJ
  .show P a\/_↔(Y.M a\/_)\/_;rw[hr.mm a];constructor
   .rintro((k|k)|k)
    .exact .inl (.inl k)
    .exact .inr k
    .exact .inl (.inr k)
   .rintro((k|k)|k)
    .exact .inl (.inl k)
    .exact .inr k
    .exact .inl (.inr k)
  .rcases k with k|⟨b,f,d,k⟩
   .exact hr.zm.1 a k (X a ae)
   .obtain⟨k1,k2⟩:=j_ k;rcases ae with ae|⟨aA,aB,ak,e⟩|⟨e,m,q⟩
    .have:=(hr.base _ _ _ _ k2).2;have:t.heap.size<=a:=ae;omega
    .exact FJ
    .exact aT _ _ _ _ k2 ((hr.mm a).2 (.inr ⟨e,m,q⟩))
 obtain⟨aQ,aR⟩:=aO O ai I Z t env aX vs aW λV y v ap aZ=>(aY V y v ap aZ).mono ax;refine⟨aQ,aR.mono λf w⟨v,y,H,n,T,z,Q,aK,k2,ap,aE,aP,S⟩=>?_⟩;simp only[oa]at aE S
 let u:Nat->Option (ym):=λb=>if b∈r then z b else aN l p b
 have B:∀{b G},u b=E G->(b∈r/\z b=E G)\/(b∉r/\b∉l/\p b=E G):=λ{b G}e=>by
  simp only[u]at e;split at e
  .exact .inl ⟨‹_›,e⟩
  .exact .inr ⟨‹_›,j_ e⟩
 let x:Nat->Prop:=λa=>Y.M a\/∃e∈T,a∈e.F
 have an:∀a,x a->Q a:=λa k=>(k2.mm a).2 (by
  rcases k with k|k
  .exact .inl (.inl k)
  .exact .inr k)
 have U:∀b f a d,b∉l->p b=E (f,a,d)->Q a/\¬O.own a/\w.heap[a]?=t.heap[a]?:=λb f a d i e=>by
  have az:O.M a:=.inr ⟨b,f,d,by show aN l p b=_;unfold aN;rw[av i];exact e⟩;exact⟨(k2.mm a).2 (.inl az),k2.zm.1 a az,k2.below.block a (k2.zm.1 a az)⟩
 have aw:(view t P p j.n).Ext (view w x u n):=by
  refine⟨λa W J h=>?_,k2.og.1,λb f a d D e=>?_⟩
  .have D:a<t.heap.size:=mx (dr h);have ar:¬O.own a:=by
    rintro(k|⟨b,f,d,k⟩|⟨e,m,q⟩)
    .have:t.heap.size<=a:=k;omega
    .exact(cR h).2 _ _ _ (pK k).2
    .exact(cR h).1 ((hr.mm a).2 (.inr ⟨e,m,q⟩))
   have aJ:=k2.below.block a ar;refine⟨dK ((oK aJ).trans (dr h)) ?_ λb f d k=>?_,λ⟨a',e,k⟩=>⟨a',e,aJ.trans k⟩⟩
   .rintro(k|⟨e,m,q⟩)
    .exact(cR h).1 ((hr.mm a).2 (.inl k))
    .exact ar ((k2.tree e m).2 a q)
   .rcases B k with⟨_,k⟩|⟨_,_,k⟩
    .exact ar (k2.base _ _ _ _ k).1
    .exact(cR h).2 _ _ _ k
  .rcases B e with⟨_,e⟩|⟨_,_,e⟩
   .exact(pK (k2.og.2 _ _ _ _ D e)).2
   .exact e
 have aL:∀a W J,(view w Q z n).C a W=E J->(view w x u n).C a W=E J/\((view w Q z n).K a->(view w x u n).K a):=λa W J h=>by
  refine⟨dK (dr h) (λk=>(cR h).1 (an a k)) λb f d k=>?_,hM⟩;rcases B k with⟨_,k⟩|⟨_,ab,k⟩
  .exact(cR h).2 _ _ _ k
  .exact(cR h).1 (U _ _ _ _ ab k).1
 have aq:∀b∈r,(view w x u n).g b=(view w Q z n).g b:=λb i=>by
  show(if b∈r then z b else aN l p b)=z b;rw[aM i]
 have aH:aS Y x u {j with env:=env,H:=kA l r j.H H,n:=n,T:=T} Z w:=by
  refine⟨hr.defers,hr.size,λV=>(hr.env V).mono aw,λb s i=>?_,λb f a d e=>?_,λb aA f a d aB ak e o=>?_,hr.below.step k2.below.os k2.below.tape k2.below.output k2.below.size λk aV=>k2.below.block k λh=>aV (X k h),λa k=>⟨(k2.m0 a (an a k)).1,λb f d e=>?_⟩,λa=>Iff.rfl,hr.zm,λe m=>⟨(k2.tree e m).1,λa q=>X a ((k2.tree e m).2 a q)⟩,k2.nd,hr.og.ext aw,hr.wm⟩
  .have i:(if b∈r then H b else aN l j.H b)=E s:=i;split at i
   .rename_i L;obtain⟨a1,a,d,vs,a2,a3,a4,a5,a6,a7⟩:=k2.obj b s i;refine⟨a1,a,d,vs,(aq b L).trans a2,a3,a4,a5,a6,λa0 y aG=>?_⟩;obtain⟨J,a8,a9⟩:=a7 a0 y aG;exact⟨J,a8,a9.cD aL (λ_=>b_ _) aq (aE b L s i y (eg aG))⟩
   .rename_i L;have au:b∉l/\j.H b=E s:=by
     unfold aN at i;split at i
     .cases i
     .exact⟨‹_›,i⟩
    refine(hr.obj b s au.2).mono aw λf a d e=>⟨?_,(U b f a d au.1 e).2.2⟩;show(if b∈r then z b else aN l p b)=_;rw[av L];unfold aN;rw[av au.1];exact e
  .rcases B e with⟨_,e⟩|⟨_,_,e⟩
   .exact⟨X a (k2.base _ _ _ _ e).1,(k2.base _ _ _ _ e).2⟩
   .exact⟨(hr.base _ _ _ _ e).1,gv (hr.base _ _ _ _ e).2 k2.below.size⟩
  .rcases B e with⟨_,e⟩|⟨_,am,e⟩
   .rcases B o with⟨_,o⟩|⟨_,ab,o⟩
    .exact k2.inj _ _ _ _ _ _ _ e o
    .exact absurd (k2.base _ _ _ _ e).1 (U _ _ _ _ ab o).2.1
   .rcases B o with⟨_,o⟩|⟨_,ab,o⟩
    .exact absurd (k2.base _ _ _ _ o).1 (U _ _ _ _ am e).2.1
    .exact hr.inj _ _ _ _ _ _ _ e o
  .rcases B e with⟨_,e⟩|⟨_,am,e⟩
   .exact(k2.m0 a (an a k)).2 _ _ _ e
   .rcases k with k|⟨o,m,q⟩
    .exact(hr.m0 a ((hr.mm a).2 (.inl k))).2 _ _ _ e
    .exact(U _ _ _ _ am e).2.1 ((k2.tree o m).2 a q)
 by_cases aF:∃b,R=E b/\b<j.nt
 .obtain⟨b,rfl,D⟩:=aF;have aC:=aP b A D;simp only[St.put,D,aI,af]at aC;refine⟨v,y,_,n,T,u,x,aK,aH,ap.cD aL (λ_=>b_ _) aq aC,?_⟩;simpa only[St.put,D,aI]using S
 .refine⟨v,.any,_,n,T,u,x,aK,aH,.any v,?_⟩;cases R with
  |none=>exact S
  |some b=>
   have D:¬b<j.nt:=λh=>aF ⟨b,A,h⟩;simp only[St.put,av D]at S⊢;exact S
end
section
open Go.RowKit
section
variable{P:ay}{i n:Nat}{ops:f_}{Q:gk->cq->aL->Prop}
def LB{b:da}{e:cq}{d:aL}{next:cq->aL->Prop}(p:∀f,b.op≠.defer f)(a:b.wp P e d next Q):b.wpIn (Fence.wide.inRound i) n P e d next Q:=by
 unfold Oper.wpIn;refine⟨λ_ _=>trivial,?_⟩;rw[Oper.semAt_eq _ _ _ p];unfold Oper.wp at a;generalize (dl e.eval b).run P d=l at a⊢;have k:(Fence.wide.inRound i).depth.isSome=ad->1<=n:=λg=>by cases g
 cases l with
 |ok j h=>
  cases j with
  |value v=>exact a
  |skip=>exact a
  |defer s=>exact a
  |enter t args=>exact⟨k,(CallsIn.inRound i (callsIn_wide.2 a)).mono λo d q=>by cases o<;>exact q⟩
  |row l args=>exact⟨k,λf m _=>let⟨v,h,g,r⟩:=a f m;⟨v,h,g,stepsIn_wide.2 r⟩⟩
  |_=>exact a.elim
 |halt j h=>cases j<;>exact a
def r6(o:da):Bool:=match o.op with|.defer _=>al|_=>ad
def Lo{b:da}(e:r6 b=ad):∀a,b.op≠.defer a:=λa d=>by simp[r6,d]at e
def EV(f:¬LetsOut Q):∀(b:gY)(_:∀e∈b,r6 e=ad)(a:cq)(d:aL),f' P ops Q b a d->wpListIn (Fence.wide.inRound i) n P ops Q b a d
 |[],_,a,d,h=>h
 |e::b,j,a,d,h=>by
  unfold f' at h;unfold wpListIn;have k:=λe l=>j e (np _ l);split at h
  .rename_i g;rw[aM g];rcases h with h|h
   .exact Oper.wpIn_mono (λa d h=>EV f b k a d h) (LB (Lo (j e Zs)) h)
   .exact absurd h.2 f
  .rename_i g;rw[av g];exact⟨λ_ _=>trivial,EV f b k _ _ h⟩
def XU(j:¬LetsOut Q)(m:(ops.all r6)=ad){f:Nat}{d:cq->aL->Prop}{e:cq}{g:aL}(h:wpOp P ops Q f d e g):wpOpIn (Fence.wide.inRound i) n P ops Q f d e g:=by
 unfold wpOp at h;unfold wpOpIn;split
 .rename_i a;rw[a]at h;exact h
 .rename_i l a;rw[a]at h;simp only at h;have k:r6 l=ad:=by
   exact Zg
  split at h
  .rename_i b;rw[aM b];rcases h with h|h
   .exact LB (Lo k) h
   .exact absurd h.2 j
  .rename_i b;rw[av b];exact⟨λ_ _=>trivial,h⟩
def Nv(f:¬LetsOut Q)(g:(ops.all r6)=ad){j:Region.Mode}:∀(d:Nat)(h:nv)(b:cq)(e:aL),wpAny P j ops Q d h b e->wpAnyIn (Fence.wide.inRound i) n P j ops Q d h b e
 |0,_,_,_,a=>a
 |d+1,_,_,_,a=>⟨a.1,λl k=>wpOpIn_mono (λb e a=>Nv f g d _ b e a) (XU f g (a.2 l k))⟩
end
def flat:dH->Bool
 |.skip=>ad
 |.exit _=>ad
 |.ret=>ad
 |.region _ ops _=>ops.all r6
 |.seq x y=>flat x&&flat y
 |.cond _ x y=>flat x&&flat y
 |.block _ c=>flat c
 |_=>al
def t_{P:ay}{q:Bs}{w:aD}{i n:Nat}:∀(k:dH)(Q:gw){M:cb}{g:dm}{s:St}{d:cq}{f:aL},flat k=ad->(∀s,¬Q .outgrown s)->aS q M g s d f->vc P w k Q s->k.wpIn (Fence.wide.inRound i) n P (LQ q Q) d f
 |.skip,Q,M,g,s,d,f,_,_,b,a=>wpIn_skip ⟨s,g,M,a,b⟩
 |.region id ops y,Q,M,g,s,d,f,h,j,b,a=>by
  have t:¬LetsOut (LQ q Q):=λ⟨d,f,s,g,M,l,_⟩=>j s l;have p:ops.all r6=ad:=h;cases y with
  |false=>
   refine wpIn_region_list (EV t ops.toList (λF B=>?_) _ _ (Ba (K:=Q .normal) (λd f⟨s,g,M,h1,h2⟩=>⟨s,g,M,h1,h2⟩) ops.toList b a));rw[<-Array.all_toList,b6]at p;exact p F B
  |true=>
   exact wpIn_region_any a.1 (Nv t p _ _ _ _ (a.2 _ _ _ _ _ _ (λd f⟨s,g,M,C,D⟩=>⟨s,g,M,C,D⟩) (b.grow (by exact⟨A,A,A,b_ _,λ_ _=>A⟩))))
 |.seq r m,Q,M,g,s,d,f,h,j,b,a=>by
  simp only[flat,b3]at h;refine wpIn_seq (wpIn_mono (t_ r (ki (vc P w m Q) Q) h.1 (λs l=>j s l) b a) λe d f⟨s,g,M,h1,h2⟩=>?_);cases e
  case normal=>exact t_ m Q h.2 j h2 h1
  all_goals exact⟨s,g,M,h1,h2⟩
 |.cond k r m,Q,M,g,s,d,f,h,j,b,a=>by
  simp only[flat,b3]at h;have o:=b.ev k;simp only[vc,oO]at a;split at a
  .rename_i x z;rw[z]at o;generalize u:d.eval k=v at o;cases o;cases x
   .exact wpIn_cond_false u (t_ m Q h.2 j b (a.2 A))
   .exact wpIn_cond_true u (t_ r Q h.1 j b (a.1 A))
  .exact a.elim
 |.block id k,Q,M,g,s,d,f,h,j,b,a=>by
  refine wpIn_block (wpIn_mono (t_ k (nG id Q) (by simpa[flat]using h) (λs l=>j s l) b a) λe d f⟨s,g,M,h1,h2⟩=>?_);exact GR
 |.exit id,Q,M,g,s,d,f,_,_,b,a=>wpIn_exit ⟨s,g,M,a,b⟩
 |.ret,Q,M,g,s,d,f,_,_,b,a=>wpIn_ret ⟨s,g,M,a,b⟩
 |.loop _,_,_,_,_,_,_,a,_,_,_=>by cases a
 |.rangeFunc ..,_,_,_,_,_,_,a,_,_,_=>by cases a
 |.scope _,_,_,_,_,_,_,a,_,_,_=>by cases a
 |.label _,_,_,_,_,_,_,a,_,_,_=>by cases a
 |.goto _,_,_,_,_,_,_,a,_,_,_=>by cases a
 |.refuse _,_,_,_,_,_,_,a,_,_,_=>by cases a
end
section
open Go.RowKit
def rZ(b:Nat):Deferred:={target:=.collected b,args:=#[]}
structure Bx (z d:Bs):Prop where
 dq:∃l:List Nat,l.Nodup/\d.dq=l.map rZ++z.dq/\∀b∈l,d.M b/\d.w.heap[b]?=E (.deferred (E []))/\z.own b
 own:∀b,d.own b->z.own b
 ok:z.Ok d.w
 m:∀b,z.M b->d.M b
 zm:∀b,d.M b->¬d.own b
 ND:ZM z
 n:∀t,z.N t<=d.N t
 g:∀t x b c,x<z.N t->d.G t=E (x,b,c)->z.G t=E (x,b,c)
def Bx.refl{d:Bs}(e:ZM d):Bx d d:=
 ⟨⟨[],Zs,A,Zs⟩,λ_ b=>b,⟨A,A,A,b_ _,λ_ _=>A⟩,λ_ b=>b,e.1,e,λ_=>b_ _,λ_ _ _ _ _ f=>f⟩
def Bx.trans{p q r:Bs}(e:Bx p q)(d:Bx q r):Bx p r:=by
 obtain⟨C,t,u,i⟩:=e.dq;obtain⟨D,z,A,k⟩:=d.dq;refine⟨⟨D++C,?_,by rw[A,u];simp,λb f=>?_⟩,λb j=>e.own b (d.own b j),e.ok.step d.ok.os d.ok.tape d.ok.output d.ok.size λb j=>d.ok.block b λF=>j (e.own b F),λb j=>d.m b (e.m b j),d.zm,e.ND,λh=>fY (e.n h) (d.n h),λh x b c l o=>e.g h x b c l (d.g h x b c (gv l (e.n h)) o)⟩
 .rw[gR];exact⟨z,t,λx l y B o=>by subst o;exact e.zm x (i x B).1 (k x l).2.2⟩
 .rcases cg.1 f with f|f
  .exact⟨(k b f).1,(k b f).2.1,e.own b (k b f).2.2⟩
  .exact⟨d.m b (i b f).1,(d.ok.block b (e.zm b (i b f).1)).trans (i b f).2.1,(i b f).2.2⟩
def mz:List Nat->aL->aL
 |[],w=>w
 |b::l,w=>mz l (w.putObj b (.deferred aa))
def Lw:∀(d:aD)(w:aL),(mz d w).os=w.os/\(mz d w).tape=w.tape/\(mz d w).output=w.output/\(mz d w).heap.size=w.heap.size/\∀b,b∉d->(mz d w).heap[b]?=w.heap[b]?
 |[],w=>⟨A,A,A,A,λ_ _=>A⟩
 |b::d,w=>by
  obtain⟨f,h,i,j,k⟩:=Lw d (w.putObj b (.deferred aa));refine⟨f,h,i,by rw[mz,j];simp,λl e=>?_⟩;simp only[cJ,jT]at e;rw[mz,k l e.2,World.putObj_heap_other e.1]
def KL{P:ay}{o:Nat}{h:iw}{l:iA}{R:Ending->aL->Prop}:∀(d:aD)(w:aL),d.Nodup->(∀b∈d,w.heap[b]?=E (.deferred (E [])))->(∃v,(results h l).run P (mz d w)=.ok v (mz d w)/\R (.returned v) (mz d w))->
 LeavesInM Fence.wide o P h l R (d.map rZ) .returning w
 |[],w,_,_,e=>e
 |b::d,w,f,j,e=>by
  rw[la]at f;refine⟨Zs,.inl ⟨b,w.putObj b (.deferred aa),A,run_takeDeferred (j b Zs),KL d _ f.2 (λk i=>?_) e⟩⟩;rw[World.putObj_heap_other (λm:k=b=>f.1 (m▸i))];exact j k (by simp[i])
section
variable{P:ay}{w0:Bs}{M:cb}{g:dm}{s:St}{a:cq}{w:aL}
def Bx.out{o D:Bs}(i:Bx o D)(d:aS D M g s a w):∃j:aD,a.defers=j.map rZ++o.dq/\j.Nodup/\(∀b∈j,w.heap[b]?=E (.deferred (E [])))/\
 aS o (λb=>o.M b\/∃e∈s.T,b∈e.F) g {s with N:=0} {a with defers:=o.dq} (mz j w):=by
 obtain⟨j,L,O,p⟩:=i.dq;obtain⟨R,S,U,C,z⟩:=Lw j w;have I:∀b∈j,M b:=λb l=>(d.mm b).2 (.inl (p b l).1);have u:∀b,¬M b->(mz j w).heap[b]?=w.heap[b]?:=λb G=>z b λh=>G (I b h);have q:∀b,(o.M b\/∃e∈s.T,b∈e.F)->M b:=λb f=>(d.mm b).2 (f.imp (i.m b) id);have B:(view w M g s.n).Ext (view (mz j w) (λb=>o.M b\/∃e∈s.T,b∈e.F) g s.n):=
  ⟨λb X Y h=>⟨dK ((oK (u b (cR h).1)).trans (dr h)) (λf=>(cR h).1 (q b f)) (cR h).2,λ⟨W,e,f⟩=>⟨W,e,(u b (cR h).1).trans f⟩⟩,λ_=>b_ _,λ_ _ _ _ _ e=>e⟩
 refine⟨j,d.defers.trans O,L,λb l=>?_,A,d.size,λK=>(d.env K).mono B,λk V J=>(d.obj k V J).mono B λx b c e=>⟨e,u b λh=>(d.m0 b h).2 _ _ _ e⟩,λk x b c e=>⟨i.own b (d.base _ _ _ _ e).1,by rw[C];exact(d.base _ _ _ _ e).2⟩,d.inj,?_,λb f=>⟨by rw[C];exact(d.m0 b (q b f)).1,(d.m0 b (q b f)).2⟩,λb=>Iff.rfl,i.ND,λe r=>⟨(d.tree e r).1.mono λb l=>?_,λb l=>i.own b ((d.tree e r).2 b l)⟩,d.nd,⟨λk=>fY (i.n k) (d.og.1 k),λk x b c f e=>i.g k x b c f (d.og.2 k x b c (gv f (i.n k)) e)⟩,λ_ _=>iy _⟩
 .exact(d.below.block b (d.zm.1 b (p b l).1)).trans (p b l).2.1
 .refine(i.ok.step d.below.os d.below.tape d.below.output d.below.size λf t=>d.below.block f λh=>t (i.own f h)).step R S U Zg λf t=>z f λh=>t (p f h).2.2
 .exact z b λh=>d.zm.1 b (p b h).1 ((d.tree e r).2 b l)
end
def LD(d:Bs)(Q:gw):gk->cq->aL->Prop:=λe a w=>∃s g M b,Bx d b/\Q e s/\aS b M g s a w
def xX(P:ay)(f:eV)(h:Array Tmp)(d e:dH)(Q:gw)(s:St):Prop:=
 ∀(b:Bs)(M:cb)(g:dm)(a:cq)(w:aL),aS b M g s a w->(Code.rangeFunc f h d e).wp P (LD b Q) a w
def jQ(P:ay)(mu:List Nat):dH->(gk->St->Prop)->St->Prop
 |.seq x y,Q,s=>jQ P mu x (ki (λs=>jQ P mu y Q s) Q) s
 |.block id c,Q,s=>jQ P mu c (nG id Q) s
 |.rangeFunc e f b d,Q,s=>xX P e f b d Q s
 |c,Q,s=>vc P mu c Q s
def Nj(P:ay)(mu:aD)(c:dH)(Q:gw):St->Prop:=jQ P mu c Q
section
variable{P:ay}{mu:aD}{Q:gw}{s:St}{x y c:dH}{id:Nat}
def Xi:Nj P mu c Q s=jQ P mu c Q s:=cr A A
def Xo:jQ P mu (.seq x y) Q s=jQ P mu x (ki (Nj P mu y Q) Q) s:=cr A A
def Xj:jQ P mu (.block id c) Q s=jQ P mu c (nG id Q) s:=cr A A
def Xl{b:eV}{d:Array Tmp}:jQ P mu (.rangeFunc b d x y) Q s=xX P b d x y Q s:=cr A A
def Xm{d:f_}{b:Bool}:jQ P mu (.region id d b) Q s=vc P mu (.region id d b) Q s:=cr A A
def Xk:jQ P mu (.loop x) Q s=vc P mu (.loop x) Q s:=cr A A
def Xn:jQ P mu .ret Q s=vc P mu .ret Q s:=cr A A
end
def Nl{P:ay}{mu:aD}:∀(c:dH)(Q:gw){b:Bs}{M:cb}{g:dm}{s:St}{a:cq}{w:aL},aS b M g s a w->jQ P mu c Q s->c.wp P (LD b Q) a w:=by
 have m:∀(c:dH)(Q:gw){b:Bs}{M:cb}{g:dm}{s:St}{a:cq}{w:aL},aS b M g s a w->vc P mu c Q s->c.wp P (LD b Q) a w:=
  λc Q b M g s a w e f=>wp_mono (lD c Q e f) λj a w⟨s,g,M,d,h⟩=>⟨s,g,M,b,.refl e.zm,d,h⟩
 intro c
 induction c with
 |seq x y q r=>
  intro Q b M g s a w e f;refine wp_seq (wp_mono (q _ e f) λj a w⟨s,g,M,k,i,d,h⟩=>?_);cases j
  case normal=>exact wp_mono (r Q h d) λj a w⟨s,g,M,z,o,t,u⟩=>⟨s,g,M,z,i.trans o,t,u⟩
  all_goals exact⟨s,g,M,k,i,d,h⟩
 |block id c p=>
  intro Q b M g s a w e f;refine wp_block (wp_mono (p _ e f) λj a w⟨s,g,M,k,i,d,h⟩=>?_);cases j
  case exit B=>
   simp only[nG]at d;simp only[Exit.inBlock];split
   .rename_i l;rw[aM l]at d;exact⟨s,g,M,k,i,d,h⟩
   .rename_i l;rw[av l]at d;exact⟨s,g,M,k,i,d,h⟩
  all_goals exact⟨s,g,M,k,i,d,h⟩
 |rangeFunc A C x y=>exact λQ b M g s a w e f=>f b M g a w e
 |_=>exact λQ b M g s a w e f=>m _ Q e f
def UE{P:ay}{s:St}{b:Nat}{d:eP}:dj P {s with N:=b} d=dj P s d:=by
 have e:gP P {s with N:=b}=gP P s:=by
  funext x;cases x<;>simp only[gP];exact KQ A
 simp only[dj,e]
def LD.KK{P:ay}{e:Bs}{i:iw}{R:Ending->aL->Prop}{z:Nat}{M:cb}{g:dm}{s:St}{a:cq}{w:aL}{k:Bs}{h:D}(p:Bx e k)(r:aS k M g s a w)(t:e.dq=[])(q:dj P s i.results.toList=E h)
 (l:∀v d f,aS e f g {s with N:=0} {a with defers:=[]} d->Rd (view d f g s.n) h v->R (.returned v) d):LeavesInM Fence.wide z P i a.tmps R a.defers .returning w:=by
 obtain⟨u,j,m,o,b⟩:=p.out r;rw[t]at j b;rw[j,c_];obtain⟨v,A,B⟩:=qM b (by rw[UE];exact q);exact KL u w m o ⟨v,B,l v _ _ b A⟩
def Sp.Aw{P:ay}{m:bK}{b:iw}{c:dH}{i:DL}{f:D}{k:Nat}(mu:aD)(q:eP)(p:P.funcs[m]?=E b)(o:b.body=E c)(I:(b.name== "runtime.NumGoroutine")=al)
 (J:b.ntmps=k) (K:b.results.toList=q) (G:i.length<=k) (u:jQ P mu c (qN P q f) (sd i k)):Sp P m i f:=by
 subst K;refine⟨⟨b,p,I,by rw[o];rfl⟩,λw M vs B F L=>?_⟩;subst J;refine(callsIn_wide (n:=0)).1 (callsIn_of_wp_marks p o trivial (wpIn_wide.2 (wp_mono (Nl c _ (aS.start (Ts:=[]) aa A B F G (λR d v hd O=>(L R d v hd O).mono (kI λl=>by exact Zg)) Zs Zs) u) λe a h⟨r,X,V,Z,C,h1,z⟩=>?_)));have fin:∀d,dj P r b.results.toList=E d->Fz r.H d f->LeavesInM Fence.wide 0 P b a.tmps (λe h=>∃t,e=.returned t/\Below w.heap.size w h/\Rd (view h M (λ_=>aa) db) f t) a.defers .returning h:=by
  intro d hd hz;refine LD.KK C z A hd λv Y W j U=>⟨v,A,mL j.below Zs,(Rd.freeze j hz U).mono (kI λl S=>(j.mm l).2 (.inl S))⟩
 exact BT
end
section
open Go.RowKit
def pZ(w:aL)(M:cb)(g:dm)(n:b5)(d:List Deferred):Bs:=⟨w,M,λb=>∃t x c,g t=E (x,b,c),g,n,d⟩
section
variable{P:ay}{z:Bs}{M:cb}{g:dm}{s:St}{a:cq}{w:aL}
def aS.tY(e:aS z M g s a w)(t:s.T=[]){w':aL}{M':cb}(q:List Deferred)(l:w.heap.size<=w'.heap.size)(C:∀b,b<w.heap.size->¬M b->w'.heap[b]?=w.heap[b]?)
 (r:∀b,M' b↔M b\/(w.heap.size<=b/\b<w'.heap.size)) (D:w'.heap[GB]?=w.heap[GB]?):aS (pZ w' M' g s.n q) M' g s {a with defers:=q} w'/\(view w M g s.n).Ext (view w' M' g s.n):=by
 have G:∀b,b<w.heap.size->¬M b->¬M' b:=λb O Q k=>by
  exact Zg
 have F:∀f i b h,g f=E (i,b,h)->¬M b:=λf i b h d k=>(e.m0 b k).2 _ _ _ d;have m:(view w M g s.n).Ext (view w' M' g s.n):=by
  refine⟨λb R S j=>?_,λ_=>b_ _,λ_ _ _ _ _ d=>d⟩;have B:=mx (dr j);have y:=C b B (cR j).1;exact⟨dK ((oK y).trans (dr j)) (G b B (cR j).1) (cR j).2,λ⟨L,d,k⟩=>⟨L,d,y.trans k⟩⟩
 have u:∀f i b h,g f=E (i,b,h)->b<w.heap.size:=λf i b h d=>(e.base _ _ _ _ d).2;have p:∀b,M' b->b<w'.heap.size/\∀f i h,g f≠E (i,b,h):=λb k=>by
  rcases(r b).1 k with k|k
  .exact⟨gv (e.m0 b k).1 l,(e.m0 b k).2⟩
  .exact Zg
 refine⟨⟨A,e.size,λJ=>(e.env J).mono m,λf K I=>(e.obj f K I).mono m λi b h d=>⟨d,C b (u _ _ _ _ d) (F _ _ _ _ d)⟩,λf i b h d=>⟨.inr ⟨f,i,h,d⟩,gv (u _ _ _ _ d) l⟩,e.inj,⟨A,A,A,b_ _,λ_ _=>A⟩,p,λb=>?_,⟨λb k o=>?_,(r _).2 (.inl e.jr.1),e.jr.2.mono D⟩,λd x=>?_,e.nd,⟨λ_=>b_ _,λ_ _ _ _ _ d=>d⟩,λb k=>?_⟩,m⟩
 .rw[t];simp[pZ]
 .have k:M' b:=k;rcases o with o|⟨f,i,h,d⟩
  .have:w'.heap.size<=b:=o;have:=(p b k).1;omega
  .exact(p b k).2 _ _ _ d
 .rw[t]at x;cases x
 .refine e.wm b ?_;rcases k with k|⟨f,i,h,d⟩
  .exact .inl (fY e.below.size (fY l k))
  .exact(e.base _ _ _ _ d).1
def Eg{k:List Deferred}{i:b5}{q:aL}{f:cb}{l:dm}{j:St}{r:cq}(d:aS (pZ w M g i k) f l j r q)(u:j.T=[]):(view w M g i).Ext (view q f l j.n)/\∀b,f b↔M b:=by
 have o:∀b,f b↔M b:=λb=>by have:=d.mm b;rw[u]at this;simpa[pZ]using this
 refine⟨⟨λb D F h=>?_,d.og.1,d.og.2⟩,o⟩;have C:=mx (dr h);have p:¬(pZ w M g i k).own b:=by
  rintro(d|⟨y,B,t,e⟩)
  .have:w.heap.size<=b:=d;omega
  .exact(cR h).2 _ _ _ e
 have m:=d.below.block b p;exact⟨dK ((oK m).trans (dr h)) (λx=>(cR h).1 ((o b).1 x)) λy B t e=>p (d.base _ _ _ _ e).1,λ⟨A,e,d⟩=>⟨A,e,m.trans d⟩⟩
end
structure Gb (z:Bs) (V:View) (d:aL) (M:Nat->Prop) (g:Nat->Option (Nat×Nat×Nat)) (n:Nat->Nat):Prop where
 ext:V.Ext (view d M g n)
 ok:z.Ok d
 own:∀t x b c,g t=E (x,b,c)->z.own b
 m:∀b,z.M b->M b
 og:Og z g n
def Gb.walk{z:Bs}{o:View}{h u:aL}{M l:cb}{g q:dm}{j:b5}{p:List Deferred}{k:St}{x:cq}(f:Gb z o h M g j)(d:aS (pZ h M g j p) l q k x u)(A:k.T=[]):Gb z o u l q k.n:=by
 obtain⟨r,B⟩:=Eg d A;have t:∀b,(pZ h M g j p).own b->z.own b:=λb e=>by
  rcases e with e|⟨D,F,y,i⟩
  .exact .inl (fY f.ok.size e)
  .exact f.own _ _ _ _ i
 exact⟨f.ext.trans r,f.ok.step d.below.os d.below.tape d.below.output d.below.size λb e=>d.below.block b λC=>e (t b C),λD F b y i=>t b (d.base _ _ _ _ i).1,λb e=>(B b).2 (f.m b e),f.og.ext r⟩
def Gb.tY{z:Bs}{i:View}{d e:aL}{M M':cb}{g:dm}{h:b5}(f:Gb z i d M g h)(r:(view d M g h).Ext (view e M' g h))(l:e.os=d.os)(q:e.tape=d.tape)(o:e.output=d.output)(p:d.heap.size<=e.heap.size)(k:∀b,¬z.own b->e.heap[b]?=d.heap[b]?)(j:∀b,M b->M' b):Gb z i e M' g h:=
 ⟨f.ext.trans r,f.ok.step l q o p k,f.own,λb t=>j b (f.m b t),f.og⟩
def yk(P:ay)(o:bK)(sz:Nat)(el:(Nat->aE)->aE):Prop:=
 (∀args w,(callFunc o args).run P w=.ok (.enter o args) w)/\∀(l r t:Nat)(p:Option Addr)(f u:Nat)(b off:Nat)(us:Nat->Nat->aE)(h:Nat->aL->Prop)(q:aL->Prop)(d:aL),f<=ao->(0<f->p=E ⟨b,off,aa⟩)->
  (∀j d,h j d->d.cell? ⟨r,t,aa⟩=E (.slice p f u)/\∀i k,i<f->k<sz->d.cell? ⟨b,off+i*sz+k,aa⟩=E (us i k))->
  (∀j d,j<f->h j d->YieldAt Fence.wide 0 P l #[.int .i64 ((f-1-j:Nat):Int),el (us (f-1-j))] d λe m=>(e=.returned (.bool ad)/\h (j+1) m)\/(e=.returned (.bool al)/\q m))->
  h 0 d->CallsIn Fence.wide 1 P o #[.func (.yield l) #[] #[],.pointer (E ⟨r,t,aa⟩)] d λe m=>(∃v,e=.returned v)/\(h f m\/q m)
def Ee(s:St)(I:(Nat->Option Ob)->(Nat->Nat)->Prop)(Q:gk->St->Prop):gk->St->Prop
 |.normal,b=>b.T=[]/\b.N=s.N/\I b.H b.n
 |.ret,b=>b.T=[]/\b.N=s.N/\Q .ret {s with H:=b.H,n:=b.n}
 |_,_=>False
def H9(X:St->Prop):gk->St->Prop
 |.normal,b=>b.T=[]/\X b
 |_,_=>False
def UX{s b:St}{I:(bt)->(b5)->Prop}{d:gw}:Ee s I d .normal b=(b.T=[]/\b.N=s.N/\I b.H b.n):=cr A A
def UY{s b:St}{I:(bt)->(b5)->Prop}{d:gw}:Ee s I d .ret b=(b.T=[]/\b.N=s.N/\d .ret {s with H:=b.H,n:=b.n}):=cr A A
def N5{b:St}{d:aU}:H9 d .normal b=(b.T=[]/\d b):=cr A A
def Ef{P:ay}{a7:eV}{az aA:Nat}{assign body:dH}{aQ:bK}{ap:gw}{s:St}{ak:Nat}{rows:ct}{el:(Nat->aE)->aE}{eD:List D->D}(bF:aD)
 (bf:yk P aQ ak el) (b9:∀(bl:View)(p:Nat->aE)(k:DL),k.length=ak->(∀(f:Nat)(d:D),k[f]?=E d->Rd bl d (p f))->Rd bl (eD k) (el p)) (cc:s.ev a7=.fn aQ [] [.cp [.sl ak rows]]) (aw:s.T=[]) (cg:rows.length<=ao) (bC:∀k∈rows,k.length=ak)
 (b_:flat assign=ad) (ca:flat body=ad)
 (I:Nat->(bt)->(b5)->Prop) (bP:I 0 s.H s.n)
 (cj:∀(i:Nat)(H:bt)(n:b5)(k:DL),i<rows.length->rows[rows.length-1-i]?=E k->I i H n->vc P bF assign (H9 λa3=>vc P bF body (Ee s (I (i+1)) ap) a3) ((({s with H:=H,n:=n}).put (E az) (.sc (.int .i64 ((rows.length-1-i:Nat):Int)))).put (E aA) (eD k)))
 (b':∀(H:bt)(n:b5),I rows.length H n->ap .normal {s with H:=H,n:=n}):xX P a7 #[az,aA] assign body ap s:=by
 intro z M g a w r;refine(wpIn_wide (n:=2)).1 (wpIn_rangeFunc λfn _=>?_);obtain⟨e,a9⟩:∃e,e=w.heap.size:=⟨_,A⟩;obtain⟨j,y⟩:∃j:LoopState->Option dH->Loop,j=λO L=>{state:=O,pending:=L,fn,tmps:=a.tmps,params:=#[az,aA],assign,body,defers:=e}:=⟨_,A⟩;obtain⟨x,ab⟩:∃x,(w.alloc (.deferred (E []))).alloc (.loop (j .ready aa))=x:=⟨_,A⟩;have cG:x.heap.size=w.heap.size+2:=by rw[<-ab];simp
 have bV:x.heap[e+1]?=E (.loop (j .ready aa)):=by
  rw[<-ab,a9];have:=World.alloc_heap_new (w.alloc (.deferred (E []))) (.loop (j .ready aa));rwa[World.size_alloc]at this
 have bU:x.heap[e]?=E (.deferred (E [])):=by
  rw[<-ab,a9];exact(Below.heap_alloc _ _ _ Zs).trans (World.alloc_heap_new w _)
 have a8:∀b,b<w.heap.size->x.heap[b]?=w.heap[b]?:=λb l=>by
  rw[<-ab];exact(Below.heap_alloc _ _ _ de).trans (Below.heap_alloc _ _ _ l)
 have bx:=r.ev a7;rw[cc]at bx;obtain⟨cv,bI,cd,aT,bg,-,b2⟩:=CN bx;obtain rfl:cv=[]:=by simpa using aT.symm
 obtain⟨a2,rfl⟩:∃a2,bI=[a2]:=by
  match bI,bg with
  |[aC],_=>exact⟨aC,A⟩
 have ci:=b2 0 _ a2 A A;obtain⟨Y,Z,aP,rfl,bZ,b0⟩:∃Y Z aP,a2=.pointer (E ⟨Y,Z,aa⟩)/\(view w M g s.n).C Y Z=E aP/\Rd (view w M g s.n) (.sl ak rows) aP:=by
  cases ci with|cp _ Y Z p R S=>exact⟨Y,Z,p 0,A,R 0 _ A,S 0 _ A⟩
 obtain⟨a1,aq,b,a0,p,rfl,ch,bv⟩:∃(a1:Option Addr)(aq b a0:Nat)(p:Nat->Nat->aE),aP=.slice a1 rows.length aq/\(0<rows.length->a1=E ⟨b,a0,aa⟩)/\∀(t:Nat)(k:DL)(f:Nat)(d:D),rows[t]?=E k->k[f]?=E d->(view w M g s.n).C b (a0+t*ak+f)=E (p t f)/\Rd (view w M g s.n) d (p t f):=by
  cases b0 with
  |nil=>exact⟨aa,0,0,0,λ_ _=>cC,A,Zs,Zs⟩
  |fu _ bL aq=>exact⟨E bL,aq,0,0,λ_ _=>cC,A,Zs,Zs⟩
  |sl _ _ b bG aq p cz cE cB br bs=>exact⟨E ⟨b,bG,aa⟩,aq,b,bG,p,A,λ_=>A,λt k f d ae ah=>⟨br t k f d ae ah,bs t k f d ae ah⟩⟩
 have aU:∀f,f=e\/f=e+1->z.own f:=λf ah=>.inl (by have:=r.below.size;omega);obtain⟨an,ba⟩:∃an:Nat->Prop,an=λf=>M f\/(w.heap.size<=f/\f<x.heap.size):=⟨_,A⟩;have bA:an e/\an (e+1):=by rw[ba];exact⟨.inr ⟨Zo,Zo⟩,.inr ⟨Zo,Zo⟩⟩
 have bT:=(r.m0 GB r.jr.1).1;have a':GB≠e+1:=Zo;obtain⟨ck,co⟩:=r.tY aw (w':=x) (M':=an) [] Zo (λb l _=>a8 b l) (λb=>by rw[ba]) (a8 GB bT);have bQ:Gb z (view w M g s.n) x an g s.n:=⟨co,r.below.step (by rw[<-ab];rfl) (by rw[<-ab];rfl) (by rw[<-ab];rfl) Zo λf ah=>a8 f (by
  have br:=Bs.r7 ah;have bs:=r.below.size;omega),λbk aC b bM h=>(r.base _ _ _ _ h).1,λb q=>by
  rw[ba];refine .inl ?_;have:=r.mm b;exact this.2 (.inl q),r.og⟩
 let aO (O:LoopState) (L:Option dH) (U:(bt)->(b5)->Prop) (o:aL):Prop:=∃H n V M',aS (pZ o M' V n []) M' V {s with H:=H,n:=n} {a with defers:=[]} o/\U H n/\Gb z (view w M g s.n) o M' V n/\o.heap[e+1]?=E (.loop (j O L))/\o.heap[e]?=E (.deferred (E []))/\M' e/\M' (e+1)
 have bp:∀O L U o(u:Option dH)(a4:gk),j O L=j O L->aO O L U o->(∀H n,U H n->ap a4 {s with H:=H,n:=n})->LD z ap a4 {a with defers:=[rZ e]++a.defers} (o.putObj (e+1) (.loop {j O L with state:=.exhausted})):=by
  rintro O L U o u a4-⟨H,n,V,M',aX,aY,J,W,aZ,aK,aM⟩ be;obtain⟨bH,cJ⟩:=aX.tY aw (w':=o.putObj (e+1) (.loop {j O L with state:=.exhausted})) (M':=M') ([rZ e]++a.defers) Zs (λb _ l=>World.putObj_heap_other λh=>l (h▸aM)) (λb=>by simp;omega) (World.putObj_heap_other a');refine⟨_,V,M',_,⟨⟨[e],Zs,?_,λb l=>?_⟩,λb q=>?_,?_,J.m,bH.zm.1,r.zm,J.og.1,J.og.2⟩,be H n aY,bH⟩
  .show[rZ e]++a.defers=[rZ e]++z.dq;rw[r.defers]
  .simp at l;subst l;exact⟨aK,(World.putObj_heap_other Zo).trans aZ,aU b (.inl A)⟩
  .rcases q with q|⟨bk,aC,bM,h⟩
   .refine .inl (fY J.ok.size ?_);have:(o.putObj (e+1) (.loop {j O L with state:=.exhausted})).heap.size<=b:=q;simpa using this
   .exact J.own _ _ _ _ h
  .exact J.ok.step A A A (by simp[pZ]) λf ah=>World.putObj_heap_other λh=>ah (aU f (.inr h))
 obtain⟨b1,bf⟩:=bf;refine⟨e+1,[rZ e],x,{target:=.fn (.func aQ) #[.pointer (E ⟨Y,Z,aa⟩)],args:=#[.func (.yield (e+1)) #[] #[]]},x,aQ,#[.func (.yield (e+1)) #[] #[]]++#[.pointer (E ⟨Y,Z,aa⟩)],x,?_,?_,λ_ _=>trivial,?_,λ_=>by omega,?_⟩
 .rw[<-ab,y,a9];exact run_enterLoop_outer _ _ _ _ _
 .simp only[resolve,cd];simp[go_sem]
 .simp[invoke,go_sem,b1]
 .refine(bf (e+1) Y Z a1 rows.length aq b a0 p (λi=>aO .ready aa (I i)) (aO .done (E .ret) λH n=>ap .ret {s with H:=H,n:=n}) x cg ch ?_ ?_ ⟨s.H,s.n,g,an,ck,bP,bQ,bV,bU,bA.1,bA.2⟩).mono ?_
  .rintro i o⟨H,n,V,M',aX,aY,J,W,aZ,aK,aM⟩;refine⟨dr (J.ext.c _ _ _ bZ).1,λt f ae ah=>?_⟩;have ce:rows[t]?=E rows[t]:=bR ae;have cA:rows[t].length=ak:=bC _ (ax ae);exact dr (J.ext.c _ _ _ (bv t _ f _ ce (bR Zo)).1).1
  .
    rintro i o cf⟨H,n,V,M',aX,aY,J,W,aZ,aK,aM⟩;have ae:rows.length-1-i<rows.length:=Zo;have bh:rows[rows.length-1-i]?=E rows[rows.length-1-i]:=bR ae;obtain⟨k,bB⟩:∃k,k=rows[rows.length-1-i]:=⟨_,A⟩;rw[<-bB]at bh;have cm:k.length=ak:=by rw[bB];exact bC _ (ax ae)
    have bX:Rd (view o M' V n) (eD k) (el (p (rows.length-1-i))):=b9 _ _ _ cm λf d b3=>((bv _ k f d bh b3).2).mono J.ext;have cu:=(aX.put (d:=.sc (.int .i64 ((rows.length-1-i:Nat):Int))) (.sc _) (E az)).put (by simpa only[xR]using bX) (E aA);have cy:((({s with H:=H,n:=n}:St).put (E az) (.sc (.int .i64 ((rows.length-1-i:Nat):Int)))).put (E aA) (eD k)).T=[]:=by rw[r_,r_];exact aw
    have cn:=cj i H n k cf bh aY;have cD:e+1<o.heap.size:=(iY.1 W).1;have cr:=run_yield (P:=P) (args:=#[.int .i64 ((rows.length-1-i:Nat):Int),el (p (rows.length-1-i))]) W (by rw[y];rfl);refine⟨_,_,_,_,cr,roundIn_of_wpIn trivial ?_⟩;have bY:({tmps:=(((j .ready aa).params.zip #[.int .i64 ((rows.length-1-i:Nat):Int),el (p (rows.length-1-i))]).foldl (λtmps aC=>tmps.setIfInBounds aC.1 aC.2) (j .ready aa).tmps),defers:=[]}:cq)=((({a with defers:=[]}:cq).put (E az) (.int .i64 ((rows.length-1-i:Nat):Int))).put (E aA) (el (p (rows.length-1-i)))):=by
     rw[y];simp[Act.put]
    rw[show(j .ready aa).assign=assign by rw[y],show(j .ready aa).body=body by rw[y]];refine bY▸wpIn_mono (t_ assign _ b_ (λs q=>q.elim) cu cn) ?_;rintro h bJ aN⟨a3,bq,aF,R,S⟩;cases h with
    |normal=>
     obtain⟨bc,R⟩:=R;obtain⟨cK,bO⟩:=bJ;obtain rfl:bO=[]:=S.defers;have bn:=Eg S bc;have aT:aN.heap[e+1]?=E (.loop (j .ready aa)):=(S.below.block _ λq=>(S.zm.1 _ aM) q).trans W;have b6:aN.heap[e]?=E (.deferred (E [])):=(S.below.block _ λq=>(S.zm.1 _ aK) q).trans aZ;refine⟨_,run_beginRound aT (by rw[y]),?_⟩;obtain⟨X,av⟩:∃X,X=aN.putObj (e+1) (.loop {j .ready aa with state:=.busy}):=⟨_,A⟩;rw[<-av];have aI:aF e/\aF (e+1):=⟨(bn.2 _).2 aK,(bn.2 _).2 aM⟩;have aV:∀b,b≠e+1->X.heap[b]?=aN.heap[b]?:=λb l=>by rw[av];exact World.putObj_heap_other l
     have cH:X.heap.size=aN.heap.size:=by rw[av];simp
     obtain⟨t1,t2⟩:=S.tY bc (w':=X) (M':=aF) [] Zo (λb _ l=>aV b λh=>l (h▸aI.2)) (λb=>by constructor;exact .inl;rintro(q|q);exact q;omega) (aV GB a');have bS:Gb z (view w M g s.n) X aF bq a3.n:=((by simpa only[xR]using J:Gb z (view w M g s.n) o M' V _).walk S bc).tY t2 (by rw[av];rfl) (by rw[av];rfl) (by rw[av];rfl) Zo (λb l=>aV b λh=>l (aU b (.inr h))) λ_ q=>q;have bg:X.heap[e+1]?=E (.loop {j .ready aa with state:=.busy}):=by rw[av];exact World.putObj_heap_same (iY.1 aT).1
     have b7:X.heap[e]?=E (.deferred (E [])):=(aV e Zo).trans b6;refine wpIn_mono (t_ body _ ca (λs q=>q.elim) t1 R) ?_;have bD:∀(u:Option dH)(U:(bt)->(b5)->Prop)(K:St)(ar:dm)(G:cb)(aG:cq)(B:aL),K.T=[]->K.N=s.N->U K.H K.n->aS (pZ X aF bq a3.n []) G ar K aG B->
      (Instr.endRound (e+1) u).run P B=.ok (.bool u.isNone) (B.putObj (e+1) (.loop (j (if u.isNone then .ready else .done) u)))/\aO (if u.isNone then .ready else .done) u U (B.putObj (e+1) (.loop (j (if u.isNone then .ready else .done) u))):=by
      intro u U K ar G aG B bd bW be f;have bo:=Eg f bd;have bz:B.heap[e+1]?=E (.loop {j .ready aa with state:=.busy}):=(f.below.block _ λq=>(f.zm.1 _ aI.2) q).trans bg;have b8:B.heap[e]?=E (.deferred (E [])):=(f.below.block _ λq=>(f.zm.1 _ aI.1) q).trans b7;have bw:=run_endRound (P:=P) u bz;rw[y]at bw⊢;refine⟨bw,?_⟩;obtain⟨aB,ai⟩:∃aB,aB=B.putObj (e+1) (.loop (j (if u.isNone then .ready else .done) u)):=⟨_,A⟩;rw[y]at ai;rw[<-ai];have bb:G e/\G (e+1):=⟨(bo.2 _).2 aI.1,(bo.2 _).2 aI.2⟩;have aW:∀b,b≠e+1->aB.heap[b]?=B.heap[b]?:=λb l=>by rw[ai];exact World.putObj_heap_other l
      have cI:aB.heap.size=B.heap.size:=by rw[ai];simp
      obtain⟨am,cw⟩:=f.tY bd (w':=aB) (M':=G) [] Zo (λb _ l=>aW b λh=>l (h▸bb.2)) (λb=>by constructor;exact .inl;rintro(q|q);exact q;omega) (aW GB a');have bu:Gb z (view w M g s.n) aB G ar K.n:=(bS.walk f bd).tY cw (by rw[ai];rfl) (by rw[ai];rfl) (by rw[ai];rfl) Zo (λb l=>aW b λh=>l (aU b (.inr h))) λ_ q=>q;refine⟨K.H,K.n,ar,G,⟨A,r.size,λt=>(r.env t).mono bu.ext,am.obj,am.base,am.inj,am.below,am.m0,λb=>?_,am.zm,λh aR=>?_,by rw[aw];simp,am.og,λb q=>by rw[<-bW];exact am.wm b q⟩,be,bu,by rw[ai,y];exact World.putObj_heap_same (iY.1 bz).1,(aW e Zo).trans b8,bb.1,bb.2⟩
      .show G b↔G b\/∃h∈s.T,b∈h.F;rw[aw];simp
      .have aR:h∈s.T:=aR;rw[aw]at aR;cases aR
     rintro h aG B⟨K,ar,G,Q,bm⟩;cases h with
     |normal=>
      obtain⟨a5,a6,Q⟩:=Q;obtain⟨bi,bj⟩:=bD aa (I (i+1)) K ar G aG B a5 a6 Q bm;exact⟨_,_,bi,.inl ⟨A,bj⟩⟩
     |ret=>
      obtain⟨a5,a6,Q⟩:=Q;obtain⟨bi,bj⟩:=bD (E .ret) (λH n=>ap .ret {s with H:=H,n:=n}) K ar G aG B a5 a6 Q bm;exact⟨_,_,bi,.inr ⟨A,bj⟩⟩
     |exit id=>exact Q.elim
     |goto bk=>exact Q.elim
     |panic bN=>exact Q.elim
     |outgrown=>exact Q.elim
    |exit id=>exact R.elim
    |goto bk=>exact R.elim
    |ret=>exact R.elim
    |panic bN=>exact R.elim
    |outgrown=>exact R.elim
  .rintro h cx⟨⟨v,rfl⟩,aH|aH⟩
   .have a_:=aH;obtain⟨_,_,_,_,_,_,_,W,_⟩:=aH;have aJ:=run_endLoop (P:=P) W (by rw[y];simp);have au:=bp _ _ _ _ aa .normal A a_ λH n=>b' H n;dsimp only at au;rw[show(j .ready aa).pending=aa by rw[y]]at aJ au;exact⟨aa,_,aJ,au⟩
   .have a_:=aH;obtain⟨_,_,_,_,_,_,_,W,_⟩:=aH;have aJ:=run_endLoop (P:=P) W (by rw[y];simp);have au:=bp _ _ _ _ aa .ret A a_ λH n q=>q;dsimp only at au;rw[show(j .done (E .ret)).pending=E .ret by rw[y]]at aJ au;exact⟨E .ret,_,aJ,wpIn_ret au⟩
end
section
open Go.RowKit
variable {g3:ay}{g5:bK}{v1:dH}
def Iq{s:St}{a:iw}{nt:Nat}{args:DL}{dst:ON}{K:aU}(L:aD)(b:eP)(g:g3.funcs[g5]?=E a)(f:a.body=E v1)(i:(a.name== "runtime.NumGoroutine")=al)
 (j:a.ntmps=nt) (k:a.results.toList=b) (h:args.length<=nt)
 (e:Wk g3 v1 (oc g3 b λd H n T=>Cl d/\T=s.T/\(∀t∈L,∀ob,H t=E ob->∀d∈ob.cells,In L d)/\K ({s with H:=kA L L s.H H,n:=n}.put dst d)) {env:=ba args,H:=bi L s.H,n:=s.n,nt:=nt,T:=s.T,N:=s.N}):gx g3 s g5 args dst K:=by
 refine Iw L L (Is b g f i j k h ?_);have key:∀d H n T,(Cl d/\T=s.T/\(∀t∈L,∀ob,H t=E ob->∀d∈ob.cells,In L d)/\K ({s with H:=kA L L s.H H,n:=n}.put dst d))->((∀t∈L,∀ob,({{s with H:=bi L s.H}with H:=H,n:=n,T:=T}.put dst d:St).H t=E ob->∀d∈ob.cells,In L d)/\(∀t,dst=E t->t<s.nt->In L (({{s with H:=bi L s.H}with H:=H,n:=n,T:=T}.put dst d:St).env t))/\K {({{s with H:=bi L s.H}with H:=H,n:=n,T:=T}.put dst d:St)with H:=kA L L s.H ({{s with H:=bi L s.H}with H:=H,n:=n,T:=T}.put dst d:St).H}):=by
  exact GC
 refine Wk.mono (λx s1 hx=>?_) e;exact wF
variable {i0:ON}{gc:aU}
def OM{a:St}{d:iw}{nt:Nat}{args:DL}(b:aD)(p:aD)(f:eP)(j:g3.funcs[g5]?=E d)(i:d.body=E v1)(l:(d.name== "runtime.NumGoroutine")=al)
 (m:d.ntmps=nt) (o:d.results.toList=f) (k:args.length<=nt)
 (h:vc g3 p v1 (oc g3 f λe H n T=>Cl e/\T=a.T/\(∀q∈b,∀g,H q=E g->∀e∈g.cells,In b e)/\gc ({a with H:=kA b b a.H H,n:=n}.put i0 e)) {env:=ba args,H:=bi b a.H,n:=a.n,nt:=nt,T:=a.T,N:=a.N}):gx g3 a g5 args i0 gc:=Iq b f j i l m o k (.of h)
end
def B0(P:ay)(mu bc:aD)(ty:aQ)(i j t:Nat)(K:aU)(s:St):Prop:=jB P mu bc al al (.call ⟨.builtin .append,#[.tmp i,.tmp j],#[ty,ty]⟩) (E t) K s
variable {g3:ay}{g4 on:aD}{bv:aQ}{h V a2:Nat}{gc:aU}{ce:St}
def ic:jB g3 g4 on al al (.call ⟨.builtin .append,#[.tmp h,.tmp V],#[bv,bv]⟩) (E a2) gc ce=B0 g3 g4 on bv h V a2 gc ce:=cr A A
variable {a9:Nat}
def iO{a:St}{d i:Nat}{S:aD}{rows bx:ct}(j:∀b∈on,b≠h/\b∉S)(q:cy g3 bv=E (a9,d,i))(w:aH S a.H a9 d rows (a.env V))(r:∀y∈rows,y.length=d)(x:cF a a9 d (a.env a2)=E (bx.length,bx.flatten))(t:0<bx.length)(m:bx.flatten.all b4=ad)
 (p:(rows.length+bx.length)*i<=140737488355328) (s:rows.length+bx.length<=ao) (u:h<a.nt)
 (o:∀H n f,aH [h] H a9 d (rows++bx) f->(∀e,e≠h->e∉S->H e=a.H e)->gc ({a with H:=H,n:=n}.put (E h) f)):B0 g3 g4 on bv V a2 h gc a:=by
 unfold B0;rw[D0];refine dS.eF q w r x t m p s λH n f l g=>⟨?_,o H n f l g⟩;simp only[St.put,aM u];rw[CQ];exact λb k=>g b (j b k).1 (j b k).2
section
open Go.RowKit
def i'(P:ay)(L:aD)(H0:bt)(f:bK)(dV:DL)(Q:D->Prop):Prop:=
 ∀(s:St)(dst:ON)(K:aU),(∀t∈L,s.H t=H0 t)->(∀n r,Q r->Cl r->K ({s with n:=n}.put dst r))->gx P s f dV dst K
variable {g5:bK}{v1:dH}{a3:DL}
def i'.Lv{L:aD}{a:bt}{b:iw}{nt:Nat}{e:D->Prop}(f:eP)(m:g3.funcs[g5]?=E b)(l:b.body=E v1)(p:(b.name== "runtime.NumGoroutine")=al)
 (q:b.ntmps=nt) (r:b.results.toList=f) (o:a3.length<=nt) (JL:∀t∈L,∀ob,a t=E ob->∀d∈ob.cells,In L d)
 (k:∀n T N,Wk g3 v1 (oc g3 f λd H _ h=>Cl d/\e d/\h=T/\∀t∈L,H t=a t) {env:=ba a3,H:=bi L a,n:=n,nt:=nt,T:=T,N:=N}):i' g3 L a g5 a3 e:=by
 intro s i g hH hK;refine Iq L f m l p q r o ?_;have j:bi L s.H=bi L a:=by
  funext t;simp only[bi];split
  .exact hH t ‹_›
  .rfl
 rw[j];have key:∀d H(n:b5)T,(Cl d/\e d/\T=s.T/\∀t∈L,H t=a t)->(Cl d/\T=s.T/\(∀t∈L,∀ob,H t=E ob->∀d∈ob.cells,In L d)/\g ({s with H:=kA L L s.H H,n:=n}.put i d)):=by
  exact GP
 refine Wk.mono (λx u hx=>?_) (k s.n s.T s.N);exact wF
variable {fd:bt}
def i'.eo{a:aD}{b:iw}{nt:Nat}{g:D->Prop}(s:aD)(f:eP)(l:g3.funcs[g5]?=E b)(k:b.body=E v1)(p:(b.name== "runtime.NumGoroutine")=al)
 (q:b.ntmps=nt) (r:b.results.toList=f) (o:a3.length<=nt) (m:∀e∈a,∀h,fd e=E h->∀d∈h.cells,In a d)
 (j:∀n T N,vc g3 s v1 (oc g3 f λd H _ i=>Cl d/\g d/\i=T/\∀e∈a,H e=fd e) {env:=ba a3,H:=bi a fd,n:=n,nt:=nt,T:=T,N:=N}):i' g3 a fd g5 a3 g:=i'.Lv f l k p q r o m λn T N=>.of (j n T N)
end
section
open Go.RowKit
open Go.ChangeMaps (setBlock)
section
variable{P:ay}{w0:Bs}{M:cb}{g:dm}{s:St}{a:cq}{w:aL}{ops:f_}{Q:gk->cq->aL->Prop}{rest:gY}{o:da}
def vp(P:ay):List da->(St->Prop)->St->Prop
 |[],K,s=>K s
 |o::l,K,s=>o.guard=aa/\ka s o.dst (vp P l K) (eH P s o.op)
def XQ(l:o.guard=aa)(e:aS w0 M g s a w){d:D}(f:eH P s o.op=E d)(j:∀b,aS w0 M g (s.put o.dst d) b w->f' P ops Q rest b w):f' P ops Q (o::rest) a w:=by
 refine wpList_plain l λm k=>?_;obtain⟨v,h,i⟩:=Er e f;have:=i w (Below.refl _ _);simp only[Oper.wp,this,Oper.upon_value];exact k _ _ (j _ (e.put h _))
def No{j:aU}:∀(d:gY){s:St}{a:cq},aS w0 M g s a w->vp P d j s->(∀k e,aS w0 M g k e w->j k->f' P ops Q rest e w)->f' P ops Q (d++rest) a w
 |[],s,a,h,b,f=>f s a h b
 |o::d,s,a,h,⟨l,b⟩,f=>by
  cases i:eH P s o.op with
  |none=>rw[i]at b;exact b.elim
  |some p=>
   rw[i]at b;exact XQ l h i λe m=>No d m b f
def XN(hg:o.guard=aa)(hr:aS w0 M g s a w){f:eV}{args:Array eV}{A4:Array aQ}(JN:o.op=.call ⟨.value f,args,A4⟩){h:bK}{first d:DL}{i:D}(hf:s.ev f=.fn h first d)(hc:oy P s.H s.T h (first++args.toList.map s.ev++d) i)
 (hK:∀b w',Below w.heap.size w w'->aS w0 M g (s.put o.dst i) b w'->f' P ops Q rest b w'):f' P ops Q (o::rest) a w:=by
 exact GD
def vT(d:Nat){b:gY}{K:aU}(j:aS w0 M g s a w)(h:vp P (b.take d) K s)(i:∀f e,aS w0 M g f e w->K f->f' P ops Q (b.drop d) e w):f' P ops Q b a w:=by
 have:=No (rest:=b.drop d) (ops:=ops) (Q:=Q) (b.take d) j h i;rwa[lb]at this
def h8{b:aU}:vp P [] b s=b s:=cr A A
def h7{b:aU}{f:gY}{d:ON}{op:eU}{i:aQ}{pos:String}{h:Array Edge}{e:Option (Nat×Bool)}:vp P (⟨d,op,i,pos,h,e⟩::f) b s=(e=aa/\ka s d (vp P f b) (eH P s op)):=cr A A
def gW(d:aS w0 M g s a w){x:eV}{v:aE}(b:s.ev x=.sc v):a.eval x=v:=by
 have:=d.ev x;rw[b]at this;generalize a.eval x=e at this;cases this;rfl
def ld(H:bt)(n:b5)(nt:Nat)(T:dd)(N:Nat)(b:List (Nat×D))(s:St):Prop:=s.H=H/\s.n=n/\s.nt=nt/\s.T=T/\s.N=N/\∀x∈b,s.env x.1=x.2
def aS.Vj(b:aS w0 M g s a w){w':aL}{k:Nat}{I:ON}{L u:Nat}{K:Array Nat}(D:w.heap[k]?=E (.mapIter I L K u))(C:w0.own k)(B:∀i l j,g i≠E (l,k,j))(A:¬M k)
 (x:w'.os=w.os) (y:w'.tape=w.tape) (z:w'.output=w.output) (p:w'.heap.size=w.heap.size) (m:∀f,f≠k->w'.heap[f]?=w.heap[f]?):aS w0 M g s a w'/\(view w M g s.n).Ext (view w' M g s.n):=by
 have q:(view w M g s.n).Ext (view w' M g s.n):=by
  refine⟨λe o R d=>?_,λ_=>b_ _,λ_ _ _ _ _ d=>d⟩;have r:=dr d;have t:e≠k:=by rintro rfl;simp[World.cell?,D]at r
  exact⟨dK ((oK (m e t)).trans r) (cR d).1 (cR d).2,λ⟨O,d,h⟩=>⟨O,d,(m e t).trans h⟩⟩
 exact⟨⟨b.defers,b.size,λG=>(b.env G).mono q,λi J F=>(b.obj i J F).mono q λl e j d=>⟨d,m e λh=>B i l j (h▸d)⟩,
  λi l e j d=>⟨(b.base i l e j d).1,by rw[p];exact(b.base i l e j d).2⟩,b.inj,b.below.step x y z (Nat.le_of_eq p.symm) λf h=>m f λd=>h (d▸C),
  λe f=>⟨by rw[p];exact(b.m0 e f).1,(b.m0 e f).2⟩,b.mm,b.zm,tX b λe f=>m e λh=>A (h▸f),b.nd,b.og,b.wm⟩,q⟩
structure oA (w0:Bs) (M:Nat->Prop) (g:Nat->Option (Nat×Nat×Nat)) (n:Nat->Nat) (w:aL) (r b:Nat) (es:Array MapEntry) (e:Nat) (cs:List D) (seen:Array Nat):Prop where
 hr:w.heap[r]?=E (.mapIter (E b) e seen e)
 hb:w.heap[b]?=E (.map es e)
 own:w0.own r
 ng:∀t x c,g t≠E (x,r,c)
 nM:¬M r
 m':∀x∈es.toList,x.born<e
 nd:(es.toList.map (·.born)).Nodup
 EO:∀(j:Nat)(d:D),cs[j]?=E d->∃u,(es.toList.map (·.val))[j]?=E u/\Rd (view w M g n) d u
 len:cs.length=es.size
def oA.below{k:b5}{f d h:Nat}{j:Array MapEntry}{i:DL}{seen:Array Nat}(b:oA w0 M g k w f d j h i seen){l:aL}(e:Below w.heap.size w l):oA w0 M g k l f d j h i seen:=by
 exact⟨(e.block f (iY.1 b.hr).1).trans b.hr,(e.block d (iY.1 b.hb).1).trans b.hb,b.own,b.ng,b.nM,b.m',b.nd,λx m t=>by obtain⟨z,q,r⟩:=b.EO x m t;exact⟨z,q,r.mono (sq (b':=w.heap.size) (λ_=>b_ _) (λy u _=>e.block y u) (.inl (b_ _)) (λ_ _ _ _ p=>.inl p))⟩,b.len⟩
def XR(J:o.guard=aa)(e:aS w0 M g s a w){m:aQ}{h:eV}(Z:o.op=.range m h){l j:aQ}(ae:P.underlying m=E (.map l j)){t:Nat}{f:Ob}{y:VL}(X:s.H t=E f)(R:f.keys=E y)(U:s.ev h=.mp t f.gen)(S:f.cells.length=y.length)
 (D:∀(x:cq)(u:aL)(z b:Nat)(k:Array MapEntry)(d:Nat),aS w0 M g (s.put o.dst (.sc (.pointer (E ⟨z,0,aa⟩)))) x u->oA w0 M g s.n u z b k d f.cells #[]->f' P ops Q rest x u):f' P ops Q (o::rest) a w:=by
 refine wpList_plain J λak F=>?_;obtain⟨b,A,vs,K,r,-,-,-,G⟩:=(e.obj t f X).ex;unfold gH at r;rw[R]at r;obtain⟨k,d,p,O,an,W,Y⟩:=r;have V:a.eval h=.map (E b):=by
  have:=e.ev h;rw[U]at this;generalize a.eval h=v at this;cases this with
  |mp _ _ b' _ i=>rw[i _ _ K]
 have ab:=run_range_map (P:=P) w m l j b k d ae p;have q:Below w.heap.size w (w.alloc (.mapIter (E b) d #[] d)):=ru w _;simp[Oper.wp,dl,Z,V,ab,Result.andThen];refine F _ _ (D _ _ w.heap.size b k d ((e.grow q).put (.sc _) _) ⟨mj w _,(q.block b (iY.1 p).1).trans p,.inl e.below.size,λm ap A i=>?_,λi=>?_,Y,W,λah B I=>?_,?_⟩)
 .have:=(e.base _ _ _ _ i).2;omega
 .have:=(e.m0 _ i).1;omega
 .obtain⟨ai,am,C⟩:=G ah B I;exact⟨ai,by exact Zg,C.mono (sq (b':=w.heap.size) (λ_=>b_ _) (λl L _=>q.block l L) (.inl (b_ _)) (λ_ _ _ _ j=>.inl j))⟩
 .rw[S,<-O];simp
def XP(Z:o.guard=aa)(y:aS w0 M g s a w){h j d:Nat}{e:Array MapEntry}{F:DL}{seen:Array Nat}(b:oA w0 M g s.n w h j e d F seen){t:eV}(O:o.op=.next t al)(ah:s.ev t=.sc (.pointer (E ⟨h,0,aa⟩)))
 (W:(∀D∈e.toList,D.born∈seen.toList)->∀p,aS w0 M g (s.put o.dst (.tp [.sc (.bool al)])) p w->f' P ops Q rest p w)
 (X:∀(l:Nat)(J:l<e.size)(p:cq)(w':aL),aS w0 M g (s.put o.dst (.tp [.sc (.bool ad),.any,.any])) p w'->oA w0 M g s.n w' h j e d F (seen.push e[l].born)->(leftOf e (seen.push e[l].born)).size<(leftOf e seen).size->f' P ops Q rest p w'):f' P ops Q (o::rest) a w:=by
 refine wpList_plain Z λap G=>?_;have L:a.eval t=.pointer (E ⟨h,0,aa⟩):=by
  have:=y.ev t;rw[ah]at this;generalize a.eval t=v at this;cases this;rfl
 rcases run_next_at (P:=P) w o.type h j d d seen e d b.hr b.hb b.m' (b_ _)with⟨S,z⟩|⟨q,I,C,m,z⟩
 .simp[Oper.wp,dl,O,L,z,Result.andThen];refine G _ _ (W (λD A=>?_) _ (y.put (.tp _ _ Zs λi x v f k=>?_) _))
  .have:=all_seen e seen S D A;simpa using this
  .rcases i with _|i
   .simp at f k;subst f;subst k;exact .sc _
   .simp at f
 .obtain⟨Y,aq⟩:=mem_left I;obtain⟨l,J,ae⟩:=dG Y;have ab:l<e.size:=by simpa using J
  have K:e[l]=q:=by rw[<-ae];simp
  have ak:C.heap[h]?=E (.mapIter (E j) d seen d):=by rcases m with rfl|rfl<;>exact b.hr
  have R:=MapKept.heap_set (o':=.mapIter (E j) d (seen.push q.born) d) ak;have ai:j≠h:=λB=>by have:=b.hb;rw[B,b.hr]at this;cases this
  have u:∀r,r≠h->(setBlock C h (.mapIter (E j) d (seen.push q.born) d)).heap[r]?=w.heap[r]?:=λr u=>(R.2 r u).trans (by rcases m with rfl|rfl<;>rfl);obtain⟨am,A⟩:=y.Vj (w':=setBlock C h (.mapIter (E j) d (seen.push q.born) d)) b.hr b.own b.ng b.nM (by rcases m with rfl|rfl<;>rfl) (by rcases m with rfl|rfl<;>rfl) (by rcases m with rfl|rfl<;>rfl) (by rcases m with rfl|rfl<;>simp[setBlock]) u;simp[Oper.wp,dl,O,L,z,Result.andThen];refine G _ _ (X l ab _ _ (am.put (.tp _ _ Zs λi x v f k=>?_) _) ⟨by rw[K];exact R.1,(u j ai).trans b.hb,b.own,b.ng,b.nM,b.m',b.nd,λB x f=>?_,b.len⟩ (by rw[K];exact left_shrinks e seen q I))
  .rcases i with _|_|_|i
   .simp at f k;subst f;subst k;exact .sc _
   .simp at f k;subst f;exact .any _
   .simp at f k;subst f;exact .any _
   .simp at f
  .obtain⟨an,U,V⟩:=b.EO B x f;exact⟨an,U,V.mono A⟩
def XO(B:o.guard=aa)(u:aS w0 M g s a w){j p k:Nat}{b:Array MapEntry}{r:DL}{seen:Array Nat}{e:Nat}{C:e<b.size}(h:oA w0 M g s.n w j p b k r (seen.push b[e].born)){f:eV}(I:o.op=.entry f)(F:s.ev f=.sc (.pointer (E ⟨j,0,aa⟩))){q:D}(A:r[e]?=E q)
 (y:∀m,aS w0 M g (s.put o.dst (.tp [.any,q])) m w->f' P ops Q rest m w):f' P ops Q (o::rest) a w:=by
 refine wpList_plain B λJ z=>?_;have G:a.eval f=.pointer (E ⟨j,0,aa⟩):=by
  have:=u.ev f;rw[F]at this;generalize a.eval f=v at this;cases this;rfl
 simp[Oper.wp,dl,I,G,run_entry_at (P:=P) w j p k seen b k b[e] h.hr h.hb Zs h.nd,Result.andThen];refine z _ _ (y _ (u.put (.tp _ _ Zs λi K v d l=>?_) _));rcases i with _|_|i
 .simp at d l;subst d;exact .any _
 .simp at d l;subst d;subst l;obtain⟨L,t,x⟩:=h.EO e _ A;simp[C]at t;rw[t];exact x
 .simp at d
def XV{p:dH}{m j k:Nat}{b:Array MapEntry}{l:DL}(i:Array Nat->aU)
 (step:∀(seen:Array Nat)(s:St)(a:cq)(w:aL),aS w0 M g s a w->oA w0 M g s.n w m j b k l seen->i seen s->p.wp P (λd z y=>(d=.normal/\∃f h,aS w0 M g f z y/\oA w0 M g f.n y m j b k l h/\i h f/\(leftOf b h).size<(leftOf b seen).size)\/(d≠.normal/\Q d z y)) a w)
 {seen:Array Nat} (x:aS w0 M g s a w) (u:oA w0 M g s.n w m j b k l seen) (t:i seen s):(Code.loop p).wp P Q a w:=by
 refine wp_loop_rounds ((leftOf b seen).size+1) ?_;have F:∀(e:Nat)(seen:Array Nat)(s:St)(a:cq)(w:aL),(leftOf b seen).size<e->aS w0 M g s a w->oA w0 M g s.n w m j b k l seen->i seen s->Code.rounds P p Q e a w:=by
  intro e
  induction e with
  |zero=>intro seen s a w B;omega
  |succ e D=>
   intro seen s a w I x u t;rw[rounds_succ];refine wp_mono (step seen s a w x u t) λd a w B=>?_;rcases B with⟨rfl,f,h,q,r,C,G⟩|⟨q,r⟩
   .exact D h f a w Zo q r C
   .cases d with
    |normal=>exact absurd A q
    |_=>exact r
 exact F _ _ _ _ _ Zo x u t
end
end
section
open Go.RowKit
variable {z3:eV}{v1 H1:dH}{YH YU:gw}
def UZ{g:Array Tmp}{a:St}(m:∀b a,YH b a->YU b a)(i:xX g3 z3 g v1 H1 YH a):xX g3 z3 g v1 H1 YU a:=λp d e f h o=>wp_mono (i p d e f h o) λb f h⟨a,e,d,q,j,k,l⟩=>⟨a,e,d,q,j,m b a k,l⟩
def Nk:∀(f:dH){g h:gw}{d:St},(∀e d,g e d->h e d)->jQ g3 g4 f g d->jQ g3 g4 f h d:=by
 intro f
 induction f with
 |seq m o j k=>
  intro g h d b a;refine j (λe d a=>?_) a;cases e
  case normal=>exact k b a
  all_goals exact b _ _ a
 |block id f i=>
  intro g h d b a;refine i (λe d a=>?_) a;cases e
  case exit q=>simp only[nG]at a⊢;split at a<;>rename_i l<;>simp only[l,aI,aV]<;>exact b _ _ a
  all_goals exact b _ _ a
 |rangeFunc p r m o=>exact λb a=>UZ b a
 |_=>exact λb a=>oj _ b a
variable {g5:bK}
def OS{f:St}{fn:iw}{c:dH}{nt:Nat}{args:DL}{m:ON}(V:aD)(G:eP)(z:g3.funcs[g5]?=E fn)(hb:fn.body=E c)(P:(fn.name== "runtime.NumGoroutine")=al)
 (Q:fn.ntmps=nt) (S:fn.results.toList=G) (ae:args.length<=nt)
 (J:jQ g3 V c (oc g3 G λd H n T=>gc ({f with H:=H,n:=n,T:=T}.put m d)) {env:=ba args,H:=f.H,n:=f.n,nt:=nt,T:=f.T,N:=f.N}):gx g3 f g5 args m gc:=by
 subst S;subst Q;intro s w o I p env hr vs ab hv;refine⟨⟨fn,z,P,by rw[hb];rfl⟩,?_⟩
 let u:Bs:=⟨p,s.M,λb=>(∃t x c,o t=E (x,b,c))\/∃e∈f.T,b∈e.F,o,f.n,[]⟩
 have qJ:∀b,u.own b->s.own b:=λb k=>by
  exact Hi
 have R:aS u w o {env:=ba args,H:=f.H,n:=f.n,nt:=fn.ntmps,T:=f.T,N:=f.N} {tmps:=vs.toArray++Array.replicate (fn.ntmps-vs.toArray.size) cC,defers:=[]} p:=by
  exact FZ
 refine(callsIn_wide (n:=0)).1 (callsIn_of_wp_marks z hb trivial (wpIn_wide.2 (wp_mono (Nl c _ R J) λe y Y⟨g,l,Z,am,L,q1,U⟩=>?_)));have core:∀d,dj g3 g fn.results.toList=E d->gc ({f with H:=g.H,n:=g.n,T:=g.T}.put m d)->LeavesInM Fence.wide 0 g3 fn y.tmps (λe q=>∃(v:aE)(d:D)(H:bt)(n:b5)(T:dd)(l:dm)(j:cb),e=.returned v/\
  aS s j l {f with env:=env,H:=H,n:=n,T:=T} I q/\Rd (view q j l n) d v/\gc ({f with H:=H,n:=n,T:=T}.put m d)) y.defers .returning Y:=by
  intro d hd K;refine LD.KK L U A hd λv q j a X=>?_;have C:(view p w o f.n).Ext (view q j l g.n):=by
   refine⟨λb ai ak h=>?_,a.og.1,a.og.2⟩;have ah:b<p.heap.size:=by
    have:=dr h;simp only[World.cell?]at this;exact Zg
   have r:¬u.own b:=by
    rintro(k|⟨t,x,c,k⟩|⟨e,he,hb⟩)
    .exact Zg
    .exact(cR h).2 _ _ _ k
    .exact(cR h).1 ((hr.mm b).2 (.inr ⟨e,he,hb⟩))
   have B:=a.below.block b r;refine⟨dK ?_ (λk=>?_) λt x c k=>r (a.base _ _ _ _ k).1,λ⟨W,e,k⟩=>⟨W,e,B.trans k⟩⟩
   .have:=dr h;simp only[World.cell?]at this⊢;rw[B];exact this
   .rcases(a.mm b).1 k with k|⟨e,he,hb⟩
    .exact(cR h).1 ((hr.mm b).2 (.inl k))
    .exact r ((a.tree e he).2 b hb)
  refine⟨v,d,g.H,g.n,g.T,l,j,A,⟨hr.defers,hr.size,λi=>(hr.env i).mono C,a.obj,λt x b c e=>⟨qJ b (a.base _ _ _ _ e).1,(a.base _ _ _ _ e).2⟩,a.inj,?_,a.m0,a.mm,hr.zm,λe he=>⟨(a.tree e he).1,λb hb=>qJ b ((a.tree e he).2 b hb)⟩,a.nd,hr.og.ext C,hr.wm⟩,X,K⟩;exact hr.below.step a.below.os a.below.tape a.below.output a.below.size λk O=>a.below.block k λh=>O (qJ k h)
 exact Hj
def OP{s:St}{a:iw}{nt:Nat}{args:DL}{dst:ON}{K:aU}(L:aD)(e:aD)(b:eP)(h:g3.funcs[g5]?=E a)(g:a.body=E v1)(j:(a.name== "runtime.NumGoroutine")=al)
 (k:a.ntmps=nt) (l:a.results.toList=b) (i:args.length<=nt)
 (f:jQ g3 e v1 (oc g3 b λd H n T=>Cl d/\T=s.T/\(∀t∈L,∀ob,H t=E ob->∀d∈ob.cells,In L d)/\K ({s with H:=kA L L s.H H,n:=n}.put dst d)) {env:=ba args,H:=bi L s.H,n:=s.n,nt:=nt,T:=s.T,N:=s.N}):gx g3 s g5 args dst K:=by
 refine Iw L L (OS e b h g j k l i ?_);have key:∀d H n T,(Cl d/\T=s.T/\(∀t∈L,∀ob,H t=E ob->∀d∈ob.cells,In L d)/\K ({s with H:=kA L L s.H H,n:=n}.put dst d))->((∀t∈L,∀ob,({{s with H:=bi L s.H}with H:=H,n:=n,T:=T}.put dst d:St).H t=E ob->∀d∈ob.cells,In L d)/\(∀t,dst=E t->t<s.nt->In L (({{s with H:=bi L s.H}with H:=H,n:=n,T:=T}.put dst d:St).env t))/\K {({{s with H:=bi L s.H}with H:=H,n:=n,T:=T}.put dst d:St)with H:=kA L L s.H ({{s with H:=bi L s.H}with H:=H,n:=n,T:=T}.put dst d:St).H}):=by
  exact GC
 refine Nk v1 (λx s1 hx=>?_) f;exact wF
def p_(P:ay)(L:aD)(H0:bt)(f:bK)(dV:DL)(Q:D->Prop):Prop:=
 ∀(s:St)(dst:ON)(K:aU),s.T=[]->(∀t∈L,s.H t=H0 t)->(∀n r,Q r->Cl r->K ({s with n:=n}.put dst r))->gx P s f dV dst K
variable {a3:DL}
def p_.Aw{L:aD}{a:bt}{b:iw}{nt:Nat}{e:D->Prop}(h:aD)(f:eP)(p:g3.funcs[g5]?=E b)(o:b.body=E v1)(r:(b.name== "runtime.NumGoroutine")=al)
 (u:b.ntmps=nt) (w:b.results.toList=f) (q:a3.length<=nt) (JL:∀t∈L,∀ob,a t=E ob->∀d∈ob.cells,In L d)
 (g:∀n N,jQ g3 h v1 (oc g3 f λd H _ j=>Cl d/\e d/\j=[]/\∀t∈L,H t=a t) {env:=ba a3,H:=bi L a,n:=n,nt:=nt,T:=[],N:=N}):p_ g3 L a g5 a3 e:=by
 intro s k i m hH hK;rw[<-m]at g;refine OP L h f p o r u w q ?_;have l:bi L s.H=bi L a:=by
  funext t;simp only[bi];split
  .exact hH t ‹_›
  .rfl
 rw[l];have key:∀d H(n:b5)T,(Cl d/\e d/\T=s.T/\∀t∈L,H t=a t)->(Cl d/\T=s.T/\(∀t∈L,∀ob,H t=E ob->∀d∈ob.cells,In L d)/\i ({s with H:=kA L L s.H H,n:=n}.put k d)):=by
  exact GP
 refine Nk v1 (λx y hx=>?_) (g s.n s.N);exact wF
end
end
end Go.Fw
