/- A part of the proof about KeyOf. No condition. -/
import Derived.Lib.AppendStr
import Derived.Lib.FrozenHead
import Derived.Laws.IdiomStrings
import Derived.Test.YtiiahfjnecgpgaaGreatDoorProg
import Derived.Test.YtiiahfjnecgpgaaGreatDoorM01
import Derived.Test.YtiiahfjnecgpgaaGreatDoorM03
import Derived.Test.YtiiahfjnecgpgaaGreatDoorM04
set_option maxRecDepth 100000
set_option maxHeartbeats 8000000
set_option linter.unusedSimpArgs false
set_option linter.unusedVariables false
set_option linter.defProp false
open Go.Proofs.Tryz
open Go renaming maxLen->ao,Program->ay,Value->aE,TypeId->aQ,World->aL,FuncId->bK,Oper->da,run_underlying->dU,Func->iw,Code->dH,undef->cC,execOp->dl,Exit->gk,Operand->eV,wpList->f',Act->cq
open Go.Builtin renaming append_->jH
open Go.Result renaming andThen_ok->gl
open Go.Sem renaming run_bind->eW
open Option renaming some->E,none->aa
open Bool renaming true->ad,false->al
open Go.IntWalk renaming i64_in->cW
open Go.Proofs.Tryz renaming prog->aB
open Nat renaming reduceEqDiff->aP
namespace Go.Fw
noncomputable section
section
open Go.RowKit
def MF(M:cb)(B:Nat)(w:aL):Nat->Prop:=λk=>M k\/(B<=k/\k<w.heap.size)
def qT(w:aL)(M:cb)(B:Nat):View:=view w (λk=>M k\/B<=k) (λ_=>aa) db
def XD{j b:aL}{M:cb}{B:Nat}(i:∀k,k<B->b.heap[k]?=j.heap[k]?):(qT j M B).Ext (view b (MF M B b) (λ_=>aa) db):=by
 refine⟨λd o q e=>?_,λ_=>b_ _,λ_ _ _ _ k _=>absurd k (ow _)⟩;have h:=(cR e).1;have f:=Nat.lt_of_not_le λk=>h (.inr k);refine⟨dK ((oK (i d f)).trans (dr e)) (λk=>?_) Zs,λ⟨m,p,l⟩=>⟨m,p,(i d f).trans l⟩⟩;rcases k with k|k
 .exact h (.inl k)
 .omega
def XF{w:aL}{M:cb}:(view w M (λ_=>aa) db).Ext (qT w M w.heap.size):=by
 refine⟨λb o e d=>?_,λ_=>b_ _,λ_ _ _ _ k _=>absurd k (ow _)⟩;have hc:=dr d;refine⟨dK hc (λk=>?_) Zs,hM⟩;rcases k with k|k
 .exact(cR d).1 k
 .exact Hd
def XE{w:aL}{M d:cb}{g:dm}(f:∀b,d b->M b):(view w M g db).Ext (qT w d w.heap.size):=by
 refine⟨λb o h e=>?_,λ_=>b_ _,λ_ _ _ _ k _=>absurd k (ow _)⟩;have hc:=dr e;refine⟨dK hc (λk=>?_) Zs,hM⟩;rcases k with k|k
 .exact(cR e).1 (f b k)
 .exact Hd
def XC{m b:aL}{M:cb}{B:Nat}{g:dm}(j:∀k,k<B->b.heap[k]?=m.heap[k]?):(view b (MF M B b) g db).Ext (qT m M B):=by
 refine⟨λd o u e=>?_,λ_=>b_ _,λ_ _ _ _ k _=>absurd k (ow _)⟩;have h:=dr e;have i:=(cR e).1;have p:d<b.heap.size:=by
  cases l:b.heap[d]? with
  |none=>simp[World.cell?,l]at h
  |some _=>exact(iY.1 l).1
 have f:=Nat.lt_of_not_le λk=>i (.inr ⟨k,p⟩);refine⟨dK ((oK (j d f).symm).trans h) (λk=>?_) Zs,λ⟨r,t,q⟩=>⟨r,t,(j d f).symm.trans q⟩⟩;rcases k with k|k
 .exact i (.inl k)
 .omega
def aS.at{j d:aL}{M:cb}{B:Nat}(h:MB M j)(i:∀b,M b->b<B)(l:B<=d.heap.size)(m:∀k,k<B->d.heap[k]?=j.heap[k]?)
 {a:cq} {env:lf} {nt:Nat} (p:a.defers=[]) (q:a.tmps.size=nt) (r:∀f,Rd (qT j M B) (env f) (a.tmps.getD f cC)):
 aS (lu d (MF M B d) λ_=>False) (MF M B d) (λ_=>aa) {env,H:=λ_=>aa,n:=db,nt} a d:=
 ⟨p,q,λf=>(r f).mono (XD m),Zs,Zs,Zs,⟨A,A,A,b_ _,λ_ _=>A⟩,
  λb k=>⟨by rcases k with k|k;exact gv (i b k) l;exact k.2,Zs⟩,λb=>by simp,⟨λb k e=>by
   have t:b<d.heap.size:=by
    rcases k with k|k
    .exact gv (i b k) l
    .exact k.2
   rcases e with e|e
   .simp only[]at e;omega
   .exact e,.inl h.2.1,h.2.2.mono (m _ (i _ h.2.1))⟩,Zs,Zs,.none A,λ_ _=>iy _⟩
def lm(l:List (Nat×D)):Nat->D:=λi=>match l.find? (λx=>x.1==i)with|some x=>x.2|none=>.any
def pJ{f:View}{e:List (Nat×D)}{a:cq}(h:∀b∈e,Rd f b.2 (a.tmps.getD b.1 cC))(d:Nat):Rd f (lm e d) (a.tmps.getD d cC):=by
 unfold lm;cases i:e.find? (λb=>b.1==d)with
 |none=>exact .any _
 |some b=>
  exact Zg
def pI:lm []=λ_=>.any:=by funext b;rfl
def pH(d:Nat)(b:D)(e:List (Nat×D)):lm ((d,b)::e)=af (lm e) d b:=by
 funext f;unfold lm af;exact Zg
def Uv(a:cq)(d:ON)(v:aE){b:Nat}(e:d≠E b):(a.put d v).tmps.getD b cC=a.tmps.getD b cC:=by
 cases d with
 |none=>rfl
 |some h=>
  have:h≠b:=λf=>e (by rw[f]);simp[Act.put,iv,this]
def xS(a:cq)(b:Nat)(v:aE)(d:b<a.tmps.size):(a.put (E b) v).tmps.getD b cC=v:=by
 simp[Act.put,iv,d]
def qL(a:cq)(b:ON)(v:aE):(a.put b v).tmps.size=a.tmps.size:=by cases b<;>simp[Act.put]
def put_defers(a:cq)(b:ON)(v:aE):(a.put b v).defers=a.defers:=by cases b<;>rfl
def fh(nt:Nat)(b:List (Nat×D))(s:St):Prop:=s.H=(λ_=>aa)/\s.n=db/\s.nt=nt/\s.T=[]/\s.N=0/\∀x∈b,s.env x.1=x.2
def uo(b:List (Nat×D))(s:St):Prop:=∀x∈b,s.env x.1=x.2
def kp(keep:aD)(l:gY):Bool:=l.all λo=>match o.dst with|some t=>!keep.contains t|none=>ad
def fQ(keep:aD)(a b:cq):Prop:=∀i∈keep,b.tmps.getD i cC=a.tmps.getD i cC
def fQ.trans{b:aD}{a d e:cq}(i:fQ b a d)(j:fQ b d e):fQ b a e:=λh f=>(j h f).trans (i h f)
def fQ.put{b:aD}{a:cq}{d:ON}{v:aE}(f:∀e,d=E e->e∉b):fQ b a (a.put d v):=λi h=>Uv a d v λj=>f i j h
section
variable{P:ay}{w0:Bs}{M:cb}{g:dm}{s:St}{a:cq}{w:aL}{ops:f_}{Q:gk->cq->aL->Prop}{rest:gY}{o:da}
def R_{b:aD}{o:da}{f:gY}(e:kp b (o::f)=ad):(∀d,o.dst=E d->d∉b)/\kp b f=ad:=by
 simp only[kp,List.all_cons,b3]at e;refine⟨λd h=>?_,e.2⟩;exact Zg
def ub(h:o.guard=aa){v:aE}{b:aL}(d:(dl a.eval o).run P w=.ok (.value v) b)(e:f' P ops Q rest (a.put o.dst v) b):f' P ops Q (o::rest) a w:=by
 refine wpList_plain h λi f=>?_;simp only[Oper.wp,d,Oper.upon_value];exact f _ _ e
def Np{keep:aD}{k:aU}:∀(e:gY){s:St}{a:cq},aS w0 M g s a w->kp keep e=ad->vp P e k s->(∀h d,aS w0 M g h d w->k h->fQ keep a d->f' P ops Q rest d w)->f' P ops Q (e++rest) a w
 |[],s,a,f,_,b,i=>i s a f b λ_ _=>A
 |o::e,s,a,f,q,⟨p,b⟩,i=>by
  obtain⟨r,t⟩:=R_ q;cases j:eH P s o.op with
  |none=>rw[j]at b;exact b.elim
  |some z=>
   rw[j]at b;obtain⟨v,l,m⟩:=Er f j;exact ub p (m w (Below.refl _ _)) (Np e (f.put l _) t b λh d u x y=>i h d u x (fQ.trans (fQ.put r) y))
def jG(d:Nat)(keep:aD){b:gY}{K:aU}(k:aS w0 M g s a w)(j:kp keep (b.take d)=ad)(h:vp P (b.take d) K s)(i:∀f e,aS w0 M g f e w->K f->fQ keep a e->f' P ops Q (b.drop d) e w):f' P ops Q b a w:=by
 have:=Np (keep:=keep) (rest:=b.drop d) (ops:=ops) (Q:=Q) (b.take d) k j h i;rwa[lb]at this
def EU(x:aD)(r:o.guard=aa)(u:aS w0 M g s a w){b:Nat}{h:Prop}{i:St}{f:D}(q:o.dst=E b)(j:fr P x s b o.op=E (h,i,f))(t:h)
 (p:∀v d e,aS w0 M e (i.put (E b) f) (a.put (E b) v) d->f' P ops Q rest (a.put (E b) v) d):f' P ops Q (o::rest) a w:=by
 obtain⟨v,d,e,k,l,m⟩:=Mz u j t;refine ub r k ?_;rw[q];exact p v d e (l.put m _)
def Bf(hg:o.guard=aa)(hr:aS w0 M g s a w){f:eV}{args:Array eV}{A4:Array aQ}(JN:o.op=.call ⟨.value f,args,A4⟩){d:bK}{first b:DL}{h:D}(hf:s.ev f=.fn d first b)(hc:oy P s.H s.T d (first++args.toList.map s.ev++b) h)
 (hK:∀v w',Below w.heap.size w w'->aS w0 M g (s.put o.dst h) (a.put o.dst v) w'->f' P ops Q rest (a.put o.dst v) w'):f' P ops Q (o::rest) a w:=by
 exact GD
def ET(q:o.guard=aa){b:bK}{args:Array eV}{f:Array aQ}(r:o.op=.call ⟨.value (.func b),args,f⟩){vs:VL}(t:args.toList.map a.eval=vs)(p:lL P b){R:Ending->aL->Prop}(j:Calls P b vs.toArray w R)
 (k:∀e d,R e d->∃v,e=.returned v/\f' P ops Q rest (a.put o.dst v) d):f' P ops Q (o::rest) a w:=by
 refine wpList_plain q λy l=>?_;obtain⟨i,op,x,pos,h,guard⟩:=o;subst r;simp only[Oper.wp,yS (a:=a) (o:=⟨i,.call ⟨.value (.func b),args,f⟩,x,pos,h,guard⟩) (first:=[]) (en:=[]) A A A p w,Oper.upon_enter];simp only[t,a8,c_];refine j.mono λz d m=>?_;obtain⟨v,rfl,u⟩:=k _ _ m;exact l _ _ u
def XS(m:o.guard=aa)(q:aS w0 M g s a w)(l:o.dst=aa){d:Prop}{e:St}(f:kY P s o.op=E (d,e))(p:d)
 (j:∀b,aS w0 M g e a b->f' P ops Q rest a b):f' P ops Q (o::rest) a w:=by
 obtain⟨b,h,i⟩:=Eu q f p;refine wpList_plain m λr k=>?_;simp only[Oper.wp,h,Oper.upon_skip];have:=k _ _ (j b i);rw[l];exact this
def Nw{i:dH}(h:Nat->cq->aL->Prop)(f:Nat)(step:∀b a w,b<=f->h b a w->i.wp P (λd l r=>(d=.normal/\b<f/\h (b+1) l r)\/(d≠.normal/\Q d l r)) a w)
 (k:h 0 a w):(Code.loop i).wp P Q a w:=by
 refine wp_loop_rounds (f+1) ?_;have u:∀(e b:Nat)(a:cq)(w:aL),f+1-b<=e->b<=f->h b a w->Code.rounds P i Q e a w:=by
  intro e
  induction e with
  |zero=>intro b a w m q;omega
  |succ e t=>
   intro b a w x q k;rw[rounds_succ];refine wp_mono (step b a w q k) λd a w m=>?_;rcases m with⟨rfl,p,j⟩|⟨p,j⟩
   .exact t (b+1) a w Zo Zo j
   .cases d with
    |normal=>exact absurd A p
    |_=>exact j
 exact u _ 0 _ _ Zo (iy _) k
def Sp.Lu{p:bK}{b:iw}{l:dH}{h:DL}{i:BA}{k u:Nat}(t:P.funcs[p]?=E b)(q:b.body=E l)(F:(b.name== "runtime.NumGoroutine")=al)(G:b.ntmps=k)(J:b.results=#[.tmp u])
 (R:h.length<=k) (x:∀(w:aL)(M:cb)(a:cq),MB M w->a.defers=[]->a.tmps.size=k->(∀(d:Nat)(j:D),h[d]?=E j->Rd (qT w M w.heap.size) j (a.tmps.getD d cC))->
  l.wp P (λm a f=>m=.ret/\a.defers=[]/\a.tmps.getD u cC=.string i/\Below w.heap.size w f) a w):Sp P p h (.sc (.string i)):=by
 subst G;refine⟨⟨b,t,F,by rw[q];rfl⟩,λw M vs C O K=>?_⟩;refine calls_of_wp t q (wp_mono (x w M _ C A de λd j r=>?_) λm a f⟨y,e,z,B⟩=>?_)
 .have L:=(ej.1 r).1;have e:vs[d]?=E (vs[d]'Zo):=bR Zo;have:=(K d _ _ r e).mono XF;simpa[iv,Array.getElem?_append,e,show d<vs.length by omega]using this
 subst y;have I:(results b a.tmps).run P f=.ok (.string i) f:=by
  rw[L8,J];simp[tP,z]
 exact⟨e,_,I,_,A,B,.sc _⟩
end
def OB(B:Nat)(e:aQ)(v:aE)(bs:VL)(w:aL):Prop:=
 ∃g b d f,v=.slice (E ⟨g,0,aa⟩) bs.length b/\B<=g/\w.heap[g]?=E (.cells d e f)/\(f.2=0\/b<=f.1)/\bs.length<=b/\b<=ao/\d.size=b/\d.toList.take bs.length=bs
def OB.kept{B:Nat}{d:aQ}{v:aE}{bs:VL}{w f:aL}(k:OB B d v bs w)(q:∀b,b<w.heap.size->f.heap[b]?=w.heap[b]?):OB B d v bs f:=by
 obtain⟨g,h,i,j,l,m,e,p⟩:=k;exact⟨g,h,i,j,l,m,(q g (iY.1 e).1).trans e,p⟩
def OB.cell{B:Nat}{f:aQ}{g e:Nat}{o:Nat}{bs:VL}{w:aL}(h:OB B f (.slice (E ⟨g,o,aa⟩) bs.length e) bs w):o=0/\∀b d,bs[b]?=E d->w.cell? ⟨g,b,aa⟩=E d:=by
 obtain⟨q,l,m,p,i,r,j,t,u,x,y,z⟩:=h;cases i;refine⟨A,λb d k=>?_⟩;have C:=(ej.1 k).1;simp only[World.cell?,j];exact Zg
def OB.conv{P:ay}{w:aL}{B:Nat}{src d b:aQ}{s:BA}(q:P.underlying src=E .string)(k:P.underlying d=E (.slice b))(l:P.underlying b=E (.int .u8))(j:B<=w.heap.size)(p:s.size<=ao):
 ∃v e,(convert src d (.string s)).run P w=.ok v e/\OB B b v (Lib.strCells s) e/\Below w.heap.size w e:=by
 have f:(bytesRow s (grownCap w s.size 0 b)).size=grownCap w s.size 0 b:=by
  have:=grownCap_ge w s.size 0 b;have i:s.data.size=s.size:=A;simp[bytesRow,i];omega
 refine⟨_,_,run_bytes_of_string w src d b s q k l,⟨w.heap.size,_,_,_,by rw[Lib.strCells_length],j,heap_alloc_new w.drew _,.inr ?_,?_,grownCap_le_maxLen w _ 0 b p,f,?_⟩,⟨A,A,A,Zs,λr m=>@Go.heap_alloc_old w.drew _ _ (show r<w.drew.heap.size from m)⟩⟩
 .simp only[f];exact b_ _
 .rw[Lib.strCells_length];exact grownCap_ge w s.size 0 b
 .have:(Lib.strCells s).length=(Array.map (λh:UInt8=>Value.int .u8 h.toNat) s.data).toList.length:=by simp[Lib.strCells]
  simp only[bytesRow,Array.toList_append];rw[this,List.take_left];simp[Lib.strCells]
def OB.back{P:ay}{w:aL}{B:Nat}{src b d:aQ}{v:aE}{s:BA}(p:P.underlying src=E (.slice b))(k:P.underlying b=E (.int .u8))(j:P.underlying d=E .string)(e:OB B b v (Lib.strCells s) w):
 (convert src d v).run P w=.ok (.string s) w:=by
 have h:=e;obtain⟨g,f,r,t,rfl,-⟩:=e;have i:=h.cell.2;have m:(Lib.strCells s).length=s.data.toList.length:=by simp[Lib.strCells]
 have:=run_convert_bytes_back (P:=P) w src d b ⟨g,0,aa⟩ f s.data.toList p k j (λq l=>by
  rw[Addr.add_lit];simp only[ek];exact i q _ (by rw[Lib.strCells,gF,bR l];rfl))
 rw[<-m]at this;simpa using this
section
variable(P:ay)
def Mm(g o:Nat)(h:aQ)(e:Nat×Nat):∀(vs:VL)(b:Nat)(d:iA)(w:aL),w.heap[g]?=E (.cells d h e)->(e.2=0\/d.size<=e.1)->o+b+vs.length<=d.size->(∀v∈vs,v.oneCell'=ad)->
 (storeCells ⟨g,o,aa⟩ vs b).run P w=.ok () (w.setRow g (d.toList.take (o+b)++vs++d.toList.drop (o+b+vs.length)).toArray)
 |[],b,d,w,f,_,_,_=>by
  simp only[storeCells,c_,gG,kL,lb,Array.toArray_toList];rw[setRow_self w g d h e f];rfl
 |v::rest,b,d,w,f,k,i,j=>by
  have q:o+b<d.size:=by simp at i;omega
  have l:(⟨g,o,aa⟩:Addr).add b=⟨g,o+b,aa⟩:=by unfold Addr.add;split<;>simp_all
  have m:w.cell? ⟨g,o+b,aa⟩=E d[o+b]:=by simp[World.cell?,f,q]
  have p:w.frozen? ⟨g,o+b,aa⟩=al:=by
   obtain⟨y,x⟩:=e;simp only at k;simp only[World.frozen?,f,ud,fZ];omega
  have r:(store ((⟨g,o,aa⟩:Addr).add b) v).run P w=.ok () (w.setRow g (d.setIfInBounds (o+b) v)):=by
   rw[l,run_store P w _ v _ (j v Zs),m];simp[p,setCell_eq_setRow w g (o+b) d h e v f]
  simp only[storeCells,eW,r,gl,Mm g o h e rest (b+1) (d.setIfInBounds (o+b) v) (w.setRow g (d.setIfInBounds (o+b) v)) (setRow_heap w g d _ h _ f) (by simpa using k) (by simp at i⊢;omega) (λu t=>j u (by simp[t])),setRow_setRow];congr 3;simpa[Array.toList_setIfInBounds,re]using(list_seg_step d.toList (o+b) v rest (by simp at i⊢;omega))
end
set_option maxHeartbeats 4000000 in
def OB.append{P:ay}{w:aL}{B:Nat}{t u ty d:aQ}{f:TypeInfo}{U:TypeDesc}{bs news:VL}{v x:aE}(J:P.underlying t=E (.slice d))(K:P.underlying u=E U)(r:U=.string\/∃h,U=.slice h)(C:P.info? d=E f)(aq:f.zero=E (.int .u8 0))
 (G:f.size=1) (Y:f.bytes=1) (O:OB B d v bs w) (F:(Builtin.lenOf x).run P w=.ok news.length w) (R:∀u∈news,u.oneCell'=ad)
 (y:∀e,e.heap=w.heap->(Builtin.firstCells 1 news.length x).run P e=.ok news.toArray e) (au:bs.length+news.length<=140737488355328) (W:B<=w.heap.size):
 ∃L e,(jH #[t,u] ty #[v,x]).run P w=.ok L e/\OB B d L (bs++news) e/\Below B w e:=by
 obtain⟨g,b,i,q,rfl,X,l,z,av,ak,an,ap⟩:=O;by_cases m:bs.length+news.length<=b
 .have I:=Mm P g bs.length d q news 0 i w l (by rw[an];exact z) Zo R;simp only[kL]at I;have k:=y w A;have p:(jH #[t,u] ty #[.slice (E ⟨g,0,aa⟩) bs.length b,x]).run P w=.ok (.slice (E ⟨g,0,aa⟩) (bs.length+news.length) b) (w.setRow g (i.toList.take bs.length++news++i.toList.drop (bs.length+news.length)).toArray):=by
   rcases r with rfl|⟨_,rfl⟩<;>simp[jH,dU J,dU K,sizeOf,typeInfo,C,G,F,m,k,Addr.add_lit,I]
  refine⟨_,_,p,⟨g,b,_,q,Zs,X,setRow_heap w g i _ d _ l,z,by simpa using m,ak,?_,?_⟩,⟨A,A,A,Zs,λh ah=>setRow_other w g h _ Zo⟩⟩
  .exact Zg
  .exact Zg
 .have am:∀j u,bs[j]?=E u->w.drew.cell? ((⟨g,0,aa⟩:Addr).add j)=E u:=λj u D=>by
   have ai:=(ej.1 D).1;have:(i.toList.take bs.length)[j]?=E u:=by rw[ap];exact D
   rw[sA,aM ai]at this;rw[Addr.add_lit];simp only[World.cell?,World.drew,l];simpa using this
  have ab:=run_firstCells_some (P:=P) w.drew 1 bs.length ⟨g,0,aa⟩ bs.length b bs Zs am;have k:=y w.drew A;have V:¬(9223372036854775807<((bs.length:Int)+(news.length:Int))):=Zo;have S:¬(281474976710656<Builtin.nextslicecap (bs.length+news.length) b*f.bytes):=by
   have:=growslice_fits (bytes:=f.bytes) (show b<bs.length+news.length by omega) (by rw[Y];omega);omega
  have p:(jH #[t,u] ty #[.slice (E ⟨g,0,aa⟩) bs.length b,x]).run P w=.ok (.slice (E ⟨w.heap.size,0,aa⟩) (bs.length+news.length) (grownCap w (bs.length+news.length) b d))
   (w.drew.alloc (.cells (bs.toArray++news.toArray++Builtin.zeroCells (Value.int IntKind.u8 0).cells (grownCap w (bs.length+news.length) b d-(bs.length+news.length))) d)):=by
   rcases r with rfl|⟨_,rfl⟩<;>(simp[jH,dU J,dU K,sizeOf,typeInfo,zeroValue,C,aq,G,F,m,V,S,Question.forced,k,ab,newRow,grownCap]<;>(congr 2;apply qU;simp[dM]))
  have ae:=grownCap_ge w (bs.length+news.length) b d;have Z:grownCap w (bs.length+news.length) b d<=ao:=grownCap_le_maxLen w _ b d iM;refine⟨_,_,p,⟨w.heap.size,_,_,(0,0),Zs,W,heap_alloc_new w.drew _,.inl A,by simpa using ae,Z,?_,?_⟩,⟨A,A,A,Zs,λh ah=>@Go.heap_alloc_old w.drew _ _ (show h<w.drew.heap.size by show h<w.heap.size;omega)⟩⟩
  .have ar:(Value.int IntKind.u8 0).cells.size=1:=A;simp only[p5,nq,size_zeroCells,ar];omega
  .exact Zg
end
def yM(l:List Bool):D:=.sl 1 (l.map λb=>[B b])
@[simp] def sP (b:List Bool):Cl (yM b):=by
 simp only[yM,cI,aG];rintro f⟨d,_,rfl⟩e a;simp at a;subst a;exact .sc _
def kF(l:aK):Nat:=(l.map ByteArray.size).sum
def vl:∀{b:aD}{d:Nat},d∈b->d<=b.sum
 |[],_,h=>by cases h
 |a::b,d,h=>by
  rw[ia];rcases cJ.1 h with e|h
  .omega
  .have:=vl h;omega
def vJ(a:aD)(b:Nat):(a.take b).sum<=a.sum:=by
 conv=>rhs;rw[<-lb b a,sB]
 omega
def vK(b:aD)(a:Nat)(d:a<b.length):(b.take (a+1)).sum=(b.take a).sum+b[a]:=by
 rw[ch d,sB];simp
def kf(n:Nat)(left:Int):Int:=if(n:Int)<=left then left-n else-1
variable {h:Nat}
def kg{left:Int}(a:(h:Int)<=left):kf h left=left-h:=aM a
def gE{left:Int}(a:¬(h:Int)<=left):kf h left=-1:=av a
def Vz(b:aK)(a:Nat)(d:a<b.length):kF (b.take (a+1))=kF (b.take a)+(b[a]).size:=by
 simp only[kF,kK];rw[vK _ _ (by simpa using d)];simp
def Vy(a:aK)(b:Nat):kF (a.take b)<=kF a:=by
 simp only[kF,kK];exact vJ _ _
inductive O where|mk (a:Int) (b:ByteArray) (Kids:List O)
abbrev cz:=List O
mutual
def O.ds:O->List D
 |.mk a b d=>[I a,S b,.sl 3 (O.ae d)]
def O.ae:List O->List (List D)
 |[]=>[]
 |c::cs=>c.ds::O.ae cs
end
mutual
def O.sz:O->Nat
 |.mk d b a=>b.size+(a.length+O.cG a)
def O.cG:List O->Nat
 |[]=>0
 |c::cs=>c.sz+O.cG cs
end
mutual
def O.ok:O->Prop
 |.mk d b a=>b.size<=ao/\a.length<=ao/\O.eZ a
def O.eZ:List O->Prop
 |[]=>True
 |c::cs=>c.ok/\O.eZ cs
end
def O.bZ:∀a:cz,O.ae a=a.map O.ds
 |[]=>rfl
 |c::b=>by rw[O.ae,O.bZ b];rfl
def O.iV:∀a:cz,O.cG a=(a.map O.sz).sum
 |[]=>rfl
 |c::b=>by rw[O.cG,O.iV b];simp
def O.dW:∀{f:cz},O.eZ f->∀b∈f,b.ok
 |[],_,b,a=>by cases a
 |d::h,a,b,e=>by
  rw[O.eZ]at a;rcases cJ.1 e with g|e
  .rw[g];exact a.1
  .exact O.dW a.2 b e
def O.sl(l:cz):D:=.sl 3 (O.ae l)
def O.b1(a:O):a.ds.length=3:=by cases a;simp[O.ds]
def O.bb(a:cz):(O.ae a).length=a.length:=by rw[O.bZ];simp
def O.bo(b:cz)(a:Nat)(d:a<b.length):(O.ae b)[a]?=E (b[a]).ds:=by rw[O.bZ];simp[d]
def O.x8(b:cz)(a:Nat)(d:a<b.length):O.cG (b.take (a+1))=O.cG (b.take a)+(b[a]).sz:=by
 simp only[O.iV,kK];rw[vK _ _ (by simpa using d)];simp
def O.vL(a:cz)(b:Nat):O.cG (a.take b)<=O.cG a:=by
 simp only[O.iV,kK];exact vJ _ _
mutual
def O.cl:∀(x:O),∀d∈x.ds,Cl d
 |.mk b e a=>by simp only[O.ds,a7,cS,ez,eJ,fa];(repeat' apply And.intro)<;>first|exact aO _|exact lk _|exact jW _|exact sP _|exact Cl.fH (O.bA a)
def O.bA:∀(l:List O),∀r∈O.ae l,∀d∈r,Cl d
 |[]=>by simp[O.ae]
 |c::cs=>by simp only[O.ae,a7];exact⟨O.cl c,O.bA cs⟩
end
def O.gj{x:O}{l:cz}(a:x∈l):x.sz<=O.cG l:=by
 rw[O.iV];exact vl (aG.2 ⟨x,a,A⟩)
def O.one(a:O):∀b∈a.ds,b4 b=ad:=by
 cases a;simp only[O.ds,a7,cS,ez,eJ,fa];(repeat' apply And.intro)<;>first|rfl
@[simp] def O.cI (a:cz):Cl (O.sl a):=Cl.fH (O.bA a)
def O.ea(d:cz):∀b∈O.ae d,b.length=3:=by
 intro b a;rw[O.bZ,aG]at a;obtain⟨e,_,rfl⟩:=a;exact O.b1 e
inductive aA where|mk (b:ByteArray) (a:List O)
abbrev iB:=List aA
def aA.ds:aA->List D
 |.mk a b=>[S a,O.sl b]
def aA.ae(l:iB):ct:=l.map aA.ds
def aA.sz:aA->Nat
 |.mk b a=>b.size+(a.length+O.cG a)
def aA.cG(l:iB):Nat:=(l.map aA.sz).sum
def aA.ok:aA->Prop
 |.mk b a=>b.size<=ao/\a.length<=ao/\O.eZ a
def aA.eZ(l:iB):Prop:=∀c∈l,c.ok
def aA.bZ(a:iB):aA.ae a=a.map aA.ds:=rfl
def aA.iV(a:iB):aA.cG a=(a.map aA.sz).sum:=rfl
def aA.dW{a:iB}(d:aA.eZ a):∀b∈a,b.ok:=d
def aA.sl(l:iB):D:=.sl 2 (aA.ae l)
def aA.b1(a:aA):a.ds.length=2:=by cases a;simp[aA.ds]
def aA.bb(a:iB):(aA.ae a).length=a.length:=by rw[aA.bZ];simp
def aA.bo(b:iB)(a:Nat)(d:a<b.length):(aA.ae b)[a]?=E (b[a]).ds:=by rw[aA.bZ];simp[d]
def aA.x8(b:iB)(a:Nat)(d:a<b.length):aA.cG (b.take (a+1))=aA.cG (b.take a)+(b[a]).sz:=by
 simp only[aA.iV,kK];rw[vK _ _ (by simpa using d)];simp
def aA.vL(a:iB)(b:Nat):aA.cG (a.take b)<=aA.cG a:=by
 simp only[aA.iV,kK];exact vJ _ _
def aA.cl(a:aA):∀b∈a.ds,Cl b:=by
 cases a;simp only[aA.ds,a7,cS,ez,eJ,fa];(repeat' apply And.intro)<;>first|exact aO _|exact lk _|exact jW _|exact sP _|exact O.cI _
def aA.bA(f:iB):∀d∈aA.ae f,∀a∈d,Cl a:=by
 intro d b a e;rw[aA.bZ,aG]at b;obtain⟨g,_,rfl⟩:=b;exact aA.cl g a e
def aA.gj{x:aA}{l:iB}(a:x∈l):x.sz<=aA.cG l:=by
 rw[aA.iV];exact vl (aG.2 ⟨x,a,A⟩)
def aA.one(a:aA):∀b∈a.ds,b4 b=ad:=by
 cases a;simp only[aA.ds,a7,cS,ez,eJ,fa];(repeat' apply And.intro)<;>first|rfl
@[simp] def aA.cI (a:iB):Cl (aA.sl a):=Cl.fH (aA.bA a)
def aA.ea(d:iB):∀b∈aA.ae d,b.length=2:=by
 intro b a;rw[aA.bZ,aG]at a;obtain⟨e,_,rfl⟩:=a;exact aA.b1 e
inductive Core where|mk (a:Int) (aE:Int) (ai:List Int) (Kids:List Core)
abbrev bM:=List Core
mutual
def Core.ds:Core->List D
 |.mk a b d e=>[I a,I b,ints d,.sl 4 (Core.ae e)]
def Core.ae:List Core->List (List D)
 |[]=>[]
 |c::cs=>c.ds::Core.ae cs
end
mutual
def Core.ok:Core->Prop
 |.mk d e b a=>b.length<=ao/\a.length<=ao/\Core.eZ a
def Core.eZ:List Core->Prop
 |[]=>True
 |c::cs=>c.ok/\Core.eZ cs
end
def Core.bZ:∀a:bM,Core.ae a=a.map Core.ds
 |[]=>rfl
 |c::b=>by rw[Core.ae,Core.bZ b];rfl
def Core.dW:∀{f:bM},Core.eZ f->∀b∈f,b.ok
 |[],_,b,a=>by cases a
 |d::h,a,b,e=>by
  rw[Core.eZ]at a;rcases cJ.1 e with g|e
  .rw[g];exact a.1
  .exact Core.dW a.2 b e
def Core.sl(l:bM):D:=.sl 4 (Core.ae l)
def Core.b1(a:Core):a.ds.length=4:=by cases a;simp[Core.ds]
def Core.bb(a:bM):(Core.ae a).length=a.length:=by rw[Core.bZ];simp
def Core.bo(b:bM)(a:Nat)(d:a<b.length):(Core.ae b)[a]?=E (b[a]).ds:=by rw[Core.bZ];simp[d]
mutual
def Core.cl:∀(x:Core),∀d∈x.ds,Cl d
 |.mk b e f a=>by simp only[Core.ds,a7,cS,ez,eJ,fa];(repeat' apply And.intro)<;>first|exact aO _|exact lk _|exact jW _|exact sP _|exact Cl.fH (Core.bA a)
def Core.bA:∀(l:List Core),∀r∈Core.ae l,∀d∈r,Cl d
 |[]=>by simp[Core.ae]
 |c::cs=>by simp only[Core.ae,a7];exact⟨Core.cl c,Core.bA cs⟩
end
def Core.one(a:Core):∀b∈a.ds,b4 b=ad:=by
 cases a;simp only[Core.ds,a7,cS,ez,eJ,fa];(repeat' apply And.intro)<;>first|rfl
@[simp] def Core.cI (a:bM):Cl (Core.sl a):=Cl.fH (Core.bA a)
def Core.ea(d:bM):∀b∈Core.ae d,b.length=4:=by
 intro b a;rw[Core.bZ,aG]at a;obtain⟨e,_,rfl⟩:=a;exact Core.b1 e
inductive ai where|mk (b:ByteArray) (a:List aA)
abbrev aw:=List ai
def ai.ds:ai->List D
 |.mk a b=>[S a,aA.sl b]
def ai.ae(l:aw):ct:=l.map ai.ds
def ai.sz:ai->Nat
 |.mk b a=>b.size+(a.length+aA.cG a)
def ai.cG(l:aw):Nat:=(l.map ai.sz).sum
def ai.ok:ai->Prop
 |.mk b a=>b.size<=ao/\a.length<=ao/\aA.eZ a
def ai.eZ(l:aw):Prop:=∀c∈l,c.ok
def ai.bZ(a:aw):ai.ae a=a.map ai.ds:=rfl
def ai.iV(a:aw):ai.cG a=(a.map ai.sz).sum:=rfl
variable {a4:aw}
def ai.dW(b:ai.eZ a4):∀a∈a4,a.ok:=b
def ai.sl(l:aw):D:=.sl 2 (ai.ae l)
def ai.b1(a:ai):a.ds.length=2:=by cases a;simp[ai.ds]
def ai.bb(a:aw):(ai.ae a).length=a.length:=by rw[ai.bZ];simp
def ai.bo(b:aw)(a:Nat)(d:a<b.length):(ai.ae b)[a]?=E (b[a]).ds:=by rw[ai.bZ];simp[d]
def ai.x8(b:aw)(a:Nat)(d:a<b.length):ai.cG (b.take (a+1))=ai.cG (b.take a)+(b[a]).sz:=by
 simp only[ai.iV,kK];rw[vK _ _ (by simpa using d)];simp
def ai.vL(a:aw)(b:Nat):ai.cG (a.take b)<=ai.cG a:=by
 simp only[ai.iV,kK];exact vJ _ _
def ai.cl(a:ai):∀b∈a.ds,Cl b:=by
 cases a;simp only[ai.ds,a7,cS,ez,eJ,fa];(repeat' apply And.intro)<;>first|exact aO _|exact lk _|exact jW _|exact sP _|exact aA.cI _
def ai.bA(f:aw):∀d∈ai.ae f,∀a∈d,Cl a:=by
 intro d b a e;rw[ai.bZ,aG]at b;obtain⟨g,_,rfl⟩:=b;exact ai.cl g a e
def ai.gj{x:ai}{l:aw}(a:x∈l):x.sz<=ai.cG l:=by
 rw[ai.iV];exact vl (aG.2 ⟨x,a,A⟩)
def ai.one(a:ai):∀b∈a.ds,b4 b=ad:=by
 cases a;simp only[ai.ds,a7,cS,ez,eJ,fa];(repeat' apply And.intro)<;>first|rfl
@[simp] def ai.cI (a:aw):Cl (ai.sl a):=Cl.fH (ai.bA a)
def ai.ea(d:aw):∀b∈ai.ae d,b.length=2:=by
 intro b a;rw[ai.bZ,aG]at a;obtain⟨e,_,rfl⟩:=a;exact ai.b1 e
inductive Y where|mk (a:Int) (e:Int) (b:ByteArray) (O:O) (d:List ByteArray) (Kids:List Y)
abbrev a_:=List Y
mutual
def Y.ds:Y->List D
 |.mk a b d e f g=>[I a,I b,S d]++e.ds++[strs f,.sl 8 (Y.ae g)]
def Y.ae:List Y->List (List D)
 |[]=>[]
 |c::cs=>c.ds::Y.ae cs
end
mutual
def Y.sz:Y->Nat
 |.mk f g d e a b=>d.size+e.sz+(a.length+kF a)+(b.length+Y.cG b)
def Y.cG:List Y->Nat
 |[]=>0
 |c::cs=>c.sz+Y.cG cs
end
mutual
def Y.ok:Y->Prop
 |.mk f g d e a b=>d.size<=ao/\e.ok/\a.length<=ao/\(∀s∈a,ByteArray.size s<=ao)/\b.length<=ao/\Y.eZ b
def Y.eZ:List Y->Prop
 |[]=>True
 |c::cs=>c.ok/\Y.eZ cs
end
def Y.bZ:∀a:a_,Y.ae a=a.map Y.ds
 |[]=>rfl
 |c::b=>by rw[Y.ae,Y.bZ b];rfl
def Y.iV:∀a:a_,Y.cG a=(a.map Y.sz).sum
 |[]=>rfl
 |c::b=>by rw[Y.cG,Y.iV b];simp
def Y.dW:∀{f:a_},Y.eZ f->∀b∈f,b.ok
 |[],_,b,a=>by cases a
 |d::h,a,b,e=>by
  rw[Y.eZ]at a;rcases cJ.1 e with g|e
  .rw[g];exact a.1
  .exact Y.dW a.2 b e
def Y.sl(l:a_):D:=.sl 8 (Y.ae l)
def Y.b1(a:Y):a.ds.length=8:=by cases a;simp[Y.ds,O.b1]
def Y.bb(a:a_):(Y.ae a).length=a.length:=by rw[Y.bZ];simp
def Y.bo(b:a_)(a:Nat)(d:a<b.length):(Y.ae b)[a]?=E (b[a]).ds:=by rw[Y.bZ];simp[d]
def Y.x8(b:a_)(a:Nat)(d:a<b.length):Y.cG (b.take (a+1))=Y.cG (b.take a)+(b[a]).sz:=by
 simp only[Y.iV,kK];rw[vK _ _ (by simpa using d)];simp
def Y.vL(a:a_)(b:Nat):Y.cG (a.take b)<=Y.cG a:=by
 simp only[Y.iV,kK];exact vJ _ _
mutual
def Y.cl:∀(x:Y),∀d∈x.ds,Cl d
 |.mk b e f g h a=>by simp only[Y.ds,lX,a7,cS,ez,eJ,fa];(repeat' apply And.intro)<;>first|exact aO _|exact lk _|exact jW _|exact sP _|exact O.cl _|exact Cl.fH (Y.bA a)
def Y.bA:∀(l:List Y),∀r∈Y.ae l,∀d∈r,Cl d
 |[]=>by simp[Y.ae]
 |c::cs=>by simp only[Y.ae,a7];exact⟨Y.cl c,Y.bA cs⟩
end
def Y.gj{x:Y}{l:a_}(a:x∈l):x.sz<=Y.cG l:=by
 rw[Y.iV];exact vl (aG.2 ⟨x,a,A⟩)
def Y.one(a:Y):∀b∈a.ds,b4 b=ad:=by
 cases a;simp only[Y.ds,lX,a7,cS,ez,eJ,fa];(repeat' apply And.intro)<;>first|rfl|exact O.one _
@[simp] def Y.cI (a:a_):Cl (Y.sl a):=Cl.fH (Y.bA a)
def Y.ea(d:a_):∀b∈Y.ae d,b.length=8:=by
 intro b a;rw[Y.bZ,aG]at a;obtain⟨e,_,rfl⟩:=a;exact Y.b1 e
inductive ah where|mk (a:ByteArray) (O:O) (Body:Y)
abbrev aF:=List ah
def ah.ds:ah->List D
 |.mk a b d=>[S a]++b.ds++d.ds
def ah.ae(l:aF):ct:=l.map ah.ds
def ah.sz:ah->Nat
 |.mk a b d=>a.size+b.sz+d.sz
def ah.cG(l:aF):Nat:=(l.map ah.sz).sum
def ah.ok:ah->Prop
 |.mk a b d=>a.size<=ao/\b.ok/\d.ok
def ah.eZ(l:aF):Prop:=∀c∈l,c.ok
def ah.bZ(a:aF):ah.ae a=a.map ah.ds:=rfl
def ah.iV(a:aF):ah.cG a=(a.map ah.sz).sum:=rfl
variable {a5:aF}
def ah.dW(b:ah.eZ a5):∀a∈a5,a.ok:=b
def ah.sl(l:aF):D:=.sl 12 (ah.ae l)
def ah.b1(a:ah):a.ds.length=12:=by cases a;simp[ah.ds,O.b1,Y.b1]
def ah.bb(a:aF):(ah.ae a).length=a.length:=by rw[ah.bZ];simp
def ah.bo(b:aF)(a:Nat)(d:a<b.length):(ah.ae b)[a]?=E (b[a]).ds:=by rw[ah.bZ];simp[d]
def ah.x8(b:aF)(a:Nat)(d:a<b.length):ah.cG (b.take (a+1))=ah.cG (b.take a)+(b[a]).sz:=by
 simp only[ah.iV,kK];rw[vK _ _ (by simpa using d)];simp
def ah.vL(a:aF)(b:Nat):ah.cG (a.take b)<=ah.cG a:=by
 simp only[ah.iV,kK];exact vJ _ _
def ah.cl(a:ah):∀b∈a.ds,Cl b:=by
 cases a;simp only[ah.ds,lX,a7,cS,ez,eJ,fa];(repeat' apply And.intro)<;>first|exact aO _|exact lk _|exact jW _|exact sP _|exact Y.cl _|exact O.cl _
def ah.bA(f:aF):∀d∈ah.ae f,∀a∈d,Cl a:=by
 intro d b a e;rw[ah.bZ,aG]at b;obtain⟨g,_,rfl⟩:=b;exact ah.cl g a e
def ah.gj{x:ah}{l:aF}(a:x∈l):x.sz<=ah.cG l:=by
 rw[ah.iV];exact vl (aG.2 ⟨x,a,A⟩)
def ah.one(a:ah):∀b∈a.ds,b4 b=ad:=by
 cases a;simp only[ah.ds,lX,a7,cS,ez,eJ,fa];(repeat' apply And.intro)<;>first|rfl|exact Y.one _|exact O.one _
@[simp] def ah.cI (a:aF):Cl (ah.sl a):=Cl.fH (ah.bA a)
def ah.ea(d:aF):∀b∈ah.ae d,b.length=12:=by
 intro b a;rw[ah.bZ,aG]at a;obtain⟨e,_,rfl⟩:=a;exact ah.b1 e
inductive bm where|mk (a:List ai) (b:List ah)
def bm.ds:bm->List D
 |.mk a b=>[ai.sl a,ah.sl b]
def bm.ae(l:List bm):ct:=l.map bm.ds
def bm.sz:bm->Nat
 |.mk a b=>(a.length+ai.cG a)+(b.length+ah.cG b)
def bm.ok:bm->Prop
 |.mk a b=>a.length<=ao/\ai.eZ a/\b.length<=ao/\ah.eZ b
def bm.bZ(a:List bm):bm.ae a=a.map bm.ds:=rfl
def bm.sl(l:List bm):D:=.sl 2 (bm.ae l)
def bm.b1(a:bm):a.ds.length=2:=by cases a;simp[bm.ds]
def bm.cl(a:bm):∀b∈a.ds,Cl b:=by
 cases a;simp only[bm.ds,a7,cS,ez,eJ,fa];(repeat' apply And.intro)<;>first|exact aO _|exact lk _|exact jW _|exact sP _|exact ai.cI _|exact ah.cI _
def bm.bA(f:List bm):∀d∈bm.ae f,∀a∈d,Cl a:=by
 intro d b a e;rw[bm.bZ,aG]at b;obtain⟨g,_,rfl⟩:=b;exact bm.cl g a e
@[simp] def bm.cI (a:List bm):Cl (bm.sl a):=Cl.fH (bm.bA a)
def iG(a b:Int):(a==b)=decide (a=b):=by by_cases d:a=b<;>simp[d]
variable {g1:Type}
def xH(b:g1->Bool)(a:List g1):(!a.any λf=>!b f)=a.all b:=by induction a with
 |nil=>rfl
 |cons e a d=>simp only[List.any_cons,List.all_cons,<-d];cases b e<;>simp
def wrap_add(a b:Nat)(d:a+b<9223372036854775808):IntKind.i64.wrap ((a:Int)+(b:Int))=((a+b:Nat):Int):=by
 have:=cW ((a:Int)+b) Zo;rw[this];omega
mutual
def O.num:O->Nat
 |.mk _ _ ks=>1+O.aR ks
def O.aR:List O->Nat
 |[]=>0
 |c::cs=>c.num+O.aR cs
end
mutual
def O.cm:O->Nat
 |.mk _ _ ks=>1+O.co ks
def O.co:List O->Nat
 |[]=>0
 |c::cs=>max c.cm (O.co cs)
end
def O.iU:∀(d:cz)(a:Nat)(b:a<d.length),O.aR (d.take (a+1))=O.aR (d.take a)+(d[a]).num
 |[],a,b=>by simp at b
 |c::e,0,_=>by simp[O.aR]
 |c::e,a+1,b=>by
  have:=O.iU e a (by simpa using b);simp only[ix,O.aR,this,i1];omega
def O.ku:∀(d:cz)(a:Nat)(b:a<d.length),O.co (d.take (a+1))=max (O.co (d.take a)) (d[a]).cm
 |[],a,b=>by simp at b
 |c::e,0,_=>by simp[O.co]
 |c::e,a+1,b=>by
  have:=O.ku e a (by simpa using b);simp only[ix,O.co,this,i1];omega
def O.mY:∀(d:cz)(a:Nat),O.aR (d.take a)<=O.aR d
 |[],a=>by simp
 |c::b,0=>by simp[O.aR]
 |c::b,a+1=>by have:=O.mY b a;simp only[ix,O.aR];omega
def O.qp:∀(d:cz)(a:Nat),O.co (d.take a)<=O.co d
 |[],a=>by simp
 |c::b,0=>by simp[O.co]
 |c::b,a+1=>by have:=O.qp b a;simp only[ix,O.co];omega
def O.sS:∀{b:cz}{a:O},a∈b->a.cm<=O.co b
 |[],_,h=>by cases h
 |d::f,a,h=>by
  simp only[O.co];rcases cJ.1 h with e|h
  .subst e;omega
  .have:=O.sS h;omega
def O.gV:∀{l:cz}{c:O},c∈l->c.num<=O.aR l
 |[],_,h=>by cases h
 |d::b,c,h=>by
  simp only[O.aR];rcases cJ.1 h with a|h
  .subst a;omega
  .have:=O.gV h;omega
mutual
def O.uQ:∀c:O,c.cm<=c.num
 |.mk _ _ ks=>by have:=O.rH ks;simp only[O.cm,O.num];omega
def O.rH:∀l:List O,O.co l<=O.aR l
 |[]=>by simp[O.co]
 |c::cs=>by have:=O.uQ c;have:=O.rH cs;simp only[O.co,O.aR];omega
end
mutual
def O.tG:∀c:O,c.num<=1+c.sz
 |.mk a b ks=>by have:=O.r8 ks;simp only[O.num,O.sz];omega
def O.r8:∀l:List O,O.aR l<=l.length+O.cG l
 |[]=>by simp[O.aR]
 |c::cs=>by have:=O.tG c;have:=O.r8 cs;simp only[O.aR,O.cG,di];omega
end
def O.xI:∀a:O,1<=a.num
 |.mk _ _ b=>by simp only[O.num];omega
mutual
def O.aY(p:O->Bool):O->Bool
 |.mk a b ks=>p (.mk a b ks)&&O.jX p ks
def O.jX(p:O->Bool):List O->Bool
 |[]=>ad
 |c::cs=>c.aY p&&O.jX p cs
end
def O.gB{b:O->Bool}:∀a:cz,O.jX b a=a.all (O.aY b)
 |[]=>by simp[O.jX]
 |c::d=>by rw[O.jX,O.gB d];simp
mutual
def Y.num:Y->Nat
 |.mk _ _ _ _ _ ks=>1+Y.aR ks
def Y.aR:List Y->Nat
 |[]=>0
 |c::cs=>c.num+Y.aR cs
end
mutual
def Y.cm:Y->Nat
 |.mk _ _ _ _ _ ks=>1+Y.co ks
def Y.co:List Y->Nat
 |[]=>0
 |c::cs=>max c.cm (Y.co cs)
end
def Y.iU:∀(d:a_)(a:Nat)(b:a<d.length),Y.aR (d.take (a+1))=Y.aR (d.take a)+(d[a]).num
 |[],a,b=>by simp at b
 |c::e,0,_=>by simp[Y.aR]
 |c::e,a+1,b=>by
  have:=Y.iU e a (by simpa using b);simp only[ix,Y.aR,this,i1];omega
def Y.ku:∀(d:a_)(a:Nat)(b:a<d.length),Y.co (d.take (a+1))=max (Y.co (d.take a)) (d[a]).cm
 |[],a,b=>by simp at b
 |c::e,0,_=>by simp[Y.co]
 |c::e,a+1,b=>by
  have:=Y.ku e a (by simpa using b);simp only[ix,Y.co,this,i1];omega
def Y.mY:∀(d:a_)(a:Nat),Y.aR (d.take a)<=Y.aR d
 |[],a=>by simp
 |c::b,0=>by simp[Y.aR]
 |c::b,a+1=>by have:=Y.mY b a;simp only[ix,Y.aR];omega
def Y.qp:∀(d:a_)(a:Nat),Y.co (d.take a)<=Y.co d
 |[],a=>by simp
 |c::b,0=>by simp[Y.co]
 |c::b,a+1=>by have:=Y.qp b a;simp only[ix,Y.co];omega
def Y.sS:∀{b:a_}{a:Y},a∈b->a.cm<=Y.co b
 |[],_,h=>by cases h
 |d::f,a,h=>by
  simp only[Y.co];rcases cJ.1 h with e|h
  .subst e;omega
  .have:=Y.sS h;omega
def Y.gV:∀{l:a_}{c:Y},c∈l->c.num<=Y.aR l
 |[],_,h=>by cases h
 |d::b,c,h=>by
  simp only[Y.aR];rcases cJ.1 h with a|h
  .subst a;omega
  .have:=Y.gV h;omega
mutual
def Y.uQ:∀c:Y,c.cm<=c.num
 |.mk _ _ _ _ _ ks=>by have:=Y.rH ks;simp only[Y.cm,Y.num];omega
def Y.rH:∀l:List Y,Y.co l<=Y.aR l
 |[]=>by simp[Y.co]
 |c::cs=>by have:=Y.uQ c;have:=Y.rH cs;simp only[Y.co,Y.aR];omega
end
mutual
def Y.tG:∀c:Y,c.num<=1+c.sz
 |.mk a b d e f ks=>by have:=Y.r8 ks;simp only[Y.num,Y.sz];omega
def Y.r8:∀l:List Y,Y.aR l<=l.length+Y.cG l
 |[]=>by simp[Y.aR]
 |c::cs=>by have:=Y.tG c;have:=Y.r8 cs;simp only[Y.aR,Y.cG,di];omega
end
def Y.xI:∀a:Y,1<=a.num
 |.mk _ _ _ _ _ b=>by simp only[Y.num];omega
mutual
def Y.aY(p:Y->Bool):Y->Bool
 |.mk a b d e f ks=>p (.mk a b d e f ks)&&Y.jX p ks
def Y.jX(p:Y->Bool):List Y->Bool
 |[]=>ad
 |c::cs=>c.aY p&&Y.jX p cs
end
def Y.gB{b:Y->Bool}:∀a:a_,Y.jX b a=a.all (Y.aY b)
 |[]=>by simp[Y.jX]
 |c::d=>by rw[Y.jX,Y.gB d];simp
def jU(k:Int)(i:Nat):Int:=if k=4\/(k=7/\i=1)then 1 else 0
def eC(k:Int):Int×Int×Int×Int:=
 if k=1\/k=2\/k=11 then(0,0,0,0)else if k=3\/k=5\/k=7 then(2,2,0,0)else if k=4\/k=6 then(1,1,0,0)
 else if k=8 then(0,3,0,0)else if k=9 then(1,1,1,4)else if k=10 then(1,1,2,2)else(0,-1,0,0)
def so(k v:Int):Bool:=
 if k=1 then a1 v 0 255 else if k=2 then a1 v (-2147483648) 2147483647 else if k=3 then a1 v 1 6 else if k=8 then a1 v 0 3 else if k=11 then a1 v 0 23 else decide (v=0)
def kB:Core->Bool
 |.mk k v d ks=>a1 ks.length (eC k).1 (eC k).2.1&&a1 d.length (eC k).2.2.1 (eC k).2.2.2&&so k v&&d.all λa=>a1 a 0 23
def Lg(a:Nat):((a:Int)=1)↔a=1:=Zo
mutual
def Core.cA:Core->Nat
 |.mk _ _ _ ks=>1+Core.dQ ks
def Core.dQ:List Core->Nat
 |[]=>0
 |c::cs=>c.cA+Core.dQ cs
end
mutual
def Core.cm:Core->Nat
 |.mk _ _ _ ks=>1+Core.co ks
def Core.co:List Core->Nat
 |[]=>0
 |c::cs=>max c.cm (Core.co cs)
end
mutual
def Core.aY:Core->Bool
 |.mk k v d ks=>kB (.mk k v d ks)&&Core.jX ks
def Core.jX:List Core->Bool
 |[]=>ad
 |c::cs=>c.aY&&Core.jX cs
end
mutual
def Core.jJ:Core->Int->Bool
 |.mk k v _ ks,n=>if k=1 then decide (v>=n)else Core.lh k ks 0 n
def Core.lh(k:Int):List Core->Nat->Int->Bool
 |[],_,_=>al
 |c::cs,i,n=>c.jJ (n+jU k i)||Core.lh k cs (i+1) n
end
mutual
def Core.under:Core->Int->Bool
 |.mk k v _ ks,n=>!(decide (k=1)&&decide (v>=n))&&Core.k4 k ks 0 n
def Core.k4(k:Int):List Core->Nat->Int->Bool
 |[],_,_=>ad
 |c::cs,i,n=>c.under (n+jU k i)&&Core.k4 k cs (i+1) n
end
mutual
def Core.oD(p:Core->Bool):Core->Bool
 |.mk k v d ks=>p (.mk k v d ks)||Core.wI p ks
def Core.wI(p:Core->Bool):List Core->Bool
 |[]=>al
 |c::cs=>c.oD p||Core.wI p cs
end
def Core.BW{b:Core->Bool}:∀a:bM,Core.wI b a=a.any (Core.oD b)
 |[]=>by simp[Core.wI]
 |c::d=>by rw[Core.wI,Core.BW d];simp
def Core.gB:∀a:bM,Core.jX a=a.all Core.aY
 |[]=>by simp[Core.jX]
 |c::b=>by rw[Core.jX,Core.gB b];simp
def Core.rC:∀(d:bM)(a:Nat)(b:a<d.length),Core.dQ (d.take (a+1))=Core.dQ (d.take a)+(d[a]).cA
 |[],a,b=>by simp at b
 |c::e,0,_=>by simp[Core.dQ]
 |c::e,a+1,b=>by
  have:=Core.rC e a (by simpa using b);simp only[ix,Core.dQ,this,i1];omega
def Core.ku:∀(d:bM)(a:Nat)(b:a<d.length),Core.co (d.take (a+1))=max (Core.co (d.take a)) (d[a]).cm
 |[],a,b=>by simp at b
 |c::e,0,_=>by simp[Core.co]
 |c::e,a+1,b=>by
  have:=Core.ku e a (by simpa using b);simp only[ix,Core.co,this,i1];omega
def Core.yZ:∀(d:bM)(a:Nat),Core.dQ (d.take a)<=Core.dQ d
 |[],a=>by simp
 |c::b,0=>by simp[Core.dQ]
 |c::b,a+1=>by have:=Core.yZ b a;simp only[ix,Core.dQ];omega
def Core.qp:∀(d:bM)(a:Nat),Core.co (d.take a)<=Core.co d
 |[],a=>by simp
 |c::b,0=>by simp[Core.co]
 |c::b,a+1=>by have:=Core.qp b a;simp only[ix,Core.co];omega
def Core.sS:∀{b:bM}{a:Core},a∈b->a.cm<=Core.co b
 |[],_,h=>by cases h
 |d::f,a,h=>by
  simp only[Core.co];rcases cJ.1 h with e|h
  .subst e;omega
  .have:=Core.sS h;omega
def Core.y4:∀{b:bM}{a:Core},a∈b->a.cA<=Core.dQ b
 |[],_,h=>by cases h
 |d::f,a,h=>by
  simp only[Core.dQ];rcases cJ.1 h with e|h
  .subst e;omega
  .have:=Core.y4 h;omega
mutual
def Core.y9:∀c:Core,c.cm<=c.cA
 |.mk _ _ _ ks=>by have:=Core.y8 ks;simp only[Core.cm,Core.cA];omega
def Core.y8:∀l:List Core,Core.co l<=Core.dQ l
 |[]=>by simp[Core.co]
 |c::cs=>by have:=Core.y9 c;have:=Core.y8 cs;simp only[Core.co,Core.dQ];omega
end
def Core.Pk:∀a:Core,1<=a.cA
 |.mk _ _ _ b=>by simp only[Core.cA];omega
def Core.HG(e g:Int):∀(f:bM)(b a:Nat)(d:a<f.length),Core.lh e (f.take (a+1)) b g=(Core.lh e (f.take a) b g||(f[a]).jJ (g+jU e (b+a)))
 |[],b,a,d=>by simp at d
 |c::h,b,0,_=>by simp[Core.lh]
 |c::h,b,a+1,d=>by
  have:=Core.HG e g h (b+1) a (by simpa using d);rw[show b+1+a=b+(a+1)by omega]at this;simp only[ix,Core.lh,this,i1,Bool.or_assoc]
def Core.HF(d f:Int):∀(h:bM)(b e:Nat),Core.lh d (h.take e) b f=ad->Core.lh d h b f=ad
 |[],b,e,a=>by simpa using a
 |c::g,b,0,a=>by simp[Core.lh]at a
 |c::g,b,e+1,a=>by
  simp only[ix,Core.lh]at a⊢;cases i:c.jJ (f+jU d b)
  .rw[i]at a
   first|(simp only[p6]at a⊢;exact Core.HF d f g (b+1) e a)|simp
  .exact Zg
def Core.M7(e g:Int):∀(f:bM)(b a:Nat)(d:a<f.length),Core.k4 e (f.take (a+1)) b g=(Core.k4 e (f.take a) b g&&(f[a]).under (g+jU e (b+a)))
 |[],b,a,d=>by simp at d
 |c::h,b,0,_=>by simp[Core.k4]
 |c::h,b,a+1,d=>by
  have:=Core.M7 e g h (b+1) a (by simpa using d);rw[show b+1+a=b+(a+1)by omega]at this;simp only[ix,Core.k4,this,i1,Bool.and_assoc]
def Core.M6(d f:Int):∀(h:bM)(b e:Nat),Core.k4 d (h.take e) b f=al->Core.k4 d h b f=al
 |[],b,e,a=>by simpa using a
 |c::g,b,0,a=>by simp[Core.k4]at a
 |c::g,b,e+1,a=>by
  simp only[ix,Core.k4]at a⊢;cases i:c.under (f+jU d b)
  .exact Zg
  .rw[i]at a
   first|(simp only[hN]at a⊢;exact Core.M6 d f g (b+1) e a)|simp
variable {m8:IL}{s1:bM}
def R'{v:Int}(a:kB (.mk 1 v m8 s1)=ad):s1=[]:=by
 simp only[kB,b3,a1,cO]at a;have d:=a.1.1.1.2;have b:(eC 1).2.1=0:=by simp[eC]
 rw[b]at d;exact List.length_eq_zero_iff.1 Zo
mutual
def Core.M8:∀(c:Core)(n:Int),c.aY=ad->c.under n=!c.jJ n
 |.mk k v d ks,n,h=>by
  simp only[Core.aY,b3]at h;by_cases a:k=1
  .subst a;have:=R' h.1;subst this;simp[Core.under,Core.jJ,Core.k4]
  .simp[Core.under,Core.jJ,a,Core.M5 k ks 0 n h.2]
def Core.M5:∀(k:Int)(l:List Core)(i:Nat)(n:Int),Core.jX l=ad->Core.k4 k l i n=!Core.lh k l i n
 |k,[],i,n,_=>by simp[Core.k4,Core.lh]
 |k,c::cs,i,n,h=>by
  simp only[Core.jX,b3]at h;simp[Core.k4,Core.lh,Core.M8 c _ h.1,Core.M5 k cs (i+1) n h.2]
end
def Core.valid(c:Core):Bool:=c.aY&&decide (c.cm<=80/\c.cA<=400)
def lQ(c:Core)(d l:Int):Int:=if c.aY=ad/\(c.cm:Int)<=d/\(c.cA:Int)<=l then c.cA else-1
def TK(a:Core):decide (lQ a 80 400>0)=a.valid:=by
 have:=Core.Pk a;unfold lQ Core.valid;exact Zg
structure TI where
 sz:Option Nat
 ag:Option Bool
 kd:Nat
 ik:Option IntKind
 un:Bool
 OG:Bool
 es:Option Nat
 ei:Option (aQ×Nat×Nat)
 mi:Option (TypeDesc×aE)
 pt:Bool
 fs:List (aQ×Nat)
 ol:List (Option Nat)
 pl:Option (List (Nat×Nat))
 z:Option (List D)
def CJ(P:ay)(t:aQ):List (aQ×Nat):=match P.underlying t with
 |some (.struct a)=>a.toList.map λx=>(x.type,x.offset)
 |_=>[]
def DV(P:ay)(t:aQ):List (Option Nat):=match P.underlying t with
 |some (.struct a)=>a.toList.map λx=>match lA P x.type with|some 0|none=>aa|_=>E x.offset
 |_=>[]
noncomputable def rowOf(t:aQ):TI:=⟨lA aB t,wG aB t,gi aB t,tj aB t,(aB.underlying t).isSome,py aB t,oQ aB t,cy aB t,vh aB t,lz aB t,CJ aB t,DV aB t,zh aB t,pe aB t⟩
def zc(n:Nat):aE:=match n with
 |0=>.int .i64 0
 |1=>.string ByteArray.empty
 |2=>.slice aa 0 0
 |3=>.bool al
 |4=>.pointer aa
 |5=>.nilFunc
 |6=>.int .u8 0
 |7=>.map aa
 |8=>.int .u64 0
 |9=>.nilIface
 |10=>.int .u32 0
 |_=>.int .i32 0
def D3(n:Nat):List (aQ×Nat)->List (Nat×Nat)
 |[]=>[]
 |[x]=>[(x.2,n-x.2)]
 |x::y::r=>(x.2,y.2-x.2)::D3 n (y::r)
def TI.s(k a:Nat):TI:=⟨E 1,E al,k,aa,ad,al,aa,aa,aa,al,[],[],aa,E [.sc (zc a)]⟩
def TI.i(k:IntKind):TI:=⟨E 1,E al,3,E k,ad,al,aa,aa,aa,al,[],[],aa,E [.sc (.int k 0)]⟩
def TI.p:TI:=⟨E 1,E al,4,aa,ad,al,aa,aa,aa,ad,[],[],aa,E [.sc (.pointer aa)]⟩
def TI.l(e s b:Nat)(y:Bool):TI:=⟨E 1,E al,1,aa,ad,y,E s,E (e,s,b),aa,al,[],[],aa,E [.sc (.slice aa 0 0)]⟩
def TI.m(d:TypeDesc)(v:aE):TI:=⟨E 1,E al,4,aa,ad,al,aa,aa,E (d,v),al,[],[],aa,E [.sc (.map aa)]⟩
def TI.t(n:Nat)(a:List (aQ×Nat))(zs:List Nat):TI:=⟨E n,E ad,4,aa,ad,al,aa,aa,aa,al,a,a.map λx=>E x.2,E (D3 n a),E (zs.map λx=>.sc (zc x))⟩
def WT(a:aQ):lA aB a=(rowOf a).sz:=cr A A
def WH(a:aQ):wG aB a=(rowOf a).ag:=cr A A
def WN(a:aQ):gi aB a=(rowOf a).kd:=cr A A
def WM(a:aQ):tj aB a=(rowOf a).ik:=cr A A
def WU(a:aQ):(aB.underlying a).isSome=(rowOf a).un:=cr A A
def WI(a:aQ):py aB a=(rowOf a).OG:=cr A A
def WK(a:aQ):oQ aB a=(rowOf a).es:=cr A A
def WJ(a:aQ):cy aB a=(rowOf a).ei:=cr A A
def WO(a:aQ):vh aB a=(rowOf a).mi:=cr A A
def WS(a:aQ):lz aB a=(rowOf a).pt:=cr A A
def WR(a:aQ):zh aB a=(rowOf a).pl:=cr A A
def WV(a:aQ):pe aB a=(rowOf a).z:=cr A A
def WL(b:aQ)(a:Nat):zi aB b a=(rowOf b).fs[a]?:=by
 show _=(CJ _ _)[a]?;unfold zi CJ;generalize aB.underlying b=u;rcases u with _|u
 .simp
 .cases u<;>simp
def WQ(b:aQ)(a:Nat):sV aB b a=((rowOf b).ol[a]?).getD aa:=by
 show _=((DV _ _)[a]?).getD aa;unfold sV DV;generalize aB.underlying b=u;rcases u with _|u
 .simp
 .cases u with
  |struct d=>
   simp only[gF,vX];cases d[a]?<;>rfl
  |_=>simp
def VV:rowOf 1=TI.s 4 5/\
 rowOf 2=TI.i .i64/\
 rowOf 3=TI.i .i64/\
 rowOf 4=TI.s 2 3/\
 rowOf 5=TI.i .u8/\
 rowOf 6=TI.i .u8/\
 rowOf 7=TI.t 4 [(2,0),(3,1),(4,2),(6,3)] [0,0,3,6]/\
 rowOf 8=TI.t 4 [(2,0),(3,1),(4,2),(6,3)] [0,0,3,6]/\
 rowOf 9=TI.s 0 1/\
 rowOf 10=TI.s 0 1/\
 rowOf 11=TI.s 0 1/\
 rowOf 12=TI.i .u64/\
 rowOf 13=TI.t 2 [(9,0),(12,1)] [1,8]/\
 rowOf 14=TI.t 2 [(9,0),(12,1)] [1,8]/\
 rowOf 15=TI.p/\
 rowOf 16=TI.s 4 4:=by
 and_intros<;>kernel_rfl
def VW:rowOf 17=TI.p/\
 rowOf 18=TI.t 1 [(17,0)] [4]/\
 rowOf 19=TI.t 1 [(17,0)] [4]/\
 rowOf 21=TI.i .i32/\
 rowOf 22=TI.l 55 2 40 al/\
 rowOf 23=TI.l 65 12 192 al/\
 rowOf 24=TI.t 2 [(22,0),(23,1)] [2,2]/\
 rowOf 25=TI.t 2 [(22,0),(23,1)] [2,2]/\
 rowOf 29=TI.l 84 2 40 al/\
 rowOf 30=TI.l 92 12 192 al/\
 rowOf 31=TI.t 2 [(29,0),(30,1)] [2,2]/\
 rowOf 32=TI.t 2 [(29,0),(30,1)] [2,2]/\
 rowOf 33=TI.s 4 5/\
 rowOf 34=TI.s 4 5/\
 rowOf 36=TI.s 4 5/\
 rowOf 37=TI.s 4 5:=by
 and_intros<;>kernel_rfl
def V4:rowOf 38=TI.l 81 4 64 al/\
 rowOf 39=TI.t 1 [(38,0)] [2]/\
 rowOf 40=TI.t 1 [(38,0)] [2]/\
 rowOf 43=TI.p/\
 rowOf 44=TI.s 4 5/\
 rowOf 45=TI.p/\
 rowOf 46=TI.s 4 5/\
 rowOf 47=TI.s 4 5/\
 rowOf 48=TI.s 4 5/\
 rowOf 50=TI.s 4 5/\
 rowOf 51=TI.s 4 5/\
 rowOf 52=TI.s 4 5/\
 rowOf 53=TI.l 141 2 40 al/\
 rowOf 54=TI.t 2 [(9,0),(53,1)] [1,2]/\
 rowOf 55=TI.t 2 [(9,0),(53,1)] [1,2]/\
 rowOf 56=TI.s 4 5:=by
 and_intros<;>kernel_rfl
def V5:rowOf 57=TI.l 59 3 48 al/\
 rowOf 58=TI.t 3 [(2,0),(9,1),(57,2)] [0,1,2]/\
 rowOf 59=TI.t 3 [(2,0),(9,1),(57,2)] [0,1,2]/\
 rowOf 60=TI.l 9 1 16 al/\
 rowOf 61=TI.l 63 8 128 al/\
 rowOf 62=TI.t 8 [(2,0),(2,1),(9,2),(59,3),(60,6),(61,7)] [0,0,1,0,1,2,2,2]/\
 rowOf 63=TI.t 8 [(2,0),(2,1),(9,2),(59,3),(60,6),(61,7)] [0,0,1,0,1,2,2,2]/\
 rowOf 64=TI.t 12 [(9,0),(59,1),(63,4)] [1,0,1,2,0,0,1,0,1,2,2,2]/\
 rowOf 65=TI.t 12 [(9,0),(59,1),(63,4)] [1,0,1,2,0,0,1,0,1,2,2,2]/\
 rowOf 66=TI.p/\
 rowOf 68=TI.s 4 5/\
 rowOf 69=TI.s 4 5/\
 rowOf 70=TI.s 4 5/\
 rowOf 71=TI.l 72 1 24 al/\
 rowOf 72=TI.l 87 3 48 al/\
 rowOf 73=TI.l 285 4 80 al:=by
 and_intros<;>kernel_rfl
def V6:rowOf 74=TI.t 6 [(43,0),(2,1),(38,2),(71,3),(72,4),(73,5)] [4,0,2,2,2,2]/\
 rowOf 75=TI.t 6 [(43,0),(2,1),(38,2),(71,3),(72,4),(73,5)] [4,0,2,2,2,2]/\
 rowOf 76=TI.l 5 1 1 ad/\
 rowOf 77=TI.s 4 5/\
 rowOf 79=TI.l 2 1 8 al/\
 rowOf 80=TI.t 4 [(2,0),(2,1),(79,2),(38,3)] [0,0,2,2]/\
 rowOf 81=TI.t 4 [(2,0),(2,1),(79,2),(38,3)] [0,0,2,2]/\
 rowOf 82=TI.l 162 2 40 al/\
 rowOf 83=TI.t 2 [(9,0),(82,1)] [1,2]/\
 rowOf 84=TI.t 2 [(9,0),(82,1)] [1,2]/\
 rowOf 86=TI.t 3 [(2,0),(9,1),(72,2)] [0,1,2]/\
 rowOf 87=TI.t 3 [(2,0),(9,1),(72,2)] [0,1,2]/\
 rowOf 88=TI.l 90 8 128 al/\
 rowOf 89=TI.t 8 [(2,0),(2,1),(9,2),(87,3),(60,6),(88,7)] [0,0,1,0,1,2,2,2]/\
 rowOf 90=TI.t 8 [(2,0),(2,1),(9,2),(87,3),(60,6),(88,7)] [0,0,1,0,1,2,2,2]/\
 rowOf 91=TI.t 12 [(9,0),(87,1),(90,4)] [1,0,1,2,0,0,1,0,1,2,2,2]:=by
 and_intros<;>kernel_rfl
def V7:rowOf 92=TI.t 12 [(9,0),(87,1),(90,4)] [1,0,1,2,0,0,1,0,1,2,2,2]/\
 rowOf 93=TI.s 4 5/\
 rowOf 95=TI.s 4 5/\
 rowOf 97=TI.s 4 5/\
 rowOf 98=TI.p/\
 rowOf 99=TI.t 2 [(98,0),(76,1)] [4,2]/\
 rowOf 100=TI.t 2 [(98,0),(76,1)] [4,2]/\
 rowOf 104=TI.s 4 5/\
 rowOf 105=TI.s 4 5/\
 rowOf 107=TI.s 4 5/\
 rowOf 109=TI.s 4 5/\
 rowOf 110=TI.s 4 5/\
 rowOf 111=TI.s 4 5/\
 rowOf 112=TI.p/\
 rowOf 114=TI.s 4 5/\
 rowOf 115=TI.s 4 5:=by
 and_intros<;>kernel_rfl
def V8:rowOf 116=TI.s 4 5/\
 rowOf 119=TI.s 4 5/\
 rowOf 120=TI.p/\
 rowOf 121=TI.l 125 5 88 al/\
 rowOf 123=TI.s 4 5/\
 rowOf 124=TI.t 5 [(81,0),(72,4)] [0,0,2,2,2]/\
 rowOf 125=TI.t 5 [(81,0),(72,4)] [0,0,2,2,2]/\
 rowOf 126=TI.s 4 5/\
 rowOf 128=TI.s 4 5/\
 rowOf 129=TI.s 4 5/\
 rowOf 130=TI.s 4 5/\
 rowOf 131=TI.s 4 5/\
 rowOf 132=TI.s 4 5/\
 rowOf 133=TI.s 4 5/\
 rowOf 134=TI.s 4 5/\
 rowOf 135=TI.p:=by
 and_intros<;>kernel_rfl
def V9:rowOf 136=TI.s 4 5/\
 rowOf 137=TI.s 4 5/\
 rowOf 138=TI.s 4 5/\
 rowOf 140=TI.t 2 [(9,0),(57,1)] [1,2]/\
 rowOf 141=TI.t 2 [(9,0),(57,1)] [1,2]/\
 rowOf 143=TI.s 4 5/\
 rowOf 144=TI.s 4 5/\
 rowOf 145=TI.s 4 5/\
 rowOf 147=TI.t 5 [(81,0),(72,4)] [0,0,2,2,2]/\
 rowOf 148=TI.t 5 [(81,0),(72,4)] [0,0,2,2,2]/\
 rowOf 149=TI.s 4 5/\
 rowOf 150=TI.p/\
 rowOf 151=TI.t 3 [(60,0),(72,1),(79,2)] [2,2,2]/\
 rowOf 152=TI.t 3 [(60,0),(72,1),(79,2)] [2,2,2]/\
 rowOf 153=TI.s 4 5/\
 rowOf 154=TI.s 4 5:=by
 and_intros<;>kernel_rfl
def V':rowOf 155=TI.s 4 5/\
 rowOf 156=TI.l 79 1 24 al/\
 rowOf 157=TI.s 4 5/\
 rowOf 161=TI.t 2 [(9,0),(72,1)] [1,2]/\
 rowOf 162=TI.t 2 [(9,0),(72,1)] [1,2]/\
 rowOf 166=TI.s 4 5/\
 rowOf 167=TI.l 174 1 8 al/\
 rowOf 169=TI.s 4 5/\
 rowOf 170=TI.l 216 1 24 al/\
 rowOf 171=TI.m (.pointer 219) (.pointer aa)/\
 rowOf 172=TI.t 6 [(32,0),(73,2),(167,3),(170,4),(171,5)] [2,2,2,2,2,7]/\
 rowOf 173=TI.t 6 [(32,0),(73,2),(167,3),(170,4),(171,5)] [2,2,2,2,2,7]/\
 rowOf 174=TI.p/\
 rowOf 175=TI.s 4 5/\
 rowOf 176=TI.s 4 5/\
 rowOf 177=TI.s 4 5:=by
 and_intros<;>kernel_rfl
def V_:rowOf 178=TI.s 4 5/\
 rowOf 180=TI.s 4 5/\
 rowOf 181=TI.s 4 5/\
 rowOf 182=TI.s 4 5/\
 rowOf 183=TI.s 4 5/\
 rowOf 184=TI.s 4 5/\
 rowOf 185=TI.s 4 5/\
 rowOf 186=TI.s 4 5/\
 rowOf 187=TI.s 4 5/\
 rowOf 190=TI.s 4 4/\
 rowOf 191=TI.s 4 5/\
 rowOf 193=TI.s 4 5/\
 rowOf 198=TI.s 4 5/\
 rowOf 199=TI.s 4 5/\
 rowOf 200=TI.s 4 5/\
 rowOf 204=TI.s 4 5:=by
 and_intros<;>kernel_rfl
def VX:rowOf 205=TI.l 148 5 88 al/\
 rowOf 206=TI.s 4 5/\
 rowOf 207=TI.s 4 5/\
 rowOf 211=TI.s 4 5/\
 rowOf 212=TI.s 4 5/\
 rowOf 214=TI.s 4 5/\
 rowOf 215=TI.s 4 5/\
 rowOf 216=TI.l 217 1 8 al/\
 rowOf 217=TI.p/\
 rowOf 218=TI.t 15 [(90,0),(87,8),(2,11),(167,12),(216,13),(217,14)] [0,0,1,0,1,2,2,2,0,1,2,0,2,2,4]/\
 rowOf 219=TI.t 15 [(90,0),(87,8),(2,11),(167,12),(216,13),(217,14)] [0,0,1,0,1,2,2,2,0,1,2,0,2,2,4]/\
 rowOf 222=TI.p/\
 rowOf 223=TI.l 3 1 8 al/\
 rowOf 224=TI.t 3 [(174,0),(216,1),(223,2)] [4,2,2]/\
 rowOf 225=TI.t 3 [(174,0),(216,1),(223,2)] [4,2,2]/\
 rowOf 227=TI.s 4 5:=by
 and_intros<;>kernel_rfl
def VY:rowOf 228=TI.s 4 5/\
 rowOf 231=TI.s 4 5/\
 rowOf 232=TI.s 4 5/\
 rowOf 233=TI.s 4 5/\
 rowOf 235=TI.t 5 [(9,0),(87,1),(2,4)] [1,0,1,2,0]/\
 rowOf 236=TI.t 5 [(9,0),(87,1),(2,4)] [1,0,1,2,0]/\
 rowOf 237=TI.s 4 5/\
 rowOf 238=TI.s 4 5/\
 rowOf 239=TI.s 4 5/\
 rowOf 241=TI.m (.string) (.bool al)/\
 rowOf 247=TI.s 4 5/\
 rowOf 249=TI.s 4 5/\
 rowOf 250=TI.s 4 5/\
 rowOf 252=TI.s 4 5/\
 rowOf 254=TI.i .u64/\
 rowOf 258=TI.s 4 5:=by
 and_intros<;>kernel_rfl
def VZ:rowOf 259=TI.s 4 5/\
 rowOf 261=TI.s 4 5/\
 rowOf 262=TI.s 4 5/\
 rowOf 263=TI.s 4 5/\
 rowOf 265=TI.s 4 5/\
 rowOf 269=TI.s 4 5/\
 rowOf 270=TI.s 4 5/\
 rowOf 271=TI.s 4 5/\
 rowOf 272=TI.s 4 5/\
 rowOf 274=TI.s 4 5/\
 rowOf 276=TI.s 4 5/\
 rowOf 277=TI.s 4 5/\
 rowOf 278=TI.s 4 5/\
 rowOf 279=TI.l 4 1 1 al/\
 rowOf 282=TI.s 4 5/\
 rowOf 284=TI.t 4 [(2,0),(60,1),(60,2),(279,3)] [0,2,2,2]:=by
 and_intros<;>kernel_rfl
def V1:rowOf 285=TI.t 4 [(2,0),(60,1),(60,2),(279,3)] [0,2,2,2]/\
 rowOf 286=TI.s 4 5/\
 rowOf 287=TI.s 4 5/\
 rowOf 288=TI.s 4 5/\
 rowOf 289=TI.s 4 5/\
 rowOf 292=TI.s 4 5/\
 rowOf 293=TI.s 4 5/\
 rowOf 294=TI.s 4 5/\
 rowOf 299=TI.s 4 5/\
 rowOf 306=TI.s 4 5/\
 rowOf 311=TI.i .u32/\
 rowOf 319=TI.s 4 5/\
 rowOf 324=TI.s 4 5/\
 rowOf 325=TI.s 4 5/\
 rowOf 326=TI.s 4 5/\
 rowOf 328=TI.s 4 5:=by
 and_intros<;>kernel_rfl
def V2:rowOf 330=TI.s 4 5/\
 rowOf 335=TI.s 4 5/\
 rowOf 344=TI.p/\
 rowOf 349=TI.t 2 [(32,0)] [2,2]/\
 rowOf 350=TI.t 2 [(32,0)] [2,2]/\
 rowOf 351=TI.s 4 5/\
 rowOf 358=TI.s 4 5/\
 rowOf 363=TI.s 4 5/\
 rowOf 365=TI.l 217 1 8 al/\
 rowOf 366=TI.s 4 5/\
 rowOf 367=TI.s 4 5/\
 rowOf 368=TI.s 4 5/\
 rowOf 370=TI.s 4 5/\
 rowOf 375=TI.s 4 5/\
 rowOf 376=TI.s 4 5/\
 rowOf 383=TI.s 4 5:=by
 and_intros<;>kernel_rfl
def V3:rowOf 386=TI.l 60 1 24 al/\
 rowOf 388=TI.t 4 [(17,0),(17,1),(17,2),(9,3)] [4,4,4,1]/\
 rowOf 389=TI.t 4 [(17,0),(17,1),(17,2),(9,3)] [4,4,4,1]/\
 rowOf 394=TI.i .u8/\
 rowOf 395=TI.i .u8/\
 rowOf 396=TI.s 4 5/\
 rowOf 397=TI.i .i32/\
 rowOf 398=TI.i .i32/\
 rowOf 399=TI.t 11 [(12,0),(12,1),(311,2),(394,3),(5,4),(5,5),(395,6),(396,7),(135,8),(397,9),(398,10)] [8,8,10,6,6,6,6,5,4,11,11]/\
 rowOf 400=TI.t 11 [(12,0),(12,1),(311,2),(394,3),(5,4),(5,5),(395,6),(396,7),(135,8),(397,9),(398,10)] [8,8,10,6,6,6,6,5,4,11,11]:=by
 and_intros<;>kernel_rfl
def X1(a:ay)(b:aQ):pf a b=(pe a b).getD []:=cr A A
def mixed:aB.follows .mixedOrders=ad:=Zk
attribute [local irreducible] St.put
section
def Sp.e{f:bK}{a:iw}{h:dH}{b:List D}{r:D}{d:Nat}(i:List Nat)(g:List ResultVar)(l:aB.funcs[f]?=E a)(p:a.ntmps=d)(j:vc aB i h (qN aB g r) (sd b d))(k:a.body=E h:=by rfl)(o:(a.name== "runtime.NumGoroutine")=al:=by kernel_rfl)(u:a.results.toList=g:=by rfl)(m:b.length<=d:=by simp):Sp aB f b r:=Sp.eo i g l k o p u m j
def Sp.s{f:bK}{a:iw}{h:dH}{b:List D}{r:D}{e:Nat}{q:Prop}(i:List Nat)(g:List ResultVar)(l:aB.funcs[f]?=E a)(p:a.ntmps=e)(d:q)(k:a.body=E h:=by rfl)(o:(a.name== "runtime.NumGoroutine")=al:=by kernel_rfl)(u:a.results.toList=g:=by rfl)(m:b.length<=e:=by simp)(j:q->vc aB i h (qN aB g r) (sd b e):=by intro d;simp only[go_sem];exact d):Sp aB f b r:=Sp.eo i g l k o p u m (j d)
section
variable{P:ay}{R:Nat->Bool×D}{s:St}{f:bK}{first en args:List D}{dst:Option Nat}{K:St->Prop}{r:D}{t:Nat}{q:Prop}
def bw(a:Sp P f (first++args++en) r)(d:K (s.put dst r))(b:eO (first++args++en):=by exact l9):jc P s (.fn f first en) args dst K:=hU a b d
def bO(d:Sp P f (first++args++en) r)(a:q)(e:eO (first++args++en):=by exact l9)(b:q->K (s.put dst r):=by intro a;simp only[go_sem];exact a):jc P s (.fn f first en) args dst K:=hU d e (b a)
def d'(a:Sp P f (first++args++en) r)(d:K (s.put dst r))(b:eO (first++args++en):=by exact l9):pA P s (.fn f first en) args dst K:=Iv a b d
def iP(d:Sp P f (first++args++en) r)(a:q)(e:eO (first++args++en):=by exact l9)(b:q->K (s.put dst r):=by intro a;simp only[go_sem];exact a):pA P s (.fn f first en) args dst K:=Iv d e (b a)
def uL(a:Sp P f (first++args++en) r)(d:K (s.put dst r))(b:eO (first++args++en):=by exact l9):uK P s (.fn f first en) args dst K:=yQ r a b.all d
def jx(d:Sp P f (first++args++en) r)(a:q)(e:eO (first++args++en):=by exact l9)(b:q->K (s.put dst r):=by intro a;simp only[go_sem];exact a):uK P s (.fn f first en) args dst K:=yQ r d e.all (b a)
end
def b7{a:Array da}{b:Prop}{K:St->Prop}{s:St}(d:b)(e:lU (λ_=>1) a (.fin (List.range a.size))=ad:=by kernel_rfl):wU aB a b K s:=PK mixed e d
def cX{e:List Nat}{a:Array da}{K:St->Prop}{s:St}(d b:List Nat)(g:jO aB e d b (fE a.toList) a.toList K s)(h:lU (jn d b) a (.fin (List.range a.size))=ad:=by kernel_rfl):qq aB e a K s:=PL d b mixed h g
def mc{g:List Nat}{a:Array da}{K:St->Prop}{s:St}(d e b:List Nat)(h:jO aB g e b (fE a.toList) (gD a.toList d) K s)(i:lU (jn e b) a (.fin d)=ad:=by kernel_rfl):qq aB g a K s:=IZ d e b mixed i h
def me{mu:List Nat}{d:Array da}{K:St->Prop}{s:St}(b:Ord)(e a:List Nat)(g:pd aB mu e a d.toList b K s)(h:lU (jn e a) d b=ad:=by kernel_rfl):qq aB mu d K s:=oP b e a mixed h g
attribute [go_sem] Xe T9 T_ TW TX Ug Qu Qv Qx Qy Qw T8 T5 T6 TU TS D0 TR TQ Pj ql Xp Xq Xr pS List.contains_cons List.contains_nil Aa CQ Qj tK r' ma gD yT List.filterMap_cons List.filterMap_nil XB Xy Xu Xv Ai J9 ez eJ n7 bump db Option.isNone_none Option.isNone_some Operand.tmp.injEq not_true_eq_false Bool.or_false Bool.or_true Bool.true_or p6 Bool.or_self dz XA Xt Xs Xx Xw Xz Uf Ud Ue Uc Ua Ub Wb Wa Wc Oo Oq On Vl Vm LR Tp Vw Ve ef nj QG QC QF QD QH Pt Ps eH pb fr kY yH A6 qE qK tm zQ zg zR AT yX Co sH oF kr b4 iH o8 DN tu rz bytesOf uJ LH tw vy xw x2 aj na cF qs Value.cells Value.oneCell' sd St.ev af ba pW lo fE bp cB v8 List.getElem?_cons_zero List.getElem?_nil aI aV uf Bool.true_eq_false Bool.not_true Bool.not_false List.getD_cons_zero List.getD_cons_succ List.drop_succ_cons List.drop_zero List.drop_nil ix List.take_zero List.head?_cons di gG a8 bf c_ ek kL ey Option.map_none dy fa nr iK List.toList_toArray Nat.zero_mul List.all_cons List.all_nil ue hN Bool.and_self cJ cS iz false_or or_self b_ ox ri ji nn sv bW Int.toNat_zero oq VV VW V4 V5 V6 V7 V8 V9 V' V_ VX VY VZ V1 V2 V3 WT WH WN WM WU WI WK WJ WO WS WR WV WL WQ TI.s TI.i TI.p TI.l TI.m TI.t D3 zc kM Option.getD_none X1
attribute [go_sem_proc] reduceCtorEq Nat.reduceLT aP Nat.reduceBEq Nat.reduceAdd Nat.reduceMul Nat.reduceSub Nat.reduceLeDiff List.reduceReplicate
attribute [go_sem_proc ↓] reduceIte
attribute [go_sem] ints strs yM O.sl aA.sl Core.sl ai.sl Y.sl ah.sl bm.sl Mb UR L9 UN L' UQ UT US UG UK UL UH UJ UI UF gP
attribute [go_sem] dT wi true_or or_true O.ds Y.ds Core.ds pY O.bb Core.bb Y.bb ah.bb ai.bb aA.bb
attribute [go_sem_proc] Int.reduceBEq Int.reduceBNe Int.reduceLE Int.reduceToNat Int.reduceNeg
abbrev au:=Sp aB
end
section
open Classical
def VK(a:aK)(left:Int)(p:0<=left)(q:left<=1048576)(l:a.length<=ao)(g:∀f∈a,ByteArray.size f<=ao):au 66 [strs a,I left] (I (kf (a.length+kF a) left)):=by
 unfold ao at l g;have i:IntKind.i64.wrap (left-(a.length:Int))=left-a.length:=cW _ Zo;refine Sp.e [] [.tmp 4] func66 ntmps66 ?_;simp only[go_sem,i];refine aT (λh=>?_) λh=>?_
 .simp only[h,go_sem];refine Fz.int ?_;simp at h;rw[gE Zo]
 .have s:(a.length:Int)<=left:=by simp at h;omega
  simp only[h,go_sem];refine bq 5 a.length (λb=>Fw.Inv 28 [(0,strs a),(1,I (left-a.length-kF (a.take b)))] ((a.length:Int)+kF (a.take b)<=left)) A ⟨A,by simp[strs,ba,af,kF],by simp[kF];omega⟩ ?_;rintro b o m n _ _ r hp;simp only[go_sem];refine aT (λh=>?_) λh=>?_
  .have aC:=bh h;have k:(a.map λf=>[S f])[b]?=E [S a[b]]:=by simp[aC]
   have t:=g a[b] (ax aC);have j:IntKind.i64.wrap (left-(a.length:Int)-kF (a.take b)-(a[b].size:Int))=left-(a.length:Int)-kF (a.take b)-a[b].size:=cW _ Zo;have rT:=Vz a b aC;have u:=Vy a (b+1);simp only[h,k,j,go_sem];refine aT (λd=>?_) λd=>?_
   .simp only[d,go_sem];refine Fz.int ?_;simp at d;rw[gE Zo]
   .simp only[d,go_sem];simp at d;exact Ga
  .exact Gk
def PU(a b:aK)(k:a.length<=ao):au 110 [strs a,strs b] (B (decide (a=b))):=by
 unfold ao at k;refine Sp.s [] [.tmp 4] func110 ntmps110 ?_;refine aT (λh=>?_) λh=>?_
 .exact wz
 .have r:a.length=b.length:=by simp at h;omega
  simp only[h,go_sem];refine bq 5 a.length (λd=>Fw.Inv 26 [(0,strs a),(1,strs b)] (a.take d=b.take d)) A ⟨A,by simp[strs,ba,af],Zs⟩ ?_;rintro d o m f _ _ p l;simp only[go_sem];refine aT (λh=>?_) λh=>?_
  .have g:=bh h;have i:(a.map λf=>[S f])[d]?=E [S a[d]]:=by simp[g]
   have j:(b.map λf=>[S f])[d]?=E [S (b[d]'Zo)]:=by exact Zg
   simp only[h,i,j,go_sem];refine b7 ?_;refine aT (λe=>?_) λe=>?_
   .simp only[e,go_sem];refine Fz.bool ?_;exact Zg
   .simp only[e,go_sem];refine bg g ⟨A,by simp[af],?_⟩;simp[du]at e;rw[ch g,ch Zo,l,e]
  .have q:=bS h;exact wz
def Wp(a:aK)(z:a.length<=1048576):fk aB 81 [strs a] [] [] (strs a):=by
 refine fk.eo [] [.tmp 2] func81 A Zk ntmps81 A Zs A ?_;simp only[go_sem];refine⟨⟨Zo,Zo⟩,?_⟩;refine bq 4 a.length (λe=>Fw.qa 22 [(0,strs a),(3,.ms 7 0 a.length)] λj b k=>b=bump db 7/\k=[]/\j 7=E ⟨0,9,1,((a.take e).map (λb=>[S b])++List.replicate (a.length-e) [D.sc (.string ByteArray.empty)]).flatten,aa⟩) A ⟨A,by simp[strs,ba,af],A,A,by simp[aj]⟩ ?_;rintro e x j b k _ y⟨u,r,l⟩;subst u;subst r;simp only[go_sem];refine aT (λf=>?_) λf=>?_
 .have h:=bh f;have q:(a.map λb=>[S b])[e]?=E [S a[e]]:=by simp[h]
  have t:((e:Int)<(a.length:Int))=True:=bP Zo;simp only[q,l,t,go_sem];have o:([D.sc (.string ByteArray.empty)]:DL).length=1:=A;have m:=jM (sz:=1) (rows:=(a.take e).map (λb=>[S b])++List.replicate (a.length-e) [D.sc (.string ByteArray.empty)]) (by
   intro i d;rcases cg.1 d with d|d
   .obtain⟨p,_,rfl⟩:=aG.1 d;rfl
   .rw[List.eq_of_mem_replicate d];exact o)
  simp only[bF,bW,fP,q']at m;refine⟨by rw[m];omega,?_⟩;refine bg h ⟨A,by simp[af],A,A,?_⟩;simp only[aj,↓reduceIte,dy,Ob.mk.injEq,nr,fa];rw[L5 _ h,Uw ((a.take e).map λb=>[S b]) (sz:=1) (by intro i d;obtain⟨p,_,rfl⟩:=aG.1 d;rfl) de o A A,ch h,bC,bp,cB,dM];rfl
 .have s:=bS f;subst s;simp only[f,go_sem];refine IE l A A Zd Zs (by intro i d;obtain⟨p,_,rfl⟩:=aG.1 d;rfl) (by
   have:=Lx (ds:=(a.map λb=>[S b]).flatten) (by
    intro w g;obtain⟨i,d,g⟩:=ft.1 g;obtain⟨b,_,rfl⟩:=aG.1 d;simp at g;exact⟨_,g⟩)
   simpa using this)
open O in
def MG(l:cz)(left:Int)(d:0<=left)(f:left<=1048576)(b:l.length<=ao)
 (fU:∀a∈l,∀left:Int,0<=left->left<=1048576->au 38 [.ag a.ds,I left] (I (kf a.sz left))):au 65 [O.sl l,I left] (I (kf (l.length+O.cG l) left)):=by
 unfold ao at b;have ew:IntKind.i64.wrap (left-(l.length:Int))=left-l.length:=cW _ Zo;refine Sp.e [] [.tmp 4] func65 ntmps65 ?_;exact ww
open O in
def I5(a b:cz)(g:a.length<=ao)(fU:∀d∈a,∀f,au 62 [.ag d.ds,.ag f.ds] (B (decide (d=f)))):au 109 [O.sl a,O.sl b] (B (decide (a=b))):=by
 unfold ao at g;have iR:=bb a;refine Sp.e [] [.tmp 4] func109 ntmps109 ?_;exact Bo
open O in
def MM(l:cz)(b:l.length<=1048576)(fU:∀a∈l,fk aB 47 [.ag a.ds] [] [] (.ag a.ds)):fk aB 80 [O.sl l] [] [] (O.sl l):=by
 have oY:=bb l;refine fk.eo [] [.tmp 2] func80 A Zk ntmps80 A Zs A ?_;simp only[go_sem,oY];refine⟨⟨Zo,Zo⟩,?_⟩;have hz:([D.sc (.int .i64 0),D.sc (.string ByteArray.empty),a']:DL).length=3:=A;refine bq 4 l.length (λk=>Fw.qa 23 [(0,sl l),(3,.ms 7 0 l.length)] λH n T=>n=bump db 7/\∃cs,OL O1 (ae (l.take k)).flatten cs T/\H 7=E ⟨0,87,3,cs++(List.replicate (l.length-k) [D.sc (.int .i64 0),D.sc (.string ByteArray.empty),a']).flatten,aa⟩) A ⟨A,by simp[sl,ba,af],A,[],by simp[bZ];exact .nil,by simp[aj]⟩ ?_;exact wx
def AV(b:O)(left:Int)(r:0<=left)(t:left<=1048576)(e:b.ok):au 38 [.ag b.ds,I left] (I (kf b.sz left)):=by
 match b,e with
 |.mk p a d,e=>
 simp only[O.ok]at e;obtain⟨k,l,m⟩:=e;rw[O.sz];refine Sp.s [] [.tmp 4] func38 ntmps38 ?_;have o:IntKind.i64.wrap (left-(a.size:Int))=left-(a.size:Int):=cW _ (by unfold ao at k;omega);simp only[o,go_sem];by_cases q:(a.size:Int)<=left
 case neg=>
  have f1:decide (left-(a.size:Int)<0)=ad:=by simp;omega
  simp only[f1,go_sem];refine Fz.int ?_
  first|rfl|rw[gE Zo]
 have f1:decide (left-(a.size:Int)<0)=al:=by simp;omega
 simp only[f1,go_sem];refine bw (MG d _ Zo Zo l (λh g left i j=>AV h left i j (O.dW m h g))) ?_;by_cases f:(((d.length+O.cG d):Nat):Int)<=left-(a.size:Int)
 case neg=>
  simp only[gE f,Int.reduceLT,go_sem];refine Fz.int ?_
  first|rfl|rw[gE Zo]
 have f2:decide (left-(a.size:Int)-(((d.length+O.cG d):Nat):Int)<0)=al:=by exact Zg
 simp only[kg f,f2,go_sem];refine Fz.int ?_
 first|rfl|(rw[kg Zo];omega)
termination_by b
decreasing_by all_goals(have:=cH g;simp;omega)
def zb(a i:O)(e:a.ok):au 62 [.ag a.ds,.ag i.ds] (B (decide (a=i))):=by
 match a,i,e with
 |.mk f g h,.mk b0 j k,e=>
 simp only[O.ok]at e;obtain⟨u,q,r⟩:=e;refine Sp.s [] [.tmp 4] func62 ntmps62 ?_;by_cases b:f=b0
 case neg=>
  have f0:(f !=b0)=ad:=by simp[b]
  simp only[f0,go_sem];exact Fz.bool (by simp[b])
 have f0:(f !=b0)=al:=by simp[b]
 simp only[f0,go_sem];by_cases d:g=j
 case neg=>
  have f1:(!(g.toList==j.toList))=ad:=by simp[du,d]
  simp only[f1,go_sem];exact Fz.bool (by simp[d])
 have f1:(!(g.toList==j.toList))=al:=by simp[d]
 simp only[f1,go_sem];refine bw (I5 _ _ q (λo m t=>zb o t (O.dW r o m))) ?_;by_cases l:h=k
 case neg=>
  have f2:decide (h=k)=al:=by simp[l]
  simp only[f2,go_sem];refine Fz.bool ?_;symm;rw[fZ];intro p;apply l;injection p
 have f2:decide (h=k)=ad:=by exact Zg
 simp only[f2,go_sem];refine Fz.bool ?_;symm;rw[cO,b,d,l]
termination_by a
decreasing_by all_goals(have:=cH m;simp;omega)
def AW(a:O)(b:a.sz<=1048576):fk aB 47 [.ag a.ds] [] [] (.ag a.ds):=by
 match a,b with
 |.mk i j e,b=>
 rw[O.sz]at b;refine fk.eo [] [.cell 2 87] func47 A Zk ntmps47 A Zs A ?_;simp only[go_sem];refine oI _ (MM e Zo (λg d=>AW g (by have:=O.gj d;omega))) cu ?_;intro m T2 f;obtain⟨k,o,l,h,rfl,rfl⟩:=tH f;simp only[go_sem];refine uO ?_;simp only[go_sem]
 repeat first|exact OL.nil|apply OL.tS|apply OL.vO
termination_by a
decreasing_by all_goals(have:=cH d;simp;omega)
open aA in
def VE(l:iB)(left:Int)(d:0<=left)(f:left<=1048576)(b:l.length<=ao)
 (fU:∀a∈l,∀left:Int,0<=left->left<=1048576->au 64 [.ag a.ds,I left] (I (kf a.sz left))):au 37 [aA.sl l,I left] (I (kf (l.length+aA.cG l) left)):=by
 unfold ao at b;have ew:IntKind.i64.wrap (left-(l.length:Int))=left-l.length:=cW _ Zo;refine Sp.e [] [.tmp 4] func37 ntmps37 ?_;exact ww
open aA in
def PO(a b:iB)(g:a.length<=ao)(fU:∀d∈a,∀f,au 108 [.ag d.ds,.ag f.ds] (B (decide (d=f)))):au 61 [aA.sl a,aA.sl b] (B (decide (a=b))):=by
 unfold ao at g;have iR:=bb a;refine Sp.e [] [.tmp 4] func61 ntmps61 ?_;exact FK
open aA in
def Wh(l:iB)(b:l.length<=1048576)(fU:∀a∈l,fk aB 79 [.ag a.ds] [] [] (.ag a.ds)):fk aB 46 [aA.sl l] [] [] (aA.sl l):=by
 have oY:=bb l;refine fk.eo [] [.tmp 2] func46 A Zk ntmps46 A Zs A ?_;simp only[go_sem,oY];refine⟨⟨Zo,Zo⟩,?_⟩;have hz:([D.sc (.string ByteArray.empty),a']:DL).length=2:=A;refine bq 4 l.length (λk=>Fw.qa 23 [(0,sl l),(3,.ms 7 0 l.length)] λH n T=>n=bump db 7/\∃cs,OL O1 (ae (l.take k)).flatten cs T/\H 7=E ⟨0,162,2,cs++(List.replicate (l.length-k) [D.sc (.string ByteArray.empty),a']).flatten,aa⟩) A ⟨A,by simp[sl,ba,af],A,[],by simp[bZ];exact .nil,by simp[aj]⟩ ?_;exact wx
def VD(d:aA)(left:Int)(r:0<=left)(s:left<=1048576)(f:d.ok):au 64 [.ag d.ds,I left] (I (kf d.sz left)):=by
 match d,f with
 |.mk a b,f=>
 simp only[aA.ok]at f;obtain⟨l,m,o⟩:=f;rw[aA.sz];refine Sp.e [] [.tmp 4] func64 ntmps64 ?_;simp only[aA.ds,go_sem];have p:IntKind.i64.wrap (left-(a.size:Int))=left-(a.size:Int):=cW _ (by unfold ao at l;omega);simp only[p,go_sem];by_cases q:(a.size:Int)<=left
 case neg=>
  have f0:decide (left-(a.size:Int)<0)=ad:=by simp;omega
  simp only[f0,go_sem];refine Fz.int ?_
  first|rfl|rw[gE Zo]
 have f0:decide (left-(a.size:Int)<0)=al:=by simp;omega
 simp only[f0,go_sem];refine bw (MG b _ Zo Zo m (λh k left i j=>AV h left i j (O.dW o h k))) ?_;by_cases g:(((b.length+O.cG b):Nat):Int)<=left-(a.size:Int)
 case neg=>
  simp only[gE g,Int.reduceLT,go_sem];refine Fz.int ?_
  first|rfl|rw[gE Zo]
 have f1:decide (left-(a.size:Int)-(((b.length+O.cG b):Nat):Int)<0)=al:=by exact Zg
 simp only[kg g,f1,go_sem];refine Fz.int ?_
 first|rfl|(rw[kg Zo];omega)
def PN(a h:aA)(d:a.ok):au 108 [.ag a.ds,.ag h.ds] (B (decide (a=h))):=by
 match a,h,d with
 |.mk f g,.mk b0 i,d=>
 simp only[aA.ok]at d;obtain⟨r,o,p⟩:=d;refine Sp.e [] [.tmp 4] func108 ntmps108 ?_;simp only[aA.ds,go_sem];by_cases b:f=b0
 case neg=>
  have f0:(!(f.toList==b0.toList))=ad:=by simp[du,b]
  simp only[f0,go_sem];exact Fz.bool (by simp[b])
 have f0:(!(f.toList==b0.toList))=al:=by simp[b]
 simp only[f0,go_sem];refine bw (I5 _ _ o (λk m q=>zb k q (O.dW p k m))) ?_;by_cases j:g=i
 case neg=>
  have f1:decide (g=i)=al:=by simp[j]
  simp only[f1,go_sem];refine Fz.bool ?_;symm;rw[fZ];intro l;apply j;injection l
 have f1:decide (g=i)=ad:=by exact Zg
 simp only[f1,go_sem];refine Fz.bool ?_;symm;rw[cO,b,j]
def Wg(a:aA)(b:a.sz<=1048576):fk aB 79 [.ag a.ds] [] [] (.ag a.ds):=by
 match a,b with
 |.mk i d,b=>
 rw[aA.sz]at b;refine fk.eo [] [.cell 2 162] func79 A Zk ntmps79 A Zs A ?_;simp only[aA.ds,go_sem];refine oI _ (MM d Zo (λg f=>AW g (by have:=O.gj f;omega))) cu ?_;intro l T1 e;obtain⟨j,m,k,h,rfl,rfl⟩:=tH e;simp only[go_sem];refine uO ?_;simp only[go_sem]
 repeat first|exact OL.nil|apply OL.tS|apply OL.vO
open ai in
def VG(l:aw)(left:Int)(d:0<=left)(f:left<=1048576)(b:l.length<=ao)
 (fU:∀a∈l,∀left:Int,0<=left->left<=1048576->au 19 [.ag a.ds,I left] (I (kf a.sz left))):au 9 [ai.sl l,I left] (I (kf (l.length+ai.cG l) left)):=by
 unfold ao at b;have ew:IntKind.i64.wrap (left-(l.length:Int))=left-l.length:=cW _ Zo;refine Sp.e [] [.tmp 4] func9 ntmps9 ?_;exact ww
open ai in
def PQ(a b:aw)(g:a.length<=ao)(fU:∀d∈a,∀f,au 35 [.ag d.ds,.ag f.ds] (B (decide (d=f)))):au 17 [ai.sl a,ai.sl b] (B (decide (a=b))):=by
 unfold ao at g;have iR:=bb a;refine Sp.e [] [.tmp 4] func17 ntmps17 ?_;exact FK
open ai in
def Wj(l:aw)(b:l.length<=1048576)(fU:∀a∈l,fk aB 26 [.ag a.ds] [] [] (.ag a.ds)):fk aB 13 [ai.sl l] [] [] (ai.sl l):=by
 have oY:=bb l;refine fk.eo [] [.tmp 2] func13 A Zk ntmps13 A Zs A ?_;simp only[go_sem,oY];refine⟨⟨Zo,Zo⟩,?_⟩;have hz:([D.sc (.string ByteArray.empty),a']:DL).length=2:=A;refine bq 4 l.length (λk=>Fw.qa 23 [(0,sl l),(3,.ms 7 0 l.length)] λH n T=>n=bump db 7/\∃cs,OL O1 (ae (l.take k)).flatten cs T/\H 7=E ⟨0,84,2,cs++(List.replicate (l.length-k) [D.sc (.string ByteArray.empty),a']).flatten,aa⟩) A ⟨A,by simp[sl,ba,af],A,[],by simp[bZ];exact .nil,by simp[aj]⟩ ?_;exact wx
def VF(d:ai)(left:Int)(r:0<=left)(s:left<=1048576)(f:d.ok):au 19 [.ag d.ds,I left] (I (kf d.sz left)):=by
 match d,f with
 |.mk a b,f=>
 simp only[ai.ok]at f;obtain⟨l,m,o⟩:=f;rw[ai.sz];refine Sp.e [] [.tmp 4] func19 ntmps19 ?_;simp only[ai.ds,go_sem];have p:IntKind.i64.wrap (left-(a.size:Int))=left-(a.size:Int):=cW _ (by unfold ao at l;omega);simp only[p,go_sem];by_cases q:(a.size:Int)<=left
 case neg=>
  have f0:decide (left-(a.size:Int)<0)=ad:=by simp;omega
  simp only[f0,go_sem];refine Fz.int ?_
  first|rfl|rw[gE Zo]
 have f0:decide (left-(a.size:Int)<0)=al:=by simp;omega
 simp only[f0,go_sem];refine bw (VE b _ Zo Zo m (λh k left i j=>VD h left i j (aA.dW o h k))) ?_;by_cases g:(((b.length+aA.cG b):Nat):Int)<=left-(a.size:Int)
 case neg=>
  simp only[gE g,Int.reduceLT,go_sem];refine Fz.int ?_
  first|rfl|rw[gE Zo]
 have f1:decide (left-(a.size:Int)-(((b.length+aA.cG b):Nat):Int)<0)=al:=by exact Zg
 simp only[kg g,f1,go_sem];refine Fz.int ?_
 first|rfl|(rw[kg Zo];omega)
def PP(a h:ai)(d:a.ok):au 35 [.ag a.ds,.ag h.ds] (B (decide (a=h))):=by
 match a,h,d with
 |.mk f g,.mk b0 i,d=>
 simp only[ai.ok]at d;obtain⟨r,o,p⟩:=d;refine Sp.e [] [.tmp 4] func35 ntmps35 ?_;simp only[ai.ds,go_sem];by_cases b:f=b0
 case neg=>
  have f0:(!(f.toList==b0.toList))=ad:=by simp[du,b]
  simp only[f0,go_sem];exact Fz.bool (by simp[b])
 have f0:(!(f.toList==b0.toList))=al:=by simp[b]
 simp only[f0,go_sem];refine bw (PO _ _ o (λk m q=>PN k q (aA.dW p k m))) ?_;by_cases j:g=i
 case neg=>
  have f1:decide (g=i)=al:=by simp[j]
  simp only[f1,go_sem];refine Fz.bool ?_;symm;rw[fZ];intro l;apply j;injection l
 have f1:decide (g=i)=ad:=by exact Zg
 simp only[f1,go_sem];refine Fz.bool ?_;symm;rw[cO,b,j]
def Wi(a:ai)(b:a.sz<=1048576):fk aB 26 [.ag a.ds] [] [] (.ag a.ds):=by
 match a,b with
 |.mk i d,b=>
 rw[ai.sz]at b;refine fk.eo [] [.cell 2 84] func26 A Zk ntmps26 A Zs A ?_;simp only[ai.ds,go_sem];refine oI _ (Wh d Zo (λg f=>Wg g (by have:=aA.gj f;omega))) cu ?_;intro l T1 e;obtain⟨j,m,k,h,rfl,rfl⟩:=tH e;simp only[go_sem];refine uO ?_;simp only[go_sem]
 repeat first|exact OL.nil|apply OL.tS|apply OL.vO
open Y in
def VM(l:a_)(left:Int)(d:0<=left)(f:left<=1048576)(b:l.length<=ao)
 (fU:∀a∈l,∀left:Int,0<=left->left<=1048576->au 39 [.ag a.ds,I left] (I (kf a.sz left))):au 67 [Y.sl l,I left] (I (kf (l.length+Y.cG l) left)):=by
 unfold ao at b;have ew:IntKind.i64.wrap (left-(l.length:Int))=left-l.length:=cW _ Zo;refine Sp.e [] [.tmp 4] func67 ntmps67 ?_;exact ww
open Y in
def PV(a b:a_)(g:a.length<=ao)(fU:∀d∈a,∀f,au 63 [.ag d.ds,.ag f.ds] (B (decide (d=f)))):au 111 [Y.sl a,Y.sl b] (B (decide (a=b))):=by
 unfold ao at g;have iR:=bb a;refine Sp.e [] [.tmp 4] func111 ntmps111 ?_;exact Bo
open Y in
def Wq(l:a_)(b:l.length<=1048576)(fU:∀a∈l,fk aB 48 [.ag a.ds] [] [] (.ag a.ds)):fk aB 82 [Y.sl l] [] [] (Y.sl l):=by
 have oY:=bb l;refine fk.eo [] [.tmp 2] func82 A Zk ntmps82 A Zs A ?_;simp only[go_sem,oY];refine⟨⟨Zo,Zo⟩,?_⟩;have hz:([D.sc (.int .i64 0),D.sc (.int .i64 0),D.sc (.string ByteArray.empty),D.sc (.int .i64 0),D.sc (.string ByteArray.empty),a',a',a']:DL).length=8:=A;refine bq 4 l.length (λk=>Fw.qa 23 [(0,sl l),(3,.ms 7 0 l.length)] λH n T=>n=bump db 7/\∃cs,OL O1 (ae (l.take k)).flatten cs T/\H 7=E ⟨0,90,8,cs++(List.replicate (l.length-k) [D.sc (.int .i64 0),D.sc (.int .i64 0),D.sc (.string ByteArray.empty),D.sc (.int .i64 0),D.sc (.string ByteArray.empty),a',a',a']).flatten,aa⟩) A ⟨A,by simp[sl,ba,af],A,[],by simp[bZ];exact .nil,by simp[aj]⟩ ?_;exact wx
def ME(g:Y)(left:Int)(D:0<=left)(F:left<=1048576)(i:g.ok):au 39 [.ag g.ds,I left] (I (kf g.sz left)):=by
 match g,i with
 |.mk A B a (.mk d e f) b h,i=>
 simp only[Y.ok]at i;obtain⟨r,t,u,x,w,y⟩:=i;rw[Y.sz];refine Sp.s [] [.tmp 4] func39 ntmps39 ?_;have z:IntKind.i64.wrap (left-(a.size:Int))=left-(a.size:Int):=cW _ (by unfold ao at r;omega);simp only[z,go_sem];by_cases C:(a.size:Int)<=left
 case neg=>
  have f2:decide (left-(a.size:Int)<0)=ad:=by simp;omega
  simp only[f2,go_sem];refine Fz.int ?_
  first|rfl|rw[gE Zo]
 have f2:decide (left-(a.size:Int)<0)=al:=by simp;omega
 simp only[f2,go_sem];refine bw (AV ((.mk d e f):O) _ Zo Zo t) ?_;by_cases j:((((.mk d e f):O).sz:Nat):Int)<=left-(a.size:Int)
 case neg=>
  simp only[gE j,Int.reduceLT,go_sem];refine Fz.int ?_
  first|rfl|rw[gE Zo]
 have f3:decide (left-(a.size:Int)-((((.mk d e f):O).sz:Nat):Int)<0)=al:=by exact Zg
 simp only[kg j,f3,go_sem];refine bw (VK b _ Zo Zo u x) ?_;by_cases k:(((b.length+kF b):Nat):Int)<=left-(a.size:Int)-((((.mk d e f):O).sz:Nat):Int)
 case neg=>
  simp only[gE k,Int.reduceLT,go_sem];refine Fz.int ?_
  first|rfl|rw[gE Zo]
 have f4:decide (left-(a.size:Int)-((((.mk d e f):O).sz:Nat):Int)-(((b.length+kF b):Nat):Int)<0)=al:=by exact Zg
 simp only[kg k,f4,go_sem];refine bw (VM h _ Zo Zo w (λo m left p q=>ME o left p q (Y.dW y o m))) ?_;by_cases l:(((h.length+Y.cG h):Nat):Int)<=left-(a.size:Int)-((((.mk d e f):O).sz:Nat):Int)-(((b.length+kF b):Nat):Int)
 case neg=>
  simp only[gE l,Int.reduceLT,go_sem];refine Fz.int ?_
  first|rfl|rw[gE Zo]
 have f5:decide (left-(a.size:Int)-((((.mk d e f):O).sz:Nat):Int)-(((b.length+kF b):Nat):Int)-(((h.length+Y.cG h):Nat):Int)<0)=al:=by exact Zg
 simp only[kg l,f5,go_sem];refine Fz.int ?_
 first|rfl|(rw[kg Zo];omega)
termination_by g
decreasing_by all_goals(have:=cH m;simp;omega)
def I4(a u:Y)(m:a.ok):au 63 [.ag a.ds,.ag u.ds] (B (decide (a=u))):=by
 match a,u,m with
 |.mk o p q (.mk d e f) r t,.mk b0 w x (.mk g h i) y z,m=>
 simp only[Y.ok]at m;obtain⟨P,I,J,Q,K,L⟩:=m;refine Sp.s [] [.tmp 4] func63 ntmps63 ?_;by_cases j:o=b0
 case neg=>
  have f0:(o !=b0)=ad:=by simp[j]
  simp only[f0,go_sem];exact Fz.bool (by simp[j])
 have f0:(o !=b0)=al:=by simp[j]
 simp only[f0,go_sem];by_cases k:p=w
 case neg=>
  have f1:(p !=w)=ad:=by simp[k]
  simp only[f1,go_sem];exact Fz.bool (by simp[k])
 have f1:(p !=w)=al:=by simp[k]
 simp only[f1,go_sem];by_cases l:q=x
 case neg=>
  have f2:(!(q.toList==x.toList))=ad:=by simp[du,l]
  simp only[f2,go_sem];exact Fz.bool (by simp[l])
 have f2:(!(q.toList==x.toList))=al:=by simp[l]
 simp only[f2,go_sem];refine bw (zb ((.mk d e f):O) ((.mk g h i):O) I) ?_;by_cases A:((.mk d e f):O)=((.mk g h i):O)
 case neg=>
  have f3:decide (((.mk d e f):O)=((.mk g h i):O))=al:=by simp[A]
  simp only[f3,go_sem];refine Fz.bool ?_;symm;rw[fZ];intro b;apply A;injection b
 have f3:decide (((.mk d e f):O)=((.mk g h i):O))=ad:=by exact Zg
 simp only[f3,go_sem];refine bw (PU _ _ J) ?_;by_cases C:r=y
 case neg=>
  have f4:decide (r=y)=al:=by simp[C]
  simp only[f4,go_sem];refine Fz.bool ?_;symm;rw[fZ];intro b;apply C;injection b
 have f4:decide (r=y)=ad:=by exact Zg
 simp only[f4,go_sem];refine bw (PV _ _ K (λG F M=>I4 G M (Y.dW L G F))) ?_;by_cases D:t=z
 case neg=>
  have f5:decide (t=z)=al:=by simp[D]
  simp only[f5,go_sem];refine Fz.bool ?_;symm;rw[fZ];intro b;apply D;injection b
 have f5:decide (t=z)=ad:=by exact Zg
 simp only[f5,go_sem];refine Fz.bool ?_;symm;rw[cO,j,k,l,A,C,D]
termination_by a
decreasing_by all_goals(have:=cH F;simp;omega)
def ML(a:Y)(b:a.sz<=1048576):fk aB 48 [.ag a.ds] [] [] (.ag a.ds):=by
 match a,b with
 |.mk u w x (.mk f g h) i j,b=>
 rw[Y.sz]at b;refine fk.eo [] [.cell 2 90] func48 A Zk ntmps48 A Zs A ?_;simp only[go_sem];refine oI _ (AW ((.mk f g h):O) Zo) cu ?_;intro G T3 k;obtain⟨K,rfl,d⟩:=Ar k;simp only[go_sem,DX,DY,DW]at d;obtain⟨_,rfl,⟨_,rfl,⟨B,P,F,r,_,_,rfl,rfl,⟨rfl,rfl⟩⟩⟩⟩:=d;simp only[go_sem];refine oI _ (Wp i Zo) cu ?_;intro I s l;obtain⟨y,L,C,p,rfl,rfl⟩:=tH l;simp only[go_sem];refine oI _ (Wq j Zo (λo e=>ML o (by have:=Y.gj e;omega))) cu ?_;intro J t m;obtain⟨z,M,D,q,rfl,rfl⟩:=tH m;simp only[go_sem];refine uO ?_;simp only[go_sem]
 repeat first|exact OL.nil|apply OL.tS|apply OL.vO
termination_by a
decreasing_by all_goals(have:=cH e;simp;omega)
open ah in
def VI(l:aF)(left:Int)(d:0<=left)(f:left<=1048576)(b:l.length<=ao)
 (fU:∀a∈l,∀left:Int,0<=left->left<=1048576->au 20 [.ag a.ds,I left] (I (kf a.sz left))):au 10 [ah.sl l,I left] (I (kf (l.length+ah.cG l) left)):=by
 unfold ao at b;have ew:IntKind.i64.wrap (left-(l.length:Int))=left-l.length:=cW _ Zo;refine Sp.e [] [.tmp 4] func10 ntmps10 ?_;exact ww
open ah in
def PS(a b:aF)(g:a.length<=ao)(fU:∀d∈a,∀f,au 36 [.ag d.ds,.ag f.ds] (B (decide (d=f)))):au 18 [ah.sl a,ah.sl b] (B (decide (a=b))):=by
 unfold ao at g;have iR:=bb a;refine Sp.e [] [.tmp 4] func18 ntmps18 ?_;exact Bo
open ah in
def Wm(l:aF)(b:l.length<=1048576)(fU:∀a∈l,fk aB 27 [.ag a.ds] [] [] (.ag a.ds)):fk aB 14 [ah.sl l] [] [] (ah.sl l):=by
 have oY:=bb l;refine fk.eo [] [.tmp 2] func14 A Zk ntmps14 A Zs A ?_;simp only[go_sem,oY];refine⟨⟨Zo,Zo⟩,?_⟩;have hz:([D.sc (.string ByteArray.empty),D.sc (.int .i64 0),D.sc (.string ByteArray.empty),a',D.sc (.int .i64 0),D.sc (.int .i64 0),D.sc (.string ByteArray.empty),D.sc (.int .i64 0),D.sc (.string ByteArray.empty),a',a',a']:DL).length=12:=A;refine bq 4 l.length (λk=>Fw.qa 23 [(0,sl l),(3,.ms 7 0 l.length)] λH n T=>n=bump db 7/\∃cs,OL O1 (ae (l.take k)).flatten cs T/\H 7=E ⟨0,92,12,cs++(List.replicate (l.length-k) [D.sc (.string ByteArray.empty),D.sc (.int .i64 0),D.sc (.string ByteArray.empty),a',D.sc (.int .i64 0),D.sc (.int .i64 0),D.sc (.string ByteArray.empty),D.sc (.int .i64 0),D.sc (.string ByteArray.empty),a',a',a']).flatten,aa⟩) A ⟨A,by simp[sl,ba,af],A,[],by simp[bZ];exact .nil,by simp[aj]⟩ ?_;exact wx
def VH(g:ah)(left:Int)(z:0<=left)(A:left<=1048576)(h:g.ok):au 20 [.ag g.ds,I left] (I (kf g.sz left)):=by
 match g,h with
 |.mk a (.mk b d f) (.mk i j k (.mk l m o) p q),h=>
 simp only[ah.ok]at h;obtain⟨t,u,w⟩:=h;rw[ah.sz];refine Sp.e [] [.tmp 4] func20 ntmps20 ?_;simp only[ah.ds,go_sem];have x:IntKind.i64.wrap (left-(a.size:Int))=left-(a.size:Int):=cW _ (by unfold ao at t;omega);simp only[x,go_sem];by_cases y:(a.size:Int)<=left
 case neg=>
  have f0:decide (left-(a.size:Int)<0)=ad:=by simp;omega
  simp only[f0,go_sem];refine Fz.int ?_
  first|rfl|rw[gE Zo]
 have f0:decide (left-(a.size:Int)<0)=al:=by simp;omega
 simp only[f0,go_sem];refine bw (AV ((.mk b d f):O) _ Zo Zo u) ?_;by_cases r:((((.mk b d f):O).sz:Nat):Int)<=left-(a.size:Int)
 case neg=>
  simp only[gE r,Int.reduceLT,go_sem];refine Fz.int ?_
  first|rfl|rw[gE Zo]
 have f1:decide (left-(a.size:Int)-((((.mk b d f):O).sz:Nat):Int)<0)=al:=by exact Zg
 simp only[kg r,f1,go_sem];refine bw (ME ((.mk i j k (.mk l m o) p q):Y) _ Zo Zo w) ?_;by_cases s:((((.mk i j k (.mk l m o) p q):Y).sz:Nat):Int)<=left-(a.size:Int)-((((.mk b d f):O).sz:Nat):Int)
 case neg=>
  simp only[gE s,Int.reduceLT,go_sem];refine Fz.int ?_
  first|rfl|rw[gE Zo]
 have f2:decide (left-(a.size:Int)-((((.mk b d f):O).sz:Nat):Int)-((((.mk i j k (.mk l m o) p q):Y).sz:Nat):Int)<0)=al:=by exact Zg
 simp only[kg s,f2,go_sem];refine Fz.int ?_
 first|rfl|(rw[kg Zo];omega)
def PR(a G:ah)(D:a.ok):au 36 [.ag a.ds,.ag G.ds] (B (decide (a=G))):=by
 match a,G,D with
 |.mk F (.mk b d f) (.mk g h i (.mk j k l) m o),.mk b0 (.mk p q r) (.mk s t u (.mk w x y) z A),D=>
 simp only[ah.ok]at D;obtain⟨P,L,M⟩:=D;refine Sp.e [] [.tmp 4] func36 ntmps36 ?_;simp only[ah.ds,go_sem];by_cases C:F=b0
 case neg=>
  have f0:(!(F.toList==b0.toList))=ad:=by simp[du,C]
  simp only[f0,go_sem];exact Fz.bool (by simp[C])
 have f0:(!(F.toList==b0.toList))=al:=by simp[C]
 simp only[f0,go_sem];refine bw (zb ((.mk b d f):O) ((.mk p q r):O) L) ?_;by_cases I:((.mk b d f):O)=((.mk p q r):O)
 case neg=>
  have f1:decide (((.mk b d f):O)=((.mk p q r):O))=al:=by simp[I]
  simp only[f1,go_sem];refine Fz.bool ?_;symm;rw[fZ];intro K;apply I;injection K
 have f1:decide (((.mk b d f):O)=((.mk p q r):O))=ad:=by exact Zg
 simp only[f1,go_sem];refine bw (I4 ((.mk g h i (.mk j k l) m o):Y) ((.mk s t u (.mk w x y) z A):Y) M) ?_;by_cases J:((.mk g h i (.mk j k l) m o):Y)=((.mk s t u (.mk w x y) z A):Y)
 case neg=>
  have f2:decide (((.mk g h i (.mk j k l) m o):Y)=((.mk s t u (.mk w x y) z A):Y))=al:=by simp[J]
  simp only[f2,go_sem];refine Fz.bool ?_;symm;rw[fZ];intro K;apply J;injection K
 have f2:decide (((.mk g h i (.mk j k l) m o):Y)=((.mk s t u (.mk w x y) z A):Y))=ad:=by exact Zg
 simp only[f2,go_sem];refine Fz.bool ?_;symm;rw[cO,C,I,J]
def Wl(a:ah)(f:a.sz<=1048576):fk aB 27 [.ag a.ds] [] [] (.ag a.ds):=by
 match a,f with
 |.mk y (.mk j k l) (.mk m o p (.mk q r s) t u),f=>
 rw[ah.sz]at f;refine fk.eo [] [.cell 2 92] func27 A Zk ntmps27 A Zs A ?_;simp only[ah.ds,go_sem];refine oI _ (AW ((.mk j k l):O) Zo) cu ?_;intro z T1 w;obtain⟨C,rfl,h⟩:=Ar w;simp only[go_sem,DX,DY,DW]at h;obtain⟨_,rfl,⟨_,rfl,⟨d,g,e,b,_,_,rfl,rfl,⟨rfl,rfl⟩⟩⟩⟩:=h;simp only[go_sem];refine oI _ (ML ((.mk m o p (.mk q r s) t u):Y) Zo) cu ?_;intro B T2 x;obtain⟨D,rfl,i⟩:=Ar x;simp only[go_sem,DX,DY,DW]at i;obtain⟨_,rfl,⟨_,rfl,⟨_,rfl,⟨_,rfl,⟨_,rfl,⟨d,g,e,b,_,_,rfl,rfl,⟨d,g,e,b,_,_,rfl,rfl,⟨d,g,e,b,_,_,rfl,rfl,⟨rfl,rfl⟩⟩⟩⟩⟩⟩⟩⟩⟩:=i;simp only[go_sem];refine uO ?_;simp only[go_sem]
 repeat first|exact OL.nil|apply OL.tS|apply OL.vO
def VJ(f:bm)(left:Int)(r:0<=left)(s:left<=1048576)(g:f.ok):au 4 [.ag f.ds,I left] (I (kf f.sz left)):=by
 match f,g with
 |.mk a b,g=>
 simp only[bm.ok]at g;obtain⟨m,p,o,q⟩:=g;rw[bm.sz];refine Sp.e [] [.tmp 4] func4 ntmps4 ?_;simp only[bm.ds,go_sem];refine bw (VG a _ Zo Zo m (λd j left h i=>VF d left h i (ai.dW p d j))) ?_;by_cases k:(((a.length+ai.cG a):Nat):Int)<=left
 case neg=>
  simp only[gE k,Int.reduceLT,go_sem];refine Fz.int ?_
  first|rfl|rw[gE Zo]
 have f0:decide (left-(((a.length+ai.cG a):Nat):Int)<0)=al:=by exact Zg
 simp only[kg k,f0,go_sem];refine bw (VI b _ Zo Zo o (λd j left h i=>VH d left h i (ah.dW q d j))) ?_;by_cases l:(((b.length+ah.cG b):Nat):Int)<=left-(((a.length+ai.cG a):Nat):Int)
 case neg=>
  simp only[gE l,Int.reduceLT,go_sem];refine Fz.int ?_
  first|rfl|rw[gE Zo]
 have f1:decide (left-(((a.length+ai.cG a):Nat):Int)-(((b.length+ah.cG b):Nat):Int)<0)=al:=by exact Zg
 simp only[kg l,f1,go_sem];refine Fz.int ?_
 first|rfl|(rw[kg Zo];omega)
def PT(b h:bm)(d:b.ok):au 8 [.ag b.ds,.ag h.ds] (B (decide (b=h))):=by
 match b,h,d with
 |.mk f g,.mk b0 i,d=>
 simp only[bm.ok]at d;obtain⟨p,r,q,s⟩:=d;refine Sp.e [] [.tmp 4] func8 ntmps8 ?_;simp only[bm.ds,go_sem];refine bw (PQ _ _ p (λa m o=>PP a o (ai.dW r a m))) ?_;by_cases j:f=b0
 case neg=>
  have f0:decide (f=b0)=al:=by simp[j]
  simp only[f0,go_sem];refine Fz.bool ?_;symm;rw[fZ];intro l;apply j;injection l
 have f0:decide (f=b0)=ad:=by exact Zg
 simp only[f0,go_sem];refine bw (PS _ _ q (λa m o=>PR a o (ah.dW s a m))) ?_;by_cases k:g=i
 case neg=>
  have f1:decide (g=i)=al:=by simp[k]
  simp only[f1,go_sem];refine Fz.bool ?_;symm;rw[fZ];intro l;apply k;injection l
 have f1:decide (g=i)=ad:=by exact Zg
 simp only[f1,go_sem];refine Fz.bool ?_;symm;rw[cO,j,k]
def Wo(a:bm)(b:a.sz<=1048576):fk aB 6 [.ag a.ds] [] [] (.ag a.ds):=by
 match a,b with
 |.mk f g,b=>
 rw[bm.sz]at b;refine fk.eo [] [.cell 2 32] func6 A Zk ntmps6 A Zs A ?_;simp only[bm.ds,go_sem];refine oI _ (Wj f Zo (λe d=>Wi e (by have:=ai.gj d;omega))) cu ?_;intro r l h;obtain⟨m,t,p,j,rfl,rfl⟩:=tH h;simp only[go_sem];refine oI _ (Wm g Zo (λe d=>Wl e (by have:=ah.gj d;omega))) cu ?_;intro s T1 i;obtain⟨o,u,q,k,rfl,rfl⟩:=tH i;simp only[go_sem];refine uO ?_;simp only[go_sem]
 repeat first|exact OL.nil|apply OL.tS|apply OL.vO
def Wn(a:bm)(b:a.sz<=1048576):au 6 [.ag a.ds] (.ag a.ds):=(Wo a b).sp
end
abbrev U(n:Int):D:=.sc (.int .u8 n)
def nb(n:Int):Bool:=decide (97<=n)&&decide (n<=122)
def mM(n:Int):Bool:=decide (65<=n)&&decide (n<=90)
def nN(n:Int):Bool:=decide (48<=n)&&decide (n<=57)
def mr(n:Int):Bool:=nb n||mM n
def km(n:Int):Bool:=nb n||mM n||nN n
def bs(s:BA):IL:=s.data.toList.map λc=>(c.toNat:Int)
def b0(s:BA):Int:=(bs s).headD 0
def uH(a:BA):(bs a).length=a.size:=by rw[bs,bW,qV];rfl
def QT:∀(b:IL)(d:0<b.length),b[0]=b.headD 0
 |[],d=>by simp at d
 |a::b,_=>rfl
def B_(b:BA)(a:Nat)(d:a<b.size):b[a]?=E b[a]/\((b[a]).toNat:Int)=(bs b)[a]'(by rw[uH];exact d):=by
 refine⟨getElem?_pos b a d,?_⟩;simp only[bs,eI,Array.getElem_toList];rfl
def uI(a:BA)(b:0<a.size):a[0]?=E a[0]/\((a[0]).toNat:Int)=b0 a:=by
 obtain⟨d,e⟩:=B_ a 0 b;refine⟨d,?_⟩;rw[e,b0];exact QT _ _
def Kb(a:Int):au 146 [U a] (B (nb a)):=by
 refine Sp.s [] [.tmp 2] func146 ntmps146 ?_;by_cases b:a>=97
 .simp only[bD b,go_sem];exact Fz.bool (by simp[nb];omega)
 .simp only[bj b,go_sem];exact Fz.bool (by simp[nb];omega)
def J7(a:Int):au 200 [U a] (B (mM a)):=by
 refine Sp.s [] [.tmp 2] func200 ntmps200 ?_;by_cases b:a>=65
 .simp only[bD b,go_sem];exact Fz.bool (by simp[mM];omega)
 .simp only[bj b,go_sem];exact Fz.bool (by simp[mM];omega)
def isDigit(n:Int):au 206 [U n] (B (nN n)):=by
 refine Sp.s [] [.tmp 2] func206 ntmps206 ?_;exact G9
def Sd(n:Int):au 327 [U n] (B (nN n)):=by
 refine Sp.s [] [.tmp 2] func327 ntmps327 ?_;exact G9
def Km(a:Int):au 325 [U a] (B (mr a)):=by
 refine Sp.s [] [.tmp 2] func325 ntmps325 ?_;by_cases b:a>=97
 .simp only[bD b,go_sem];by_cases d:a<=122
  .simp only[bD d,go_sem];refine Fz.bool ?_;rw[nk];simp[mr,nb,mM];omega
  .simp only[bj d,go_sem];by_cases h3:a>=65
   .exact Fj
   .omega
 .simp only[bj b,go_sem];by_cases h3:a>=65
  .exact Fj
  .simp only[bj h3,go_sem];exact Fz.bool (by simp[mr,nb,mM];omega)
def RD(a:Int):au 208 [U a] (B (km a)):=by
 refine Sp.s [] [.tmp 2] func208 ntmps208 ?_;refine bB _ (Kb a) Zs ?_;cases b:nb a
 .simp only[go_sem];refine bB _ (J7 a) Zs ?_;cases d:mM a
  .simp only[go_sem];refine bB _ (isDigit a) Zs ?_;simp only[go_sem];exact Fz.bool (by simp[km,b,d])
  .simp only[go_sem];exact Fz.bool (by simp[km,b,d])
 .simp only[go_sem];refine Fz.bool (by simp[km,b])
def kz:aK:=[⟨#[100,97,116,97]⟩,⟨#[100,101,102]⟩,⟨#[108,101,116]⟩,⟨#[105,110]⟩,⟨#[109,97,116,99,104]⟩,⟨#[105,102]⟩,⟨#[116,104,101,110]⟩,⟨#[101,108,115,101]⟩]
def ve(s:BA):Bool:=kz.any λk=>decide (k=s)
def Rq(a:aK)(v:BA)(j:a.length<=ao):au 287 [strs a,S v] (I (et (λf=>decide (f=v)) a)):=by
 unfold ao at j;have i:(a.map λd=>[S d]).length=a.length:=Zs;refine Sp.e [] [.tmp 4] func287 ntmps287 ?_;simp only[go_sem,i];refine bq 8 a.length (λb=>Fw.Inv 19 [(0,strs a),(1,S v),(7,I a.length)] ((a.take b).any (λf=>decide (f=v))=al)) A ⟨A,by simp[strs,ba,af],Zs⟩ ?_;rintro b l k d _ _ m hp;simp only[go_sem];refine aT (λh=>?_) λh=>?_
 .have aC:=bh h;have g:(a.map λd=>[S d])[b]?=E [S a[b]]:=by simp[aC]
  simp only[h,g,go_sem];by_cases hc:a[b]=v
  .have f1:(v.toList==a[b].toList)=ad:=by rw[du];simp[hc]
   simp only[f1,go_sem];exact Fz.int (kW aC hp (by simp[hc])).symm
  .have f1:(v.toList==a[b].toList)=al:=by rw[du];simp[Ne.symm hc]
   exact Fo
 .exact lH
def y7(l:aK)(v:BA)(a:l.length<=ao):au 259 [strs l,S v] (B (l.any λb=>decide (b=v))):=by
 refine Sp.s [] [.tmp 4] func259 ntmps259 ?_;refine bB _ (Rq l v a) Zs ?_;exact yt
def RA(a:BA):au 207 [S a] (B (ve a)):=by
 refine Sp.s [] [.tmp 2] func207 ntmps207 ?_;refine sN [strs kz,S a] _ (y7 kz a (by simp[kz,ao])) A
  (by simp only[a8,c_,ot,ou,a7];exact⟨Fz.rows (rows:=kz.map λa=>[S a]) A A A Zd A (by simp[kz]) A Zs,.cl _ (aO _),Zs⟩) A ?_
 exact qf
def Kl:au 336 [] (strs kz):=by
 refine Sp.s [] [.tmp 0] func336 ntmps336 ?_;exact Fz.rows (rows:=kz.map λa=>[S a]) A A A Zd A (by simp[kz]) A Zs
def Vi(b:BA):au 326 [S b] (B (ve b)):=by
 have j:(kz.map λe=>[S e]).length=kz.length:=Zs;have q:kz.length=8:=A;refine Sp.s [] [.tmp 2] func326 ntmps326 ?_;refine bq 3 8 (λa=>Fw.Inv 16 [(0,S b)] ((kz.take a).any (λl=>decide (l=b))=al)) A ⟨A,by simp[ba,af],Zs⟩ ?_;rintro a o m e _ _ p g;simp only[go_sem];refine bB _ Kl Zs ?_;simp only[j,go_sem];refine aT (λd=>?_) λd=>?_
 .have h:=bh d;have i:(kz.map λe=>[S e])[a]?=E [S kz[a]]:=by simp[h]
  simp only[d,go_sem];refine bB _ Kl Zs ?_;simp only[i,go_sem];by_cases f:kz[a]=b
  .have f1:(kz[a].toList==b.toList)=ad:=by rw[du];simp[f]
   simp only[f1,go_sem];refine Fz.bool ?_;symm;rw[ve,k9];exact Zg
  .have f1:(kz[a].toList==b.toList)=al:=by rw[du];simp[f]
   simp only[f1,go_sem];refine bg Zo ⟨A,by simp[af],?_⟩;rw[any_take_succ h,g];simp[f]
 .have k:=bS d;simp only[d,go_sem];refine Fz.bool ?_;rw[k,b9]at g;exact g.symm
def hD(s:BA):Bool:=decide (1<=s.size)&&decide (s.size<=12)&&!nN (b0 s)&&!ve s&&(bs s).all km
def ju(s:BA):Bool:=hD s&&mM (b0 s)
def gN(s:BA):Bool:=hD s&&nb (b0 s)
def Ka(a:BA)(q:a.size<=ao):au 145 [S a] (B (hD a)):=by
 unfold ao at q;refine Sp.s [] [.tmp 2] func145 ntmps145 ?_;by_cases g:(a.size:Int)<1
 .simp only[bD g,go_sem];exact Fz.bool (by simp[hD];omega)
 simp only[bj g,go_sem];by_cases h:(a.size:Int)>12
 .simp only[bD h,go_sem];exact Fz.bool (by simp[hD];omega)
 obtain⟨m,o⟩:=uI a Zo;simp only[bj h,m,o,go_sem];refine bB _ (isDigit (b0 a)) Zs ?_;cases i:nN (b0 a)
 case true=>
  simp only[go_sem];exact Fz.bool (by simp[hD,i])
 simp only[go_sem];refine bB _ (RA a) Zs ?_;cases j:ve a
 case true=>
  simp only[go_sem];exact Fz.bool (by simp[hD,j])
 simp only[go_sem];refine bq 23 a.size (λb=>Fw.Inv 32 [(0,S a),(22,I a.size)] (((bs a).take b).all km=ad)) A ⟨A,by simp[ba,af],Zs⟩ ?_;rintro b w u y _ _ x f;simp only[go_sem];refine aT (λd=>?_) λd=>?_
 .have e:b<a.size:=by simpa using d
  have l:b<(bs a).length:=by rw[uH];exact e
  obtain⟨r,t⟩:=B_ a b e;simp only[d,r,t,go_sem];refine bB _ (RD _) Zs ?_;cases k:km (bs a)[b]
  .simp only[go_sem];exact Fz.bool (by simp only[hD,wH l k,Bool.and_false])
  .simp only[go_sem];refine bg e ⟨A,by simp[af],?_⟩;rw[kQ l,f,k];rfl
 .have p:b=a.size:=by simp at d;omega
  simp only[d,go_sem];refine Fz.bool ?_;rw[p,<-uH,b9]at f;simp[hD,i,j,f];omega
variable {dg:BA}
def xG(a:hD dg=ad):0<dg.size:=by
 simp only[hD,b3,cO]at a;omega
def XT{a:BA}(g:0<a.size)(b:(bs a).all km=ad):km (b0 a)=ad:=by
 have e:=uH a;rw[b6]at b;unfold b0;cases d:bs a with
 |nil=>rw[d]at e;simp at e;omega
 |cons f h=>rw[d]at b;exact b f Zs
def DE{a:BA}(d:0<a.size)(b:(bs a).all km=ad):mr (b0 a)=!nN (b0 a):=by
 have:=XT d b;rw[nk];simp only[km,mr,nb,mM,nN,qW,b3,cO,oo,ud,fZ]at*;omega
def Mu(a:BA)(x:a.size<=ao):au 312 [S a] (B (hD a)):=by
 unfold ao at x;refine Sp.s [] [.tmp 2] func312 ntmps312 ?_;by_cases j:(a.size:Int)<1
 .simp only[bD j,go_sem];exact Fz.bool (by simp[hD];omega)
 simp only[bj j,go_sem];by_cases k:(a.size:Int)>12
 .simp only[bD k,go_sem];exact Fz.bool (by simp[hD];omega)
 obtain⟨t,u⟩:=uI a Zo;have r:mr (b0 a)=al->al=hD a:=λd=>by
  cases i:(bs a).all km
  .simp[hD,i]
  .have:=DE Zo i;rw[d]at this;have:nN (b0 a)=ad:=by exact Zg
   simp[hD,this]
 simp only[bj k,t,u,go_sem];refine bB _ (Km (b0 a)) Zs ?_;cases l:mr (b0 a)
 .simp only[go_sem];exact Fz.bool (r l)
 simp only[go_sem];refine bB _ (Vi a) Zs ?_;cases m:ve a
 case true=>
  simp only[go_sem];exact Fz.bool (by simp[hD,m])
 simp only[go_sem];refine bq 3 a.size (λb=>Fw.Inv 40 [(0,S a)] (((bs a).take b).all km=ad)) A ⟨A,by simp[ba,af],Zs⟩ ?_;rintro b z y D _ _ C h;simp only[go_sem];refine aT (λf=>?_) λf=>?_
 .have g:b<a.size:=by simpa using f
  have o:b<(bs a).length:=by rw[uH];exact g
  obtain⟨p,q⟩:=B_ a b g;have next:km (bs a)[b]=ad->((bs a).take (b+1)).all km=ad:=λd=>by rw[kQ o,h,d];rfl
  simp only[f,p,q,go_sem];refine bB _ (Km _) Zs ?_;cases d:mr (bs a)[b]
  .simp only[p,q,go_sem];refine bB _ (Sd _) Zs ?_;cases e:nN (bs a)[b]
   .simp only[go_sem];have i:km (bs a)[b]=al:=by simp only[mr]at d;simp[km,d,e]
    exact Fz.bool (by simp only[hD,wH o i,Bool.and_false])
   .simp only[go_sem];exact bg g ⟨A,by simp[af],next (by simp[km,e])⟩
  .simp only[go_sem];exact bg g ⟨A,by simp[af],next (by simp only[mr]at d;simp[km,d])⟩
 .have w:b=a.size:=by simp at f;omega
  simp only[f,go_sem];refine Fz.bool ?_;rw[w,<-uH,b9]at h;have e:=DE Zo h;rw[l]at e;have e:nN (b0 a)=al:=by simpa using e.symm
  simp[hD,e,m,h];omega
def isUpper(a:BA)(e:a.size<=ao):au 142 [S a] (B (ju a)):=by
 refine Sp.s [] [.tmp 2] func142 ntmps142 ?_;refine bB _ (Ka a e) Zs ?_;cases c:hD a
 .exact BF
 obtain⟨b,d⟩:=uI a (xG c);simp only[b,d,go_sem];refine bB _ (J7 _) Zs ?_;exact BF
def isLower(a:BA)(e:a.size<=ao):au 90 [S a] (B (gN a)):=by
 refine Sp.s [] [.tmp 2] func90 ntmps90 ?_;refine bB _ (Ka a e) Zs ?_;cases c:hD a
 .exact BG
 obtain⟨b,d⟩:=uI a (xG c);simp only[b,d,go_sem];refine bB _ (Kb _) Zs ?_;exact BG
def Ln(a:hD dg=ad):mr (b0 dg)=ad:=by
 have b:=xG a;simp only[hD,b3]at a;rw[DE b a.2];exact a.1.1.2
def x1(a:BA)(e:a.size<=ao):au 310 [S a] (B (ju a)):=by
 refine Sp.s [] [.tmp 2] func310 ntmps310 ?_;refine bB _ (Mu a e) Zs ?_;cases c:hD a
 .exact BF
 obtain⟨b,d⟩:=uI a (xG c);simp only[b,d,go_sem];refine Fz.bool ?_;have:=Ln c;rw[nk];simp only[ju,c,hN,mr,nb,mM,qW,b3,cO]at*;omega
def AU(a:BA)(e:a.size<=ao):au 291 [S a] (B (gN a)):=by
 refine Sp.s [] [.tmp 2] func291 ntmps291 ?_;refine bB _ (Mu a e) Zs ?_;cases c:hD a
 .exact BG
 obtain⟨b,d⟩:=uI a (xG c);simp only[b,d,go_sem];refine Fz.bool ?_;have:=Ln c;rw[nk];simp only[gN,c,hN,mr,nb,mM,qW,b3,cO]at*;omega
variable {a0 gs:Int}
def rv(a:a0≠gs):(a0 !=gs)=ad:=by simp[a]
def kR(a:a0=gs):(a0 !=gs)=al:=by simp[a]
def nE:BA:=⟨#[]⟩
def qG:BA:=⟨#[73,110,116]⟩
def fL:O->Bool
 |.mk k n ks=>if k=1 then decide (n=nE)&&decide (ks.length=0)else if k=2 then ju n&&!decide (n=qG)&&decide (ks.length=0)
  else if k=3 then decide (n=nE)&&decide (ks.length=2)else if k=4 then decide (n=nE)&&decide (ks.length=1)else al
abbrev eL:O->Bool:=O.aY fL
def fK(t:O):Bool:=eL t&&decide (t.cm<=6/\t.num<=16)
def o5(b a d:Int):au 73 [I b,I a,I d] (B (a1 b a d)):=by
 refine Sp.s [] [.tmp 6] func73 ntmps73 ?_;by_cases h1:b>=a
 .exact yr
 .exact Bw
def WX(d:Int)(nm:BA)(a:cz)(ak:nm.size<=ao)(Z:O.aR a<9000000000000000000)(V:a.length<=ao)
 (C:∀o∈a,∃h i,au 147 [.ag o.ds] (.tp [I h,I i,B (eL o)])/\(eL o=ad->h=o.cm/\i=o.num)):
 ∃h i,au 147 [.ag (O.ds (.mk d nm a))] (.tp [I h,I i,B (eL (.mk d nm a))])/\(eL (.mk d nm a)=ad->h=(O.mk d nm a).cm/\i=(O.mk d nm a).num):=by
 have ap:=V;unfold ao at V;have U:eL (.mk d nm a)=(fL (.mk d nm a)&&a.all eL):=by rw[eL,O.aY,O.gB]
 by_cases j:a.all eL=ad
 case neg=>
  have j:a.all eL=al:=by simpa using j
  refine⟨0,0,?_,λf=>by exact Zg⟩;rw[U,j,Bool.and_false];refine Sp.s [] [.tmp 2,.tmp 3,.tmp 4] func147 ntmps147 ?_;refine bq 13 a.length (λb=>Fw.Inv 87 [(11,O.sl a),(12,I a.length),(2,I ((1+O.co (a.take b):Nat):Int)),(3,I ((1+O.aR (a.take b):Nat):Int))] ((a.take b).all eL=ad)) A ⟨A,by simp[O.sl,ba,af,O.co,O.aR],Zs⟩ ?_;rintro b Y W am X _ ai G;simp only[go_sem];refine aT (λf=>?_) λf=>?_
  .have e:=bh f;have m:=ax e;have w:=O.bo a b e;have z:=O.b1 a[b];have J:List.take 3 a[b].ds=a[b].ds:=cU Zo;have F:(a[b].ds).all b4=ad:=by rw[b6];exact O.one a[b]
   obtain⟨h,i,u,x⟩:=C a[b] m;simp only[f,w,z,J,F,go_sem];refine bB _ u (by simp;exact O.cl _) ?_;cases l:eL a[b]
   .simp only[go_sem];exact Fz.same A Zs
   obtain⟨rfl,rfl⟩:=x l;have an:=O.gV m;have ab:=O.uQ a[b];have y:=O.mY a (b+1);rw[O.iU a b e]at y;have ah:=O.rH (a.take b);have K:=iX a[b].cm Zo;have L:=wrap_add (1+O.aR (a.take b)) a[b].num Zo;simp only[K,L,go_sem];have m1:(if((a[b].cm+1:Nat):Int)>((1+O.co (a.take b):Nat):Int)then((a[b].cm+1:Nat):Int)else((1+O.co (a.take b):Nat):Int))=((1+O.co (a.take (b+1)):Nat):Int):=by
    rw[O.ku a b e];split<;>omega
   have m2:1+O.aR (a.take b)+a[b].num=1+O.aR (a.take (b+1)):=by rw[O.iU a b e];omega
   refine bg e ⟨A,?_,by rw[kQ e,G,l];rfl⟩;exact BQ
  .have D:=bS f;subst D;rw[b9,j]at G;cases G
 refine⟨(O.mk d nm a).cm,(O.mk d nm a).num,?_,λ_=>⟨A,A⟩⟩;rw[U,j,ue,O.cm,O.num];refine Sp.s [] [.tmp 2,.tmp 3,.tmp 4] func147 ntmps147 ?_;refine hC 13 a.length (λb=>Fw.Inv 87 [(1,.cp [I d,S nm,.sl 3 (O.ae a)]),(11,O.sl a),(12,I a.length),(2,I ((1+O.co (a.take b):Nat):Int)),(3,I ((1+O.aR (a.take b):Nat):Int)),(4,B al)] True) A ⟨A,by simp[O.sl,ba,af,O.co,O.aR],trivial⟩ ?_;rintro b⟨Y,W,am,aq,X⟩ai k⟨rfl,R,-⟩;simp only[a7,O.sl]at k R;obtain⟨eb,M,P,e2,e3,Q,-⟩:=R;simp only[k,P,go_sem];refine aT (λf=>?_) λf=>?_
 .have e:=bh f;have m:=ax e;have w:=O.bo a b e;have z:=O.b1 a[b];have J:List.take 3 a[b].ds=a[b].ds:=cU Zo;have F:(a[b].ds).all b4=ad:=by rw[b6];exact O.one a[b]
  have l:eL a[b]=ad:=b6.1 j _ m;obtain⟨h,i,u,x⟩:=C a[b] m;obtain⟨rfl,rfl⟩:=x l;rw[l]at u;simp only[f,k,M,w,z,J,F,go_sem];refine bB _ u (by simp;exact O.cl _) ?_;have ab:=O.uQ a[b];have y:=O.mY a (b+1);rw[O.iU a b e]at y;have ah:=O.rH (a.take b);have K:=iX a[b].cm Zo;have L:=wrap_add (1+O.aR (a.take b)) a[b].num Zo;simp only[k,e2,e3,K,L,go_sem];have m1:(if((a[b].cm+1:Nat):Int)>((1+O.co (a.take b):Nat):Int)then((a[b].cm+1:Nat):Int)else((1+O.co (a.take b):Nat):Int))=((1+O.co (a.take (b+1)):Nat):Int):=by
   rw[O.ku a b e];split<;>omega
  have m2:1+O.aR (a.take b)+a[b].num=1+O.aR (a.take (b+1)):=by rw[O.iU a b e];omega
  refine bg e ⟨A,?_,trivial⟩;simp only[eb,M,P,Q,m1,m2,a7,cS,ez,eJ,af,↓reduceIte,aP,iK,ji]
 have D:=bS f;subst D;rw[b9]at e2 e3;simp only[f,go_sem];clear k C Z j;by_cases p:d=1
 .have f1:(d==1)=ad:=by simp[p]
  have hL:((a.length:Int)==0)=decide (a.length=0):=by exact Zg
  have g:fL (.mk d nm a)=(decide (nm=nE)&&decide (a.length=0)):=by simp[fL,p]
  rw[g];simp only[f1,eb,go_sem];exact BO
 have f1:(d==1)=al:=by simp[p]
 by_cases q:d=2
 .have f2:(d==2)=ad:=by simp[q]
  have hL:((a.length:Int)==0)=decide (a.length=0):=by exact Zg
  have g:fL (.mk d nm a)=(ju nm&&!decide (nm=qG)&&decide (a.length=0)):=by simp[fL,q]
  rw[g];simp only[f1,f2,eb,go_sem];refine bB _ (isUpper nm ak) Zs ?_;cases d0:ju nm
  .simp only[e2,e3,go_sem];exact Fz.same Zs Zs
  simp only[eb,go_sem];by_cases d1:nm=qG
  .have g1:(nm.toList==(⟨#[73,110,116]⟩:BA).toList)=ad:=by rw[du];exact bD d1
   simp only[g1,e2,e3,go_sem];exact Fz.same (by simp[d1]) Zs
  .have g1:(nm.toList==(⟨#[73,110,116]⟩:BA).toList)=al:=by rw[du];exact bj d1
   simp only[g1,eb,e2,e3,go_sem];exact Fz.same Zg Zs
 have f2:(d==2)=al:=by simp[q]
 by_cases r:d=3
 .have f3:(d==3)=ad:=by simp[r]
  have hL:((a.length:Int)==2)=decide (a.length=2):=by exact Zg
  have g:fL (.mk d nm a)=(decide (nm=nE)&&decide (a.length=2)):=by simp[fL,r]
  rw[g];simp only[f1,f2,f3,eb,go_sem];exact BO
 have f3:(d==3)=al:=by simp[r]
 by_cases t:d=4
 .have f4:(d==4)=ad:=by simp[t]
  have hL:((a.length:Int)==1)=decide (a.length=1):=by exact Zg
  have g:fL (.mk d nm a)=(decide (nm=nE)&&decide (a.length=1)):=by simp[fL,t]
  rw[g];simp only[f1,f2,f3,f4,eb,go_sem];exact BO
 have f4:(d==4)=al:=by simp[t]
 have g:fL (.mk d nm a)=al:=by simp[fL,p,q,r,t]
 rw[g];simp only[f1,f2,f3,f4,e2,e3,Q,eb,go_sem];exact Fz.same A Zs
def M0(a:O)(d:a.sz<=1048576)(b:a.ok):∃f g,au 147 [.ag a.ds] (.tp [I f,I g,B (eL a)])/\(eL a=ad->f=a.cm/\g=a.num):=by
 match a,d,b with
 |.mk j k h,d,b=>
 simp only[O.ok]at b;simp only[O.sz]at d;have l:=O.r8 h;exact WX j k h b.1 Zo b.2.1 λi e=>M0 i (by have:=O.gj e;omega) (O.dW b.2.2 i e)
termination_by a
decreasing_by all_goals(have:=cH e;simp;omega)
def EN(a:O)(j:a.sz<=1048576)(i:a.ok):au 91 [.ag a.ds] (B (fK a)):=by
 have h:=O.b1 a;have k:List.take 3 a.ds=a.ds:=cU Zo;have o:(a.ds).all b4=ad:=by rw[b6];exact O.one a
 obtain⟨l,m,f,g⟩:=M0 a j i;refine Sp.e [] [.tmp 2] func91 ntmps91 ?_;simp only[h,k,go_sem];refine bB _ f (by simp;exact O.cl _) ?_;cases b:eL a
 .simp only[go_sem];exact Fz.bool (by simp only[fK,b,mF])
 obtain⟨rfl,rfl⟩:=g b;simp only[go_sem];by_cases d:a.cm<=6
 .have f1:decide ((a.cm:Int)<=6)=ad:=by simp;omega
  simp only[f1,go_sem];refine Fz.bool ?_;rw[fK,b,hN,jh];omega
 .have f1:decide ((a.cm:Int)<=6)=al:=by simp;omega
  simp only[f1,go_sem];exact Fz.bool (by simp[fK,d])
def lB(t:O)(d:Int):Int:=if eL t=ad/\(t.cm:Int)<=d then t.num else-1
variable {UV:cz}
def yb(b:fL (.mk a0 dg UV)=al):-1=lB (.mk a0 dg UV) gs:=by
 unfold lB;rw[av];rintro⟨a,_⟩;rw[eL,O.aY,b]at a;cases a
def Si(k0:Int)(nm:BA)(ks:cz)(a:Int)(p:0<=a)(o:a<=6)(m:nm.size<=ao)(q:O.aR ks<9000000000000000000)(l:ks.length<=ao)
 (fU:∀i∈ks,∀a:Int,0<=a->a<=6->au 313 [.ag i.ds,I a] (I (lB i a))):
 au 313 [.ag (O.ds (.mk k0 nm ks)),I a] (I (lB (.mk k0 nm ks) a)):=by
 unfold ao at l;have t:eL (.mk k0 nm ks)=(fL (.mk k0 nm ks)&&ks.all eL):=by rw[eL,O.aY,O.gB]
 have j:(O.mk k0 nm ks).cm=1+O.co ks:=by rw[O.cm]
 have r:(O.mk k0 nm ks).num=1+O.aR ks:=by rw[O.num]
 refine Sp.s [] [.tmp 4] func313 ntmps313 ?_;by_cases g:a<1
 .simp only[bD g,go_sem];refine Fz.int ?_;unfold lB;rw[av];rintro⟨_,h⟩;rw[j]at h;omega
 simp only[bj g,go_sem];by_cases b:k0=1
 .have f1:(k0==1)=ad:=by simp[b]
  have z2:(k0 !=2)=ad:=by simp[b]
  have ht:fL (.mk k0 nm ks)=(decide (nm=nE)&&decide (ks.length=0)):=by simp[fL,b]
  simp only[f1,go_sem];by_cases d2:ks.length=0
  case neg=>
   exact E6
  have g2:((ks.length:Int) !=0)=al:=kR Zo;simp only[g2,z2,go_sem];by_cases d1:nm=nE
  case neg=>
   exact Gh
  have g1:(nm.toList==(⟨#[]⟩:BA).toList)=ad:=by rw[du];exact bD d1
  simp only[g1,go_sem];exact Z7
 by_cases d:k0=2
 .have f2:(k0==2)=ad:=by simp[d]
  have z2:(k0 !=2)=al:=by simp[d]
  have ht:fL (.mk k0 nm ks)=(ju nm&&!decide (nm=qG)&&decide (ks.length=0)):=by simp[fL,d]
  have f1:(k0==1)=al:=by simp[b]
  simp only[f1,f2,go_sem];refine bB _ (x1 nm m) Zs ?_;cases d0:ju nm
  .simp only[go_sem];exact Fz.int (yb (by rw[ht,d0];rfl))
  simp only[go_sem];by_cases d1:nm=qG
  .have g1:(nm.toList==(⟨#[73,110,116]⟩:BA).toList)=ad:=by rw[du];exact bD d1
   simp only[g1,go_sem];exact Fz.int (yb (by rw[ht];simp[d1]))
  have g1:(nm.toList==(⟨#[73,110,116]⟩:BA).toList)=al:=by rw[du];exact bj d1
  simp only[g1,go_sem];by_cases d2:ks.length=0
  case neg=>
   exact E6
  have g2:((ks.length:Int) !=0)=al:=kR Zo;simp only[g2,z2,go_sem];exact Z7
 by_cases e:k0=3
 .have f3:(k0==3)=ad:=by simp[e]
  have z2:(k0 !=2)=ad:=by simp[e]
  have ht:fL (.mk k0 nm ks)=(decide (nm=nE)&&decide (ks.length=2)):=by simp[fL,e]
  have f1:(k0==1)=al:=by simp[b]
  have f2:(k0==2)=al:=by simp[d]
  simp only[f1,f2,f3,go_sem];by_cases d2:ks.length=2
  case neg=>
   have g2:((ks.length:Int) !=2)=ad:=rv Zo;exact BJ
  have g2:((ks.length:Int) !=2)=al:=kR Zo;exact Z6
 by_cases f:k0=4
 .have f4:(k0==4)=ad:=by simp[f]
  have z2:(k0 !=2)=ad:=by simp[f]
  have ht:fL (.mk k0 nm ks)=(decide (nm=nE)&&decide (ks.length=1)):=by simp[fL,f]
  have f1:(k0==1)=al:=by simp[b]
  have f2:(k0==2)=al:=by simp[d]
  have f3:(k0==3)=al:=by simp[e]
  simp only[f1,f2,f3,f4,go_sem];by_cases d2:ks.length=1
  case neg=>
   have g2:((ks.length:Int) !=1)=ad:=rv Zo;exact BJ
  have g2:((ks.length:Int) !=1)=al:=kR Zo;exact Z6
 have f1:(k0==1)=al:=by simp[b]
 have f2:(k0==2)=al:=by simp[d]
 have f3:(k0==3)=al:=by simp[e]
 have f4:(k0==4)=al:=by simp[f]
 simp only[f1,f2,f3,f4,go_sem];exact Fz.int (yb (by simp[fL,b,d,e,f]))
def Kr(d:O)(a:Int)(l:0<=a)(k:a<=6)(e:d.sz<=1048576)(b:d.ok):au 313 [.ag d.ds,I a] (I (lB d a)):=by
 match d,e,b with
 |.mk m o g,e,b=>
 simp only[O.ok]at b;simp only[O.sz]at e;have p:=O.r8 g;exact Si m o g a l k b.1 Zo b.2.1 λh f a i j=>Kr h a i j (by have:=O.gj f;omega) (O.dW b.2.2 h f)
termination_by d
decreasing_by all_goals(have:=cH f;simp;omega)
def WG(b:O):a1 (lB b 6) 1 16=fK b:=by
 have:=O.xI b;unfold lB fK;by_cases a:eL b=ad
 .by_cases e:b.cm<=6
  .rw[aM ⟨a,Zo⟩,a,hN,a1,jh];omega
  .rw[av Zg,a,hN,a1,jh];omega
 .rw[av (λd=>a d.1)];simp[a,a1]
def En(a:O)(f:a.sz<=1048576)(d:a.ok):au 292 [.ag a.ds] (B (fK a)):=by
 have b:=O.b1 a;have g:List.take 3 a.ds=a.ds:=cU Zo;have h:(a.ds).all b4=ad:=by rw[b6];exact O.one a
 refine Sp.e [] [.tmp 2] func292 ntmps292 ?_;simp only[b,g,go_sem];refine bB _ (Kr a 6 Zo Zo f d) (by simp;exact O.cl _) ?_;simp only[go_sem];refine bB _ (o5 _ _ _) Zs ?_;simp only[go_sem];exact Fz.bool (WG a)
section
open Classical
def I6(a b:cz)(d:bK)(j:a.length<=ao)(o:∀g∈a,∀i,au d [.ag g.ds,.ag i.ds] (B (decide (g=i)))):au 309 [O.sl a,O.sl b,.fn d [] []] (B (decide (a=b))):=by
 unfold ao at j;have f:=O.bb a;refine Sp.e [] [.tmp 6] func309 ntmps309 ?_;simp only[go_sem,f,O.bb b];refine aT (λh=>?_) λh=>?_
 .exact wz
 .have z:a.length=b.length:=by simp at h;omega
  simp only[h,go_sem,f];refine bq 17 a.length (λk=>Fw.Inv 32 [(0,O.sl a),(1,O.sl b),(2,.fn d [] []),(15,O.sl a),(16,I a.length)] (a.take k=b.take k)) A ⟨A,by simp[O.sl,ba,af],Zs⟩ ?_;rintro k w t C u _ x hp;simp only[go_sem];refine aT (λh=>?_) λh=>?_
  .have aC:=bh h;have u9:k<b.length:=Zo;have l:=O.b1 a[k];have m:=O.b1 b[k];have r:List.take 3 a[k].ds=a[k].ds:=cU Zo;have s:List.take 3 b[k].ds=b[k].ds:=cU Zo;have p:(a[k].ds).all b4=ad:=by rw[b6];exact O.one a[k]
   have q:(b[k].ds).all b4=ad:=by rw[b6];exact O.one b[k]
   simp only[h,O.bo a k aC,O.bo b k u9,m,r,s,p,q,List.drop_of_length_le,l,go_sem];refine bB _ (o a[k] (ax aC) b[k]) (by simp;exact⟨O.cl _,O.cl _⟩) ?_;exact Gt
  .have y:=bS h;exact wz
def nz(a:Nat):(((0:Nat):Int)<=(a:Int))=True:=bP Zo
def sameType(a k:O)(h:a.ok):au 281 [.ag a.ds,.ag k.ds] (B (decide (a=k))):=by
 match a,k,h with
 |.mk i j d,.mk b0 l e,h=>
 simp only[O.ok]at h;obtain⟨u,q,r⟩:=h;refine Sp.s [] [.tmp 4] func281 ntmps281 ?_;by_cases f:i=b0
 case neg=>
  have f0:(i==b0)=al:=by simp[f]
  simp only[f0,go_sem];refine Fz.bool ?_;symm;rw[fZ];intro b;apply f;injection b
 have f0:(i==b0)=ad:=by simp[f]
 simp only[f0,go_sem];by_cases g:j=l
 case neg=>
  have f1:(j.toList==l.toList)=al:=by simp[du,g]
  simp only[f1,go_sem];refine Fz.bool ?_;symm;rw[fZ];intro b;apply g;injection b
 have f1:(j.toList==l.toList)=ad:=by simp[g]
 simp only[f1,go_sem];refine bw (I6 d e _ q (λp o t=>sameType p t (O.dW r p o))) ?_;by_cases m:d=e
 case neg=>
  have f2:decide (d=e)=al:=by exact Zg
  simp only[f2,go_sem];refine Fz.bool ?_;symm;rw[fZ];intro b;apply m;injection b
 have f2:decide (d=e)=ad:=by exact Zg
 simp only[f2,go_sem];refine Fz.bool ?_;symm;rw[cO,f,g,m]
termination_by a
decreasing_by all_goals(have:=cH o;simp;omega)
def jo(t:O):Bool:=decide (t=.mk 0 nE [])
def RB(a:O)(d:a.ok):au 260 [.ag a.ds] (B (jo a)):=by
 have b:=O.b1 a;have f:List.take 3 a.ds=a.ds:=cU Zo;have h:(a.ds).all b4=ad:=by rw[b6];exact O.one a
 have g:O.ds (.mk 0 nE [])=[I 0,S nE,.sl 3 []]:=by simp[O.ds,O.ae]
 refine Sp.e [] [.tmp 2] func260 ntmps260 ?_;simp only[b,f,go_sem];refine sN [.ag a.ds,.ag (O.ds (.mk 0 nE []))] _ (sameType a _ d) A (by
  simp only[a8,c_,ot,ou,a7];refine⟨.cl _ (Cl.bu (O.cl a)),?_,Zs⟩;rw[g];refine Fz.NM ?_ A;simp only[ot,ou,a7];exact⟨.cl _ (aO _),.cl _ (aO _),.nil 3,Zs⟩) A ?_
 exact qf
def Sw(g:O):au 337 [.ag g.ds] (B (jo g)):=by
 obtain⟨d,f,e⟩:=g;have i:=O.bb e;have h:((e.length:Int)==0)=decide (e=[]):=by rw[iG,jh,<-List.length_eq_zero_iff];omega
 refine Sp.s [] [.tmp 2] func337 ntmps337 ?_;by_cases a:d=0
 case neg=>
  have f1:(d==0)=al:=by simp[a]
  simp only[f1,go_sem];exact Fz.bool (by simp[jo,a])
 have f1:(d==0)=ad:=by simp[a]
 simp only[f1,go_sem];by_cases b:f=nE
 case neg=>
  have f2:(f.toList==(⟨#[]⟩:BA).toList)=al:=by rw[du];exact bj b
  simp only[f2,go_sem];exact Fz.bool (by simp[jo,b])
 have f2:(f.toList==(⟨#[]⟩:BA).toList)=ad:=by rw[du];exact bD b
 simp only[f2,i,h,go_sem];exact Fz.bool (by simp[jo,a,b])
def nO:List ByteArray->Bool
 |l=>decide (∀(i:Nat)(h:i<l.length),gN l[i]=ad/\(l.take i).any (λx=>decide (x=l[i]))=al)
def MD(d:aK)(b:Nat):(d.map λa=>[S a]).take b=(d.take b).map λa=>[S a]:=Zs
def W_(l:aK)(f:l.length<=ao)(o:∀p∈l,ByteArray.size p<=ao):au 261 [strs l] (B (nO l&&decide ((l.length:Int)<=3))):=by
 have w:=f;unfold ao at f;have d:(l.map λb=>[S b]).length=l.length:=Zs;refine Sp.e [] [.tmp 2] func261 ntmps261 ?_;simp only[go_sem,d];refine bq 7 l.length (λk=>Fw.Inv 26 [(0,strs l),(5,strs l),(6,I l.length)] (∀(i:Nat)(a:i<l.length),i<k->gN l[i]=ad/\(l.take i).any (λx=>decide (x=l[i]))=al)) A ⟨A,by simp[strs,ba,af],Zs⟩ ?_;rintro k s q b r _ t hp;simp only[go_sem];refine aT (λa=>?_) λa=>?_
 .have aC:=bh a;have g:(l.map λb=>[S b])[k]?=E [S l[k]]:=by simp[aC]
  have m:((k:Int)<=(l.length:Int))=True:=bP Zo;have bad:¬(gN l[k]=ad/\(l.take k).any (λx=>decide (x=l[k]))=al)->al=(nO l&&decide ((l.length:Int)<=3)):=λh=>by
   have:nO l=al:=by rw[nO,fZ];intro j;exact h (j k aC)
   rw[this];rfl
  simp only[a,g,go_sem];refine bB _ (isLower l[k] (o _ (ax aC))) Zs ?_;cases c1:gN l[k]
  .simp only[go_sem];exact Fz.bool (bad (by simp[c1]))
  simp only[d,m,MD,go_sem];refine bB _ (y7 (l.take k) l[k] kO) cu ?_;exact GN
 .have u:=bS a;simp only[a,d,go_sem];refine Fz.bool ?_;have:nO l=ad:=by rw[nO,cO];exact λi hi=>hp i hi Zo
  rw[this];rfl
def jb:List ByteArray->ByteArray->Int
 |[],_=>-1
 |x::l,v=>if jb l v>=0 then jb l v+1 else if x=v then 0 else-1
def yD(d v:BA):∀b:aK,jb (b++[d]) v=if d=v then(b.length:Int)else jb b v
 |[]=>by by_cases a:d=v<;>simp[jb,a]
 |y::b=>by
  have e:=yD d v b;by_cases a:d=v
  .simp only[a,aI]at e;simp only[bf,jb,a,aI,e,di];rw[aM Zo];omega
  .simp only[a,aV]at e;simp only[bf,jb,a,aV,e]
def yC(v:BA):∀a:aK,decide (jb a v>=0)=a.any λb=>decide (b=v)
 |[]=>rfl
 |y::a=>by
  rw[List.any_cons,<-yC v a,jb];exact Zg
def nZ(b:aK)(v:BA)(r:b.length<=ao):au 172 [strs b,S v] (I (jb b v)):=by
 unfold ao at r;have p:(b.map λd=>[S d]).length=b.length:=Zs;have s:IntKind.i64.wrap ((b.length:Int)-1)=(b.length:Int)-1:=cW _ Zo;refine Sp.e [] [.tmp 4] func172 ntmps172 ?_;simp only[go_sem,p,s];refine mW (λf=>f.nt=20/\∃a:Nat,f.env 5=I ((a:Int)-1)/\f.env 0=strs b/\f.env 1=S v/\a<=b.length/\jb b v=jb (b.take a) v) (λf=>match f.env 5 with|.sc (.int _ d)=>(d+1).toNat|_=>0) ⟨A,b.length,by simp[af],by simp[af,ba,strs],by simp[af,ba],b_ _,by exact Zg⟩ ?_;rintro⟨x,u,d,y,w⟩⟨rfl,a,g,k,l,q,h⟩;simp only[strs]at g k l;simp only[g,go_sem];cases a with
 |zero=>
  have m:decide ((((0:Nat):Int)-1)>=0)=al:=Zs;simp only[m,go_sem];exact Fz.int (by rw[h];rfl)
 |succ a=>
  have j:((a+1:Nat):Int)-1=(a:Int):=Zo;have m:decide ((a:Int)>=0)=ad:=Zs;have o:(b.map λd=>[S d])[a]?=E [S b[a]]:=Zs;rw[ch q,yD,fP,Nat.min_eq_left Zo]at h;simp only[j,k,l,g,o,go_sem];by_cases i:b[a]=v
  .have f1:(b[a].toList==v.toList)=ad:=by rw[du];simp[i]
   simp only[f1,g,j,go_sem];exact Fz.int (by rw[h,aM i])
  .have f1:(b[a].toList==v.toList)=al:=by rw[du];simp[i]
   have t:IntKind.i64.wrap ((a:Int)-1)=(a:Int)-1:=cW _ Zo;rw[av i]at h;simp only[f1,g,j,t,go_sem];exact⟨⟨A,a,by simp[af],by simp[af,k],by simp[af,l],Zo,h⟩,by simp[af]⟩
def Dx(a:aK)(v:BA)(d:a.length<=ao):∃b:Int,au 172 [strs a,S v] (I b)/\(decide (b>=0)=a.any λe=>decide (e=v)):=⟨_,nZ a v d,yC v a⟩
def Sm(l:aK)(f:l.length<=ao)(m:∀q∈l,ByteArray.size q<=ao):au 338 [strs l] (B (nO l)):=by
 have z:=f;unfold ao at f;have e:(l.map λb=>[S b]).length=l.length:=Zs;refine Sp.s [] [.tmp 2] func338 ntmps338 ?_;refine bq 3 l.length (λk=>Fw.Inv 27 [(0,strs l)] (∀(i:Nat)(a:i<l.length),i<k->gN l[i]=ad/\(l.take i).any (λx=>decide (x=l[i]))=al)) A ⟨A,by simp[strs,ba,af],Zs⟩ ?_;rintro k u r b t _ w hp;simp only[e,go_sem];refine aT (λa=>?_) λa=>?_
 .have aC:=bh a;have d:(l.map λb=>[S b])[k]?=E [S l[k]]:=by simp[aC]
  have j:((k:Int)<=(l.length:Int))=True:=bP Zo;have bad:¬(gN l[k]=ad/\(l.take k).any (λx=>decide (x=l[k]))=al)->al=nO l:=λg=>by
   symm;rw[nO,fZ];intro h;exact g (h k aC)
  simp only[a,d,go_sem];refine b7 ?_;refine eK _ (AU l[k] (m _ (ax aC))) Zs A ?_;cases c1:gN l[k]
  .simp only[go_sem];exact Fz.bool (bad (by simp[c1]))
  simp only[e,j,d,MD,go_sem];obtain⟨C,o,p⟩:=Dx (l.take k) l[k] kO;refine d' o ?_;simp only[p,go_sem];exact GN
 .have y:=bS a;simp only[a,go_sem];refine Fz.bool ?_;symm;rw[nO,cO];exact λi hi=>hp i hi Zo
def cN(k:Int):Int×Int:=
 if k=1\/k=2 then(0,0)else if k=4\/k=6\/k=10 then(1,1)else if k=3\/k=5\/k=7 then(2,2)
 else if k=8 then(0,3)else if k=9 then(2,5)else if k=11 then(3,3)else(0,-1)
def j'(k:Int)(n:BA):Bool:=if k=1\/k=4\/k=7 then gN n else if k=8\/k=10 then ju n else decide (n=nE)
def jt(k:Int)(t:O):Bool:=if k=4 then fK t else jo t
def im(k:Int)(ns:aK):Bool:=if k=10 then decide ((ns.length:Int)<=3)&&nO ns else decide (ns.length=0)
def lR(k v:Int):Bool:=if k=2 then a1 v (-2147483648) 2147483647 else if k=3 then a1 v 1 6 else decide (v=0)
def fp:Y->Bool
 |.mk k v n ty ns _=>j' k n&&jt k ty&&im k ns&&lR k v
def fJ:Y->Bool
 |.mk k v n ty ns ks=>a1 ks.length (cN k).1 (cN k).2&&fp (.mk k v n ty ns ks)
def mT(a:Int):a=1\/a=2\/a=3\/a=4\/a=5\/a=6\/a=7\/a=8\/a=9\/a=10\/a=11\/(a≠1/\a≠2/\a≠3/\a≠4/\a≠5/\a≠6/\a≠7/\a≠8/\a≠9/\a≠10/\a≠11):=Zo
def isInt(a:Int):au 231 [I a] (B (a1 a (-2147483648) 2147483647)):=by
 refine Sp.s [] [.tmp 2] func231 ntmps231 ?_;by_cases h1:a>=-2147483648
 .exact yr
 .exact Bw
def Dr(a:Int):au 164 [I a] (B (a1 a 1 6)):=by
 refine Sp.s [] [.tmp 2] func164 ntmps164 ?_;by_cases h1:a>=1
 .exact yr
 .exact Bw
def Ss(a:Int):au 328 [I a] (.tp [I (cN a).1,I (cN a).2]):=by
 refine Sp.s [] [.tmp 2,.tmp 3] func328 ntmps328 ?_;rcases mT a with rfl|rfl|rfl|rfl|rfl|rfl|rfl|rfl|rfl|rfl|rfl|⟨b,f,g,h,i,j,k,l,m,d,e⟩
 all_goals first
  |(simp only[go_sem];exact Fz.same A Zs)
  |(have f1:(a==1)=al:=by simp[b]
    have f2:(a==2)=al:=by simp[f]
    have f3:(a==3)=al:=by simp[g]
    have f4:(a==4)=al:=by simp[h]
    have f5:(a==5)=al:=by simp[i]
    have f6:(a==6)=al:=by simp[j]
    have f7:(a==7)=al:=by simp[k]
    have f8:(a==8)=al:=by simp[l]
    have f9:(a==9)=al:=by simp[m]
    have f10:(a==10)=al:=by simp[d]
    have f11:(a==11)=al:=by simp[e]
    simp only[f1,f2,f3,f4,f5,f6,f7,f8,f9,f10,f11,go_sem];exact Fz.same (by simp[cN,b,f,g,h,i,j,k,l,m,d,e]) Zs)
def Sn(a v:Int)(n:BA)(tk:Int)(tn:BA)(az:cz)(ns:aK)(u:a_)(hn:n.size<=ao)(K:(O.mk tk tn az).sz<=1048576)(J:(O.mk tk tn az).ok)(F:ns.length<=ao)(G:∀j∈ns,ByteArray.size j<=ao):
 au 329 [.cp (Y.ds (.mk a v n (.mk tk tn az) ns u))] (B (fp (.mk a v n (.mk tk tn az) ns u))):=by
 have t:O.ds (.mk tk tn az)=[I tk,S tn,.sl 3 (O.ae az)]:=by rw[O.ds]
 have iR:(ns.map λj=>[S j]).length=ns.length:=Zs;have w:=En (.mk tk tn az) K J;have sn:=Sw (.mk tk tn az);rw[t]at w sn;have an:∀D∈([I tk,S tn,.sl 3 (O.ae az)]:DL),Cl D:=by rw[<-t];exact O.cl _
 refine Sp.s [] [.tmp 2] func329 ntmps329 ?_;rcases mT a with rfl|rfl|rfl|rfl|rfl|rfl|rfl|rfl|rfl|rfl|rfl|⟨e,h,i,d,p,q,f,g,r,b,o⟩
 .exact GA
 .exact F4
 .exact F4
 .simp only[go_sem];refine bB _ (AU n hn) Zs ?_;cases c1:gN n
  .exact BD
  simp only[go_sem];refine bw w ?_;cases c2:fK (.mk tk tn az)
  .exact BE
  exact GL
 .exact yx
 .exact yx
 .exact GA
 .simp only[go_sem];refine bB _ (x1 n hn) Zs ?_;cases c1:ju n
  .exact BD
  simp only[go_sem];refine bw sn ?_;cases c2:jo (.mk tk tn az)
  .exact BE
  exact GL
 .exact yx
 .simp only[go_sem];refine bB _ (x1 n hn) Zs ?_;cases c1:ju n
  .exact BD
  simp only[go_sem];refine bw sn ?_;cases c2:jo (.mk tk tn az)
  .exact BE
  simp only[iR,go_sem];by_cases c3:(ns.length:Int)>3
  .simp only[bD c3,go_sem];exact Fz.bool (by simp[fp,im];omega)
  simp only[bj c3,go_sem];refine bB _ (Sm ns F G) Zs ?_;cases m:nO ns
  .simp only[go_sem];exact Fz.bool (by simp[fp,im,m])
  have c5:im 10 ns=ad:=by simp[im,m];omega
  simp only[go_sem];exact Fz.bool (by simp[fp,j',jt,lR,c1,c2,c5,iG])
 .exact yx
 .have x:(a==1)=al:=by simp[e]
  have U:(a !=1)=ad:=by simp[e]
  have y:(a==2)=al:=by simp[h]
  have X:(a !=2)=ad:=by simp[h]
  have z:(a==3)=al:=by simp[i]
  have Z:(a !=3)=ad:=by simp[i]
  have l:(a==4)=al:=by simp[d]
  have L:(a !=4)=ad:=by simp[d]
  have P:(a==5)=al:=by simp[p]
  have ab:(a !=5)=ad:=by simp[p]
  have Q:(a==6)=al:=by simp[q]
  have ah:(a !=6)=ad:=by simp[q]
  have A:(a==7)=al:=by simp[f]
  have ai:(a !=7)=ad:=by simp[f]
  have C:(a==8)=al:=by simp[g]
  have ak:(a !=8)=ad:=by simp[g]
  have R:(a==9)=al:=by simp[r]
  have am:(a !=9)=ad:=by simp[r]
  have k:(a==10)=al:=by simp[b]
  have V:(a !=10)=ad:=by simp[b]
  have M:(a==11)=al:=by simp[o]
  have W:(a !=11)=ad:=by simp[o]
  simp only[x,l,A,C,k,go_sem];by_cases c1:n=nE
  case neg=>
   have g1:(n.toList==(⟨#[]⟩:BA).toList)=al:=by rw[du];exact bj c1
   simp only[g1,go_sem];exact Fz.bool (by simp[fp,j',c1,e,d,f,g,b])
  have g1:(n.toList==(⟨#[]⟩:BA).toList)=ad:=by rw[du];exact bD c1
  simp only[g1,l,L,go_sem];refine bw sn ?_;cases c2:jo (.mk tk tn az)
  .simp only[go_sem];exact Fz.bool (by simp[fp,jt,c2,d])
  simp only[k,iR,go_sem];by_cases c3:(ns.length:Int)>0
  .simp only[bD c3,go_sem];exact Fz.bool (by
    have:ns.length≠0:=Zo;simp[fp,im,this,b])
  simp only[bj c3,y,z,go_sem];have c5:ns.length=0:=Zo;exact Fz.bool (by simp[fp,j',jt,lR,c1,c2,c5,im,e,h,i,d,f,g,b,iG])
def Xa(a v:Int)(n:BA)(d:Int)(f:BA)(e:cz)(ns:aK)(ks:a_)(b:n.size<=ao)(ab:(O.mk d f e).sz<=1048576)(z:(O.mk d f e).ok)(X:ns.length<=ao)(Z:∀x∈ns,ByteArray.size x<=ao):
 au 209 [.ag (Y.ds (.mk a v n (.mk d f e) ns ks))] (B (fJ (.mk a v n (.mk d f e) ns ks))):=by
 have y:O.ds (.mk d f e)=[I d,S f,.sl 3 (O.ae e)]:=by rw[O.ds]
 have i:(ns.map λx=>[S x]).length=ns.length:=Zs;have h:=Y.bb ks;have D:=EN (.mk d f e) ab z;have C:=RB (.mk d f e) z;rw[y]at D C;have az:∀W∈([I d,S f,.sl 3 (O.ae e)]:DL),Cl W:=by rw[<-y];exact O.cl _
 refine Sp.s [] [.tmp 2] func209 ntmps209 ?_;refine bO C ?_;rcases mT a with rfl|rfl|rfl|rfl|rfl|rfl|rfl|rfl|rfl|rfl|rfl|⟨o,k,l,m,q,r,t,u,w,j,p⟩
 .simp only[i,go_sem];by_cases c3:(ns.length:Int)>0
  .exact pr
  simp only[bj c3,go_sem];have c5:ns.length=0:=Zo;cases c2:jo (.mk d f e)
  .exact pq
  simp only[go_sem];by_cases c6:v=0
  case neg=>
   exact qd
  simp only[kR c6,go_sem];refine b7 ?_;refine eK _ (isLower n b) Zs A ?_;simp only[go_sem];refine eK _ (isUpper n b) Zs A ?_;simp only[h,go_sem];cases c1:gN n
  .exact wy
  simp only[go_sem];have g7:((ks.length:Int)==0)=decide ((ks.length:Int)>=0/\(ks.length:Int)<=0):=by rw[iG,jh];omega
  exact Bn
 .simp only[i,go_sem];by_cases c3:(ns.length:Int)>0
  .exact pr
  simp only[bj c3,go_sem];have c5:ns.length=0:=Zo;cases c2:jo (.mk d f e)
  .exact pq
  simp only[go_sem];refine b7 ?_;refine eK _ (isLower n b) Zs A ?_;simp only[go_sem];refine eK _ (isUpper n b) Zs A ?_;simp only[h,go_sem];by_cases c1:n=nE
  case neg=>
   exact uC
  have g1:(n.toList==(⟨#[]⟩:BA).toList)=ad:=by rw[du];exact bD c1
  simp only[g1,go_sem];by_cases g:(ks.length:Int)=0
  case neg=>
   have g7:((ks.length:Int)==0)=al:=by rw[iG];exact bj g
   simp only[g7,go_sem];have c8:a1 (ks.length:Int) 0 0=al:=by rw[a1,fZ];omega
   exact FE
  have g7:((ks.length:Int)==0)=ad:=by rw[iG];exact bD g
  have c8:a1 (ks.length:Int) 0 0=ad:=by rw[a1,cO];omega
  simp only[g7,go_sem];refine bB _ (isInt v) Zs ?_;exact Fk
 .simp only[i,go_sem];by_cases c3:(ns.length:Int)>0
  .exact pr
  simp only[bj c3,go_sem];have c5:ns.length=0:=Zo;cases c2:jo (.mk d f e)
  .exact pq
  simp only[go_sem];refine b7 ?_;refine eK _ (isLower n b) Zs A ?_;simp only[go_sem];refine eK _ (isUpper n b) Zs A ?_;simp only[h,go_sem];by_cases c1:n=nE
  case neg=>
   exact uC
  have g1:(n.toList==(⟨#[]⟩:BA).toList)=ad:=by rw[du];exact bD c1
  simp only[g1,go_sem];by_cases g:(ks.length:Int)=2
  case neg=>
   have g7:((ks.length:Int)==2)=al:=by rw[iG];exact bj g
   simp only[g7,go_sem];have c8:a1 (ks.length:Int) 2 2=al:=by rw[a1,fZ];omega
   exact FE
  have g7:((ks.length:Int)==2)=ad:=by rw[iG];exact bD g
  have c8:a1 (ks.length:Int) 2 2=ad:=by rw[a1,cO];omega
  simp only[g7,go_sem];refine bB _ (Dr v) Zs ?_;exact Fk
 .simp only[i,go_sem];by_cases c3:(ns.length:Int)>0
  .exact pr
  simp only[bj c3,go_sem];have c5:ns.length=0:=Zo;by_cases c6:v=0
  case neg=>
   exact qd
  simp only[kR c6,go_sem];refine b7 ?_;refine eK _ (isLower n b) Zs A ?_;simp only[go_sem];refine eK _ (isUpper n b) Zs A ?_;simp only[h,go_sem];cases c1:gN n
  .exact wy
  simp only[go_sem];by_cases g:(ks.length:Int)=1
  case neg=>
   have g7:((ks.length:Int)==1)=al:=by rw[iG];exact bj g
   simp only[g7,go_sem];have c8:a1 (ks.length:Int) 1 1=al:=by rw[a1,fZ];omega
   exact FF
  have g7:((ks.length:Int)==1)=ad:=by rw[iG];exact bD g
  have c8:a1 (ks.length:Int) 1 1=ad:=by rw[a1,cO];omega
  simp only[g7,go_sem];refine bO D ?_;exact FF
 .simp only[i,go_sem];by_cases c3:(ns.length:Int)>0
  .exact pr
  simp only[bj c3,go_sem];have c5:ns.length=0:=Zo;cases c2:jo (.mk d f e)
  .exact pq
  simp only[go_sem];by_cases c6:v=0
  case neg=>
   exact qd
  simp only[kR c6,go_sem];refine b7 ?_;refine eK _ (isLower n b) Zs A ?_;simp only[go_sem];refine eK _ (isUpper n b) Zs A ?_;simp only[h,go_sem];by_cases c1:n=nE
  case neg=>
   exact uC
  have g1:(n.toList==(⟨#[]⟩:BA).toList)=ad:=by rw[du];exact bD c1
  simp only[g1,go_sem];exact GQ
 .simp only[i,go_sem];by_cases c3:(ns.length:Int)>0
  .exact pr
  simp only[bj c3,go_sem];have c5:ns.length=0:=Zo;cases c2:jo (.mk d f e)
  .exact pq
  simp only[go_sem];by_cases c6:v=0
  case neg=>
   exact qd
  simp only[kR c6,go_sem];refine b7 ?_;refine eK _ (isLower n b) Zs A ?_;simp only[go_sem];refine eK _ (isUpper n b) Zs A ?_;simp only[h,go_sem];by_cases c1:n=nE
  case neg=>
   exact uC
  have g1:(n.toList==(⟨#[]⟩:BA).toList)=ad:=by rw[du];exact bD c1
  simp only[g1,go_sem];have g7:((ks.length:Int)==1)=decide ((ks.length:Int)>=1/\(ks.length:Int)<=1):=by rw[iG,jh];omega
  exact Bn
 .simp only[i,go_sem];by_cases c3:(ns.length:Int)>0
  .exact pr
  simp only[bj c3,go_sem];have c5:ns.length=0:=Zo;cases c2:jo (.mk d f e)
  .exact pq
  simp only[go_sem];by_cases c6:v=0
  case neg=>
   exact qd
  simp only[kR c6,go_sem];refine b7 ?_;refine eK _ (isLower n b) Zs A ?_;simp only[go_sem];refine eK _ (isUpper n b) Zs A ?_;simp only[h,go_sem];cases c1:gN n
  .exact wy
  simp only[go_sem];exact GQ
 .simp only[i,go_sem];by_cases c3:(ns.length:Int)>0
  .exact pr
  simp only[bj c3,go_sem];have c5:ns.length=0:=Zo;cases c2:jo (.mk d f e)
  .exact pq
  simp only[go_sem];by_cases c6:v=0
  case neg=>
   exact qd
  simp only[kR c6,go_sem];refine b7 ?_;refine eK _ (isLower n b) Zs A ?_;simp only[go_sem];refine eK _ (isUpper n b) Zs A ?_;simp only[h,go_sem];cases c1:ju n
  .exact wy
  simp only[go_sem];exact Gy
 .simp only[i,go_sem];by_cases c3:(ns.length:Int)>0
  .exact pr
  simp only[bj c3,go_sem];have c5:ns.length=0:=Zo;cases c2:jo (.mk d f e)
  .exact pq
  simp only[go_sem];by_cases c6:v=0
  case neg=>
   exact qd
  simp only[kR c6,go_sem];refine b7 ?_;refine eK _ (isLower n b) Zs A ?_;simp only[go_sem];refine eK _ (isUpper n b) Zs A ?_;simp only[h,go_sem];by_cases c1:n=nE
  case neg=>
   exact uC
  have g1:(n.toList==(⟨#[]⟩:BA).toList)=ad:=by rw[du];exact bD c1
  simp only[g1,go_sem];by_cases g:(ks.length:Int)>=2
  case neg=>
   simp only[bj g,go_sem];exact Fq
  simp only[bD g,go_sem];exact Fq
 .simp only[go_sem];cases c2:jo (.mk d f e)
  .exact pq
  simp only[go_sem];by_cases c6:v=0
  case neg=>
   exact qd
  simp only[kR c6,go_sem];refine b7 ?_;refine eK _ (isLower n b) Zs A ?_;simp only[go_sem];refine eK _ (isUpper n b) Zs A ?_;simp only[h,go_sem];cases c1:ju n
  .exact wy
  simp only[go_sem];by_cases g:(ks.length:Int)=1
  case neg=>
   have g7:((ks.length:Int)==1)=al:=by rw[iG];exact bj g
   simp only[g7,go_sem];have c8:a1 (ks.length:Int) 1 1=al:=by rw[a1,fZ];omega
   exact Fz.bool (by simp[fJ,fp,j',jt,im,lR,cN,c1,c2,c6,c8])
  have g7:((ks.length:Int)==1)=ad:=by rw[iG];exact bD g
  have c8:a1 (ks.length:Int) 1 1=ad:=by rw[a1,cO];omega
  simp only[g7,go_sem];refine bB _ (W_ ns X Z) Zs ?_;simp only[go_sem];exact Fz.bool (by simp[fJ,fp,j',jt,im,lR,cN,c1,c2,c6,c8,Bool.and_comm])
 .simp only[i,go_sem];by_cases c3:(ns.length:Int)>0
  .exact pr
  simp only[bj c3,go_sem];have c5:ns.length=0:=Zo;cases c2:jo (.mk d f e)
  .exact pq
  simp only[go_sem];by_cases c6:v=0
  case neg=>
   exact qd
  simp only[kR c6,go_sem];refine b7 ?_;refine eK _ (isLower n b) Zs A ?_;simp only[go_sem];refine eK _ (isUpper n b) Zs A ?_;simp only[h,go_sem];by_cases c1:n=nE
  case neg=>
   exact uC
  have g1:(n.toList==(⟨#[]⟩:BA).toList)=ad:=by rw[du];exact bD c1
  simp only[g1,go_sem];have g7:((ks.length:Int)==3)=decide ((ks.length:Int)>=3/\(ks.length:Int)<=3):=by rw[iG,jh];omega
  exact Bn
 .have F:(a==1)=al:=by simp[o]
  have ap:(a !=1)=ad:=by simp[o]
  have K:(a==2)=al:=by simp[k]
  have ai:(a !=2)=ad:=by simp[k]
  have L:(a==3)=al:=by simp[l]
  have ak:(a !=3)=ad:=by simp[l]
  have M:(a==4)=al:=by simp[m]
  have am:(a !=4)=ad:=by simp[m]
  have P:(a==5)=al:=by simp[q]
  have ar:(a !=5)=ad:=by simp[q]
  have Q:(a==6)=al:=by simp[r]
  have av:(a !=6)=ad:=by simp[r]
  have R:(a==7)=al:=by simp[t]
  have aw:(a !=7)=ad:=by simp[t]
  have U:(a==8)=al:=by simp[u]
  have ax:(a !=8)=ad:=by simp[u]
  have V:(a==9)=al:=by simp[w]
  have ay:(a !=9)=ad:=by simp[w]
  have G:(a==10)=al:=by simp[j]
  have ah:(a !=10)=ad:=by simp[j]
  have J:(a==11)=al:=by simp[p]
  have aq:(a !=11)=ad:=by simp[p]
  simp only[i,ah,go_sem];by_cases c3:(ns.length:Int)>0
  .simp only[bD c3,go_sem];exact Fz.bool (by
    have:ns.length≠0:=Zo;simp[fJ,fp,im,this,j])
  simp only[bj c3,am,go_sem];cases c2:jo (.mk d f e)
  .simp only[go_sem];exact Fz.bool (by simp[fJ,fp,jt,c2,m])
  simp only[ai,ak,go_sem];by_cases c6:v=0
  case neg=>
   simp only[rv c6,go_sem];exact Fz.bool (by simp[fJ,fp,lR,c6,k,l])
  simp only[kR c6,go_sem];refine b7 ?_;refine eK _ (isLower n b) Zs A ?_;simp only[go_sem];refine eK _ (isUpper n b) Zs A ?_;simp only[h,F,K,L,M,P,Q,R,U,V,G,J,go_sem];exact Fz.bool (by simp[fJ,cN,a1,o,k,l,m,q,r,t,u,w,j,p];intro an;omega)
end
end
end Go.Fw
