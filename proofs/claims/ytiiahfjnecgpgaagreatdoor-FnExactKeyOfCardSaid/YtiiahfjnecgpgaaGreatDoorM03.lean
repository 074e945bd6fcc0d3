/- A part of the proof about KeyOf. No condition. -/
import Derived.ChangeArms
import Derived.WideShapes
import Derived.OpenShut
import Derived.Test.YtiiahfjnecgpgaaGreatDoorM01
import Derived.Test.YtiiahfjnecgpgaaGreatDoorM02
set_option maxRecDepth 100000
set_option maxHeartbeats 8000000
set_option linter.unusedSimpArgs false
set_option linter.unusedVariables false
set_option linter.defProp false
open Go renaming Program->ay,Value->aE,TypeId->aQ,World->aL,FuncId->bK,Oper->da,run_underlying->dU,Func->iw,Code->dH,undef->cC,execOp->dl,Exit->gk,Operand->eV,wpList->f',wp_region_list->i6,Op->eU,Act->cq,maxLen->ao
open Go.Result renaming andThen_ok->gl
open Go.Sem renaming run_bind->eW
open Go.IntWalk renaming i64_in->cW
open Option renaming some->E,none->aa
open Bool renaming true->ad,false->al
namespace Go.Fw
noncomputable section
section
open Go.RowKit
inductive TL (R:D->aE->List Nat->Prop):List D->List aE->List Nat->Prop
 |nil:TL R [] [] []
 |cons {d:D} {v:aE} {F:List Nat} {ds:List D} {vs:List aE} {F':List Nat} (h:R d v F) (t:TL R ds vs F'):TL R (d::ds) (v::vs) (F++F')
inductive T2 (w:aL):D->aE->List Nat->Prop
 |one {d:D} {v:aE} {F:List Nat} (h:T1 w d v F):T2 w d v F
 |ag {ds:List D} {vs:List aE} {F:List Nat} (h:TL (T1 w) ds vs F):T2 w (.ag ds) (.agg vs.toArray) F
inductive T3 (w:aL):D->aE->List Nat->Prop
 |one {d:D} {v:aE} {F:List Nat} (h:T2 w d v F):T3 w d v F
 |tp {ds:List D} {vs:List aE} {F:List Nat} (h:TL (T2 w) ds vs F):T3 w (.tp ds) (.tuple vs.toArray) F
inductive OL (R:D->D->List TE->Prop):List D->List D->List TE->Prop
 |nil:OL R [] [] []
 |cons {d e:D} {T:List TE} {ds es:List D} {f:List TE} (h:R d e T) (t:OL R ds es f):OL R (d::ds) (e::es) (T++f)
inductive O1:D->D->List TE->Prop
 |sc (v:aE):O1 (.sc v) (.sc v) []
 |sl (sz:Nat) (rows:List (List D)) (a:Option Addr) (n c:Nat) (F:List Nat):O1 (.sl sz rows) (.sc (.slice a n c)) [⟨.slice a n c,.sl sz rows,F⟩]
inductive O2:D->D->List TE->Prop
 |one {d e:D} {T:List TE} (h:O1 d e T):O2 d e T
 |ag {ds es:List D} {T:List TE} (h:OL O1 ds es T):O2 (.ag ds) (.ag es) T
inductive O3:D->D->List TE->Prop
 |one {d e:D} {T:List TE} (h:O2 d e T):O3 d e T
 |tp {ds es:List D} {T:List TE} (h:OL O2 ds es T):O3 (.tp ds) (.tp es) T
abbrev bl(T:dd):aD:=T.flatMap (·.F)
def sL(d U:dd):bl (d++U)=bl d++bl U:=List.flatMap_append
def mX{d:dd}{b:Nat}:b∈bl d↔∃e∈d,b∈e.F:=List.mem_flatMap
def YE{R e:D->aE->List Nat->Prop}(i:∀f v d,R f v d->e f v d){h:DL}{vs:VL}{d:aD}(m:TL R h vs d):TL e h vs d:=by
 induction m with
 |nil=>exact .nil
 |cons j _ k=>exact .cons (i _ _ _ j) k
def MJ{R:D->aE->List Nat->Prop}{d:DL}{vs:VL}{e:aD}(h:TL R d vs e):d.length=vs.length:=by
 induction h with
 |nil=>rfl
 |cons _ _ f=>simp[f]
def MI{R:D->aE->List Nat->Prop}{i:DL}{vs:VL}{f:aD}(k:TL R i vs f):∀(e:Nat)(d:D)(v:aE),i[e]?=E d->vs[e]?=E v->∃h,R d v h/\∀b∈h,b∈f:=by
 induction k with
 |nil=>intro e d v j;simp at j
 |cons j _ p=>
  intro e d v m o;exact Zg
def T1.tJ{w:aL}{p:D}{v:aE}{o:aD}(k:T1 w p v o):∃i,O1 p (.sc v) i/\(∀h∈i,T1 w h.d h.u h.F)/\bl i=o:=by
 cases k with
 |sc v=>exact⟨[],.sc v,Zs,A⟩
 |nil f=>exact⟨_,.sl f [] _ _ _ [],λh e=>by simp at e;subst e;exact .nil f,A⟩
 |fu f a j m=>exact⟨_,.sl f [] _ _ _ [],λh e=>by simp at e;subst e;exact .fu f a j m,A⟩
 |sl f q b j vs t I r y z m C x B G k=>exact⟨_,.sl f q _ _ _ _,λh e=>by simp at e;subst e;exact .sl f q b j vs t I r y z m C x B G k,Zs⟩
def MK{w:aL}{R:D->aE->List Nat->Prop}{Q:D->D->List TE->Prop}(y:∀h v i,R h v i->∃m e,Q h m e/\(∀k,Rd k m v)/\(∀f∈e,T1 w f.d f.u f.F)/\bl e=i){q:DL}{vs:VL}{i:aD}(o:TL R q vs i):
 ∃j e,OL Q q j e/\j.length=vs.length/\(∀k(p:Nat)(h:D)(v:aE),j[p]?=E h->vs[p]?=E v->Rd k h v)/\(∀f∈e,T1 w f.d f.u f.F)/\bl e=i:=by
 induction o with
 |nil=>exact⟨[],[],.nil,A,Zs,Zs,A⟩
 |cons o _ z=>
  obtain⟨m,e,t,I,J,x⟩:=y _ _ _ o;obtain⟨j,r,B,C,U,V,G⟩:=z;refine⟨m::j,e++r,.cons t B,by simp[C],λk p h v L S=>?_,λf O=>?_,by rw[sL,x,G]⟩
  .exact Zg
  .exact Zg
def T2.tJ{w:aL}{o:D}{v:aE}{m:aD}(f:T2 w o v m):∃q e,O2 o q e/\(∀h,Rd h q v)/\(∀p∈e,T1 w p.d p.u p.F)/\bl e=m:=by
 cases f with
 |one f=>
  obtain⟨e,i,j,k⟩:=f.tJ;exact⟨_,e,.one i,λh=>.sc v,j,k⟩
 |ag f=>
  obtain⟨x,e,i,j,k,r,t⟩:=MK (w:=w) (Q:=O1) (λo v m f=>let⟨e,i,j,k⟩:=T1.tJ f;⟨_,e,i,λh=>.sc v,j,k⟩) f;exact⟨_,e,.ag i,λh=>.ag _ _ j (k h),r,t⟩
def T3.tJ{w:aL}{k:D}{v:aE}{i:aD}(f:T3 w k v i):∃h e,O3 k h e/\(∀j,Rd j h v)/\(∀p∈e,T1 w p.d p.u p.F)/\bl e=i:=by
 cases f with
 |one f=>
  obtain⟨h,e,m,o⟩:=f.tJ;exact⟨h,e,.one m,o⟩
 |tp f=>
  obtain⟨x,e,m,o,q,r,t⟩:=MK (w:=w) (Q:=O2) (λk v i f=>T2.tJ f) f;exact⟨_,e,.tp m,λj=>.tp _ _ o (q j),r,t⟩
def T2.rd{w:aL}{M:cb}{g:dm}{q:b5}{e:D}{v:aE}{f:aD}(d:T2 w e v f)(h:∀b∈f,¬M b/\∀s r c,g s≠E (r,b,c)):Rd (view w M g q) e v:=by
 cases d with
 |one d=>exact d.rd h
 |ag d=>
  exact .ag _ _ (MJ d) λp e v m o=>by
   obtain⟨t,i,j⟩:=MI d p e v m o;exact i.rd λb k=>h b (j b k)
def T3.rd{w:aL}{M:cb}{g:dm}{q:b5}{e:D}{v:aE}{f:aD}(d:T3 w e v f)(h:∀b∈f,¬M b/\∀s r c,g s≠E (r,b,c)):Rd (view w M g q) e v:=by
 cases d with
 |one d=>exact d.rd h
 |tp d=>
  exact .tp _ _ (MJ d) λp e v m o=>by
   obtain⟨t,i,j⟩:=MI d p e v m o;exact i.rd λb k=>h b (j b k)
def kl:List TE->List D->List TE
 |e::T,d::ds=>{e with d}::kl T ds
 |_,_=>[]
def A7:∀(d:dd)(f:DL),f.length=d.length->bl (kl d f)=bl d
 |[],[],_=>rfl
 |i::d,h::f,e=>by
  have:=A7 d f (by simpa using e);simp only[bl,kl,List.flatMap_cons]at*;rw[this]
 |[],_::_,e=>by simp at e
 |_::_,[],e=>by simp at e
abbrev lu(w:aL)(M X:cb):Bs:={w:=w,M:=M,X:=X}
structure fk (P:ay) (f:bK) (dV:List D) (Ts:List TE) (ds:List D) (r:D):Prop where
 ok:lL P f
 len:ds.length=Ts.length
 run:∀(w:aL)(M:Nat->Prop)(vs:List aE),MB M w->dV.length=vs.length->
  (∀(i:Nat)(d:D)(v:aE),dV[i]?=E d->vs[i]?=E v->Rd (view w (λb=>M b\/∃e∈Ts,b∈e.F) (λ_=>aa) db) d v)->
  (∀e∈Ts,T1 w e.d e.u e.F/\∀b∈e.F,¬M b)->(bl Ts).Nodup->
  Calls P f vs.toArray w λe w'=>∃v,e=.returned v/\(lu w M λb=>∃e∈Ts,b∈e.F).Ok w'/\(∀e∈kl Ts ds,T1 w' e.d e.u e.F)/\∃F,T3 w' r v F/\F.Nodup/\∀b∈F,w.heap.size<=b
def mL{w i:aL}{M f:cb}(d:(lu w M f).Ok i)(j:∀b,¬f b):Below w.heap.size w i:=
 ⟨d.os,d.tape,d.output,d.size,λh k=>d.block h λe=>by rcases e with e|e;exact absurd e (by simp only;omega);exact j h e⟩
def Of{w e:aL}{M f:cb}(d:Below w.heap.size w e):(lu w M f).Ok e:=
 ⟨d.os,d.tape,d.output,d.size,λi h=>d.block i (Bs.r7 h)⟩
def kI{w:aL}{M e:cb}(h:∀b,e b->M b):(view w M (λ_=>aa) db).Ext (view w e (λ_=>aa) db):=
 ⟨λb i j f=>⟨dK (dr f) (λd=>(cR f).1 (h b d)) Zs,hM⟩,λ_=>b_ _,λ_ _ _ _ d _=>absurd d (ow _)⟩
def fk.sp{P:ay}{h:bK}{f:DL}{k:D}(i:fk P h f [] [] k):Sp P h f k:=
 ⟨i.ok,λw M vs j t u=>(i.run w M vs j t (λy m v p x=>(u y m v p x).mono (kI λb=>by exact Zg)) Zs Zs).mono
  λe B⟨v,q,d,_,A,o,_,r⟩=>⟨v,q,mL d Zs,o.rd λb d=>⟨λz=>by have:=j.1 b z;have:=r b d;omega,Zs⟩⟩⟩
def PJ{p:View}{w:aL}{o:D}{v:aE}(f:(mN o).isSome=ad)(y:Rd p o v):T3 w o v []:=by
 have z:∀(d:DL)(i vs:VL),d.mapM tT=E i->d.length=vs.length->(∀(k:Nat)(e:D)(v:aE),d[k]?=E e->vs[k]?=E v->Rd p e v)->TL (T2 w) d vs []:=by
  intro d
  induction d with
  |nil=>intro i vs _ h _;cases vs with|nil=>exact .nil|cons=>simp at h
  |cons e d x=>
   intro i vs f h j;cases vs with
   |nil=>simp at h
   |cons v vs=>
    rw[k_]at f;simp only[wg,iJ,wh,dy]at f;obtain⟨B,q,A,m,rfl⟩:=f;have r:=j 0 e v Zs Zs;cases e<;>simp[tT]at q;subst q;cases r;exact .cons (F:=[]) (.one (.sc _)) (x A vs m (by simpa using h) λk e v t u=>j (k+1) e v (by simpa using t) (by simpa using u))
 cases y<;>simp[mN]at f
 .exact .one (.one (.sc _))
 .rename_i d vs h j;obtain⟨i,m⟩:=pk.1 f;exact .tp (z d i vs m h j)
def Sp.g{P:ay}{h:bK}{f:DL}{e:D}(i:Sp P h f e)(d:(mN e).isSome=ad):fk P h f [] [] e:=
 ⟨i.ok,A,λw M vs k q r _ _=>(i.run w M vs k q (λu j v d t=>(r u j v d t).mono (kI λb x=>.inl x))).mono
  λy z⟨v,p,o,m⟩=>⟨v,p,Of o,by simp[kl],[],PJ d m,Zs,Zs⟩⟩
inductive Fb (H:Nat->Option Ob) (T:List TE):D->D->Prop
 |fz {d e:D} (h:Fz H d e):Fb H T d e
 |tr (f:TE) (h:f∈T):Fb H T (.sc f.u) f.d
 |ag (ds es:List D) (j:ds.length=es.length) (h:∀(i:Nat)(d e:D),ds[i]?=E d->es[i]?=E e->Fb H T d e):Fb H T (.ag ds) (.ag es)
def oy(P:ay)(H:bt)(T:dd)(f:bK)(dV:DL)(r:D):Prop:=
 (Sp P f dV r/\∀(i:Nat)(d:D),dV[i]?=E d->Cl d)\/
 ∃bs:DL,bs.length=dV.length/\(∀(i:Nat)(d e:D),dV[i]?=E d->bs[i]?=E e->Fb H T d e)/\Sp P f bs r/\(mN r).isSome=ad
def Ir(P:ay)(s:St)(g:bK)(args:DL)(dst:ON)(K:aU):Prop:=
 ∃(dV:DL)(Ts rest:dd)(ds:DL)(r:D),s.T.Perm (Ts++rest)/\dV.length=args.length/\(∀(i:Nat)(d e:D),args[i]?=E d->dV[i]?=E e->Fb s.H rest d e)/\
  fk P g dV Ts ds r/\∀(e:D)(f:dd),O3 r e f->∃h:dd,h.Perm (kl Ts ds++rest++f)/\K ({s with T:=h}.put dst e)
def gx(P:ay)(s:St)(f:bK)(args:DL)(dst:ON)(K:aU):Prop:=
 ∀(w0:Bs)(M:cb)(g:dm)(a:cq)(w:aL)(env:lf),aS w0 M g {s with env:=env} a w->∀vs:VL,args.length=vs.length->
  (∀(i:Nat)(d:D)(v:aE),args[i]?=E d->vs[i]?=E v->Rd (view w M g s.n) d v)->
  lL P f/\Calls P f vs.toArray w λe w'=>∃(v:aE)(d:D)(H:bt)(n:b5)(T:dd)(h:dm)(M':cb),e=.returned v/\
   aS w0 M' h {s with env:=env,H:=H,n:=n,T:=T} a w'/\Rd (view w' M' h n) d v/\K ({s with H:=H,n:=n,T:=T}.put dst d)
def jc(P:ay)(s:St)(f:D)(args:List D)(dst:Option Nat)(K:St->Prop):Prop:=
 match f with
 |.fn g first en=>(∃r,oy P s.H s.T g (first++args++en) r/\K (s.put dst r))\/Ir P s g (first++args++en) dst K\/gx P s g (first++args++en) dst K
 |_=>False
def pA(P:ay)(s:St)(f:D)(args:List D)(dst:Option Nat)(K:St->Prop):Prop:=
 match f with
 |.fn g first en=>∃r,oy P s.H s.T g (first++args++en) r/\K (s.put dst r)
 |_=>False
def ka(s:St)(dst:Option Nat)(K:St->Prop):Option D->Prop
 |some d=>K (s.put dst d)
 |none=>False
def ls(dst:Nat)(K:St->Prop):Option (Prop×St×D)->Prop
 |some (p,e,d)=>p/\K (e.put (E dst) d)
 |none=>False
def tV(dst:Option Nat)(K:St->Prop):Option (Prop×St)->Prop
 |some (p,d)=>p/\K (d.put dst (.sc (.tuple #[])))
 |none=>False
def ef(P:ay)(mu:List Nat)(op:eU)(dst:Option Nat)(K:St->Prop)(s:St):Prop:=
 match op with
 |.call c=>match c.callee with
  |.value f=>jc P s (s.ev f) (c.args.toList.map s.ev) dst K
  |.builtin .append=>match dst with|some t=>ls t K (fr P mu s t (.call c))|none=>False
  |_=>ka s dst K (eH P s (.call c))
 |.store ty x y=>tV dst K (kY P s (.store ty x y))
 |.mapUpdate ty m k v=>tV dst K (kY P s (.mapUpdate ty m k v))
 |.box e x=>match dst with|some t=>ls t K (fr P mu s t (.box e x))|none=>False
 |.alloc e=>match dst with|some t=>ls t K (fr P mu s t (.alloc e))|none=>False
 |.makeMap e r=>match dst with|some t=>ls t K (fr P mu s t (.makeMap e r))|none=>False
 |.buildSlice ty l d=>match dst with|some t=>ls t K (fr P mu s t (.buildSlice ty l d))|none=>False
 |.makeSlice ty l c=>match dst with|some t=>ls t K (fr P mu s t (.makeSlice ty l c))|none=>False
 |op=>ka s dst K (eH P s op)
def nj(P:ay)(op:eU)(dst:Option Nat)(K:St->Prop)(s:St):Prop:=
 match op with
 |.call c=>match c.callee with
  |.value f=>pA P s (s.ev f) (c.args.toList.map s.ev) dst K
  |_=>ka s dst K (eH P s (.call c))
 |op=>ka s dst K (eH P s op)
def lo(ds:List (ON))(s:St)(j:Nat):D:=match ds[j]? with|some (E t)=>if t<s.nt then s.env t else .any|_=>.any
def fE(l:gY):List (ON):=l.map (·.dst)
def ij(d:D)(f:Bool)(e skip:St->Prop)(s:St):Prop:=
 match d with
 |.sc (.bool b)=>if b=f then e s else skip s
 |.sc (.tuple _)=>skip s
 |_=>False
def sb(dst:ON)(K:aU)(s:St):Prop:=K (s.put dst (.sc (.tuple #[])))
def GK(K:aU)(s:St):Prop:=∀(w0:Bs)(M:cb)(g:dm)(a:cq)(w:aL),aS w0 M g s a w->∃s' d M',K s'/\aS w0 M' d s' a w
def GK.intro{K:aU}{s:St}(d:K s):GK K s:=λ_ _ _ _ _ e=>⟨_,_,_,d,e⟩
def GK.mono{K d:aU}(k:∀s,K s->d s){s:St}(h:GK K s):GK d s:=λw0 M g a w m=>let⟨o,f,e,i,j⟩:=h w0 M g a w m;⟨o,f,e,k _ i,j⟩
def GK.join{K:aU}{s:St}(d:GK (GK K) s):GK K s:=λw0 M g a w h=>let⟨_,_,_,e,f⟩:=d w0 M g a w h;e _ _ _ _ _ f
def aS.perm{w0:Bs}{M:cb}{g:dm}{s:St}{a:cq}{w:aL}(d:aS w0 M g s a w){T:dd}(h:T.Perm s.T):aS w0 M g {s with T:=T} a w:=
 ⟨d.defers,d.size,d.env,d.obj,d.base,d.inj,d.below,d.m0,λb=>(d.mm b).trans (or_congr Iff.rfl ⟨λ⟨e,f,i⟩=>⟨e,h.mem_iff.2 f,i⟩,λ⟨e,f,i⟩=>⟨e,h.mem_iff.1 f,i⟩⟩),d.zm,λe f=>d.tree e (h.mem_iff.1 f),(h.flatMap_right _).symm.nodup d.nd,d.og,d.wm⟩
def GK.perm{K:aU}{s:St}{T:dd}(e:s.T.Perm T)(d:GK K {s with T:=T}):GK K s:=λw0 M g a w f=>d w0 M g a w (f.perm e.symm)
def gh:List Nat->Option Nat->Bool
 |[],_=>al
 |_::_,aa=>al
 |x::l,E t=>x==t+1000000||gh l (E t)
def uZ(b:Bool)(X:aU)(s:St):Prop:=match b with|true=>GK X s|false=>X s
def k6(P:ay)(mu:List Nat)(ops:List (Option Nat)):List da->(St->Prop)->St->Prop
 |[],K,s=>K s
 |o::rest,K,s=>
  match o.guard with
  |none=>uZ (gh mu o.dst) (ef P mu o.op o.dst (k6 P mu ops rest K)) s
  |some (j,d)=>ij (lo ops s j) d (ef P mu o.op o.dst (k6 P mu ops rest K)) (sb o.dst (k6 P mu ops rest K)) s
def mC(step:da->(St->Prop)->St->Prop):List da->(St->Prop)->St->Prop
 |[],K,s=>K s
 |o::l,K,s=>step o (mC step l K) s
def MA(P:ay)(ops:List (Option Nat))(o:da)(K:St->Prop)(s:St):Prop:=
 match o.guard with
 |none=>nj P o.op o.dst K s
 |some (j,d)=>ij (lo ops s j) d (nj P o.op o.dst K) (sb o.dst K) s
def vS(P:ay)(ops:List (ON)):List da->(aU)->St->Prop:=mC (MA P ops)
def ki(next:St->Prop)(Q:gk->St->Prop):gk->St->Prop
 |.normal,s=>next s
 |e,s=>Q e s
def nG(id:Nat)(Q:gk->St->Prop):gk->St->Prop
 |.exit d,s=>if d=id then Q .normal s else Q (.exit d) s
 |e,s=>Q e s
def oO(d:D)(X e:St->Prop)(s:St):Prop:=
 match d with
 |.sc (.bool b)=>(b=ad->X s)/\(b=al->e s)
 |_=>False
def rI(P:ay)(ops:f_)(K:aU)(s:St):Prop:=
 P.follows .mixedOrders=ad/\∀(w0:Bs)(M:cb)(g:dm)(a:cq)(w:aL)(Q:gk->cq->aL->Prop),(∀a w,(∃s g M,K s/\aS w0 M g s a w)->Q .normal a w)->aS w0 M g s a w->
  wpAny P .any ops Q ops.size (Array.replicate ops.size al) a w
def J9:eU->Bool
 |.buildSlice ..|.box ..|.alloc ..|.store ..=>ad
 |.call c=>(match c.callee with|.builtin .append=>ad|_=>al)
 |_=>al
def Ai:List da->Bool
 |[]=>al
 |o::l=>J9 o.op||Ai l
def pS(L:aD)(dst:ON):Bool:=match dst with|some t=>L.contains t|none=>al
def ma:eU->Nat
 |.load ..=>1
 |.buildSlice ..=>3
 |.alloc ..=>3
 |.store ..=>4
 |.lookup ..|.convert ..|.box ..|.makeMap ..|.makeSlice ..|.mapUpdate ..=>5
 |.call c=>match c.callee with|.value _=>2|.builtin .append=>4|_=>0
 |_=>0
def uP(md:Region.Mode)(ops:Array da):Nat->Nat->Nat->Bool
 |0,_,_=>al
 |f+1,j,i=>match ops[j]? with
  |some d=>d.after.any λe=>Region.binds md e&&(e.on==i||uP md ops f e.on i)
  |none=>al
def qq(P:ay)(_:aD)(ops:f_)(K:aU)(s:St):Prop:=rI P ops K s
def vf(F:(St->Prop)->St->Prop):Nat->St->Prop
 |0=>λ_=>False
 |n+1=>F (vf F n)
def KU(F:(aU)->aU)(s:St):Prop:=∃n,vf F n s
def KV(F:(gw)->aU)(Q:gw)(s:St):Prop:=KU (λI=>F (ki (GK I) Q)) s
def vc(P:ay)(mu:List Nat):dH->(gk->St->Prop)->St->Prop
 |.skip,Q,s=>Q .normal s
 |.region _ ops d,Q,s=>if d then rI P ops (Q .normal) s else k6 P mu (fE ops.toList) ops.toList (Q .normal) s
 |.seq a b,Q,s=>vc P mu a (ki (vc P mu b Q) Q) s
 |.cond c x y,Q,s=>oO (s.ev c) (vc P mu x Q) (vc P mu y Q) s
 |.block id c,Q,s=>vc P mu c (nG id Q) s
 |.loop c,Q,s=>KV (vc P mu c) Q s
 |.exit id,Q,s=>Q (.exit id) s
 |.ret,Q,s=>Q .ret s
 |_,_,_=>False
section
variable{P:ay}{w0:Bs}{M:cb}{g:dm}{s:St}{a:cq}{w:aL}
def yN{e:Array MapEntry}{d:Nat}{key val:aE}(h:(e.toList.map (·.born)).Nodup)(i:∀f∈e.toList,f.born<d):((e.push {key,val,born:=d}).toList.map (·.born)).Nodup/\∀f∈(e.push {key,val,born:=d}).toList,f.born<d+1:=by
 exact Zg
def Eu(k:aS w0 M g s a w){o:da}{a2:Prop}{a4:St}(d:kY P s o.op=E (a2,a4))(aO:a2):
 ∃w',(dl a.eval o).run P w=.ok .skip w'/\aS w0 M g a4 a w':=by
 unfold kY at d;split at d
 .rename_i bD x q au;split at d
  .rename_i aQ aR m aA br ak a_ bj;split at d
   .rename_i e L;split at d
    .rename_i V;obtain⟨V,J⟩:=V;cases d;obtain⟨bC,a3,bs⟩:=aO;have ay:=k.ev x;rw[ak]at ay;generalize bo:a.eval x=bG at ay;cases ay with|rf _ _ _ bx bB ay=>
     obtain⟨aT,b,c,vs,I,r,B,ah,aE,jY⟩:=k.obj aQ e L;have B:=B J;have r:=r.cells J;have:=ay b c (by rw[<-V];exact I);subst this;obtain⟨ab,k2⟩:=Ce a_ (k.ev q);have bl:∀v∈(a.eval q).cells.toList,v.oneCell'=ad:=by
      intro v bn;obtain⟨j,hj,rfl⟩:=dG bn;have aV:j<aA.length:=by simpa[ab]using hj
      obtain⟨u,am,az⟩:=k2 j _ (bR aV);have:u=(a.eval q).cells.toList[j]:=by
       have G:(a.eval q).cells.toList[j]?=E u:=by simpa using am
       rw[bR hj]at G;exact(sC G).symm
      rw[<-this];exact Lz (b6.1 bs _ (ax aV)) az
     have aC:m+0+(a.eval q).cells.toList.length<=vs.size:=by simp;omega
     have aY:=run_storeCells_at P b m e.elem (a.eval q).cells.toList 0 vs w r aC bl;simp only[kL]at aY aC;have aX:(vs.toList.take m++(a.eval q).cells.toList++vs.toList.drop (m+(a.eval q).cells.toList.length)).toArray.size=vs.size:=by simp at aC⊢;omega
     have bm:(vs.toList.take m).length=m:=by simp at aC⊢;omega
     refine⟨w.setRow b (vs.toList.take m++(a.eval q).cells.toList++vs.toList.drop (m+(a.eval q).cells.toList.length)).toArray,?_,?_⟩
     .have bk:¬(a.eval q).cells.size≠br:=Zo;simp only[dl,au,bo,Instr.storeAt,Instr.sureAddr,storeVar,eW,Sem.run_pure,gl,kZ bj];rw[av bk,aY];rfl
     .refine(k.write aQ b c _ e {e with cells:=na e.cells m aA} L I A (λh y=>setRow_other w b h _ y) (.of (setRow_heap w b vs _ _ _ r) J) (λ_=>by rw[aX];exact B) ah ?_ (λj O hj=>?_) A A A Zs).1
      .rw[aX];show(na e.cells m aA).length<=_;rw[Mr _ _ _ a3];exact aE
      .have ar:=hj;rw[Mq _ _ _ _ a3]at ar;rw[wa];by_cases aU:m<=j/\j<m+aA.length
       .rw[aM aU]at ar;obtain⟨u,am,az⟩:=k2 _ O ar;refine⟨u,?_,az⟩;rw[dM,jv Zo,bm,jR de];simpa using am
       .rw[av aU]at ar;obtain⟨u,am,az⟩:=jY j O ar;refine⟨u,?_,az⟩;by_cases bi:j<m
        .rw[dM,jR Zo,sA,aM bi];simpa using am
        .rw[jv de,List.getElem?_drop];have:m+(a.eval q).cells.toList.length+(j-(vs.toList.take m++(a.eval q).cells.toList).length)=j:=by simp;omega
         rw[this];simpa using am
    .cases d
   .cases d
  .cases d
 .rename_i aQ aI h v au;split at d
  .rename_i an aR p a0 bw aN y aJ;split at d
   .rename_i e L;split at d
    .rename_i bq J;split at d
     .rename_i hc;obtain⟨V,aW⟩:=hc;have z:=k.ev aI;rw[aN]at z;have X:=k.ev h;rw[y]at X;have aZ:=k.ev v;generalize aF:a.eval aI=bv at z;generalize aD:a.eval h=bu at X;cases X;obtain⟨aT,b,c,vs,I,r,_,ah,aE,jY⟩:=k.obj an e L;cases z with|mp _ _ C _ z=>
      have:=z b c (by rw[<-V];exact I);subst this;obtain⟨a1,a6,F,aH,R,bd,bp⟩:=K2 aJ;unfold gH at r;rw[J]at r;obtain⟨f,i,D,rfl,B,ai,Z⟩:=r;cases aq:mO a0 p (f.toList.map (·.key))with
      |none=>rw[aq]at d;cases d
      |some bt=>
       rw[aq]at d;rcases CG a0 p f.toList bt aq 0 with⟨rfl,ae⟩|⟨j,U,rfl,ae,a7,a8⟩
       .simp only[vy,dy,Prod.mk.injEq]at d;obtain⟨rfl,rfl⟩:=d;refine⟨{w with heap:=w.heap.setIfInBounds C (.map (f.push {key:=p,val:=a.eval v,born:=i}) (i+1))},?_,?_⟩
        .simp only[dl,au,aF,aD,Instr.mapUpdate,eW,dU aH,MapKept.run_getObj_map D,gl,MapKept.run_checkKey R (Ds aW),MapKept.run_findKey R ae,MapKept.run_setObj_map _ D];rfl
        .have S:=MapKept.heap_set (o':=.map (f.push {key:=p,val:=a.eval v,born:=i}) (i+1)) D;have aw:vs.size=e.cells.length:=by
          have G:(f.toList.map (·.val)).length=vs.toList.length:=by rw[B]
          simp only[bW,qV]at G;simp only[bW,qV]at aO;omega
         refine(k.write (w':={w with heap:=w.heap.setIfInBounds C (.map (f.push {key:=p,val:=a.eval v,born:=i}) (i+1))}) an C c (vs.push (a.eval v)) e {e with keys:=E (f.toList.map (·.key)++[p]),cells:=e.cells++[s.ev v]} L I A (λh y=>S.2 h y) ⟨_,_,S.1,Zs,by simp[B],(yN ai Z).1,(yN ai Z).2⟩ (λh=>by cases h) ah (by simp[aw]) (λj O hj=>?_) A A A Zs).1;by_cases aL:j<e.cells.length
         .rw[jR aL]at hj;obtain⟨u,ab,k2⟩:=jY j O hj;exact⟨u,by rw[Array.getElem?_push,av Zo];exact ab,k2⟩
         .rw[jv Zo]at hj;have aK:j=e.cells.length:=by
           have:=(ej.1 hj).1;simp at this;omega
          subst aK;simp at hj;subst hj;exact⟨a.eval v,by rw[Array.getElem?_push,aM aw.symm],aZ⟩
       .simp only[vy,dy,Prod.mk.injEq]at d;obtain⟨rfl,rfl⟩:=d;obtain⟨ba,a9⟩:=U7 a8;have aB:f[j]?=E U:=by simpa using ae
        have bg:(Instr.keyThatStays U.key p).run P w=.ok p w:=by simp[Instr.keyThatStays,a9]
        have aG:(f.modify j λx=>{x with key:=p,val:=a.eval v}).toList=f.toList.set j {U with key:=p,val:=a.eval v}:=by
         apply List.ext_getElem?;intro F;rw[vX,Array.getElem?_modify,List.getElem?_set];by_cases t:j=F
         .subst t;obtain⟨Y,ap⟩:=iY.1 aB;simp[Y,ap]
         .simp[t]
        refine⟨{w with heap:=w.heap.setIfInBounds C (.map (f.modify j λx=>{x with key:=p,val:=a.eval v}) i)},?_,?_⟩
        .have bc:((f[j]?).map (·.key)).getD p=U.key:=by rw[aB];rfl
         simp only[dl,au,aF,aD,Instr.mapUpdate,eW,dU aH,MapKept.run_getObj_map D,gl,MapKept.run_checkKey R (Ds aW),MapKept.run_findKey R a7,ek,bc,bg,MapKept.run_setObj_map _ D];rfl
        .have S:=MapKept.heap_set (o':=.map (f.modify j λx=>{x with key:=p,val:=a.eval v}) i) D;refine(k.write (w':={w with heap:=w.heap.setIfInBounds C (.map (f.modify j λx=>{x with key:=p,val:=a.eval v}) i)}) an C c (vs.setIfInBounds j (a.eval v)) e {e with cells:=e.cells.set j (s.ev v)} L I A (λh y=>S.2 h y) ?_ (λh=>by rw[J]at h;cases h) ah (by simpa using aE) (λF O be=>?_) A A A Zs).1
         .unfold gH;simp only[J];refine⟨_,_,S.1,?_,?_,?_,?_⟩
          .rw[aG,List.map_set];rw[<-ba];refine List.ext_getElem? λF=>?_;rw[List.getElem?_set];by_cases t:j=F
           .subst t;obtain⟨Y,ap⟩:=iY.1 aB;simp[Y,ap]
           .simp[t]
          .rw[aG,List.map_set,B];simp
          .rw[aG,List.map_set];rw[show(f.toList.map (·.born)).set j U.born=f.toList.map (·.born)from List.ext_getElem? λF=>by
            rw[List.getElem?_set];by_cases t:j=F
            .subst t;obtain⟨Y,ap⟩:=iY.1 aB;simp[Y,ap]
            .simp[t]]
           exact ai
          .intro x ak;rw[aG]at ak;rcases List.mem_or_eq_of_mem_set ak with ak|rfl
           .exact Z x ak
           .exact Z U (eg ae)
         .have W:=be;rw[List.getElem?_set]at W;have bf:j<vs.size:=by
           have G:(f.toList.map (·.val)).length=vs.toList.length:=by rw[B]
           have Y:=(ej.1 ae).1;simp only[bW,qV]at G Y;omega
          by_cases t:j=F
          .subst t;rw[aM A]at W;split at W
           .cases W;exact⟨a.eval v,by simp[bf],aZ⟩
           .cases W
          .rw[av t]at W;obtain⟨u,ab,k2⟩:=jY F O W;exact⟨u,by rw[Array.getElem?_setIfInBounds_ne t];exact ab,k2⟩
     .cases d
    .cases d
   .cases d
  .rename_i an aR b bz aN y;split at d
   .rename_i bw e aJ L;split at d
    .rename_i bq J;split at d
     .rename_i hc;obtain⟨V,aq⟩:=hc;simp only[dy,Prod.mk.injEq]at d;obtain⟨rfl,rfl⟩:=d;have z:=k.ev aI;rw[aN]at z;have X:=k.ev h;rw[y]at X;generalize aF:a.eval aI=bv at z;generalize aD:a.eval h=bu at X;cases X with|pa _ _ bF bA bh G ae=>
      obtain⟨aT,a5,c,vs,I,r,_,ah,aE,jY⟩:=k.obj an e L;cases z with|mp _ _ C _ z=>
      have:=z a5 c (by rw[<-V];exact I);subst this;obtain⟨a1,a6,F,aH,R,bd,bp⟩:=K1 aJ;unfold gH at r;rw[J]at r;obtain⟨f,i,D,rfl,B,ai,Z⟩:=r;have a':∀c∈e.cells,∃u,Rd (view w M g s.n) c u:=λc hc=>by
       exact FB
      have bb:(Instr.findAsking a1 (.pointer (E ⟨b,0,aa⟩)) f.toList 0).run P w=.ok aa w:=by
       rcases Dv (w':=w) k R bh (Below.refl _ _) f.toList e.cells aa 0 aq a' with⟨_,aP⟩|⟨j,U,aP,_⟩
       .exact aP
       .cases aP
      refine⟨{w with heap:=w.heap.setIfInBounds C (.map (f.push {key:=.pointer (E ⟨b,0,aa⟩),val:=a.eval v,born:=i}) (i+1))},?_,?_⟩
      .simp only[dl,au,aF,aD,Instr.mapUpdate,eW,dU aH,MapKept.run_getObj_map D,gl,Mi R,Ml R,bb,MapKept.run_setObj_map _ D];rfl
      .have S:=MapKept.heap_set (o':=.map (f.push {key:=.pointer (E ⟨b,0,aa⟩),val:=a.eval v,born:=i}) (i+1)) D;have aw:vs.size=e.cells.length:=by
        have G:(f.toList.map (·.val)).length=vs.toList.length:=by rw[B]
        simp only[bW,qV]at G;simp only[bW,qV]at aO;omega
       refine(k.write (w':={w with heap:=w.heap.setIfInBounds C (.map (f.push {key:=.pointer (E ⟨b,0,aa⟩),val:=a.eval v,born:=i}) (i+1))}) an C c (vs.push (a.eval v)) e {e with keys:=E (f.toList.map (·.key)++[.pointer (E ⟨b,0,aa⟩)]),cells:=e.cells++[s.ev v]} L I A (λh y=>S.2 h y) ⟨_,_,S.1,Zs,by simp[B],(yN ai Z).1,(yN ai Z).2⟩ (λh=>by cases h) ah (by simp[aw]) (λj O hj=>?_) A A A Zs).1;by_cases aL:j<e.cells.length
       .rw[jR aL]at hj;obtain⟨u,ab,k2⟩:=jY j O hj;exact⟨u,by rw[Array.getElem?_push,av Zo];exact ab,k2⟩
       .rw[jv Zo]at hj;have aK:j=e.cells.length:=by
         have:=(ej.1 hj).1;simp at this;omega
        subst aK;simp at hj;subst hj;exact⟨a.eval v,by rw[Array.getElem?_push,aM aw.symm],k.ev v⟩
     .cases d
    .cases d
   .cases d
  .cases d
 .cases d
end
section
variable{P:ay}{w0:Bs}{M:cb}{g:dm}{s:St}{a:cq}{w:aL}
def Ct{p q:View}{d:D}{v:aE}(h:(mN d).isSome=ad)(B:Rd p d v):Rd q d v:=by
 cases B<;>simp[mN]at h
 .exact .sc _
 .rename_i f vs t x;obtain⟨i,k⟩:=pk.1 h;refine .tp f vs t λe d v o y=>?_;have C:∀(f:DL)(i:VL),f.mapM tT=E i->∀(e:Nat)(d:D),f[e]?=E d->∃m,d=.sc m:=by
   intro f
   induction f with
   |nil=>intro i _ e d h;simp at h
   |cons r f z=>
    intro i h e d j;rw[k_]at h;simp only[wg,iJ,wh,dy]at h;obtain⟨m,u,F,k,rfl⟩:=h;cases e with
    |zero=>
     simp at j;subst j;cases r<;>simp[tT]at u;exact⟨_,A⟩
    |succ e=>exact z F k e d (by simpa using j)
  obtain⟨m,rfl⟩:=C f i k e d o;have:=x e _ v o y;cases this;exact .sc _
def Fb.rd(f:aS w0 M g s a w){k i:dd}(q:s.T.Perm (i++k)){m d:D}(h:Fb s.H k m d):∀{v:aE},Rd (view w M g s.n) m v->Rd (view w (λb=>w0.M b\/∃d∈i,b∈d.F) (λ_=>aa) db) d v:=by
 induction h with
 |fz h=>
  intro v e;refine(Rd.freeze f h e).mono (kI λb r=>(f.mm b).2 ?_);exact Zg
 |tr G A=>
  intro v e;cases e;obtain⟨x,y⟩:=f.tree G (q.mem_iff.2 (eN _ A));refine x.rd λb z=>⟨?_,Zs⟩;rintro(r|⟨d,o,I⟩)
  .exact f.zm.1 b r (y b z)
  .have O:(bl (i++k)).Nodup:=(q.flatMap_right _).nodup f.nd;exact Zg
 |ag t u J h C=>
  intro v e;cases e with|ag _ vs L e=>
  refine .ag u vs Zo λj d v o B=>?_;have p:j<t.length:=by exact Zg
  exact C j _ d (bR p) o (e j _ v (bR p) B)
def Iu(f:aS w0 M g s a w){t:bK}{p:DL}{C:D}(i:oy P s.H s.T t p C){vs:VL}(O:p.length=vs.length)
 (B:∀(h:Nat)(m:D)(v:aE),p[h]?=E m->vs[h]?=E v->Rd (view w M g s.n) m v):
 lL P t/\Calls P t vs.toArray w λe r=>∃v,e=.returned v/\Below w.heap.size w r/\Rd (view r M g s.n) C v:=by
 rcases i with⟨i,I⟩|⟨bs,G,L,i,J⟩
 .refine⟨i.ok,(i.run w (λb=>M b\/∃o k c,g o=E (k,b,c)) vs ?_ O λh m v z y=>?_).mono λe r⟨v,j,x,u⟩=>⟨v,j,x,u.mono ?_⟩⟩
  .refine⟨?_,.inl f.jr.1,f.jr.2⟩;rintro b(d|⟨o,k,c,d⟩)
   .exact(f.m0 b d).1
   .exact(f.base _ _ _ _ d).2
  .refine(B h m v z y).closed (λb U V e=>⟨?_,hM⟩) (I h m z);obtain⟨q,S⟩:=cR e;exact dK (dr e) (λd=>d.elim q λ⟨o,k,c,d⟩=>S _ _ _ d) Zs
  .refine⟨λb U V e=>⟨?_,hM⟩,λ_=>iy _,λs k b c R e=>absurd R (ow _)⟩;obtain⟨q,_⟩:=cR e;exact dK (dr e) (λd=>q (.inl d)) λo k c d=>q (.inr ⟨o,k,c,d⟩)
 .refine⟨i.ok,(i.run w (λb=>w0.M b\/∃e∈([]:dd),b∈e.F) vs ?_ Zo λh e v j y=>?_).mono λe r⟨v,j,x,u⟩=>⟨v,j,x,Ct J u⟩⟩
  .refine⟨?_,.inl f.zm.2.1,f.jr.2⟩;rintro b(d|⟨_,d,_⟩)
   .exact(f.m0 b ((f.mm b).2 (.inl d))).1
   .cases d
  .have A:h<p.length:=by rw[<-G];exact(ej.1 j).1
   exact(L h _ e (bR A) j).rd f (List.Perm.refl _) (B h _ v (bR A) y)
def LQ(w0:Bs)(Q:gw):gk->cq->aL->Prop:=λe a w=>∃s g M,Q e s/\aS w0 M g s a w
def LK(w0:Bs)(K:aU):cq->aL->Prop:=λa w=>∃s g M,K s/\aS w0 M g s a w
def aS.called(f:aS w0 M g s a w){i t:dd}(q:s.T.Perm (i++t)){r:DL}(X:r.length=i.length){x:aL}(p:(lu w w0.M λb=>∃e∈i,b∈e.F).Ok x)(ak:∀e∈kl i r,T1 x e.d e.u e.F)
 {m:dd} (U:∀C∈m,T1 x C.d C.u C.F) (O:(bl m).Nodup) (G:∀b∈bl m,w.heap.size<=b) {D:dd} (S:D.Perm (kl i r++t++m)):
 aS w0 (λb=>M b\/b∈bl m) g {s with T:=D} a x:=by
 have I:∀b,(∃e∈i,b∈e.F)->M b:=λb⟨e,he,h⟩=>(f.mm b).2 (.inr ⟨e,q.mem_iff.2 (eE _ he),h⟩);have z:∀b,b<w.heap.size->¬(∃e∈i,b∈e.F)->x.heap[b]?=w.heap[b]?:=λb h O=>p.block b λk=>by
  rcases k with k|k
  .exact absurd k (by simp only;omega)
  .exact O k
 have Z:∀o j b c,g o=E (j,b,c)->¬M b:=λo j b c e k=>(f.m0 b k).2 _ _ _ e;have B:(view w M g s.n).Ext (view x (λb=>M b\/b∈bl m) g s.n):=by
  refine⟨λb av aw e=>⟨?_,λ⟨au,y,aq⟩=>⟨au,y,(z b (mx (dr e)) λk=>(cR e).1 (I b k)).trans aq⟩⟩,λ_=>b_ _,λ_ _ _ _ _ e=>e⟩;have h:=mx (dr e);refine dK ((oK (z b h λk=>(cR e).1 (I b k))).trans (dr e)) ?_ (cR e).2;rintro(k|k)
  .exact(cR e).1 k
  .have:=G b k;omega
 have R:(bl (i++t)).Nodup:=(q.flatMap_right _).nodup f.nd;have V:bl (kl i r++t++m)=bl (i++t)++bl m:=by rw[sL,sL,sL,A7 i r X]
 have ab:∀b,b∈bl (i++t)->b<w.heap.size:=λb h=>by
  obtain⟨e,he,h⟩:=mX.1 h;exact(f.tree e (q.mem_iff.2 he)).1.lt b h
 refine⟨f.defers,f.size,λan=>(f.env an).mono B,λo ap ah=>(f.obj o ap ah).mono B λj b c e=>⟨e,z b (f.base _ _ _ _ e).2 λk=>Z _ _ _ _ e (I b k)⟩,
  λo j b c e=>⟨(f.base o j b c e).1,gv (f.base o j b c e).2 p.size⟩,f.inj,f.below.step p.os p.tape p.output p.size λk W=>?_,λb k=>?_,λb=>?_,f.zm,λe he=>?_,?_,?_,f.wm⟩
 .exact z k (gv (Bs.r7 W) f.below.size) λ⟨e,he,h⟩=>W ((f.tree e (q.mem_iff.2 (eE _ he))).2 k h)
 .rcases k with k|k
  .exact⟨gv (f.m0 b k).1 p.size,(f.m0 b k).2⟩
  .obtain⟨C,ai,h⟩:=mX.1 k;exact⟨(U C ai).lt b h,λo j c e=>by have:=(f.base _ _ _ _ e).2;have:=G b k;omega⟩
 .have ae:(∃e∈D,b∈e.F)↔(∃e∈s.T,b∈e.F)\/b∈bl m:=by
   rw[<-mX,<-mX,(S.flatMap_right (λe:TE=>e.F)).mem_iff,(q.flatMap_right (λe:TE=>e.F)).mem_iff];show b∈bl _↔b∈bl _\/_;rw[V,cg]
  show _↔_\/(∃e∈D,b∈e.F);rw[ae,f.mm b,or_assoc]
 .rcases cg.1 (S.mem_iff.1 he)with he|he
  .rcases cg.1 he with he|he
   .refine⟨ak e he,λb h=>?_⟩;have:b∈bl i:=by rw[<-A7 i r X];exact mX.2 ⟨e,he,h⟩
    obtain⟨y,L,J⟩:=mX.1 this;exact(f.tree y (q.mem_iff.2 (eE _ L))).2 b J
   .obtain⟨Y,ar⟩:=f.tree e (q.mem_iff.2 (eN _ he));refine⟨Y.mono λb h=>z b (Y.lt b h) λ⟨y,L,J⟩=>?_,ar⟩;rw[sL,gR]at R;exact R.2.2 b (mX.2 ⟨y,L,J⟩) b (mX.2 ⟨e,he,h⟩) A
  .exact⟨U e he,λb h=>.inl (fY f.below.size (G b (mX.2 ⟨e,he,h⟩)))⟩
 .refine(S.flatMap_right _).symm.nodup ?_;show(bl _).Nodup;rw[V,gR];exact⟨R,O,λj B ax am e=>by subst e;have:=ab j B;have:=G j am;omega⟩
 .exact f.og.ext B
def OR(d:aS w0 M g s a w){k:bK}{args:DL}{dst:ON}{K:aU}(z:Ir P s k args dst K){vs:VL}(ae:args.length=vs.length)
 (S:∀(h:Nat)(i:D)(v:aE),args[h]?=E i->vs[h]?=E v->Rd (view w M g s.n) i v):
 lL P k/\Calls P k vs.toArray w λe u=>∃v,e=.returned v/\LK w0 K (a.put dst v) u:=by
 obtain⟨Y,y,V,Z,ah,j,ab,G,p,C⟩:=z;refine⟨p.ok,(p.run w w0.M vs ⟨λb q=>(d.m0 b ((d.mm b).2 (.inl q))).1,d.zm.2.1,d.jr.2⟩ Zo (λh e v f U=>?_) (λe f=>?_) ?_).mono λe u⟨v,f,L,R,W,B,t,I⟩=>⟨v,f,?_⟩⟩
 .have r:h<args.length:=by have:=(ej.1 f).1;omega
  exact(G h _ e (bR r) f).rd d j (S h _ v (bR r) U)
 .obtain⟨m,o⟩:=d.tree e (j.mem_iff.2 (eE _ f));exact⟨m,λb F q=>d.zm.1 b q (o b F)⟩
 .have t:(bl (y++V)).Nodup:=(j.flatMap_right _).nodup d.nd;exact Zg
 .obtain⟨i,x,m,o,A,rfl⟩:=B.tJ;obtain⟨X,O,J⟩:=C i x m;exact⟨_,_,_,J,(d.called j p.len L R A t I O).put (o _) dst⟩
def yS{o:da}{c:Call}{f:eV}{d:bK}{first en:VL}(u:o.op=.call c)(p:c.callee=.value f)(t:a.eval f=.func (.func d) first.toArray en.toArray)(q:lL P d)(w:aL):
 (dl a.eval o).run P w=.ok (.enter d (first++c.args.toList.map a.eval++en).toArray) w:=by
 obtain⟨e,i,j,x⟩:=q;have h:(first.toArray++c.args.map a.eval++en.toArray)=(first++c.args.toList.map a.eval++en).toArray:=by exact Zg
 have k:e.name≠ "runtime.NumGoroutine":=by simpa using j
 have m:e.body≠aa:=by exact Zg
 have r:(callFunc d (first++c.args.toList.map a.eval++en).toArray).run P w=.ok (.enter d (first++c.args.toList.map a.eval++en).toArray) w:=by
  simp[callFunc,i,k,m]
 simp only[dl,u,eW,resolve,p,t,Deferred.ofValue,Sem.run_pure,gl,invoke];rw[h];exact r
def CN{i:View}{k:bK}{first j:DL}{v:aE}(m:Rd i (.fn k first j) v):∃f h:VL,v=.func (.func k) f.toArray h.toArray/\first.length=f.length/\j.length=h.length/\
 (∀(e:Nat)(d:D)(v:aE),first[e]?=E d->f[e]?=E v->Rd i d v)/\∀(e:Nat)(d:D)(v:aE),j[e]?=E d->h[e]?=E v->Rd i d v:=by
 cases m with|fn _ _ _ f h o p q r=>exact⟨f,h,A,o,p,q,r⟩
def yB{i:View}{f bs:DL}{h vs:VL}(j:f.length=h.length)(k:∀(e:Nat)(d:D)(v:aE),f[e]?=E d->h[e]?=E v->Rd i d v)
 (m:bs.length=vs.length) (o:∀(e:Nat)(d:D)(v:aE),bs[e]?=E d->vs[e]?=E v->Rd i d v):
 (f++bs).length=(h++vs).length/\∀(e:Nat)(d:D)(v:aE),(f++bs)[e]?=E d->(h++vs)[e]?=E v->Rd i d v:=by
 exact Zg
def AB(h:aS w0 M g s a w){e:da}{K:aU}{Q:gk->cq->aL->Prop}(d:ka s e.dst K (eH P s e.op)):e.wp P a w (LK w0 K) Q:=by
 cases f:eH P s e.op with
 |none=>rw[f]at d;exact d.elim
 |some k=>
  rw[f]at d;obtain⟨v,i,j⟩:=Er h f;have:=j w (Below.refl _ _);simp only[Oper.wp,this,Oper.upon_value];exact⟨_,g,M,d,h.put i _⟩
def vk(m:aS w0 M g s a w){mu:aD}{o:da}{e:Nat}(p:o.dst=E e){K:aU}{Q:gk->cq->aL->Prop}(d:ls e K (fr P mu s e o.op)):o.wp P a w (LK w0 K) Q:=by
 cases f:fr P mu s e o.op with
 |none=>rw[f]at d;exact d.elim
 |some q=>
  obtain⟨t,u,r⟩:=q;rw[f]at d;obtain⟨v,x,h,i,j,k⟩:=Mz m f d.1;simp only[Oper.wp,i,Oper.upon_value];exact⟨_,h,M,d.2,by rw[p];exact j.put k _⟩
def yd(d:aS w0 M g s a w){mu:aD}{o:da}{K:aU}{Q:gk->cq->aL->Prop}(h:ef P mu o.op o.dst K s):o.wp P a w (LK w0 K) Q:=by
 obtain⟨dst,op,j,pos,i,guard⟩:=o;cases op
 case call c=>
  obtain⟨U,args,t⟩:=c;cases U
  case value u=>
   simp only[ef]at h;have J:=d.ev u;unfold jc at h;split at h
   .rename_i x first aG ab
    rw[ab]at J;obtain⟨aA,aB,e,ai,ak,av,aw⟩:=CN J;obtain⟨am,ax⟩:=Ad d args.toList;obtain⟨an,ay⟩:=yB ai av am ax;obtain⟨F,I⟩:=yB an ay ak aw;rcases h with⟨R,Y,B⟩|h
    .obtain⟨C,D⟩:=Iu d Y F I;simp only[Oper.wp,yS (a:=a) (o:=⟨dst,.call ⟨.value u,args,t⟩,j,pos,i,guard⟩) A A e C w,Oper.upon_enter];refine D.mono λV m⟨v,p,X,W⟩=>?_;subst p;exact⟨_,g,M,B,(d.grow X).put W _⟩
    .have ae:lL P x/\Calls P x (aA++args.toList.map a.eval++aB).toArray w λe m=>∃v,e=.returned v/\LK w0 K (a.put dst v) m:=by
      rcases h with h|h
      .exact OR d h F I
      .obtain⟨ar,au⟩:=h _ _ _ _ _ s.env d _ F I;exact⟨ar,au.mono λe m⟨v,aH,aC,aI,aF,x,aE,p,ah,Z,B⟩=>⟨v,p,_,_,_,B,ah.put Z dst⟩⟩
     obtain⟨C,D⟩:=ae;simp only[Oper.wp,yS (a:=a) (o:=⟨dst,.call ⟨.value u,args,t⟩,j,pos,i,guard⟩) A A e C w,Oper.upon_enter];refine D.mono λV m⟨v,p,h⟩=>?_;subst p;exact h
   .exact h.elim
  case invoke=>exact AB d h
  case builtin b=>
   cases b
   case append=>
    simp only[ef]at h;cases dst with
    |none=>exact h.elim
    |some f=>exact vk d (o:=⟨E f,.call ⟨.builtin .append,args,t⟩,j,pos,i,guard⟩) A h
   all_goals exact AB d h
 case store q r S=>
  simp only[ef]at h;cases k:kY P s (.store q r S)with
  |none=>rw[k]at h;exact h.elim
  |some G=>
   obtain⟨ap,az⟩:=G;rw[k]at h;obtain⟨m,y,z⟩:=Eu d (o:=⟨dst,.store q r S,j,pos,i,guard⟩) k h.1;simp only[Oper.wp,y,Oper.upon_skip];exact⟨_,g,M,h.2,z.put (.sc cC) dst⟩
 case mapUpdate q O L v=>
  simp only[ef]at h;cases k:kY P s (.mapUpdate q O L v)with
  |none=>rw[k]at h;exact h.elim
  |some G=>
   obtain⟨ap,az⟩:=G;rw[k]at h;obtain⟨m,y,z⟩:=Eu d (o:=⟨dst,.mapUpdate q O L v,j,pos,i,guard⟩) k h.1;simp only[Oper.wp,y,Oper.upon_skip];exact⟨_,g,M,h.2,z.put (.sc cC) dst⟩
 case box e r=>
  simp only[ef]at h;cases dst with
  |none=>exact h.elim
  |some f=>exact vk d (o:=⟨E f,.box e r,j,pos,i,guard⟩) A h
 case alloc e=>
  simp only[ef]at h;cases dst with
  |none=>exact h.elim
  |some f=>exact vk d (o:=⟨E f,.alloc e,j,pos,i,guard⟩) A h
 case makeMap e R=>
  simp only[ef]at h;cases dst with
  |none=>exact h.elim
  |some f=>exact vk d (o:=⟨E f,.makeMap e R,j,pos,i,guard⟩) A h
 case buildSlice e l aq=>
  simp only[ef]at h;cases dst with
  |none=>exact h.elim
  |some f=>exact vk d (o:=⟨E f,.buildSlice e l aq,j,pos,i,guard⟩) A h
 case makeSlice e l c=>
  simp only[ef]at h;cases dst with
  |none=>exact h.elim
  |some f=>exact vk d (o:=⟨E f,.makeSlice e l c,j,pos,i,guard⟩) A h
 all_goals exact AB d h
def Jv(q:aS w0 M g s a w){ops:f_}{e:Nat}{p:Bool}{t skip:aU}(d:ij (lo (fE ops.toList) s e) p t skip s):
 ((yielded ops a.tmps e==E p)=ad/\t s)\/((yielded ops a.tmps e==E p)=al/\skip s):=by
 unfold lo at d;have u:(fE ops.toList)[e]?=(ops[e]?).map (·.dst):=by simp[fE]
 rw[u]at d;cases f:(ops[e]?).bind (·.dst)with
 |none=>
  cases i:ops[e]? with
  |none=>rw[i]at d;exact d.elim
  |some y=>
   rw[i]at d f;simp only[jS]at f;simp only[ey,f]at d;exact d.elim
 |some h=>
  cases i:ops[e]? with
  |none=>rw[i]at f;cases f
  |some y=>
  rw[i]at d;have m:=f;rw[i]at m;simp only[jS]at m;simp only[ey,m]at d;by_cases o:h<s.nt
  .rw[aM o]at d;have x:h<a.tmps.size:=by rw[q.size];exact o
   have j:=q.env h;have k:a.tmps[h]?=E (a.tmps.getD h cC):=by simp[iv,x]
   generalize a.tmps.getD h cC=v at j k;generalize A:s.env h=z at d j;unfold ij at d;split at d
   .rename_i b;cases j;have r:yielded ops a.tmps e=E b:=by simp[yielded,f,k]
    exact Zg
   .cases j;have r:yielded ops a.tmps e=aa:=by simp[yielded,f,k]
    rw[r];exact .inr ⟨by rfl,d⟩
   .exact d.elim
  .rw[av o]at d;exact d.elim
def Ba{mu:aD}{ops:f_}{K:aU}{Q:gk->cq->aL->Prop}(o:∀a w,LK w0 K a w->Q .normal a w):
 ∀(l:gY){M:cb}{g:dm}{s:St}{a:cq}{w:aL},aS w0 M g s a w->k6 P mu (fE ops.toList) l K s->f' P ops Q l a w
 |[],M,g,s,a,w,e,d=>o a w ⟨s,g,M,d,e⟩
 |q::f,M,g,s,a,w,e,d=>by
  simp only[k6]at d;unfold f';have next:∀i r,LK w0 (k6 P mu (fE ops.toList) f K) i r->f' P ops Q f i r:=λi r⟨y,u,t,k,m⟩=>Ba o f m k
  have p:∀{K':aU},q.wp P a w (LK w0 (k6 P mu (fE ops.toList) f K)) Q->q.wp P a w (f' P ops Q f) Q:=λx=>Oper.wp_mono next x
  split at d
  .rename_i h;rw[aM (by simp[Region.wanted,h])];unfold uZ at d;split at d
   .obtain⟨y,u,t,k,m⟩:=d _ _ _ _ _ e;exact .inl (p (K':=K) (yd m k))
   .exact .inl (p (K':=K) (yd e d))
  .rename_i z A h;rcases Jv e d with⟨j,d⟩|⟨j,d⟩
   .rw[aM (by simp only[Region.wanted,h];exact j)];exact .inl (p (K':=K) (yd e d))
   .rw[av (by simp only[Region.wanted,h];rw[j];simp)];exact Ba o f (e.put (.sc cC) q.dst) d
end
def k8(P:ay)(s:St)(op:eU)(d:D):Prop:=
 match op with
 |.call c=>match c.callee with
  |.value f=>match s.ev f with
   |.fn g first en=>oy P s.H s.T g (first++c.args.toList.map s.ev++en) d
   |_=>False
  |_=>eH P s (.call c)=E d
 |.buildSlice ty e parts=>∃p,ql P s ty e parts=E (p,d)/\p
 |op=>eH P s op=E d
def vW(P:ay)(ops:Array da)(s:St)(o:da)(d:D):Prop:=
 match o.guard with
 |none=>k8 P s o.op d
 |some (j,e)=>ij (lo (fE ops.toList) s j) e (λs=>k8 P s o.op d) (λ_=>d=.sc cC) s
section
variable{P:ay}{w0:Bs}{M:cb}{g:dm}{s:St}{a:cq}{w:aL}{md:Region.Mode}{ops:f_}
def NA(h:aS w0 M g s a w){o:da}{e:D}{K:aU}{Q:gk->cq->aL->Prop}(d:k8 P s o.op e)(f:K (s.put o.dst e)):o.wp P a w (LK w0 K) Q:=by
 have i:eH P s o.op=E e->o.wp P a w (LK w0 K) Q:=λd=>AB h (by rw[d];exact f);obtain⟨dst,op,z,pos,j,guard⟩:=o;cases op
 case call c=>
  obtain⟨m,args,B⟩:=c;cases m
  case value F=>
   refine yd h (mu:=[]) ?_;simp only[k8]at d;simp only[ef,jc];split at d
   .first|exact .inl ⟨e,d,f⟩|(rename_i G first C q;first|exact .inl ⟨e,d,f⟩|(rw[q];exact .inl ⟨e,d,f⟩))
   .exact d.elim
  all_goals exact i d
 case buildSlice k t parts=>
  obtain⟨I,p,r⟩:=d;obtain⟨v,J,u,x,y⟩:=Pg (o:=⟨dst,.buildSlice k t parts,z,pos,j,guard⟩) h A p r;simp only[Oper.wp,u,Oper.upon_value];exact⟨_,g,M,f,x.put y _⟩
 all_goals exact i d
end
def LU{s:St}{dst:ON}{e:D}{x:eV}(h:∀d,dst=E d->x≠.tmp d):(s.put dst e).ev x=s.ev x:=by
 cases dst with
 |none=>rfl
 |some d=>
  unfold St.put;simp only;split
  .cases x with
   |tmp i=>simp only[St.ev,af];rw[av];intro f;subst f;exact h _ A A
   |_=>rfl
  .rfl
def oa{s:St}{dst:ON}{d:D}:(s.put dst d).H=s.H:=by cases dst<;>simp only[St.put];split<;>rfl
def r_{s:St}{dst:ON}{d:D}:(s.put dst d).T=s.T:=by cases dst<;>simp only[St.put];split<;>rfl
def AF{s:St}{dst:ON}{d:D}:(s.put dst d).nt=s.nt:=by cases dst<;>simp only[St.put];split<;>rfl
def put_comm(s:St){x y:ON}(e f:D)(i:∀d,x=E d->y≠E d):(s.put x e).put y f=(s.put y f).put x e:=by
 cases x with
 |none=>rfl
 |some d=>
  cases y with
  |none=>rfl
  |some h=>
   have o:d≠h:=λm=>i d A (by rw[m]);simp only[St.put];by_cases j:d<s.nt<;>by_cases k:h<s.nt<;>simp only[j,k,aI,aV];congr 1;funext p;simp only[af];exact Zg
def ze{s d:St}:∀{l:List eV},(∀e∈l,d.ev e=s.ev e)->l.map d.ev=l.map s.ev:=λf=>gX f
def KQ{P:ay}{s e:St}(h:e.H=s.H){f:aQ}{d:D}:qE P e f d=qE P s f d:=by cases d<;>simp only[qE,h]
def Tb{P:ay}{s i:St}(f:i.H=s.H){j:aQ}{h:Bool}{d e:D}:tu P i j h d e=tu P s j h d e:=by cases d<;>cases e<;>simp only[tu,f,Du f]
def OH{P:ay}{s e:St}(i:e.H=s.H){f h:aQ}{d:D}:rz P e f h d=rz P s f h d:=by cases d<;>simp only[rz,i]
def Es{P:ay}{s f:St}(j:f.H=s.H){op:eU}(e:∀d∈op.operands,f.ev d=s.ev d):pb P f op=pb P s op:=by
 cases op<;>simp only[Op.operands]at e<;>simp only[pb]
 case call c=>
  obtain⟨m,args,k⟩:=c;have p:∀d∈args.toList,f.ev d=s.ev d:=λd h=>e d (by simp[Call.operands];exact .inr (by simpa using h));exact Zg
 case makeFunc i first o=>
  cases i<;>simp only;rw[ze λd h=>e d Zg,ze λd h=>e d Zg]
 all_goals(first|rfl|(simp_all[KQ j];done))
def D1{s s':St}:∀{l:List (Nat×eV)},(∀d∈l.map (·.2),s'.ev d=s.ev d)->l.map (λd=>(d.1,s'.ev d.2))=l.map (λd=>(d.1,s.ev d.2)):=λe=>
 gX λh f=>by exact Zg
def Ep{P:ay}{s s':St}(f:s'.H=s.H){op:eU}(e:∀d∈op.operands,s'.ev d=s.ev d):eH P s' op=eH P s op:=by
 cases op
 case build i x=>simp only[eH];rw[D1 λd h=>e d (by simpa[Op.operands]using h)]
 case convert src dst d=>(have j:=Es (P:=P) f (op:=.convert src dst d) e;simp only[eH,j];simp only[Op.operands]at e;rw[e d Zs,OH f])
 case lookup i d t u=>simp only[Op.operands]at e;simp_all[eH,Tb f]
 case slice i d m k o=>simp only[Op.operands]at e;cases m<;>cases k<;>cases o<;>simp_all[eH]
 case call c=>
  obtain⟨q,args,p⟩:=c;have r:∀d∈args.toList,s'.ev d=s.ev d:=λd h=>e d (by simp[Op.operands,Call.operands];exact .inr (by simpa using h));simp only[eH,Es (P:=P) f e];exact Zg
 all_goals exact Es (P:=P) f e
def Nz{P:ay}{s s':St}(j:s'.H=s.H)(p:s'.T=s.T){op:eU}{i:D}(f:∀d∈op.operands,s'.ev d=s.ev d)(e:k8 P s op i):k8 P s' op i:=by
 have k:=Ep (P:=P) j f;cases op
 case call c=>
  obtain⟨m,args,r⟩:=c;cases m
  case value o=>
   have q:∀d∈args.toList,s'.ev d=s.ev d:=λd h=>f d (by simp[Op.operands,Call.operands];exact .inr (by simpa using h));simp only[k8]at e⊢;rw[f o (by simp[Op.operands,Call.operands]),ze q,j,p];exact e
  all_goals(simp only[k8]at e⊢;rw[k];exact e)
 case buildSlice u t parts=>
  simp only[k8,ql]at e⊢;rw[D1 (s:=s) (s':=s') λd h=>f d (by simpa[Op.operands]using h)];exact e
 all_goals(simp only[k8]at e⊢;rw[k];exact e)
def Ta{ops:f_}{e:da}{f:eV}{d:Nat}(i:f∈e.op.operands)(h:f=.tmp d):d∈e.looksAt ops:=by
 subst h;exact eE _ (List.mem_filterMap.2 ⟨.tmp d,by simpa using i,A⟩)
def I9{s h:St}{f:da}{ops:f_}(i:∀d∈f.looksAt ops,h.env d=s.env d):∀e∈f.op.operands,h.ev e=s.ev e:=λe j=>by
 cases e with
 |tmp d=>exact i d (Ta j A)
 |_=>rfl
def X0{P:ay}{ops:f_}{s e:St}{h:da}{i:D}(x:e.nt=s.nt)(o:e.H=s.H)(p:e.T=s.T)(m:∀j∈h.looksAt ops,e.env j=s.env j)(d:vW P ops s h i):vW P ops e h i:=by
 have z:k8 P s h.op i->k8 P e h.op i:=Nz o p (I9 m);unfold vW at d⊢;split at d
 .exact z d
 .rename_i f A r;have t:lo (fE ops.toList) e f=lo (fE ops.toList) s f:=by
   unfold lo;have q:(fE ops.toList)[f]?=(ops[f]?).map (·.dst):=by simp[fE]
   rw[q,x];cases u:ops[f]? with
   |none=>rfl
   |some y=>
    cases k:y.dst with
    |none=>simp[k]
    |some j=>simp only[ey,k,m j (by simp[Oper.looksAt,r,u,k])]
  rw[t];unfold ij at d⊢;split at d
  .exact Zg
  .exact d
  .exact d
def Xg{P:ay}{s:St}{op:eU}{dst:ON}{K:aU}(d:nj P op dst K s):∃e,k8 P s op e/\K (s.put dst e):=by
 have f:ka s dst K (eH P s op)->∃e,eH P s op=E e/\K (s.put dst e):=λd=>by
  cases h:eH P s op with
  |none=>rw[h]at d;exact d.elim
  |some e=>rw[h]at d;exact⟨e,A,d⟩
 cases op
 case call c=>
  obtain⟨i,args,k⟩:=c;cases i
  case value m=>
   simp only[nj,pA]at d;simp only[k8];split at d
   .exact d
   .exact d.elim
  all_goals exact f d
 case buildSlice=>obtain⟨e,j,_⟩:=f d;cases j
 all_goals exact f d
def Vr{P:ay}{mu:aD}{s:St}{i:Nat}{op:eU}{h:Prop}{e:St}{f:D}(d:fr P mu s i op=E (h,e,f)):{s with H:=e.H,n:=e.n}=e:=by
 unfold fr at d
 repeat' split at d
 all_goals(try unfold sH at d)
 repeat' split at d
 all_goals first
  |(cases d;done)
  |(cases d;rfl)
def Vv{P:ay}{s:St}{op:eU}{f:Prop}{e:St}(d:kY P s op=E (f,e)):{s with H:=e.H,n:=e.n}=e:=by
 unfold kY at d
 repeat' split at d
 all_goals first
  |(cases d;done)
  |(cases d;rfl)
  |(unfold vy at d;split at d<;>first|(cases d;done)|(cases d;rfl))
def Yf(c:Call):ma (.call c)=0\/ma (.call c)=2\/ma (.call c)=4:=by
 obtain⟨d,args,e⟩:=c;cases d
 case value=>exact .inr (.inl A)
 case invoke=>exact .inl A
 case builtin b=>cases b<;>first|exact .inl A|exact .inr (.inr A)
def Vs{P:ay}{s s':St}{op:eU}(e:ma op=0)(i:∀d∈op.operands,s'.ev d=s.ev d):eH P s' op=eH P s op:=by
 have:=Ep (P:=P) (s:=s) (s':={s with env:=s'.env}) A (op:=op) (by
  intro d k;have:=i d k;cases d<;>first|exact this|rfl)
 have f:∀(H:bt)(n:b5)(nt:Nat)(T:dd)(N:Nat),eH P {s' with H,n,nt,T,N} op=eH P s' op:=by
  intro H n nt T N;have j:({s' with H,n,nt,T,N}:St).ev=s'.ev:=by funext d;cases d<;>rfl
  cases op<;>simp only[ma]at e<;>first|(exact absurd e Zd)|rfl|skip
  case makeFunc h first m=>cases h<;>simp only[eH,pb,j]
 rw[<-this,<-f s.H s.n s.nt s.T s.N]
def Lj{s f:St}(i:f.H=s.H){e:aQ}{h:Nat}{d:D}:cF f e h d=cF s e h d:=by
 cases d<;>simp only[cF,i]
def xR{s:St}{dst:ON}{d:D}:(s.put dst d).n=s.n:=by cases dst<;>simp only[St.put];split<;>rfl
def Cs{md:Region.Mode}{ops:f_}{i:nv}(p:∀d k,ops[d]?=E k->i.getD d al=ad->∀j∈k.after,Region.binds md j=ad->i.getD j.on al=ad){o:Nat}(m:i.getD o al=al):
 ∀(f:Nat)(d:Nat),uP md ops f d o=ad->d∉Region.ready md ops i/\i.getD d al=al
 |0,_,e=>by simp[uP]at e
 |f+1,d,e=>by
  simp only[uP]at e;split at e
  .rename_i k x;obtain⟨j,u,h⟩:=Array.any_eq_true'.1 e;simp only[b3,qW,l6]at h;obtain⟨t,h⟩:=h;have z:i.getD j.on al=al:=by
    rcases h with rfl|h
    .exact m
    .exact(Cs p m f j.on h).2
   refine⟨λq=>?_,?_⟩
   .obtain⟨_,A,y,r⟩:=mem_ready.1 q;exact Zg
   .exact Zg
  .cases e
def Qs{i:nv}{e d:Nat}(h:(i.setIfInBounds e ad).getD d al=ad):d=e\/i.getD d al=ad:=by
 by_cases f:e=d
 .exact .inl f.symm
 .rw[getD_set_ne al f]at h;exact .inr h
def Cg{md:Region.Mode}{ops:f_}{h:nv}(m:∀e f,ops[e]?=E f->h.getD e al=ad->∀d∈f.after,Region.binds md d=ad->h.getD d.on al=ad){j:Nat}(p:j∈Region.ready md ops h):
 ∀e f,ops[e]?=E f->(h.setIfInBounds j ad).getD e al=ad->∀d∈f.after,Region.binds md d=ad->(h.setIfInBounds j ad).getD d.on al=ad:=by
 intro e f q i d o k;refine getD_set_true ?_;rcases Qs i with rfl|i
 .obtain⟨_,u,t,r⟩:=mem_ready.1 p;exact Zg
 .exact m e f q i d o k
def Qr(e d:Nat):(Array.replicate e al).getD d al=al:=by
 rcases Nat.lt_or_ge d e with h|h
 .simp[h]
 .simp[h]
section
variable{P:ay}{w0:Bs}{M:cb}{g:dm}{s:St}{a:cq}{w:aL}
def lD{mu:aD}:∀(c:dH)(Q:gw){M:cb}{g:dm}{s:St}{a:cq}{w:aL},aS w0 M g s a w->vc P mu c Q s->c.wp P (LQ w0 Q) a w
 |.skip,Q,M,g,s,a,w,f,d=>wp_skip ⟨s,g,M,d,f⟩
 |.region id ops q,Q,M,g,s,a,w,f,d=>by
  cases q with
  |false=>exact i6 (Ba (K:=Q .normal) (λa w⟨s,g,M,h1,h2⟩=>⟨s,g,M,h1,h2⟩) ops.toList f d)
  |true=>
   exact wp_region_any d.1 (d.2 _ _ _ _ _ _ (λa w⟨s,g,M,j,k⟩=>⟨s,g,M,j,k⟩) (f.grow (by exact⟨A,A,A,b_ _,λ_ _=>A⟩)))
 |.seq m o,Q,M,g,s,a,w,f,d=>by
  refine wp_seq (wp_mono (lD m _ f d) λe a w⟨s,g,M,h1,h2⟩=>?_);cases e
  case normal=>exact lD o Q h2 h1
  all_goals exact⟨s,g,M,h1,h2⟩
 |.cond c m o,Q,M,g,s,a,w,f,d=>by
  have i:=f.ev c;simp only[vc,oO]at d;split at d
  .rename_i b r;rw[r]at i;generalize p:a.eval c=v at i;cases i;cases b
   .exact wp_cond_false p (lD o Q f (d.2 A))
   .exact wp_cond_true p (lD m Q f (d.1 A))
  .exact d.elim
 |.block id c,Q,M,g,s,a,w,f,d=>by
  refine wp_block (wp_mono (lD c _ f d) λe a w⟨s,g,M,h1,h2⟩=>?_);exact GR
 |.loop c,Q,M,g,s,a,w,f,d=>by
  obtain⟨h,t⟩:=d;refine wp_loop_rounds h ?_;have x:∀(h:Nat){M:cb}{g:dm}{s:St}{a:cq}{w:aL},aS w0 M g s a w->vf (λI=>vc P mu c (ki (GK I) Q)) h s->Code.rounds P c (LQ w0 Q) h a w:=by
   intro h
   induction h with
   |zero=>intro M g s a w _ d;exact d.elim
   |succ h u=>
    intro M g s a w f d;rw[rounds_succ];refine wp_mono (lD c _ f d) λe a w⟨s,g,M,h1,h2⟩=>?_;cases e
    case normal=>
     obtain⟨B,z,y,j,k⟩:=h1 _ _ _ _ _ h2;exact u k j
    all_goals exact⟨s,g,M,h1,h2⟩
  exact x h f t
 |.exit id,Q,M,g,s,a,w,f,d=>wp_exit ⟨s,g,M,d,f⟩
 |.ret,Q,M,g,s,a,w,f,d=>wp_ret ⟨s,g,M,d,f⟩
 |.rangeFunc ..,_,_,_,_,_,_,_,d=>d.elim
 |.scope _,_,_,_,_,_,_,_,d=>d.elim
 |.label _,_,_,_,_,_,_,_,d=>d.elim
 |.goto _,_,_,_,_,_,_,_,d=>d.elim
 |.refuse _,_,_,_,_,_,_,_,d=>d.elim
def gP(P:ay)(s:St):ResultVar->Option D
 |.tmp t=>E (s.env t)
 |.cell d t=>qE P s t (s.env d)
def dj(P:ay)(s:St)(d:List ResultVar):Option D:=
 match d with
 |[r]=>gP P s r
 |d=>(d.mapM (gP P s)).map .tp
def qN(P:ay)(e:List ResultVar)(r:D):gk->St->Prop
 |.normal,s=>∃d,dj P s e=E d/\Fz s.H d r
 |.ret,s=>∃d,dj P s e=E d/\Fz s.H d r
 |_,_=>False
def ba(dV:DL):Nat->D:=λi=>dV.getD i (.sc (.tuple #[]))
def pW:Nat->ux:=λ_=>aa
def sd(dV:DL)(nt:Nat):St:={env:=ba dV,H:=pW,n:=db,nt}
def tP(tmps:Array aE):ResultVar->Sem aE
 |.tmp t=>pure (tmps.getD t cC)
 |.cell d t=>do loadVar t (<-asAddr (tmps.getD d cC))
def L8(h:iw)(d:iA):results h d=(do let vs<-h.results.mapM (tP d);pure (if j:vs.size=1 then vs[0]else .tuple vs)):=by
 have i:(λf:ResultVar=>(match f with|.tmp e=>pure (d.getD e cC)|.cell a e=>do loadVar e (<-asAddr (d.getD a cC)):Sem aE))=tP d:=by funext f;cases f<;>rfl
 unfold results;rw[<-i];rfl
def L6(i:aS w0 M g s a w){x:ResultVar}{h:D}(e:gP P s x=E h):
 ∃v,Rd (view w M g s.n) h v/\(tP a.tmps x).run P w=.ok v w:=by
 cases x with
 |tmp k=>simp only[gP,dy]at e;subst e;exact⟨_,i.env k,A⟩
 |cell f k=>
  simp only[gP]at e;obtain⟨v,m,o⟩:=KR (x:=.tmp f) i e;refine⟨v,m,?_⟩;have d:=o w (Below.refl _ _);simp only[Act.eval]at d;simp only[tP];generalize a.tmps.getD f cC=p at d⊢;simp only[Instr.loadAt,eW]at d;cases p<;>simp only[Instr.sureAddr,stuck,Sem.run]at d
  all_goals first
   |(cases d;done)
   |skip
  rename_i j;cases j with
  |none=>simp only[Sem.run,Result.andThen]at d;cases d
  |some j=>simpa[asAddr]using d
def qM(C:aS w0 M g s a w){h:iw}{f:D}(d:dj P s h.results.toList=E f):∃v,Rd (view w M g s.n) f v/\(results h a.tmps).run P w=.ok v w:=by
 have S:∀(l:eP)(e:DL),l.mapM (gP P s)=E e->∃vs:VL,e.length=vs.length/\(∀(k:Nat)(f:D)(v:aE),e[k]?=E f->vs[k]?=E v->Rd (view w M g s.n) f v)/\
  (l.mapM (tP a.tmps)).run P w=.ok vs w:=by
  intro l
  induction l with
  |nil=>intro e d;simp at d;subst d;exact⟨[],A,Zs,A⟩
  |cons B l t=>
   intro e d;rw[k_]at d;simp only[wg,iJ,wh,dy]at d;obtain⟨f,i,p,j,rfl⟩:=d;obtain⟨v,y,z⟩:=L6 C i;obtain⟨vs,o,u,x⟩:=t p j;refine⟨v::vs,by simp[o],λk f v i r=>?_,?_⟩
   .cases k with
    |zero=>simp at i r;subst i;subst r;exact y
    |succ k=>exact u k f v (by simpa using i) (by simpa using r)
   .rw[k_];simp only[eW];rw[z];simp only[gl];rw[x];rfl
 have F:∀(vs:VL),(h.results.toList.mapM (tP a.tmps)).run P w=.ok vs w->
  (results h a.tmps).run P w=.ok (if d:vs.toArray.size=1 then vs.toArray[0]else .tuple vs.toArray) w:=by
  intro vs R;rw[L8,eW,<-Array.toArray_toList (xs:=h.results),List.mapM_toArray,<-bind_pure_comp,eW,R];rfl
 unfold dj at d;split at d
 .rename_i U O;obtain⟨v,y,z⟩:=L6 C d;refine⟨v,y,?_⟩;have:=F [v] (by rw[O,k_];simp only[eW];rw[z];rfl);rw[this];rfl
 .rename_i V L;simp only[jg]at d;obtain⟨e,j,rfl⟩:=d;obtain⟨vs,o,u,x⟩:=S _ _ j;refine⟨.tuple vs.toArray,.tp e vs o u,?_⟩;rw[F vs x];have J:∀(l:eP)(e:DL),l.mapM (gP P s)=E e->e.length=l.length:=by
   intro l
   induction l with
   |nil=>intro e d;simp at d;subst d;rfl
   |cons B l t=>
    intro e d;rw[k_]at d;simp only[wg,iJ,wh,dy]at d;obtain⟨f,i,p,j,rfl⟩:=d;simp[t p j]
  have I:¬vs.toArray.size=1:=by
   intro G;have m:=J _ _ j;simp only[nq]at G;rw[o,G]at m;cases q:h.results.toList with
   |nil=>rw[q]at m;simp at m
   |cons B l=>
    cases l with
    |nil=>exact L B q
    |cons W l=>rw[q]at m;simp at m
  rw[dif_neg I]
def x2(dV:DL)(nt:Nat)(Ts:dd):St:={env:=ba dV,H:=pW,n:=db,nt,T:=Ts}
def aS.start{w:aL}{M:cb}{dV:DL}{vs:VL}{Ts:dd}{nt:Nat}(r:Option (Nat×Nat))(B:r=aa)(k:MB M w)(C:dV.length=vs.length)(G:dV.length<=nt)
 (z:∀(i:Nat)(p:D)(v:aE),dV[i]?=E p->vs[i]?=E v->Rd (view w (λb=>M b\/∃e∈Ts,b∈e.F) (λ_=>aa) db) p v)
 (m:∀e∈Ts,T1 w e.d e.u e.F/\∀b∈e.F,¬M b) (y:(bl Ts).Nodup):
 aS (lu w M λb=>∃e∈Ts,b∈e.F) (λb=>M b\/∃e∈Ts,b∈e.F) (λ_=>aa) (x2 dV nt Ts) {tmps:=vs.toArray++Array.replicate (nt-vs.toArray.size) cC,defers:=[]} w:=by
 refine⟨A,by simp[x2];omega,λi=>?_,by simp[x2,pW],Zs,Zs,⟨A,A,A,b_ _,λ_ _=>A⟩,λb h=>⟨?_,Zs⟩,λb=>Iff.rfl,⟨λb h o=>?_,k.2⟩,λe f=>⟨(m e f).1,λb j=>.inr ⟨e,f,j⟩⟩,y,.none A,λ_ _=>iy _⟩
 .show Rd _ (dV.getD i (.sc (.tuple #[]))) _;by_cases q:i<dV.length
  .have h1:dV[i]?=E dV[i]:=bR q;have h2:vs[i]?=E (vs[i]'Zo):=bR Zo;have:=z i _ _ h1 h2;show Rd (view w (λb=>M b\/∃e∈Ts,b∈e.F) (λ_=>aa) db) _ _;exact Gm
  .have t:dV.getD i (.sc (.tuple #[]))=.sc (.tuple #[]):=by simp[List.getD,v_ (Nat.le_of_not_lt q)]
   have x:(vs.toArray++Array.replicate (nt-vs.toArray.size) cC).getD i cC=cC:=by
    rw[iv,Bg de];exact Zg
   rw[t,x];exact .sc cC
 .rcases h with h|⟨e,f,j⟩
  .exact k.1 b h
  .exact(m e f).1.lt b j
 .rcases o with o|⟨e,f,j⟩
  .have:w.heap.size<=b:=o;have:=k.1 b h;omega
  .exact(m e f).2 b j h
def Sp.eo{o:bK}{f:iw}{c:dH}{k:DL}{i:D}{m:Nat}(mu:aD)(r:eP)(q:P.funcs[o]?=E f)(p:f.body=E c)(C:(f.name== "runtime.NumGoroutine")=al)
 (F:f.ntmps=m) (G:f.results.toList=r) (B:k.length<=m) (x:vc P mu c (qN P r i) (sd k m)):Sp P o k i:=by
 subst G;refine⟨⟨f,q,C,by rw[p];rfl⟩,λw M vs y z I=>?_⟩;subst F;refine calls_of_wp q p (wp_mono (lD c _ (aS.start (Ts:=[]) aa A y z B (λL d v hd J=>(I L d v hd J).mono (kI λb=>by exact Zg)) Zs Zs) x) λe a j⟨t,V,U,h1,h⟩=>?_);have fin:∀d,dj P t f.results.toList=E d->Fz t.H d i->a.defers=[]/\∃v,(results f a.tmps).run P j=.ok v j/\∃u,Ending.returned v=.returned u/\Below w.heap.size w j/\Rd (view j M (λ_=>aa) db) i u:=by
  intro d hd hz;obtain⟨v,R,S⟩:=qM h hd;exact⟨h.defers,v,S,v,A,mL h.below Zs,(Rd.freeze h hz R).mono (kI λb O=>(h.mm b).2 (.inl O))⟩
 exact BT
abbrev Us:=List (TE⊕Nat)
def l'(g:Nat->Option (Nat×Nat×Nat)):TE⊕Nat->List Nat
 |.inl d=>d.F
 |.inr t=>match g t with|some (_,b,_)=>[b]|none=>[]
def fy:Us->List TE
 |[]=>[]
 |.inl d::us=>d::fy us
 |.inr _::us=>fy us
def jZ:Us->List Nat
 |[]=>[]
 |.inl _::us=>jZ us
 |.inr t::us=>t::jZ us
def xD{d:TE}:∀{us:Us},Sum.inl d∈us↔d∈fy us
 |[]=>by simp[fy]
 |.inl f::us=>by simp[fy,xD (us:=us)]
 |.inr e::us=>by simp[fy,xD (us:=us)]
def DJ{d:Nat}:∀{us:Us},Sum.inr d∈us↔d∈jZ us
 |[]=>by simp[jZ]
 |.inl e::us=>by simp[jZ,DJ (us:=us)]
 |.inr d::us=>by simp[jZ,DJ (us:=us)]
inductive C1 (H:Nat->Option Ob):D->D->Us->Prop
 |sc (v:aE):C1 H (.sc v) (.sc v) []
 |tr (e:TE):C1 H (.sc e.u) e.d [.inl e]
 |nil (sz:Nat):C1 H (.sc (.slice aa 0 0)) (.sl sz []) []
 |fu (sz:Nat):C1 H (.sl sz []) (.sl sz []) []
 |ms (t:Nat) (ob:Ob) (rows:List (List D)) (es:Nat->D) (f:Nat->Us) (o:H t=E ob) (k:ob.keys=aa) (p:0<ob.sz) (m:∀r∈rows,r.length=ob.sz)
  (i:∀(j:Nat)(d:D),rows.flatten[j]?=E d->ob.cells[j]?=E (es j)) (h:∀(j:Nat)(d:D),rows.flatten[j]?=E d->C1 H (es j) d (f j)):
  C1 H (.ms t ob.gen rows.length) (.sl ob.sz rows) (.inr t::(List.range rows.flatten.length).flatMap f)
inductive CL (R:D->D->Us->Prop):List D->List D->Us->Prop
 |nil:CL R [] [] []
 |cons {d e:D} {us:Us} {ds es:List D} {f:Us} (h:R d e us) (t:CL R ds es f):CL R (d::ds) (e::es) (us++f)
inductive C2 (H:Nat->Option Ob):D->D->Us->Prop
 |one {d e:D} {us:Us} (h:C1 H d e us):C2 H d e us
 |ag {ds es:List D} {us:Us} (h:CL (C1 H) ds es us):C2 H (.ag ds) (.ag es) us
inductive C3 (H:Nat->Option Ob):D->D->Us->Prop
 |one {d e:D} {us:Us} (h:C2 H d e us):C3 H d e us
 |tp {ds es:List D} {us:Us} (h:CL (C2 H) ds es us):C3 H (.tp ds) (.tp es) us
def C1.sound(I:aS w0 M g s a w){e A:D}{y:Us}(B:C1 s.H e A y):(∀j∈fy y,j∈s.T)->∀{v:aE},Rd (view w M g s.n) e v->T1 w A v (y.flatMap (l' g)):=by
 induction B with
 |sc v=>intro _ v f;cases f;exact .sc _
 |tr j=>
  intro q v f;cases f;have:=(I.tree j (q j (by simp[fy]))).1;simpa[l']using this
 |nil i=>intro _ v f;cases f;exact .nil i
 |fu i=>
  intro _ v f;generalize V:D.sl i []=e at f;cases f<;>cases V
  .exact .nil i
  .rename_i a k r;exact .fu i a k r
  .rename_i r _ _ _ _;exact .fu i _ _ r
 |ms x m o J z Z G ab Y L B ah=>
  intro q v f;obtain⟨ak,b,c,vs,F,X,u,S,am,U⟩:=I.obj x m Z;have u:=u G;cases f with|ms _ _ _ ai k _ f=>
  obtain⟨rfl,rfl⟩:=f b c F;have C:∀(d:Nat)(e:D),o.flatten[d]?=E e->∃p,vs[d]?=E p/\Rd (view w M g s.n) (J d) p:=λd e h=>U _ _ (L d e h);have W:g x=E (m.gen,b,k):=F;have O:(Sum.inr x::(List.range o.flatten.length).flatMap z:Us).flatMap (l' g)=b::(List.range o.flatten.length).flatMap λd=>(z d).flatMap (l' g):=by
   rw[List.flatMap_cons,List.flatMap_assoc];simp[l',W]
  rw[O];refine .sl m.sz o b k vs m.elem (λd=>vs.getD d cC) _ (X.cells G) ?_ S u ab Y (λd e h=>?_) λd e h=>?_
  .exact Zg
  .obtain⟨p,t,_⟩:=C d e h;simp[iv,t]
  .obtain⟨p,t,R⟩:=C d e h;have:=ah d e h (λj ae=>q j (xD.1 (np _ (List.mem_flatMap.2 ⟨d,rb.2 (ej.1 h).1,xD.2 ae⟩)))) R;simpa[iv,t]using this
def IC{R:D->D->Us->Prop}{Q:D->aE->List Nat->Prop}{q:View}(u:TE->Prop)(B:∀d r f,R d r f->(∀e∈fy f,u e)->∀v,Rd q d v->Q r v (f.flatMap (l' g))){j t:DL}{f:Us}(k:CL R j t f):
 (∀e∈fy f,u e)->∀(vs:VL),j.length=vs.length->(∀(i:Nat)(d:D)(v:aE),j[i]?=E d->vs[i]?=E v->Rd q d v)->TL Q t vs (f.flatMap (l' g)):=by
 have y:∀(a b:Us),fy (a++b)=fy a++fy b:=by
  intro a b
  induction a with
  |nil=>rfl
  |cons C a o=>cases C<;>simp[fy,o]
 induction k with
 |nil=>intro _ vs h _;cases vs with|nil=>exact .nil|cons=>simp at h
 |cons k _ o=>
  intro m vs h x;cases vs with
  |nil=>simp at h
  |cons v vs=>
   rw[List.flatMap_append];rw[y]at m;exact .cons (B _ _ _ k (λe p=>m e (eE _ p)) v (x 0 _ _ Zs Zs)) (o (λe p=>m e (eN _ p)) vs (by simpa using h) λi d v z A=>x (i+1) d v (by simpa using z) (by simpa using A))
def C2.sound(k:aS w0 M g s a w){i j:D}{h:Us}(d:C2 s.H i j h)(f:∀o∈fy h,o∈s.T){v:aE}(e:Rd (view w M g s.n) i v):T2 w j v (h.flatMap (l' g)):=by
 cases d with
 |one d=>exact .one (d.sound k f e)
 |ag d=>cases e with|ag _ vs m e=>exact .ag (IC (·∈s.T) (λi j h d f v e=>d.sound k f e) d f vs m e)
def C3.sound(k:aS w0 M g s a w){i j:D}{h:Us}(d:C3 s.H i j h)(f:∀o∈fy h,o∈s.T){v:aE}(e:Rd (view w M g s.n) i v):T3 w j v (h.flatMap (l' g)):=by
 cases d with
 |one d=>exact .one (d.sound k f e)
 |tp d=>cases e with|tp _ vs m e=>exact .tp (IC (·∈s.T) (λi j h d f v e=>d.sound k f e) d f vs m e)
def DI(p:aS w0 M g s a w):∀(f:Us),(∀e∈fy f,e∈s.T)->∀b∈f.flatMap (l' g),(M b/\∃e∈fy f,b∈e.F)\/∃h i c,h∈jZ f/\g h=E (i,b,c):=λf o b d=>by
 obtain⟨q,k,d⟩:=List.mem_flatMap.1 d;cases q with
 |inl e=>
  have j:=xD.1 k;exact .inl ⟨(p.mm b).2 (.inr ⟨e,o e j,d⟩),e,j,d⟩
 |inr h=>
  simp only[l']at d;split at d
  .rename_i i r c m;simp only[bG]at d;subst d;exact .inr ⟨h,i,c,DJ.1 k,m⟩
  .cases d
def DQ(e:aS w0 M g s a w):∀(d:Us),(∀k∈fy d,k∈s.T)->(bl (fy d)).Nodup->(jZ d).Nodup->(d.flatMap (l' g)).Nodup
 |[],_,_,_=>by simp
 |.inl k::d,i,q,r=>by
  have B:∀m∈fy d,m∈s.T:=λm j=>i m (by simp[fy,j]);have o:(k.F++bl (fy d)).Nodup:=by simpa[fy,bl]using q
  rw[gR]at o;rw[List.flatMap_cons,gR];refine⟨o.1,DQ e d B o.2.1 r,λh f G t p=>?_⟩;subst p;rcases DI e d B h t with⟨_,m,u,x⟩|⟨C,D,c,_,j⟩
  .exact o.2.2 h f h (mX.2 ⟨m,u,x⟩) A
  .exact(e.m0 h ((e.mm h).2 (.inr ⟨k,i k (by simp[fy]),f⟩))).2 _ _ _ j
 |.inr C::d,i,q,r=>by
  have y:=la.1 (show(C::jZ d).Nodup from r);rw[List.flatMap_cons,gR];refine⟨?_,DQ e d i q y.2,λh f G t p=>?_⟩
  .simp only[l'];split<;>simp
  .subst p;simp only[l']at f;split at f
   .rename_i D I J z;simp only[bG]at f;subst f;rcases DI e d i h t with⟨j,_⟩|⟨L,O,c,u,x⟩
    .exact(e.m0 h j).2 _ _ _ z
    .have:=e.inj _ _ _ _ _ _ _ z x;subst this;exact y.1 u
   .cases f
def pE(Ts:dd)(ds:DL)(r:D)(s:St)(d:D):Prop:=
 ∃(us:Us)(rest:dd),C3 s.H d r us/\s.T.Perm (kl Ts ds++fy us++rest)/\(jZ us).Nodup
def xU(P:ay)(e:List ResultVar)(Ts:List TE)(ds:List D)(r:D):gk->St->Prop
 |.normal,s=>∃d,dj P s e=E d/\pE Ts ds r s d
 |.ret,s=>∃d,dj P s e=E d/\pE Ts ds r s d
 |_,_=>False
def fk.eo{L:bK}{j:iw}{c:dH}{z:DL}{h:dd}{i:DL}{t:D}{I:Nat}(mu:aD)(W:eP)(R:P.funcs[L]?=E j)(p:j.body=E c)(ak:(j.name== "runtime.NumGoroutine")=al)
 (ap:j.ntmps=I) (aq:j.results.toList=W) (ai:z.length<=I) (S:i.length=h.length) (Y:vc P mu c (xU P W h i t) (x2 z I h)):fk P L z h i t:=by
 subst aq;refine⟨⟨j,R,ak,by rw[p];rfl⟩,S,λw M vs Z ah au ar am=>?_⟩;subst ap;refine calls_of_wp R p (wp_mono (lD c _ (aS.start aa A Z ah ai au ar am) Y) λe a o⟨J,az,ay,h1,f⟩=>?_);have fin:∀d,dj P J j.results.toList=E d->pE h i t J d->a.defers=[]/\∃v,(results j a.tmps).run P o=.ok v o/\∃X,Ending.returned v=.returned X/\(lu w M λb=>∃e∈h,b∈e.F).Ok o/\(∀e∈kl h i,T1 o e.d e.u e.F)/\∃y,T3 o t X y/\y.Nodup/\∀b∈y,w.heap.size<=b:=by
  rintro d hd⟨x,av,ae,r,an⟩;obtain⟨v,aw,ax⟩:=qM f hd;have q:∀m∈fy x,m∈J.T:=λm k=>r.mem_iff.2 (by simp[k]);have C:(bl (kl h i++fy x++av)).Nodup:=(r.flatMap_right _).nodup f.nd;rw[sL,sL,gR,gR]at C;have O:∀b,(∃e∈h,b∈e.F)->b∈bl (kl h i):=λb k=>by rw[A7 h i S];exact mX.2 k
  refine⟨f.defers,v,ax,v,A,⟨f.below.os,f.below.tape,f.below.output,f.below.size,f.below.block⟩,λe B=>(f.tree e (r.mem_iff.2 (by simp[B]))).1,_,ae.sound f q aw,DQ f x q C.1.2.1 an,λb p=>?_⟩;rcases DI f x q b p with⟨_,m,U,V⟩|⟨aA,aB,c,_,k⟩
  .rcases(f.tree m (q m U)).2 b V with k|k
   .exact k
   .exact absurd A (C.1.2.2 b (O b k) b (mX.2 ⟨m,U,V⟩))
  .rcases(f.base _ _ _ _ k).1 with G|G
   .exact G
   .obtain⟨e,B,ab⟩:=mX.1 (O b G);exact absurd k ((f.m0 b ((f.mm b).2 (.inr ⟨e,r.mem_iff.2 (by simp[B]),ab⟩))).2 _ _ _)
 exact BT
end
def A9(P:ay)(mu:aD)(c:dH)(Q:gw):St->Prop:=vc P mu c Q
def Ax(P:ay)(mu:aD)(ops:List (ON))(l:gY)(K:aU):St->Prop:=k6 P mu ops l K
def Ay(P:ay)(ops:List (ON))(l:gY)(K:aU):St->Prop:=vS P ops l K
def dS(P:ay)(mu:aD)(op:eU)(dst:ON)(K:aU):St->Prop:=ef P mu op dst K
def LA(P:ay)(op:eU)(dst:ON)(K:aU):St->Prop:=nj P op dst K
def xO(Q:gw)(e:gk):St->Prop:=Q e
def qF(P:ay)(mu:aD)(c:dH)(Q:gw)(s:St):Prop:=KV (vc P mu c) Q s
section
variable{P:ay}{mu:aD}{ops:List (ON)}{l:gY}{K:aU}{Q:gw}{s:St}{a b c:dH}{op:eU}{dst:ON}
def Xe:A9 P mu c Q s=vc P mu c Q s:=cr A A
def T9:Ax P mu ops l K s=k6 P mu ops l K s:=cr A A
def T_:Ay P ops l K s=vS P ops l K s:=cr A A
def TW:dS P mu op dst K s=ef P mu op dst K s:=cr A A
def TX:LA P op dst K s=nj P op dst K s:=cr A A
def Ug{d:gk}:xO Q d s=Q d s:=cr A A
def XB:vc P mu .skip Q s=Q .normal s:=cr A A
def Xy{id:Nat}{d:f_}:vc P mu (.region id d al) Q s=k6 P mu (fE d.toList) d.toList (xO Q .normal) s:=cr A A
def Xv{id:Nat}{d:f_}(_:Ai d.toList=ad):vc P mu (.region id d ad) Q s=qq P mu d (xO Q .normal) s:=cr A A
def XA:vc P mu (.seq a b) Q s=vc P mu a (ki (A9 P mu b Q) Q) s:=cr A A
def Xt{d:eV}:vc P mu (.cond d a b) Q s=oO (s.ev d) (A9 P mu a Q) (A9 P mu b Q) s:=cr A A
def Xs{id:Nat}:vc P mu (.block id c) Q s=vc P mu c (nG id Q) s:=cr A A
def Xx:vc P mu (.loop c) Q s=qF P mu c Q s:=cr A A
def Xw{id:Nat}:vc P mu (.exit id) Q s=Q (.exit id) s:=cr A A
def Xz:vc P mu .ret Q s=Q .ret s:=cr A A
def Uf:k6 P mu ops [] K s=K s:=cr A A
def Ud{d:ON}{h:aQ}{pos:String}{f:Array Edge}{e:gY}:k6 P mu ops (⟨d,op,h,pos,f,aa⟩::e) K s=uZ (gh mu d) (dS P mu op d (Ax P mu ops e K)) s:=cr A A
def Qx{d:ON}:gh [] d=al:=cr A A
def Qy{d:Nat}{l:aD}:gh (d::l) aa=al:=cr A A
def Qw{e d:Nat}{l:aD}:gh (e::l) (E d)=(e==d+1000000||gh l (E d)):=cr A A
def Qu{d:aU}:uZ al d s=d s:=cr A A
def Qv{d:aU}:uZ ad d s=GK d s:=cr A A
def Ue{d:ON}{j:aQ}{pos:String}{i:Array Edge}{e:gY}{f:Nat}{h:Bool}:
 k6 P mu ops (⟨d,op,j,pos,i,E (f,h)⟩::e) K s=ij (lo ops s f) h (dS P mu op d (Ax P mu ops e K)) (sb d (Ax P mu ops e K)) s:=cr A A
def Uc:vS P ops [] K s=K s:=cr A A
def Ua{d:ON}{h:aQ}{pos:String}{f:Array Edge}{e:gY}:vS P ops (⟨d,op,h,pos,f,aa⟩::e) K s=nj P op d (Ay P ops e K) s:=cr A A
def Ub{d:ON}{j:aQ}{pos:String}{i:Array Edge}{e:gY}{f:Nat}{h:Bool}:
 vS P ops (⟨d,op,j,pos,i,E (f,h)⟩::e) K s=ij (lo ops s f) h (LA P op d (Ay P ops e K)) (sb d (Ay P ops e K)) s:=cr A A
def Wb{next:aU}:ki next Q .normal s=next s:=cr A A
def Wa{next:aU}{id:Nat}:ki next Q (.exit id) s=Q (.exit id) s:=cr A A
def Wc{next:aU}:ki next Q .ret s=Q .ret s:=cr A A
def Oo{id:Nat}:nG id Q .normal s=Q .normal s:=cr A A
def Oq{id:Nat}:nG id Q .ret s=Q .ret s:=cr A A
def On{id d:Nat}:nG id Q (.exit d) s=if d=id then Q .normal s else Q (.exit d) s:=cr A A
def Vl{k:lf}{f:bt}{m:b5}{d e:Nat}{i:dd}{h:Nat}{j:D}(o:e<d):St.put ⟨k,f,m,d,i,h⟩ (E e) j=⟨af k e j,f,m,d,i,h⟩:=by simp[St.put,o]
def Vm{s:St}{d:D}:St.put s aa d=s:=cr A A
def LR{d:D}:ka s dst K (E d)=K (s.put dst d):=cr A A
def Tp{h:Nat}{e:Prop}{f:St}{d:D}:ls h K (E (e,f,d))=(e/\K (f.put (E h) d)):=cr A A
def Vw{d:Prop}{e:St}:tV dst K (E (d,e))=(d/\K (e.put dst (.sc (.tuple #[])))):=cr A A
def Ve:sb dst K s=K (s.put dst (.sc (.tuple #[]))):=cr A A
end
def mg{b d:Bool}{f skip:aU}{s:St}(h:b=d->f s)(i:b=!d->skip s):ij (.sc (.bool b)) d f skip s:=by
 unfold ij;by_cases e:b=d
 .simpa[e]using h e
 .simp only[e,aV];exact i (by cases b<;>cases d<;>simp_all)
def QG{d skip:aU}{s:St}:ij (.sc (.bool ad)) ad d skip s=d s:=by simp[ij]
def QC{d skip:aU}{s:St}:ij (.sc (.bool al)) al d skip s=d s:=by simp[ij]
def QF{d skip:aU}{s:St}:ij (.sc (.bool ad)) al d skip s=skip s:=by simp[ij]
def QD{d skip:aU}{s:St}:ij (.sc (.bool al)) ad d skip s=skip s:=by simp[ij]
def QH{e:Bool}{d skip:aU}{s:St}{vs:iA}:ij (.sc (.tuple vs)) e d skip s=skip s:=cr A A
def Pt{d e:aU}{s:St}:oO (.sc (.bool ad)) d e s=d s:=by simp[oO]
def Ps{e d:aU}{s:St}:oO (.sc (.bool al)) e d s=d s:=by simp[oO]
def Fz.bool{e:bt}{b d:Bool}(f:b=d):Fz e (.sc (.bool b)) (.sc (.bool d)):=by rw[f];exact .cl _ (.sc _)
def Fz.int{h:bt}{d:IntKind}{f e:Int}(i:f=e):Fz h (.sc (.int d f)) (.sc (.int d e)):=by rw[i];exact .cl _ (.sc _)
def Fz.val{f:bt}{e d:aE}(h:e=d):Fz f (.sc e) (.sc d):=by rw[h];exact .cl _ (.sc _)
def Fz.same{f:bt}{d e:D}(h:d=e)(i:Cl d):Fz f d e:=by rw[<-h];exact .cl _ i
def Fz.k3{d:bt}{a b e f:D}(j:Fz d a e)(p:Fz d b f):Fz d (.tp [a,b]) (.tp [e,f]):=
 .tp _ _ A λo h i k m=>by
  exact Zg
def Fz.YF{d:bt}{a b c e f h:D}(k:Fz d a e)(q:Fz d b f)(l:Fz d c h):Fz d (.tp [a,b,c]) (.tp [e,f,h]):=
 .tp _ _ A λp i j m o=>by
  exact Zg
def YA{P:ay}{f:eP}{e:D}{s:St}(d:D)(h:dj P s f=E d)(i:Fz s.H d e):qN P f e .ret s:=⟨d,h,i⟩
def Yz{P:ay}{f:eP}{e:D}{s:St}(d:D)(h:dj P s f=E d)(i:Fz s.H d e):qN P f e .normal s:=⟨d,h,i⟩
def aT{b:Bool}{d e:aU}{s:St}(f:b=ad->d s)(h:b=al->e s):oO (.sc (.bool b)) d e s:=⟨f,h⟩
def bB{P:ay}{s:St}{h:bK}{first d args:DL}{dst:ON}{K:aU}(f:D)(i:Sp P h (first++args++d) f)(k:∀e∈first++args++d,Cl e)(j:K (s.put dst f)):
 jc P s (.fn h first d) args dst K:=.inl ⟨f,.inl ⟨i,λ_ e m=>k e (eg m)⟩,j⟩
def eK{P:ay}{s:St}{h:bK}{first e args:DL}{dst:ON}{K:aU}(d:D)(i:Sp P h (first++args++e) d)(k:∀f∈first++args++e,Cl f)(_:d=d)(j:K (s.put dst d)):
 pA P s (.fn h first e) args dst K:=⟨d,.inl ⟨i,λ_ f m=>k f (eg m)⟩,j⟩
def X'{P:ay}{s:St}{f:bK}{first e args:DL}{dst:ON}{K:aU}(bs:DL)(d:D)(k:Sp P f bs d)(q:bs.length=(first++args++e).length)
 (p:∀h∈(first++args++e).zip bs,Fb s.H s.T h.1 h.2) (o:(mN d).isSome=ad) (m:K (s.put dst d)):pA P s (.fn f first e) args dst K:=
 ⟨d,.inr ⟨bs,q,λr i j t u=>p (i,j) (hQ.2 ⟨r,by exact Zg⟩),k,o⟩,m⟩
def Td{F:(aU)->aU}(j:∀(I i:aU)(s:St),(∀s,I s->i s)->F I s->F i s)(I:aU)(h:St->Nat){s:St}(m:I s)(k:∀s,I s->F (λe=>I e/\h e<h s) s):KU F s:=by
 have t:∀d s,h s<=d->I s->vf F (d+1) s:=by
  intro d
  induction d with
  |zero=>
   intro s q f;exact j _ _ s (λe⟨_,p⟩=>by omega) (k s f)
  |succ d r=>
   intro s q f;exact j _ _ s (λe⟨o,p⟩=>r e Zo o) (k s f)
 exact⟨_,t _ s (b_ _) m⟩
def vR{P:ay}{mu:aD}{op:eU}{dst:ON}{K f:aU}(i:∀s,K s->f s){s:St}(h:ef P mu op dst K s):ef P mu op dst f s:=by
 have r:∀d,ka s dst K d->ka s dst f d:=λd h=>by cases d<;>first|exact h|exact i _ h
 have j:∀e d,ls e K d->ls e f d:=λe d h=>by
  cases d with
  |none=>exact h
  |some t=>exact⟨h.1,i _ h.2⟩
 have y:∀d,tV dst K d->tV dst f d:=λd h=>by
  cases d with
  |none=>exact h
  |some t=>exact⟨h.1,i _ h.2⟩
 have I:∀k args,jc P s k args dst K->jc P s k args dst f:=λk args h=>by
  unfold jc at*;split at h
  .rcases h with⟨u,m,o⟩|⟨G,F,ak,O,u,m,o,U,V,W⟩|h
   rotate_left 2
   .refine .inr (.inr λw0 M g a w R ab vs Z ah=>?_);obtain⟨p,q⟩:=h w0 M g a w R ab vs Z ah;exact⟨p,q.mono λx an⟨v,L,z,ai,B,S,A,Y,ae,X,t⟩=>⟨v,L,z,ai,B,S,A,Y,ae,X,i _ t⟩⟩
   .exact .inl ⟨u,m,i _ o⟩
   .exact .inr<|.inl ⟨G,F,ak,O,u,m,o,U,V,λx C h=>let⟨D,p,q⟩:=W x C h;⟨D,p,i _ q⟩⟩
  .exact h
 cases op
 case call c=>
  obtain⟨J,args,am⟩:=c;cases J
  case value k=>(simp only[ef]at h⊢;exact I _ _ h)
  case builtin b=>
   cases b
   case append=>
    cases dst with
    |none=>exact h
    |some e=>(simp only[ef]at h⊢;exact j _ _ h)
   all_goals(simp only[ef]at h⊢;exact r _ h)
  all_goals(simp only[ef]at h⊢;exact r _ h)
 case store=>(simp only[ef]at h⊢;exact y _ h)
 case mapUpdate=>(simp only[ef]at h⊢;exact y _ h)
 case box=>cases dst with|none=>exact h|some e=>(simp only[ef]at h⊢;exact j _ _ h)
 case alloc=>cases dst with|none=>exact h|some e=>(simp only[ef]at h⊢;exact j _ _ h)
 case makeMap=>cases dst with|none=>exact h|some e=>(simp only[ef]at h⊢;exact j _ _ h)
 case buildSlice=>cases dst with|none=>exact h|some e=>(simp only[ef]at h⊢;exact j _ _ h)
 case makeSlice=>cases dst with|none=>exact h|some e=>(simp only[ef]at h⊢;exact j _ _ h)
 all_goals(simp only[ef]at h⊢;exact r _ h)
def YG{P:ay}{op:eU}{dst:ON}{K e:aU}(i:∀s,K s->e s){s:St}(d:nj P op dst K s):nj P op dst e s:=by
 have j:∀h,ka s dst K h->ka s dst e h:=λh d=>by cases h<;>first|exact d|exact i _ d
 have k:∀f args,pA P s f args dst K->pA P s f args dst e:=λf args d=>by
  unfold pA at*;split at d
  .obtain⟨q,o,p⟩:=d;exact⟨q,o,i _ p⟩
  .exact d
 cases op
 case call c=>
  obtain⟨m,args,r⟩:=c;cases m
  case value f=>(simp only[nj]at d⊢;exact k _ _ d)
  all_goals(simp only[nj]at d⊢;exact j _ d)
 all_goals(simp only[nj]at d⊢;exact j _ d)
def QE{e:D}{j:Bool}{f h skip i:aU}{s:St}(m:f s->h s)(k:skip s->i s)(d:ij e j f skip s):ij e j h i s:=by
 unfold ij at*;split at d
 .exact Zg
 .exact k d
 .exact d
def ye{P:ay}{mu:aD}{ops:List (ON)}{K j:aU}(e:∀s,K s->j s):∀(l:gY){s:St},k6 P mu ops l K s->k6 P mu ops l j s
 |[],s,d=>e s d
 |m::f,s,d=>by
  simp only[k6]at d⊢;split
  .rename_i i;simp only[i]at d;unfold uZ at d⊢;split
   .rename_i h;simp only[h]at d;exact GK.mono (λs d=>vR (λs=>ye e f) d) d
   .rename_i h;simp only[h]at d;exact vR (λs=>ye e f) d
  .rename_i k o i;simp only[i]at d;exact QE (vR (λs=>ye e f)) (ye e f) d
def Cy{P:ay}{ops:f_}{K d:aU}(f:∀s,K s->d s){s:St}(e:rI P ops K s):rI P ops d s:=
 ⟨e.1,λw0 M g a w Q h i=>e.2 w0 M g a w Q (λa w⟨s,g,M,j,k⟩=>h a w ⟨s,g,M,f _ j,k⟩) i⟩
def oj{P:ay}{mu:aD}:∀(c:dH){Q i:gw}(_:∀f s,Q f s->i f s){s:St},vc P mu c Q s->vc P mu c i s
 |.skip,_,_,e,s,d=>e _ _ d
 |.region id ops m,_,_,e,s,d=>by
  cases m with
  |false=>exact ye (e .normal) _ d
  |true=>exact Cy (e .normal) d
 |.seq j k,_,_,e,s,d=>oj j (λf s d=>by
  cases f
  case normal=>exact oj k e d
  all_goals exact e _ _ d) d
 |.cond c j k,_,_,e,s,d=>by
  simp only[vc,oO]at d⊢;split
  .rename_i b o;simp only[o]at d;exact⟨λf=>oj j e (d.1 f),λf=>oj k e (d.2 f)⟩
  .exact Zg
 |.block id c,_,_,e,s,d=>oj c (λf s d=>by
  cases f
  case exit t=>
   simp only[nG]at d⊢;split
   .exact Zg
   .exact Zg
  all_goals exact e _ _ d) d
 |.loop c,Q,i,e,s,d=>by
  obtain⟨h,p⟩:=d;refine⟨h,?_⟩;have r:∀h s,vf (λI=>vc P mu c (ki (GK I) Q)) h s->vf (λI=>vc P mu c (ki (GK I) i)) h s:=by
   intro h
   induction h with
   |zero=>intro s d;exact d
   |succ h q=>
    intro s d;exact oj c (λf s d=>by
     cases f
     case normal=>exact GK.mono (λs d=>q s d) d
     all_goals exact e _ _ d) d
  exact r h s p
 |.exit id,_,_,e,s,d=>e _ _ d
 |.ret,_,_,e,s,d=>e _ _ d
 |.rangeFunc ..,_,_,_,_,d=>d.elim
 |.scope _,_,_,_,_,d=>d.elim
 |.label _,_,_,_,_,d=>d.elim
 |.goto _,_,_,_,_,d=>d.elim
 |.refuse _,_,_,_,_,d=>d.elim
def KW{P:ay}{mu:aD}{c:dH}{Q:gw}(I:aU)(e:St->Nat){s:St}(k:I s)(m:∀s,I s->vc P mu c (ki (GK λh=>I h/\e h<e s) Q) s):
 qF P mu c Q s:=
 Td (F:=λf=>vc P mu c (ki (GK f) Q)) (λI f s j d=>oj c (λi s d=>by
  cases i
  case normal=>exact GK.mono j d
  all_goals exact d) d) I e k m
def Tf{P:ay}{mu:aD}{c:dH}{Q:gw}(I:aU)(d:St->Nat){s:St}(j:I s)(k:∀s,I s->vc P mu c (ki (λf=>I f/\d f<d s) Q) s):
 qF P mu c Q s:=
 KW I d j λs i=>oj c (λh s e=>by
  cases h
  case normal=>exact GK.intro e
  all_goals exact e) (k s i)
def Inv(nt:Nat)(d:List (Nat×D))(p:Prop)(s:St):Prop:=s.nt=nt/\(∀x∈d,s.env x.1=x.2)/\p
def uq(nt:Nat)(d:List (Nat×D))(p:(bt)->(lf)->(b5)->Prop)(s:St):Prop:=s.nt=nt/\(∀x∈d,s.env x.1=x.2)/\p s.H s.env s.n
def vq(f k e:Nat)(d:Nat->aU)(s:St):Prop:=s.env f=.sc (.int .i64 ((k+1:Nat):Int))/\k<e/\d (k+1) s
def Am(d:aU)(e:St->Nat)(m:Nat)(s:St):Prop:=d s/\e s<m
def mW{P:ay}{mu:aD}{c:dH}{Q:gw}{s:St}(d:aU)(e:St->Nat)(f:d s)(h:∀s,d s->vc P mu c (ki (Am d e (e s)) Q) s):qF P mu c Q s:=
 Tf d e f h
def TB(f k e:Nat)(d:Nat->aU):St->Prop:=GK (vq f k e d)
def Te{P:ay}{mu:aD}{c:dH}{Q:gw}{s:St}(e i:Nat)(f:Nat->aU)(m:s.env e=.sc (.int .i64 0))(j:f 0 s)
 (t:∀(d:Nat)(s:St),d<=i->s.env e=.sc (.int .i64 (d:Int))->f d s->vc P mu c (ki (TB e d i f) Q) s):qF P mu c Q s:=by
 refine KW (λs=>∃d:Nat,d<=i/\s.env e=.sc (.int .i64 (d:Int))/\f d s) (λs=>match s.env e with|.sc (.int _ r)=>i-r.toNat|_=>0) ⟨0,iy _,m,j⟩ ?_;rintro s⟨d,p,q,o⟩;refine oj c (λk u h=>?_) (t d s p q o);cases k
 case normal=>
  refine GK.mono (λu h=>?_) h;obtain⟨j,x,y⟩:=h;exact Zg
 all_goals exact h
def hC{P:ay}{mu:aD}{c:dH}{Q:gw}{s:St}(f h:Nat)(e:Nat->aU)(j:s.env f=.sc (.int .i64 0))(k:e 0 s)
 (q:∀(d:Nat)(s:St),d<=h->s.env f=.sc (.int .i64 (d:Int))->e d s->vc P mu c (ki (vq f d h e) Q) s):qF P mu c Q s:=
 Te f h e j k λd s o p m=>oj c (λi s d=>by
  cases i
  case normal=>exact GK.intro d
  all_goals exact d) (q d s o p m)
def ov(d:List (Nat×D))(e:Nat->D)(t:Nat):D:=match d with
 |[]=>e t
 |x::r=>if t=x.1 then x.2 else ov r e t
@[simp] def bU (d:lf) (e:Nat):ov [] d e=d e:=cr A A
@[simp] def bT (a:Nat) (v:D) (l:List (Nat×D)) (e:lf) (d:Nat):ov ((a,v)::l) e d=if d=a then v else ov l e d:=cr A A
attribute [go_sem] bU bT
def Uh{f:List (Nat×D)}{e:lf}(i:∀d∈f,e d.1=d.2):ov f e=e:=by
 induction f with
 |nil=>rfl
 |cons d o k=>
  funext h;show(if h=d.1 then d.2 else ov o e h)=e h;rw[k λp j=>i p (np _ j)];split
  .rename_i m;rw[m];exact(i d Zs).symm
  .rfl
class ur (J:Nat->St->Prop) (nt:outParam Nat) (fs:outParam (Nat->List (Nat×D))) (p:outParam (Nat->(Nat->D)->(Nat->Option Ob)->(Nat->Nat)->List TE->Nat->Prop)):Prop where
 out:∀q s,J q s->s.nt=nt/\(∀x∈fs q,s.env x.1=x.2)/\p q s.env s.H s.n s.T s.N
def bq{P:ay}{mu:aD}{c:dH}{Q:gw}{s:St}(f i:Nat)(e:Nat->aU){r:Nat}{p:Nat->List (Nat×D)}{t:Nat->(lf)->(bt)->(b5)->List TE->cb}[y:ur e r p t](u:s.env f=.sc (.int .i64 0))(h:e 0 s)
 (B:∀(d:Nat)(o:lf)(j:bt)(q:b5)(m:dd)(k:Nat),d<=i->t d o j q m k->vc P mu c (ki (vq f d i e) Q) ⟨ov ((f,.sc (.int .i64 (d:Int)))::p d) o,j,q,r,m,k⟩):qF P mu c Q s:=
 hC f i e u h λd s A F z=>by
  obtain⟨h,C,x⟩:=y.out d s z;have:=B d s.env s.H s.n s.T s.N A x;rw[Uh Zg,<-h]at this;exact this
instance(nt:Nat)(d:Nat->List (Nat×D))(p:Nat->Prop):ur (λq=>Inv nt (d q) (p q)) nt d (λq _ _ _ _ _=>p q):=⟨λ_ _ h=>h⟩
instance(nt:Nat)(d:Nat->List (Nat×D))(p:Nat->(Nat->Option Ob)->(Nat->D)->(Nat->Nat)->Prop):ur (λq=>uq nt (d q) (p q)) nt d (λq e H n _ _=>p q H e n):=⟨λ_ _ h=>h⟩
def Yq{P:ay}{mu:aD}{c:dH}{Q:gw}{s:St}:qF P mu c Q s=qF P mu c Q s:=rfl
def qH{h d f:Nat}{e:Nat->aU}{s:St}(i:s.env h=.sc (.int .i64 ((d+1:Nat):Int)))(j:d<f)(k:e (d+1) s):vq h d f e s:=⟨i,j,k⟩
def nn(d:Nat):(0<=(d:Int))=True:=bP (Int.natCast_nonneg d)
def iX(d:Nat)(e:(d:Int)<9223372036854775807):IntKind.i64.wrap ((d:Int)+1)=((d+1:Nat):Int):=by
 have:=cW ((d:Int)+1) Zo;rw[this];omega
def bg{h d f:Nat}{e:Nat->St->Prop}{s:St}(j:d<f)(k:e (d+1) s)(i:s.env h=.sc (.int .i64 ((d+1:Nat):Int)):=by simp(disch:=omega) [af,iX]):vq h d f e s:=⟨i,j,k⟩
def bh{a b:Nat}(d:decide ((a:Int)<(b:Int))=ad):a<b:=by simpa using d
def bS{a b:Nat}(d:decide ((a:Int)<(b:Int))=al)(e:a<=b:=by omega):a=b:=by simp at d;omega
def Zx{e:Type}(a:e):∃d,a=d:=⟨_,A⟩
end
@[simp] def aO (v:aE):Cl (.sc v):=.sc v
inductive eO:List D->Prop
 |n:eO []
 |c {d:D} {l:List D} (h:Cl d) (t:eO l):eO (d::l)
variable {a3:DL}
def Zc(a:eO a3:=by repeat first|exact .n|refine .c Zs ?_):eO a3:=a
def eO.all(b:eO a3):∀a∈a3,Cl a:=by
 induction b with
 |n=>simp
 |c b _ e=>intro a d;rcases cJ.1 d with rfl|d;exact b;exact e a d
def Cl.bu(b:∀a∈a3,Cl a):Cl (.ag a3):=.ag a3 λ_ a d=>b a (eg d)
def Cl.eX(b:∀a∈a3,Cl a):Cl (.cp a3):=.cp a3 λ_ a d=>b a (eg d)
def Cl.ir(b:∀a∈a3,Cl a):Cl (.tp a3):=.tp a3 λ_ a d=>b a (eg d)
variable {h:Nat}{i2:ct}
def Cl.fH(d:∀b∈i2,∀a∈b,Cl a):Cl (.sl h i2):=.sl h i2 λ_ b _ a f e=>d b (eg f) a (eg e)
variable {g5:bK}{g0:DL}
def Cl.qu(d:∀a∈a3,Cl a)(e:∀a∈g0,Cl a):Cl (.fn g5 a3 g0):=.fn g5 a3 g0 (λ_ a b=>d a (eg b)) λ_ a b=>e a (eg b)
@[simp] def Ya:Cl (.ag a3)↔∀a∈a3,Cl a:=⟨λb a d=>by cases b with|ag _ b=>obtain⟨f,e⟩:=hQ.1 d;exact b f a e,Cl.bu⟩
@[simp] def Yb:Cl (.cp a3)↔∀a∈a3,Cl a:=⟨λb a d=>by cases b with|cp _ b=>obtain⟨f,e⟩:=hQ.1 d;exact b f a e,Cl.eX⟩
@[simp] def Yd:Cl (.tp a3)↔∀a∈a3,Cl a:=⟨λb a d=>by cases b with|tp _ b=>obtain⟨f,e⟩:=hQ.1 d;exact b f a e,Cl.ir⟩
@[simp] def cI:Cl (.sl h i2)↔∀d∈i2,∀a∈d,Cl a:=
 ⟨λb d i a e=>by cases b with|sl _ _ b=>obtain⟨j,f⟩:=hQ.1 i;obtain⟨k,g⟩:=hQ.1 e;exact b j d k a f g,Cl.fH⟩
@[simp] def Yc:Cl (.fn g5 a3 g0)↔(∀a∈a3,Cl a)/\∀a∈g0,Cl a:=
 ⟨λb=>by cases b with|fn _ _ _ b g=>exact⟨λa d=>by obtain⟨f,e⟩:=hQ.1 d;exact b f a e,λa d=>by obtain⟨f,e⟩:=hQ.1 d;exact g f a e⟩,λb=>Cl.qu b.1 b.2⟩
variable {V:Nat}
def Vb{b d:ct}{a:DL}(e:∀a∈b,a.length=h)(f:V=b.length*h)(i:a3.length=h)(g:a.length=h):na (b++a3::d).flatten V a=(b++a::d).flatten:=by
 subst f;unfold na;simp only[fN,dN];rw[<-(jM e),List.take_left,List.drop_append,List.drop_eq_nil_of_le Zo,a8,show b.flatten.length+a.length-b.flatten.length=a3.length by omega,List.drop_left];simp
def Uw(b:ct){e:ct}{a:DL}{sz d g:Nat}(h:∀a∈b,a.length=sz)(i:d=b.length*sz)(k:a3.length=sz)(f:a.length=sz)(j:g=d+sz):
 (b++a3::e).flatten.take d++a++(b++a3::e).flatten.drop g=(b++a::e).flatten:=by
 rw[<-Vb h i k f,na,f,j]
variable {fd:bt}{a2 a9:Nat}
def Fz.rows{ob:Ob}{rows:ct}(p:fd h=E ob)(l:ob.gen=V)(q:ob.sz=a9)(r:0<a9)(o:a2=rows.length)(i:∀a∈rows,a.length=a9)(j:ob.cells=rows.flatten)
 (k:∀a∈rows,∀e∈a,Cl e) (m:ob.keys=aa:=by rfl):Fz fd (.ms h V a2) (.sl a9 rows):=by
 subst l;subst o;subst q;refine .ms h ob rows (λf g=>(rows.getD f []).getD g .any) p m r (λf a b=>i a (eg b)) (λf a g e b d=>?_) λf a g e b d=>?_
 .rw[j,sW i b d];simp[List.getD,b,d]
 .simp only[List.getD,b,d,kM];exact .cl _ (k a (eg b) e (eg d))
def Fz.NM{a b:DL}(g:∀d∈a.zip b,Fz fd d.1 d.2)(h:a.length=b.length):Fz fd (.ag a) (.ag b):=
 .ag a b h λi e f j k=>g (e,f) (hQ.2 ⟨i,by exact Zg⟩)
abbrev I(n:Int):D:=.sc (.int .i64 n)
abbrev B(b:Bool):D:=.sc (.bool b)
abbrev S(s:BA):D:=.sc (.string s)
def ints(l:IL):D:=.sl 1 (l.map λn=>[I n])
def strs(l:aK):D:=.sl 1 (l.map λs=>[S s])
@[simp] def lk (a:IL):Cl (ints a):=by simp[ints]
@[simp] def jW (a:aK):Cl (strs a):=by simp[strs]
variable {g1:Type}
def L5(a:g1)(b:V<h):List.replicate (h-V) a=a::List.replicate (h-(V+1)) a:=by
 rw[show h-V=(h-(V+1))+1 by omega,List.replicate_succ]
def YD{a:Nat}{left:Int}(b:Nat->Int->Int)(e:∀a left,b a left=if(a:Int)<=left then left-a else-1)(d:(a:Int)<=left):b a left=left-a:=by rw[e,aM d]
def AJ(x:Option D)(H:bt)(r:D):Prop:=match x with|some d=>Fz H d r|none=>False
variable {g3:ay}{wp:eP}{am:D}{ce:St}
def Mb:qN g3 wp am .ret ce=AJ (dj g3 ce wp) ce.H am:=by
 apply propext;simp only[qN,AJ];exact Zg
def UR:qN g3 wp am .normal ce=AJ (dj g3 ce wp) ce.H am:=Mb
variable {be:D}
def UL:AJ (E am) fd be=Fz fd am be:=cr A A
variable {If:ResultVar}
def UH:dj g3 ce [If]=gP g3 ce If:=cr A A
variable {YT:ResultVar}
def UJ{a:St}:dj g3 a [If,YT]=(match gP g3 a If,gP g3 a YT with|some b,E d=>E (.tp [b,d])|_,_=>aa):=by
 simp only[dj,k_,List.mapM_nil];cases gP g3 a If<;>cases gP g3 a YT<;>rfl
variable {YW:ResultVar}
def UI{a:ay}{b:St}:dj a b [If,YT,YW]=(match gP a b If,gP a b YT,gP a b YW with|some d,E e,E f=>E (.tp [d,e,f])|_,_,_=>aa):=by
 simp only[dj,k_,List.mapM_nil];cases gP a b If<;>cases gP a b YT<;>cases gP a b YW<;>rfl
variable {YX:ResultVar}
def UF{a:ay}{b:St}:dj a b [If,YT,YW,YX]=(match gP a b If,gP a b YT,gP a b YW,gP a b YX with|some d,E e,E f,E g=>E (.tp [d,e,f,g])|_,_,_,_=>aa):=by
 simp only[dj,k_,List.mapM_nil];cases gP a b If<;>cases gP a b YT<;>cases gP a b YW<;>cases gP a b YX<;>rfl
def du(a b:BA):(a.toList==b.toList)=decide (a=b):=by
 have f:∀d:BA,d.toList=d.data.toList:=λd=>ByteArray.toList_eq d;by_cases e:a=b
 .subst e;simp
 .have:a.toList≠b.toList:=by
   rw[f,f];intro g;apply e;cases a;cases b;congr 1;exact qU g
  simp[e,this]
def fj(d e:D):Prop:=∀(V:View)(v:aE),Rd V d v->Rd V e v
def fj.rfl:fj am am:=λ_ _ a=>a
def fj.cp{e:DL}(l:Nat)(h:a3.take l=e):fj (.cp a3) (.cp e):=λp v k=>by
 cases k with
 |cp _ g m o i j=>
  have f:∀(b:Nat)(a:D),e[b]?=E a->a3[b]?=E a:=λb a d=>by
   rw[<-h,sA]at d;split at d
   .exact d
   .cases d
  exact .cp e g m o (λb a d=>i b a (f b a d)) λb a d=>j b a (f b a d)
def Sp.le{b bs:DL}(f:Sp g3 g5 bs am)(l:b.length=bs.length)(m:∀(a:Nat)(d e:D),b[a]?=E d->bs[a]?=E e->fj d e):Sp g3 g5 b am:=
 ⟨f.ok,λp i vs j q k=>f.run p i vs j Zo λa d v g o=>by
  have h:a<b.length:=by rw[l];exact(ej.1 g).1
  exact m a _ d (bR h) g _ _ (k a _ v (bR h) o)⟩
variable {g2 g7 i5:D}
def Sp.Ac(d:Sp g3 g5 [g2,g7] i5)(e:fj am g2)(f:fj be g7):Sp g3 g5 [am,be] i5:=d.le Zs λg h i a b=>by
 match g,a,b with
 |0,a,b=>simp at a b;subst a;subst b;exact e
 |1,a,b=>simp at a b;subst a;subst b;exact f
def Sp.Yp(d:Sp g3 g5 [be] g2)(e:fj am be):Sp g3 g5 [am] g2:=d.le Zs λf g h a b=>by
 match f,a,b with
 |0,a,b=>simp at a b;subst a;subst b;exact e
def Fz.cell{d:Ob}{a:DL}(m:fd h=E d)(k:d.gen=V)(i:d.cells=a)(j:∀g∈a,Cl g)(l:d.keys=aa:=by rfl):Fz fd (.rf h V 0) (.cp a):=by
 subst k;refine .rf h d 0 a (λe=>a.getD e .any) m l (λe f b=>?_) λe f b=>?_
 .rw[i,ek,b];simp[List.getD,b]
 .simp only[List.getD,b,kM];exact .cl _ (j f (eg b))
def Js{bs:DL}(f:∀e∈a3.zip bs,Fz fd e.1 e.2):∀(d:Nat)(a b:D),a3[d]?=E a->bs[d]?=E b->Fz fd a b:=λd a b g h=>
 f (a,b) (hQ.2 ⟨d,by rw[List.getElem?_zip_eq_some];exact⟨g,h⟩⟩)
def Fz.Yk{a b:DL}(g:a.length=b.length)(e:∀d∈a.zip b,Fz fd d.1 d.2):Fz fd (.fn g5 [] a) (.fn g5 [] b):=
 .fn g5 [] [] a b A g (λj h i f=>by simp at f) (Js e)
variable {i0:ON}{gc:aU}
def sN{first b args:DL}(bs:DL)(a:D)(g:Sp g3 g5 bs a)(l:bs.length=(first++args++b).length)
 (m:∀d∈(first++args++b).zip bs,Fz ce.H d.1 d.2) (j:(mN a).isSome=ad) (h:gc (ce.put i0 a)):jc g3 ce (.fn g5 first b) args i0 gc:=
 .inl ⟨a,.inr ⟨bs,l,λo e f i k=>.fz (Js m o e f i k),g,j⟩,h⟩
section
open Go.ChangeShapes Go.WideShapes
abbrev V0(W:aL):View:=view W (λ_=>False) (λ_=>aa) db
def nA(V:View)(ds:DL)(cs:VL):Prop:=ds.length=cs.length/\∀(i:Nat)(d:D)(v:aE),ds[i]?=E d->cs[i]?=E v->Rd V d v
def iL(V:View)(ds:DL)(cs:VL)(o:Nat):Prop:=∀(i:Nat)(d:D),ds[i]?=E d->∃v,cs[o+i]?=E v/\Rd V d v
def iL.append{e:View}{a h:DL}{f:VL}{g j:Nat}(l:iL e a f g)(p:iL e h f j)(k:j=g+a.length):iL e (a++h) f g:=λi d b=>by
 subst k;by_cases o:i<a.length
 .rw[jR o]at b;exact l i d b
 .rw[jv Zo]at b;obtain⟨v,q,m⟩:=p _ d b;exact⟨v,by exact Zg,m⟩
def nA.of{e:View}{b:DL}{a:VL}(j:b.length=a.length)(g:iL e b a 0):nA e b a:=⟨j,λl d v i k=>by
 obtain⟨m,f,h⟩:=g l d i;rw[ek,k]at f;cases f;exact h⟩
def nA.one{e:View}{d:D}{v:aE}(f:Rd e d v):nA e [d] [v]:=⟨A,λg h i a b=>by
 match g,a,b with
 |0,a,b=>simp at a b;subst a;subst b;exact f⟩
def nA.ag{e:View}{b:DL}{a:iA}(f:nA e b a.toList):Rd e (.ag b) (.agg a):=by
 have:=Rd.ag b a.toList f.1 f.2;simpa using this
def nA.Qq{a:View}{d:D}{v:aE}(b:nA a [d] [v]):Rd a d v:=b.2 0 d v A A
def dt(P:ay)(n:Nat)(t:aQ){X:Type}(ds:X->DL)(ok:X->Prop):Prop:=
 ∀{H:Type}(ie:aQ×aE->H)(W:aL)(base:Nat)(spare:Nat->Bool)(held:Bool)(b:Nat)(cs:VL)(x:DataW H×List MemPlace),b<=n->
  DataW.trod ie P W base spare held b t cs=E x->∃a:X,ok a/\nA (V0 W) (ds a) cs
section
variable{P:ay}{n:Nat}{t:aQ}
def dt.int{b:IntKind}(f:P.underlying t=E (.int b)):dt P n t (λa:Int=>[.sc (.int b a)]) (λa=>(Lit.int b a).wf=ad):=λie W base spare held i h j _ e=>by
 obtain⟨a,rfl,_,g⟩:=DataW.trod_int f e;exact⟨a,g,.one (.sc _)⟩
def dt.str(e:P.underlying t=E .string):dt P n t (λa:BA=>[.sc (.string a)]) (λa=>a.size<=ao):=λie W base spare held h g i _ b=>by
 obtain⟨a,rfl,_,f⟩:=DataW.trod_string e b;exact⟨a,f,.one (.sc _)⟩
def dt.mono{a:Type}{b:a->DL}{f:a->Prop}{e:Nat}(i:dt P n t b f)(m:e<=n):dt P e t b f:=λie W base spare held h g k l j=>i ie W base spare held h g k Zo j
def KP{f:Type}{h:Nat->f->Prop}:∀(n:Nat),(∀a,a<n->∃b,h a b)->∃e:List f,e.length=n/\∀(a:Nat)(b:f),e[a]?=E b->h a b
 |0,_=>⟨[],A,Zs⟩
 |n+1,g=>by
  obtain⟨e,i,k⟩:=KP n λa o=>g a Zo;obtain⟨b,l⟩:=g n Zo;refine⟨e++[b],by simp[i],λa j m=>?_⟩;exact Zg
def dt.slice{m:Type}{j:m->DL}{A:m->Prop}{u:aQ}{sz:Nat}(ae:P.underlying t=E (.slice u))(ab:P.cellsOf u=sz)(Q:0<sz)(K:∀i,(j i).length=sz)(O:dt P n u j A):
 dt P (n+1) t (λg:List m=>[.sl sz (g.map j)]) (λg=>g.length<=ao/\∀i∈g,A i):=λie W base spare held aq ap az aw ak=>by
 rcases DataW.trod_slice ae ak with⟨rfl,_⟩|⟨i,y,B,G,ax,an,rfl,rfl,_,ar,av,L,au,U,_,_⟩
 .exact⟨[],⟨by simp[ao],Zs⟩,.one (.nil sz)⟩
 .have F:∀a,a<y->∃f:m,A f/\∃vs,nA (V0 W) (j f) vs/\vs.length=sz/\∀b,b<sz->W.cell? ((i.add (a*sz)).add b)=vs[b]?:=λa w=>by
   have I:=U a w;have S:G[a]?=E (G[a]'Zo):=bR Zo;rw[S,ab,iJ]at I;obtain⟨vs,ai,ah⟩:=I;obtain⟨_,x,l⟩:=World.cells?_some ai;obtain⟨f,h,p⟩:=O ie W base spare held an vs _ Zo ah;exact⟨f,h,vs,p,x,l⟩
  by_cases am:y=0
  .subst am;exact⟨[],⟨by simp[ao],Zs⟩,.one (by simpa using Rd.fu sz i B L)⟩
  .obtain⟨g,X,J⟩:=KP y F;have M:i.spot=aa:=by
    obtain⟨f,_,vs,p,x,l⟩:=F 0 Zo;have:=l 0 Q;rw[bR Zo]at this;have Z:=World.cell?_spot this;simpa[Addr.add]using Z
   obtain⟨s,z,ay⟩:=i;simp only at M;subst M;have C:∀(a:Nat)(r:DL)(b:Nat)(d:D),(g.map j)[a]?=E r->r[b]?=E d->∃q,W.cell? ⟨s,z+a*sz+b,aa⟩=E q/\Rd (V0 W) d q:=by
    intro a r b d e k;rw[gF]at e;cases h:g[a]? with
    |none=>rw[h]at e;cases e
    |some f=>
     rw[h]at e;cases e;obtain⟨_,vs,p,x,l⟩:=J a f h;have V:b<sz:=by rw[<-K f];exact(ej.1 k).1
     have:=l b V;rw[add_lit,add_lit,bR Zo]at this;exact⟨_,this,p.2 b d _ k (bR Zo)⟩
   have Y:g.length=(g.map j).length:=Zs;refine⟨g,⟨by unfold ao at*;omega,λf h=>?_⟩,.one ?_⟩
   .obtain⟨a,w⟩:=hQ.1 h;exact(J a f w).1
   .rw[<-X,Y];refine .sl sz _ s z B (λa b=>(W.cell? ⟨s,z+a*sz+b,aa⟩).getD cC) de L (λa r e=>?_) (λa r b d e k=>?_) λa r b d e k=>?_
    .rw[gF]at e;cases h:g[a]? with
     |none=>rw[h]at e;cases e
     |some f=>rw[h]at e;cases e;exact K f
    .obtain⟨q,o,_⟩:=C a r b d e k;rw[o];exact dK o Zs Zs
    .obtain⟨q,o,R⟩:=C a r b d e k;rw[o];exact R
def dt.field{H:Type}{ie:aQ×aE->H}{W:aL}{base:Nat}{spare:Nat->Bool}{held:Bool}{g:Type}{h:g->DL}{l:g->Prop}(p:dt P n t h l){e f k j:Nat}{b:VL}{m:List (DataW H×List MemPlace)}(u:e<=n)
 (i:DataW.trod ie P W base spare held e t ((b.drop f).take k)=m[j]?) (q:j<m.length):∃a,l a/\iL (V0 W) (h a) b f:=by
 rw[bR q]at i;obtain⟨a,o,x,y⟩:=p ie W base spare held e _ _ u i;refine⟨a,o,λw d z=>?_⟩;have s:w<((b.drop f).take k).length:=by exact Zg
 have A:=bR s;exact Zg
end
section
variable{H:Type}{ie:aQ×aE->H}{P:ay}{W:aL}{base b0:Nat}{spare:Nat->Bool}{held:Bool}{r:Reach}{t:aQ}{v:aE}{d:DataW H}{ps:List MemPlace}
def N3{h:Array Field}{b:Type}{e:b->DL}{g:b->Prop}(o:P.underlying t=E (.struct h))(l:∀n,dt P n t e g)(p:Value.okWide P W r b0 t v)(i:DataW.Trod ie P W base spare held t v d ps):∃a,g a/\Rd (V0 W) (.ag (e a)) v:=by
 obtain⟨q,rfl,_⟩:=okWide_struct o p;obtain⟨f,m⟩:=i;obtain⟨a,j,k⟩:=l f ie W base spare held f _ _ (b_ _) m;exact⟨a,j,nA.ag (by simpa[Value.cells]using k)⟩
def X5{h:aQ}{b:Type}{e:b->D}{g:b->Prop}(o:P.underlying t=E (.slice h))(l:∀n,dt P n t (λa=>[e a]) g)(p:Value.okWide P W r b0 t v)(i:DataW.Trod ie P W base spare held t v d ps):∃a,g a/\Rd (V0 W) (e a) v:=by
 obtain⟨u,s,q,rfl⟩:=okWide_slice o p;obtain⟨f,m⟩:=i;obtain⟨a,j,k⟩:=l f ie W base spare held f _ _ (b_ _) m;exact⟨a,j,nA.Qq (by simpa[Value.cells]using k)⟩
def X4{a:IntKind}(f:P.underlying t=E (.int a))(g:Value.okWide P W r b0 t v)(e:DataW.Trod ie P W base spare held t v d ps):∃b,(Lit.int a b).wf=ad/\Rd (V0 W) (.sc (.int a b)) v:=by
 obtain⟨n,rfl,_,_,h⟩:=open_int f g e;exact⟨n,h,.sc _⟩
def X6(e:P.underlying t=E .string)(i:Value.okWide P W r b0 t v)(f:DataW.Trod ie P W base spare held t v d ps):∃a:BA,a.size<=ao/\Rd (V0 W) (.sc (.string a)) v:=by
 obtain⟨j,rfl⟩:=okWide_string e i;obtain⟨k,g⟩:=f;obtain⟨l,b,_,h⟩:=DataW.trod_string e g;simp[Value.cells]at b;subst b;exact⟨j,h,.sc _⟩
def X3(b:P.underlying t=E .bool)(i:Value.okWide P W r b0 t v)(f:DataW.Trod ie P W base spare held t v d ps):∃e:Bool,True/\Rd (V0 W) (.sc (.bool e)) v:=by
 obtain⟨j,h⟩:=f;obtain⟨a,k,_⟩:=DataW.trod_bool b h;have g:v=.bool a:=by
  simp only[Value.okWide,b,Cell.okWide]at i;cases v<;>simp_all[Value.cells,Cell.ok]
 exact⟨a,trivial,by rw[g];exact .sc _⟩
def WA(a:DataW.Trod ie P W base spare held t v d ps):∀f∈ps,f.block<W.heap.size:=by
 obtain⟨e,b⟩:=a;exact DataW.trod_lt e _ _ _ b
end
def UA{b:View}{e:DL}{vs:VL}(g:∀f∈e.zip vs,Rd b f.1 f.2):∀(a:Nat)(d:D)(v:aE),e[a]?=E d->vs[a]?=E v->Rd b d v:=λa d v h i=>
 g (d,v) (hQ.2 ⟨a,by exact Zg⟩)
def Uz{b:View}{a:Bool}{v:aE}(e:Rd b (.sc (.bool a)) v):v=.bool a:=by cases e;rfl
end
def et{X:Type}(p:X->Bool):List X->Int
 |[]=>-1
 |x::l=>if p x then 0 else(if et p l<0 then-1 else et p l+1)
def xr{d:g1->Bool}:∀{b:List g1},b.any d=al->et d b=-1
 |[],_=>rfl
 |x::b,a=>by
  simp only[List.any_cons,Bool.or_eq_false_iff]at a;simp[et,a.1,xr a.2]
def kW{p:g1->Bool}:∀{l:List g1}{k:Nat}(a:k<l.length),(l.take k).any p=al->p l[k]=ad->et p l=k
 |[],k,a,_,_=>by simp at a
 |x::l,0,_,_,a=>by simp at a;simp[et,a]
 |x::l,k+1,d,a,b=>by
  simp only[ix,List.any_cons,Bool.or_eq_false_iff]at a;have:=kW (p:=p) (l:=l) (k:=k) (by simpa using d) a.2 (by simpa using b);simp only[et,a.1,this];simp;omega
def mS{p:g1->Bool}(a:List g1):decide (et p a>=0)=a.any p:=by
 induction a with
 |nil=>rfl
 |cons f a g=>
  rw[List.any_cons,<-g];by_cases d:p f=ad
  .simp[et,d]
  .have e:p f=al:=by simpa using d
   by_cases b:et p a<0
   .simp[et,e,b]
   .simp[et,e,b];omega
def any_take_succ{p:g1->Bool}{a:List g1}(b:h<a.length):(a.take (h+1)).any p=((a.take h).any p||p a[h]):=by
 rw[ch b,List.any_append];simp only[List.any_cons,List.any_nil,Bool.or_false]
def kQ{b:g1->Bool}{a:List g1}(d:h<a.length):(a.take (h+1)).all b=((a.take h).all b&&b a[h]):=by
 rw[ch d,List.all_append];simp only[List.all_cons,List.all_nil,ue]
def wH{b:g1->Bool}{a:List g1}(d:h<a.length)(e:b a[h]=al):a.all b=al:=by exact Zg
def a1(n b a:Int):Bool:=decide (b<=n/\n<=a)
section
open Go.RowKit
def Ux{f:Type}(d:Nat)(b:Nat->List f):(List.range (d+1)).flatMap b=b 0++(List.range d).flatMap λe=>b (e+1):=by
 rw[List.range_succ_eq_map,List.flatMap_cons,List.flatMap_map]
section
variable{P:ay}{w:aL}{M X:cb}{a:cq}
def yY(T:dd)(sz:Nat)(rows:ct)(s:St):Prop:=
 ∃ob,s.H 0=E ob/\ob.gen=0/\ob.keys=aa/\ob.sz=sz/\OL O1 rows.flatten ob.cells s.T/\bl s.T=bl T
def L_(P:ay)(b:List ResultVar)(T:List TE)(sz:Nat)(rows:List (List D))(r:aE):gk->St->Prop
 |.normal,s=>dj P s b=E (.sc r)/\yY T sz rows s
 |.ret,s=>dj P s b=E (.sc r)/\yY T sz rows s
 |_,_=>False
def Ma(P:ay)(b:List ResultVar)(T:List TE)(r:aE):gk->St->Prop
 |.normal,s=>dj P s b=E (.sc r)/\s.T=T
 |.ret,s=>dj P s b=E (.sc r)/\s.T=T
 |_,_=>False
end
end
def qa(nt:Nat)(a:List (Nat×D))(p:(bt)->(b5)->List TE->Prop)(s:St):Prop:=s.nt=nt/\(∀x∈a,s.env x.1=x.2)/\p s.H s.n s.T
instance(nt:Nat)(a:Nat->List (Nat×D))(p:Nat->(Nat->Option Ob)->(Nat->Nat)->List TE->Prop):ur (λq=>qa nt (a q) (p q)) nt a (λq _ H n T _=>p q H n T):=⟨λ_ _ h=>h⟩
variable {ip m3:DL}{m9 wf:dd}
def OL.eF{R:D->D->List TE->Prop}(a:OL R a3 g0 m9)(d:OL R ip m3 wf):OL R (a3++ip) (g0++m3) (m9++wf):=by
 induction a with
 |nil=>exact d
 |cons a _ b=>rw[bf,bf,dM];exact .cons a b
def OL.len{R:D->D->List TE->Prop}(a:OL R a3 g0 m9):g0.length=a3.length:=by
 induction a with
 |nil=>rfl
 |cons _ _ b=>simp[b]
def DW:OL O1 [] a3 m9↔a3=[]/\m9=[]:=⟨λa=>by cases a;exact⟨A,A⟩,λa=>by rw[a.1,a.2];exact .nil⟩
def DX{v:aE}{T:dd}:OL O1 (.sc v::a3) g0 T↔∃b,g0=.sc v::b/\OL O1 a3 b T:=
 ⟨λa=>by cases a with|cons a e=>cases a;exact⟨_,A,by simpa using e⟩,λ⟨b,d,a⟩=>by rw[d];exact OL.cons (T:=[]) (.sc v) a⟩
def DY{T:dd}:OL O1 (.sl h i2::a3) g0 T↔∃a d b e i g,g0=.sc (.slice a d b)::i/\T=⟨.slice a d b,.sl h i2,e⟩::g/\OL O1 a3 i g:=
 ⟨λf=>by cases f with|cons f l=>cases f with|sl _ _ a d b e=>exact⟨a,d,b,e,_,_,A,Zs,l⟩,λ⟨a,d,b,e,i,g,j,k,f⟩=>by rw[j,k];exact OL.cons (T:=[_]) (.sl h i2 a d b e) f⟩
def OL.one(a:OL O1 a3 g0 m9)(e:∀d∈a3,b4 d=ad):∀b∈g0,b4 b=ad:=by
 induction a with
 |nil=>simp
 |cons a _ f=>
  intro b he;rcases cJ.1 he with rfl|he
  .cases a with
   |sc v=>exact e _ Zs
   |sl=>rfl
  .exact Zg
def tH(a:O3 (.sl h i2) am m9):∃b e d f,am=.sc (.slice b e d)/\m9=[⟨.slice b e d,.sl h i2,f⟩]:=by
 cases a with|one a=>cases a with|one a=>cases a with|sl _ _ b e d f=>exact⟨b,e,d,f,A,A⟩
def Ar(a:O3 (.ag a3) am m9):∃b,am=.ag b/\OL O1 a3 b m9:=by
 cases a with|one a=>cases a with
  |one a=>cases a
  |ag a=>exact⟨_,A,a⟩
def TN{v:aE}(a:O3 (.sc v) am m9):am=.sc v/\m9=[]:=by
 cases a with|one a=>cases a with|one a=>cases a;exact⟨A,A⟩
def OL.tS{v:aE}{T:dd}(a:OL O1 a3 g0 T):OL O1 (.sc v::a3) (.sc v::g0) T:=OL.cons (T:=[]) (.sc v) a
variable {g4:aD}
def OL.vO{a:Option Addr}{T:dd}(b:OL O1 a3 g0 T):OL O1 (.sl h i2::a3) (.sc (.slice a V a2)::g0) (⟨.slice a V a2,.sl h i2,g4⟩::T):=OL.cons (T:=[_]) (.sl h i2 a V a2 g4) b
def Lx:∀{ds:DL},(∀d∈ds,∃v,d=.sc v)->OL O1 ds ds []
 |[],_=>.nil
 |d::ds,a=>by
  obtain⟨v,rfl⟩:=a d Zs;exact OL.tS (Lx λb e=>a b (by simp[e]))
def Uu{a d b:DL}(e:a.length=V)(g:b.length=h)(f:a2=V+h):(a++(b::i2).flatten).take V++d++(a++(b::i2).flatten).drop a2=(a++d)++i2.flatten:=by
 subst e;subst f;rw[List.take_left,dN,<-dM a b,show a.length+h=(a++b).length by simp[g],List.drop_left]
def Fz.uM{a:D}(b:Cl a):Fz fd a a:=.cl a b
def oI{b:St}{first e args:DL}(f:D)(i:fk g3 g5 (first++args++e) [] [] f)(k:∀d∈first++args++e,Cl d)
 (j:∀a T,O3 f a T->gc ({b with T:=b.T++T}.put i0 a)):jc g3 b (.fn g5 first e) args i0 gc:=
 .inr<|.inl ⟨_,[],b.T,[],f,Zs,A,λm d a g h=>by rw[g]at h;cases h;exact .fz (.cl d (k d (eg g))),i,λa T l=>⟨b.T++T,by simp[kl],j a T l⟩⟩
def P0{bs:DL}(f:∀e∈a3.zip bs,Fb fd m9 e.1 e.2):∀(d:Nat)(a b:D),a3[d]?=E a->bs[d]?=E b->Fb fd m9 a b:=λd a b g h=>
 f (a,b) (hQ.2 ⟨d,by exact Zg⟩)
def X9{a:St}{first e args:DL}(b:DL)(f:D)(h:fk g3 g5 b [] [] f)(k:b.length=(first++args++e).length)
 (j:∀g∈(first++args++e).zip b,Fb a.H a.T g.1 g.2) (i:∀d T,O3 f d T->gc ({a with T:=a.T++T}.put i0 d)):jc g3 a (.fn g5 first e) args i0 gc:=
 .inr<|.inl ⟨b,[],a.T,[],f,Zs,k,P0 j,h,λd T l=>⟨a.T++T,by simp[kl],i d T l⟩⟩
def X8{first e args:DL}(a g d:dd)(f:DL)(j:aE)(l:fk g3 g5 (first++args++e) a f (.sc j))(o:∀b∈first++args++e,Cl b)
 (q:ce.T.Perm (a++g)) (p:d.Perm (kl a f++g)) (m:gc ({ce with T:=d}.put i0 (.sc j))):jc g3 ce (.fn g5 first e) args i0 gc:=
 .inr<|.inl ⟨_,a,g,f,_,q,A,λs b k h i=>by rw[h]at i;cases i;exact .fz (.cl b (o b (eg h))),l,λk T r=>by
  obtain⟨rfl,rfl⟩:=TN r;exact⟨d,by simpa using p,m⟩⟩
def JZ:∀(b a:Us),fy (b++a)=fy b++fy a
 |[],a=>rfl
 |.inl e::b,a=>by simp[fy,JZ b a]
 |.inr d::b,a=>by simp[fy,JZ b a]
def J1:∀(b a:Us),jZ (b++a)=jZ b++jZ a
 |[],a=>rfl
 |.inl e::b,a=>by simp[jZ,J1 b a]
 |.inr d::b,a=>by simp[jZ,J1 b a]
def Dk:∀a:dd,fy (a.map Sum.inl)=a
 |[]=>rfl
 |b::a=>by simp[fy,Dk a]
def Dm:∀a:dd,jZ (a.map Sum.inl)=[]
 |[]=>rfl
 |b::a=>by simp[jZ,Dm a]
def O1.c1(e:O1 am be m9):C1 fd be am (m9.map .inl):=by
 cases e with
 |sc v=>exact .sc v
 |sl h g b f d a=>exact .tr ⟨.slice b f d,.sl h g,a⟩
def OL.cl(a:OL O1 a3 g0 m9):CL (C1 fd) g0 a3 (m9.map .inl):=by
 induction a with
 |nil=>exact .nil
 |cons a _ b=>rw[bC];exact .cons a.c1 b
def OL.idx{H:bt}{d g:DL}(h:OL O1 d g m9):∃(e:lf)(b:Nat->Us),(m9.map Sum.inl:Us)=(List.range d.length).flatMap b/\∀(a:Nat)(f:D),d[a]?=E f->g[a]?=E (e a)/\C1 H (e a) f (b a):=by
 induction h with
 |nil=>exact⟨λ_=>.any,λ_=>[],A,Zs⟩
 |@cons f k m9 d g p h _ o=>
  obtain⟨e,b,l,m⟩:=o;refine⟨λa=>match a with|0=>k|a+1=>e a,λa=>match a with|0=>m9.map .inl|a+1=>b a,?_,λa j i=>?_⟩
  .rw[bC,di,Ux,l]
  .cases a with
   |zero=>simp at i;subst i;exact⟨A,h.c1⟩
   |succ a=>simpa using m a j (by simpa using i)
def C1.rows{H:bt}{ob:Ob}{rows:ct}(p:H h=E ob)(j:ob.gen=V)(q:ob.sz=a9)(r:0<a9)(m:a2=rows.length)(l:∀s∈rows,s.length=a9)(o:OL O1 rows.flatten ob.cells m9)(k:ob.keys=aa:=by rfl):
 C1 H (.ms h V a2) (.sl a9 rows) (.inr h::m9.map .inl):=by
 subst j;subst q;subst m;obtain⟨g,f,i,e⟩:=o.idx (H:=H);rw[i];exact .ms h ob rows g f p k r l (λd a b=>(e d a b).1) λd a b=>(e d a b).2
def IE{a:Ob}(i:ce.H h=E a)(b:a.gen=V)(j:a.sz=a9)(k:0<a9)(f:a2=i2.length)(e:∀l∈i2,l.length=a9)(g:OL O1 i2.flatten a.cells ce.T)(d:a.keys=aa:=by rfl):
 pE [] [] (.sl a9 i2) ce (.ms h V a2):=
 ⟨_,[],.one (.one (C1.rows i b j k f e g d)),by simp[kl,fy,Dk],by simp[jZ,Dm]⟩
def Ye(a:ce.T=[]):pE [] [] (.sl h []) ce (.sc (.slice aa 0 0)):=⟨[],[],.one (.one (.nil h)),by simp[kl,fy,a],by simp[jZ]⟩
def uO(a:OL O1 a3 g0 ce.T):pE [] [] (.ag a3) ce (.ag g0):=
 ⟨_,[],.one (.ag a.cl),by simp[kl,Dk],by simp[Dm]⟩
def UO:xU g3 wp m9 a3 am .ret ce=∃a,dj g3 ce wp=E a/\pE m9 a3 am ce a:=cr A A
def Yu:xU g3 wp m9 a3 am .normal ce=∃a,dj g3 ce wp=E a/\pE m9 a3 am ce a:=cr A A
def pY(x:Option D)(K:D->Prop):Prop:=match x with|some d=>K d|none=>False
def L9{P:ay}{rs:eP}{s:St}:xU P rs m9 a3 am .ret s=pY (dj P s rs) (pE m9 a3 am s):=by
 apply propext;rw[UO];exact yv
def UN:xU g3 wp m9 a3 am .normal ce=pY (dj g3 ce wp) (pE m9 a3 am ce):=L9
def UK{a:D->Prop}:pY (E am) a=a am:=cr A A
variable {m1:aE}
def Yw:L_ g3 wp m9 h i2 m1 .ret ce=(dj g3 ce wp=E (.sc m1)/\yY m9 h i2 ce):=cr A A
def Yv:L_ g3 wp m9 h i2 m1 .normal ce=(dj g3 ce wp=E (.sc m1)/\yY m9 h i2 ce):=cr A A
def Yy:Ma g3 wp m9 m1 .ret ce=(dj g3 ce wp=E (.sc m1)/\ce.T=m9):=cr A A
def Yx:Ma g3 wp m9 m1 .normal ce=(dj g3 ce wp=E (.sc m1)/\ce.T=m9):=cr A A
def cK(nt:Nat)(a:List (Nat×D))(p:(lf)->(bt)->(b5)->List TE->Prop)(s:St):Prop:=s.nt=nt/\(∀x∈a,s.env x.1=x.2)/\p s.env s.H s.n s.T
instance(nt:Nat)(a:Nat->List (Nat×D))(p:Nat->(Nat->D)->(Nat->Option Ob)->(Nat->Nat)->List TE->Prop):ur (λq=>cK nt (a q) (p q)) nt a (λq e H n T _=>p q e H n T):=⟨λ_ _ h=>h⟩
section
open Go.RowKit
def lF(w:aL)(M:Nat->Prop)(e:aQ)(sz:Nat)(rows:List (List D))(v:aE):Option Nat->Prop
 |none=>rows=[]/\v=.slice aa 0 0
 |some b=>∃c us,v=.slice (E ⟨b,0,aa⟩) rows.length c/\w.heap[b]?=E (.cells us e (0,0))/\us.size=c*sz/\(c<=ao/\rows.length<=c)/\rows.flatten.length<=us.size/\
  ∀(j:Nat)(d:D),rows.flatten[j]?=E d->∃u,us[j]?=E u/\Rd (view w (λk=>M k\/k=b) (λ_=>aa) db) d u
structure ib (P:ay) (f:bK) (pre post:List D) (e:aQ) (sz:Nat) (rows h:List (List D)):Prop where
 ok:lL P f
 cl:∀d∈rows.flatten,Cl d
 uM:∀d∈h.flatten,Cl d
 run:∀(w:aL)(M:Nat->Prop)(us vs:List aE)(u:aE)(x:Option Nat),MB M w->(∀b,x=E b->¬M b)->pre.length=us.length->post.length=vs.length->
  (∀(i:Nat)(d:D)(v:aE),pre[i]?=E d->us[i]?=E v->Rd (view w (λb=>M b\/x=E b) (λ_=>aa) db) d v)->
  (∀(i:Nat)(d:D)(v:aE),post[i]?=E d->vs[i]?=E v->Rd (view w (λb=>M b\/x=E b) (λ_=>aa) db) d v)->
  lF w M e sz rows u x->
  Calls P f (us++u::vs).toArray w λz w'=>∃v y,z=.returned v/\(lu w M λb=>x=E b).Ok w'/\lF w' M e sz h v y/\∀b,y=E b->w.heap.size<=b\/x=E b
section
variable{P:ay}{w0:Bs}{M:cb}{g:dm}{s:St}{a:cq}{w:aL}
def W4{f:Type}(d:Nat->Option f)(b:Nat)(h e:Option f):aj (aj d b h) b e=aj d b e:=by
 funext i;unfold aj;split<;>rfl
def aS.PM(h:aS w0 M g s a w){i:aL}(t0:Nat)
 (pR:∀k,k<w.heap.size->(∀x c,g t0≠E (x,k,c))->i.heap[k]?=w.heap[k]?) (JO:i.os=w.os) (JU:i.tape=w.tape) (JP:i.output=w.output) (qB:w.heap.size<=i.heap.size):
 aS w0 M (aj g t0 aa) {s with H:=aj s.H t0 aa} a i:=by
 have f:∀s' q,aj g t0 aa s'=E q->s'≠t0/\g s'=E q:=by
  intro s' q e;exact Gp
 have o:(view w M g s.n).Ext (view i M (aj g t0 aa) s.n):=by
  refine⟨λb I J e=>⟨?_,λ⟨G,m,F⟩=>⟨G,m,(pR b (mx (dr e)) λx c=>(cR e).2 _ _ _).trans F⟩⟩,λ_=>b_ _,λs' x b c _ e=>(f _ _ e).2⟩;have t:=dr e;obtain⟨z,r⟩:=cR e;exact dK ((oK (pR b (mx t) λx c=>r _ _ _)).trans t) z λs' x c k=>r _ _ _ (f _ _ k).2
 have B:∀d x b c,d≠t0->g d=E (x,b,c)->∀p l,g t0≠E (p,b,l):=λd x b c A e p l m=>A (h.inj _ _ _ _ _ _ _ e m);refine⟨h.defers,h.size,λC=>(h.env C).mono o,λd D j=>?_,λd x b c e=>⟨(h.base _ _ _ _ (f _ _ e).2).1,gv (h.base _ _ _ _ (f _ _ e).2).2 qB⟩,λt1 t2 x b c p l u y=>h.inj _ _ _ _ _ _ _ (f _ _ u).2 (f _ _ y).2,?_,
  λb k=>⟨gv (h.m0 b k).1 qB,λd x c e=>(h.m0 b k).2 _ _ _ (f _ _ e).2⟩,h.mm,h.zm,tX (s:=s) h λb k=>pR b (h.m0 b k).1 λx c=>(h.m0 b k).2 _ _ _,h.nd,h.og.ext o,h.wm⟩
 .simp only at j;by_cases h0:d=t0
  .subst h0;rw[bH]at j;cases j
  .rw[bV _ _ h0]at j;refine(h.obj d D j).mono o λx b c e=>⟨?_,pR b (h.base _ _ _ _ e).2 (B _ _ _ _ h0 e)⟩;show aj _ t0 _ d=_;rw[bV _ _ h0];exact e
 .exact Hl
def aS.UC(h:aS w0 M g s a w){w':aL}(t0 t b' c':Nat)(vs:iA)(ob:Ob)(JJ:ob.gen=s.n t)
 (pR:∀k,k<w.heap.size->(∀x c,g t0≠E (x,k,c))->w'.heap[k]?=w.heap[k]?) (s9:w.heap.size<=b'\/∃x c,g t0=E (x,b',c))
 (aC:b'<w'.heap.size) (oZ:gH w' b' ob vs) (u_:ob.keys=aa->vs.size=c'*ob.sz) (hc:c'<=ao) (hlen:ob.cells.length<=vs.size)
 (jY:∀(q:Nat)(o:D),ob.cells[q]?=E o->∃m,vs[q]?=E m/\Rd (view w' M (aj (aj g t0 aa) t (E (s.n t,b',c'))) (bump s.n t)) o m)
 (JO:w'.os=w.os) (JU:w'.tape=w.tape) (JP:w'.output=w.output) (qB:w.heap.size<=w'.heap.size):
 aS w0 M (aj (aj g t0 aa) t (E (s.n t,b',c'))) {s with H:=aj (aj s.H t0 aa) t (E ob),n:=bump s.n t} a w':=by
 have m':∀s' y,s'≠t->aj (aj g t0 aa) t (E (s.n t,b',c')) s'=E y->s'≠t0/\g s'=E y:=by
  exact BU
 have p:∀t' x b c,t'≠t0->g t'=E (x,b,c)->(b≠b')/\∀f c',g t0≠E (f,b,c'):=by
  intro t' x b c B e;have i:∀f c',g t0≠E (f,b,c'):=λf c' d=>B (h.inj _ _ _ _ _ _ _ e d);refine⟨λz=>?_,i⟩;subst z;rcases s9 with d|⟨f,c',d⟩
  .have:=(h.base _ _ _ _ e).2;omega
  .exact i _ _ d
 have C0:∀b,M b->b≠b':=by
  exact Fp
 have j:(view w M g s.n).Ext (view w' M (aj (aj g t0 aa) t (E (s.n t,b',c'))) (bump s.n t)):=by
  refine⟨λb K m e=>⟨?_,λ⟨J,d,I⟩=>⟨J,d,(pR b (mx (dr e)) λx c=>(cR e).2 _ _ _).trans I⟩⟩,Io _ _,λs' x b c j e=>?_⟩
  .have hc:=dr e;obtain⟨u,i⟩:=cR e;refine dK ((oK (pR b (mx hc) λx c=>i _ _ _)).trans hc) u λs' x c k=>?_;by_cases hs:s'=t
   .subst hs;rw[bH]at k;cases k;rcases s9 with d|⟨f,c',d⟩
    .have:=mx hc;omega
    .exact i _ _ _ d
   .exact i _ _ _ (m' _ _ hs k).2
  .have j:x<s.n s':=j;by_cases hs:s'=t
   .subst hs;have e:aj (aj g t0 aa) s' (E (s.n s',b',c')) s'=E (x,b,c):=e;rw[bH]at e;simp only[dy,Prod.mk.injEq]at e;omega
   .exact(m' _ _ hs e).2
 have C4:w0.own b':=by
  exact FA
 refine⟨h.defers,h.size,λC=>(h.env C).mono j,λt' G lN=>?_,λt' x b c e=>?_,λt1 t2 x b c f c' e1 l=>?_,?_,λb k=>⟨gv (h.m0 b k).1 qB,λt' x c e=>?_⟩,h.mm,h.zm,tX (s:=s) h λb k=>pR b (h.m0 b k).1 λx c=>(h.m0 b k).2 _ _ _,h.nd,h.og.ext j,h.wm⟩
 .by_cases hs:t'=t
  .exact G0
  .simp only[bV _ _ hs]at lN;by_cases h0:t'=t0
   .subst h0;rw[bH]at lN;cases lN
   .rw[bV _ _ h0]at lN;refine(h.obj t' G lN).mono j λx b c e=>⟨?_,?_⟩
    .show aj _ t _ t'=_;rw[bV _ _ hs,bV _ _ h0];exact e
    .exact pR b (h.base _ _ _ _ e).2 (p _ _ _ _ h0 e).2
 .exact G8
 .by_cases xn:t1=t
  .exact FC
  .obtain⟨F,r⟩:=m' _ _ xn e1;by_cases tg:t2=t
   .subst tg;rw[bH]at l;cases l;exact absurd A (p _ _ _ _ F r).1
   .exact h.inj _ _ _ _ _ _ _ r (m' _ _ tg l).2
 .exact Hl
 .exact E5
def aH(S:aD)(H:bt)(e:aQ)(sz:Nat)(rows:ct)(x:D):Prop:=
 (rows=[]/\x=a')\/∃t gn,t∈S/\x=.ms t gn rows.length/\H t=E ⟨gn,e,sz,rows.flatten,aa⟩
def aH.congr{S:aD}{e H':bt}{f:aQ}{j:Nat}{i:ct}{k:D}(d:aH S e f j i k)(p:∀b∈S,H' b=e b):aH S H' f j i k:=by
 rcases d with d|⟨b,l,h,m,o⟩
 .exact .inl d
 .exact .inr ⟨b,l,h,m,(p b h).trans o⟩
def aH.sub{S S':aD}{e:bt}{f:aQ}{i:Nat}{h:ct}{j:D}(d:aH S e f i h j)(p:∀b∈S,b∈S'):aH S' e f i h j:=by
 rcases d with d|⟨b,k,l,m,o⟩
 .exact .inl d
 .exact .inr ⟨b,k,p b l,m,o⟩
def xM(H:Nat->Option Ob):D->Nat->Option Ob
 |.ms t _ _=>aj H t aa
 |_=>H
def Mv{pre post:DL}{o:D}{vs:VL}{k:View}(l:(pre++o::post).length=vs.length)(m:∀(b:Nat)(d:D)(v:aE),(pre++o::post)[b]?=E d->vs[b]?=E v->Rd k d v):
 ∃j e f,vs=j++e::f/\pre.length=j.length/\post.length=f.length/\Rd k o e/\(∀(b:Nat)(d:D)(v:aE),pre[b]?=E d->j[b]?=E v->Rd k d v)/\∀(b:Nat)(d:D)(v:aE),post[b]?=E d->f[b]?=E v->Rd k d v:=by
 induction pre generalizing vs with
 |nil=>
  cases vs with
  |nil=>simp at l
  |cons e f=>exact⟨[],e,f,A,A,by simpa using l,m 0 o e A A,Zs,λb d v h i=>m (b+1) d v (by simpa using h) (by simpa using i)⟩
 |cons d pre y=>
  cases vs with
  |nil=>simp at l
  |cons v vs=>
   obtain⟨j,e,f,rfl,h,i,t,u,x⟩:=y (vs:=vs) (by simpa using l) λb d v h i=>m (b+1) d v (by simpa using h) (by simpa using i);refine⟨v::j,e,f,A,by simp[h],i,t,λb r z p q=>?_,x⟩;cases b with
   |zero=>simp at p q;subst p;subst q;exact m 0 _ _ A A
   |succ b=>exact u b r z (by simpa using p) (by simpa using q)
def OT{ai:bK}{t:Nat}{pre post:DL}{x:D}{e:aQ}{sz:Nat}{ab o:ct}{L:aU}{S:aD}(h:ib P ai pre post e sz ab o)(r:aH S s.H e sz ab x)
 (J:∀d∈pre++post,Cl d) (ap:o=[]->L ({s with H:=xM s.H x}.put (E t) (.sc (.slice aa 0 0))))
 (O:L ((iH {s with H:=xM s.H x} t e sz o.flatten).put (E t) (.ms t (s.n t) o.length))):gx P s ai (pre++x::post) (E t) L:=by
 intro w0 M g a w aS hr vs aJ aN;obtain⟨au,u,av,rfl,z,B,ak,am,an⟩:=Mv aJ aN;refine⟨h.ok,?_⟩;rcases r with⟨rfl,rfl⟩|⟨t0,aB,-,rfl,aL⟩
 .cases ak;have pP:∀{d:D}{v:aE},Cl d->Rd (view w M g s.n) d v->Rd (view w (λb=>(M b\/∃t x c,g t=E (x,b,c))\/(aa:ON)=E b) (λ_=>aa) db) d v:=λp k=>k.closed (λb Z u q=>by
   refine⟨?_,hM⟩;obtain⟨f,i⟩:=cR q;refine dK (dr q) ?_ Zs;rintro((k|⟨t,x,c,k⟩)|k)
   .exact f k
   .exact i _ _ _ k
   .cases k) p
  refine(h.run w (λb=>M b\/∃t x c,g t=E (x,b,c)) au av _ aa ⟨λb k=>?_,.inl hr.jr.1,hr.jr.2⟩ Zs z B (λy d v f i=>pP (J d (by simp[eg f])) (am y d v f i)) (λy d v f i=>pP (J d (by simp[eg f])) (an y d v f i)) ⟨A,A⟩).mono ?_
  .exact Bq
  rintro aP w'⟨v,ah,rfl,l,I,Y⟩;have hb:=mL l Zs;refine⟨v,?_⟩;cases ah with
  |none=>
   obtain⟨U,rfl⟩:=I;exact⟨_,s.H,s.n,s.T,g,M,A,hr.grow hb,.sc _,ap U⟩
  |some b=>
   obtain⟨c,ae,rfl,G,W,F,R,Q⟩:=I;have aF:w.heap.size<=b:=by
    rcases Y b A with k|k
    .exact k
    .cases k
   have V:=hr.D8 (w':=w') t t b c ae {gen:=s.n t,elem:=e,sz,cells:=o.flatten} A (λk aq _=>hb.block k aq) (.inl aF) (xB G) (.of G A) (λ_=>W) F.1 R
    (λj d p=>by
     obtain⟨u,z,B⟩:=Q j d p;refine⟨u,z,B.mono ⟨λaw Z u e=>⟨?_,hM⟩,λ_=>iy _,λs x b c r e=>absurd r (ow _)⟩⟩;obtain⟨k1,_⟩:=cR e;refine dK (dr e) (λk=>k1 (.inl (.inl k))) λK x ax k=>?_;by_cases C:K=t
     .subst C;rw[bH]at k;cases k;exact k1 (.inr A)
     .rw[bV _ _ C,bV _ _ C]at k;exact k1 (.inl (.inr ⟨_,_,_,k⟩))) hb.os hb.tape hb.output hb.size
   exact⟨_,_,_,s.T,_,M,A,V,pV (by show s.n t<bump s.n t t;rw[kU];omega) F.2 (bH _ _ _),O⟩
 .obtain⟨aT,b0,ay,aO,m,aI,aM,aC,aK,JD⟩:=hr.obj t0 _ aL;have m:=m;cases ak with|ms _ _ _ aR az aG r=>
  obtain⟨rfl,rfl⟩:=r b0 ay m;have CZ:¬M b0:=λk=>(hr.m0 b0 k).2 _ _ _ m;have pP:∀{d:D}{v:aE},Cl d->Rd (view w M g s.n) d v->Rd (view w (λb=>(M b\/∃t x c,g t=E (x,b,c)/\b≠b0)\/E b0=E b) (λ_=>aa) db) d v:=λp k=>k.closed (λb Z u q=>by
   refine⟨?_,hM⟩;obtain⟨f,i⟩:=cR q;refine dK (dr q) ?_ Zs;rintro((k|⟨t,x,c,k,_⟩)|k)
   .exact f k
   .exact i _ _ _ k
   .cases k;exact i _ _ _ m) p
  refine(h.run w (λb=>M b\/∃t x c,g t=E (x,b,c)/\b≠b0) au av _ (E b0) ⟨λb k=>?_,.inl hr.jr.1,hr.jr.2⟩ ?_ z B (λy d v f i=>pP (J d (by simp[eg f])) (am y d v f i)) (λy d v f i=>pP (J d (by simp[eg f])) (an y d v f i)) ⟨az,aO,A,aI.cells A,aM A,⟨aC,aG.2⟩,aK,λj d hj=>?_⟩).mono ?_
  .exact FN
  .exact FO
  .exact Ha
  rintro aP w'⟨v,ah,rfl,l,I,Y⟩;refine⟨v,?_⟩;have ar:∀k,k<w.heap.size->(∀x c,g t0≠E (x,k,c))->w'.heap[k]?=w.heap[k]?:=λk aq nS=>l.block k λq=>by
   rcases q with q|q
   .exact absurd q (by simp only;omega)
   .cases q;exact nS _ _ m
  cases ah with
  |none=>
   obtain⟨U,rfl⟩:=I;exact⟨_,_,s.n,s.T,_,M,A,hr.PM t0 ar l.os l.tape l.output l.size,.sc _,ap U⟩
  |some b=>
   obtain⟨c,ae,rfl,G,W,F,R,Q⟩:=I;have V:=hr.UC (w':=w') t0 t b c ae {gen:=s.n t,elem:=e,sz,cells:=o.flatten} A ar (by
    rcases Y b A with k|k
    .exact .inl k
    .cases k;exact .inr ⟨_,_,m⟩) (xB G) (.of G A) (λ_=>W) F.1 R
    (λj d p=>by
     obtain⟨u,z,B⟩:=Q j d p;refine⟨u,z,B.mono ⟨λaw Z u e=>⟨?_,hM⟩,λ_=>iy _,λs x b c r e=>absurd r (ow _)⟩⟩;obtain⟨k1,_⟩:=cR e;refine dK (dr e) (λk=>k1 (.inl (.inl k))) λK x ax k=>?_;by_cases C:K=t
     .subst C;rw[bH]at k;cases k;exact k1 (.inr A)
     .rw[bV _ _ C]at k;by_cases X:K=t0
      .subst X;rw[bH]at k;cases k
      .rw[bV _ _ X]at k;exact k1 (.inl (.inr ⟨_,_,_,k,λe=>X (hr.inj _ _ _ _ _ _ _ (e▸k) m)⟩))) l.os l.tape l.output l.size
   have aA:iH {s with H:=xM s.H (.ms t0 aB ab.length)} t e sz o.flatten={s with H:=aj (aj s.H t0 aa) t (E {gen:=s.n t,elem:=e,sz,cells:=o.flatten}),n:=bump s.n t}:=by
    simp only[iH,xM,W4]
   rw[aA]at O;exact⟨_,_,_,s.T,_,M,A,V,pV (by show s.n t<bump s.n t t;rw[kU];omega) F.2 (bH _ _ _),O⟩
end
def qj{P:ay}{s:St}{l:bK}{first k args:DL}{d:Nat}{j:aU}(S:aD)(pre post:DL)(i:D)(e:aQ)(h:Nat)(r t:ct)(y:ib P l pre post e h r t)
 (C:first++args++k=pre++i::post) (q:aH S s.H e h r i) (F:∀x∈pre++post,Cl x)
 (o:∀H n u,aH [d] H e h t u->(∀b,b≠d->b∉S->H b=s.H b)->j ({s with H:=H,n:=n}.put (E d) u)):jc P s (.fn l first k) args (E d) j:=by
 refine .inr (.inr ?_);rw[C];have p:∀b,b∉S->xM s.H i b=s.H b:=λb f=>by
  rcases q with⟨_,rfl⟩|⟨t0,I,G,rfl,_⟩
  .rfl
  .exact bV _ _ λe=>f (e▸G)
 refine OT y q F (λz=>o _ s.n _ (.inl ⟨z,A⟩) λb _ f=>p b f) (o _ _ _ (.inr ⟨d,s.n d,Zs,A,by simp[bH]⟩) λb m B=>?_);rw[bV _ _ m,bV _ _ m];exact p b B
def rB(e:aQ)(sz:Nat)(rows:ct)(s:St)(d:D):Prop:=(rows=[]/\d=a')\/∃t ob,d=.ms t ob.gen rows.length/\s.H t=E ob/\ob.elem=e/\ob.sz=sz/\(∃r,ob.cells=rows.flatten++r)/\ob.keys=aa
def tQ(P:ay)(b:List ResultVar)(e:aQ)(sz:Nat)(rows:List (List D)):gk->St->Prop
 |.normal,s=>∃d,dj P s b=E d/\rB e sz rows s d
 |.ret,s=>∃d,dj P s b=E d/\rB e sz rows s d
 |_,_=>False
def se(pre post:DL)(e:aQ)(sz:Nat)(rows:ct)(nt:Nat):St:=
 {env:=ba (pre++.ms pre.length 0 rows.length::post),H:=aj pW pre.length (E {gen:=0,elem:=e,sz,cells:=rows.flatten}),n:=bump db pre.length,nt}
def aS.My{w:aL}{M:cb}{pre post:DL}{us vs:VL}{d e:Nat}{I:aQ}{Q nt:Nat}{j:ct}{x:iA}(F:MB M w)(J:¬M d)(R:pre.length=us.length)(an:post.length=vs.length)(aq:pre.length+post.length+1<=nt)
 (ab:∀(i:Nat)(k:D)(v:aE),pre[i]?=E k->us[i]?=E v->Rd (view w (λb=>M b\/E d=E b) (λ_=>aa) db) k v)
 (ae:∀(i:Nat)(k:D)(v:aE),post[i]?=E k->vs[i]?=E v->Rd (view w (λb=>M b\/E d=E b) (λ_=>aa) db) k v)
 (L:w.heap[d]?=E (.cells x I (0,0))) (Z:x.size=e*Q) (K:e<=ao/\j.length<=e) (W:j.flatten.length<=x.size)
 (S:∀(h:Nat)(k:D),j.flatten[h]?=E k->∃B,x[h]?=E B/\Rd (view w (λb=>M b\/b=d) (λ_=>aa) db) k B):
 aS (lu w M λb=>E d=E b) M (aj (λ_=>aa) pre.length (E (0,d,e))) (se pre post I Q j nt)
  {tmps:=(us++.slice (E ⟨d,0,aa⟩) j.length e::vs).toArray++Array.replicate (nt-(us++.slice (E ⟨d,0,aa⟩) j.length e::vs).toArray.size) cC,defers:=[]} w:=by
 have u:∀s t f o,aj (λ_=>aa) pre.length (E (0,d,e)) s=E (t,f,o)->s=pre.length/\t=0/\f=d/\o=e:=λs t f o b=>by
  by_cases y:s=pre.length
  .subst y;rw[bH]at b;cases b;exact⟨A,A,A,A⟩
  .rw[bV _ _ y]at b;cases b
 have G:(view w (λb=>M b\/E d=E b) (λ_=>aa) db).Ext (view w M (aj (λ_=>aa) pre.length (E (0,d,e))) (bump db pre.length)):=
  ⟨λf ar B b=>⟨dK (dr b) (λq=>(cR b).1 (.inl q)) λs t o q=>(cR b).1 (.inr (by rw[(u _ _ _ _ q).2.2.1])),hM⟩,λ_=>iy _,λ_ _ _ _ b _=>absurd b (ow _)⟩
 have C:=(iY.1 L).1;have X:Rd (view w M (aj (λ_=>aa) pre.length (E (0,d,e))) (bump db pre.length)) (.ms pre.length 0 j.length) (.slice (E ⟨d,0,aa⟩) j.length e):=
  .ms _ _ _ _ _ ⟨by show 0<bump db _ _;rw[kU];omega,K.2⟩ λf o b=>by
   obtain⟨_,_,m,r⟩:=u _ _ _ _ b;rw[m,r];exact⟨A,A⟩
 have Y:(us++Value.slice (E ⟨d,0,aa⟩) j.length e::vs).toArray.size=pre.length+post.length+1:=by simp;omega
 refine⟨A,?_,λi=>?_,λz O p=>?_,λz t f o b=>?_,λz au t f o aw am b ah=>?_,⟨A,A,A,b_ _,λ_ _=>A⟩,λf b=>⟨F.1 f b,λz t o q=>?_⟩,λf=>by simp[se],⟨λf b q=>?_,F.2⟩,by simp[se],by simp[se],Og.none A,λ_ _=>iy _⟩
 .simp only[p5,Array.size_replicate,Y,se];omega
 .show Rd _ ((pre++.ms pre.length 0 j.length::post).getD i (.sc (.tuple #[]))) _;rw[iv,Array.getElem?_append];by_cases ap:i<pre.length+post.length+1
  .rw[aM Zo];simp only[wa,List.getD];by_cases C:i<pre.length
   .have m:pre[i]?=E pre[i]:=bR C;have r:us[i]?=E (us[i]'Zo):=bR Zo;rw[jR C,jR Zo,m,r];exact(ab i _ _ m r).mono G
   .rw[jv Zo,jv Zo,<-R];obtain⟨h,V⟩:=Zx (i-pre.length);rw[V];cases h with
    |zero=>exact X
    |succ h=>
     have m:post[h]?=E (post[h]'Zo):=bR Zo;have r:vs[h]?=E (vs[h]'Zo):=bR Zo;simp only[v8,m,r];exact(ae h _ _ m r).mono G
  .rw[av Zo];have m:(pre++D.ms pre.length 0 j.length::post).getD i (.sc (.tuple #[]))=.sc (.tuple #[]):=by simp[List.getD,v_ (l:=pre++D.ms pre.length 0 j.length::post) (i:=i) de]
   rw[m];simp only[Array.getElem?_replicate];split<;>exact .sc cC
 .by_cases y:z=pre.length
  .subst y;have p:aj pW pre.length _ pre.length=E O:=p;rw[bH]at p;cases p;refine⟨by show 0<bump db _ _;rw[kU];omega,d,e,x,bH (λ_=>(aa:Option (ym))) pre.length (E (0,d,e)),.of L A,λ_=>Z,K.1,W,λh k U=>?_⟩;obtain⟨B,ai,ak⟩:=S h k U;exact⟨B,ai,(ak.mono (kI λb q=>q.elim .inl λq=>.inr (by cases q;rfl))).mono G⟩
  .have p:aj pW pre.length _ z=E O:=p;rw[bV _ _ y]at p;cases p
 .obtain⟨_,_,rfl,_⟩:=u _ _ _ _ b;exact⟨.inr A,C⟩
 .rw[(u _ _ _ _ b).1,(u _ _ _ _ ah).1]
 .obtain⟨_,_,rfl,_⟩:=u _ _ _ _ q;exact J b
 .rcases q with q|q
  .have:=F.1 f b;have q:w.heap.size<=f:=q;omega
  .cases q;exact J b
def ib.eo{P:ay}{Y:bK}{h:iw}{r:dH}{pre post:DL}{j:aQ}{p:Nat}{F m:ct}{nt:Nat}(ar:aD)(U:eP)(J:P.funcs[Y]?=E h)(G:h.body=E r)(K:(h.name== "runtime.NumGoroutine")=al)
 (aN:h.ntmps=nt) (aT:h.results.toList=U) (aM:pre.length+post.length+1<=nt) (aB:∀d∈F.flatten,Cl d) (zC:∀d∈m.flatten,Cl d)
 (ax:F=[]->vc P ar r (tQ P U j p m) (sd (pre++.sc (.slice aa 0 0)::post) nt)) (az:vc P ar r (tQ P U j p m) (se pre post j p F nt)):ib P Y pre post j p F m:=by
 subst aT;refine⟨⟨h,J,K,by rw[G];rfl⟩,aB,zC,λw M V vs u x ab aV ak aK ap aq am=>?_⟩;subst aN;have Z:∀(f:Bs),f.dq=[]->f.w=w->f.M=M->f.N=db->(∀b,f.X b->x=E b)->∀(i:gk)(a:cq)(e:aL),LQ f (tQ P h.results.toList j p m) i a e->a.defers=[]/\(i=.normal\/i=.ret)/\∃v,(results h a.tmps).run P e=.ok v e/\∃B C,Ending.returned v=.returned B/\(lu w M λb=>x=E b).Ok e/\lF e M j p m B C/\∀b,C=E b->w.heap.size<=b\/x=E b:=by
  rintro f aC rfl rfl a4 ae i a e⟨au,a3,aZ,k1,k2⟩;have an:(lu f.w f.M λb=>x=E b).Ok e:=⟨k2.below.os,k2.below.tape,k2.below.output,k2.below.size,λk aJ=>k2.below.block k λq=>aJ (q.elim .inl λq=>.inr (ae k q))⟩;have W:∀d,dj P au h.results.toList=E d->rB j p m au d->a.defers=[]/\∃v,(results h a.tmps).run P e=.ok v e/\∃B C,Ending.returned v=.returned B/\(lu f.w f.M λb=>x=E b).Ok e/\lF e f.M j p m B C/\∀b,C=E b->f.w.heap.size<=b\/x=E b:=by
   rintro d hd y;obtain⟨v,av,aY⟩:=qM k2 hd;refine⟨k2.defers.trans aC,v,aY,v,?_⟩;rcases y with⟨K,rfl⟩|⟨aX,aW,rfl,aO,rfl,rfl,⟨a5,ah⟩,ai⟩
   .cases av;exact⟨aa,A,an,⟨K,A⟩,Zs⟩
   .obtain⟨_,b,r,V,kv,aG,O,y,D,I⟩:=k2.obj aX aW aO;have kv:=kv;cases av with|ms _ _ _ a0 aw aE aU=>
    obtain⟨rfl,rfl⟩:=aU b r kv;refine⟨E b,A,an,⟨aw,V,A,aG.cells ai,O ai,⟨y,aE.2⟩,?_,λz d hd=>?_⟩,λb' aA=>?_⟩
    .rw[ah]at D;simp only[bF]at D;omega
    .obtain⟨u,u1,u2⟩:=I z d (by rw[ah,jR (ej.1 hd).1];exact hd);exact GX
    .cases aA;exact(k2.base _ _ _ _ kv).1.imp (λq=>q) λq=>ae _ q
  cases i
  case normal=>obtain⟨d,hd,Q⟩:=k1;obtain⟨t,q2⟩:=W d hd Q;exact⟨t,.inl A,q2⟩
  case ret=>obtain⟨d,hd,Q⟩:=k1;obtain⟨t,q2⟩:=W d hd Q;exact⟨t,.inr A,q2⟩
  all_goals exact k1.elim
 cases x with
 |none=>
  obtain⟨aR,rfl⟩:=am;have aP:=aS.start (dV:=pre++.sc (.slice aa 0 0)::post) (vs:=V++.slice aa 0 0::vs) (nt:=h.ntmps) (Ts:=[]) aa A ab de de (λR d v hd l=>by
   by_cases aH:R<pre.length
   .rw[jR aH]at hd;rw[jR Zo]at l;exact(ap R d v hd l).mono (kI λb=>by rintro(k|⟨_,k,_⟩);exact .inl k;cases k)
   .rw[jv Zo]at hd l;rw[<-ak]at l;obtain⟨z,aI⟩:=Zx (R-pre.length);rw[aI]at hd l;cases z with
    |zero=>simp at hd l;subst hd;subst l;exact .sc _
    |succ z=>exact(aq z d v (by simpa using hd) (by simpa using l)).mono (kI λb=>by rintro(k|⟨_,k,_⟩);exact .inl k;cases k)) Zs Zs
  refine calls_of_wp J G (wp_mono (lD r _ aP (ax aR)) λi a e L=>?_);obtain⟨t,q2,S⟩:=Z _ A A A A Zs i a e L;rcases q2 with rfl|rfl<;>exact⟨t,S⟩
 |some b=>
  obtain⟨a1,a2,rfl,aF,O,y,D,I⟩:=am;refine calls_of_wp J G (wp_mono (lD r _ (aS.My (nt:=h.ntmps) ab (aV b A) ak aK aM ap aq aF O y D I) az) λi a e L=>?_);obtain⟨t,q2,S⟩:=Z _ A A A A Zs i a e L;rcases q2 with rfl|rfl<;>exact⟨t,S⟩
def ib.Av{P:ay}{l:bK}{b:iw}{k:dH}{pre post:DL}{e:aQ}{j:Nat}{f h:ct}{nt:Nat}(o:aD)(i:eP)(x:P.funcs[l]?=E b)(r:b.body=E k)(z:(b.name== "runtime.NumGoroutine")=al)
 (B:b.ntmps=nt) (C:b.results.toList=i) (y:pre.length+post.length+1<=nt) (t:∀d∈f.flatten,Cl d) (u:∀d∈h.flatten,Cl d)
 (m:∀p H n,aH [pre.length] H e j f p->vc P o k (tQ P i e j h) {env:=ba (pre++p::post),H:=H,n:=n,nt:=nt}):ib P l pre post e j f h:=
 .eo o i x r z B C y t u (λq=>m _ _ _ (.inl ⟨q,A⟩)) (m _ _ _ (.inr ⟨pre.length,0,Zs,A,bH _ _ _⟩))
def aH.fz{S:aD}{f:bt}{j:aQ}{b:Nat}{d:ct}{h:D}(k:aH S f j b d h)(p:0<b)(o:∀e∈d,e.length=b)(m:∀e∈d,∀i∈e,Cl i):Fz f h (.sl b d):=by
 rcases k with⟨rfl,rfl⟩|⟨t,q,-,rfl,l⟩
 .exact .nil b
 .exact Fz.rows l A A p A o A m
def aH.close{S:aD}{s:St}{b:aQ}{e:Nat}{d:ct}{f:D}(h:aH S s.H b e d f):rB b e d s f:=by
 rcases h with⟨rfl,rfl⟩|⟨j,k,-,rfl,i⟩
 .exact .inl ⟨A,A⟩
 .exact .inr ⟨j,_,A,i,A,A,⟨[],Zs⟩,A⟩
def aH.nil{S:aD}{b:bt}{d:aQ}{e:Nat}:aH S b d e [] (.sc (.slice aa 0 0)):=.inl ⟨A,A⟩
def bi(L:aD)(H:bt):Nat->ux:=λt=>if t∈L then H t else aa
def aN{b:Type}(L:aD)(H:Nat->Option b):Nat->Option b:=λt=>if t∈L then aa else H t
section
variable{P:ay}{w0:Bs}{M:cb}{g:dm}{s:St}{a:cq}{w:aL}
def j_{e:aD}{d:Nat}{f:ym}(b:aN e g d=E f):d∉e/\g d=E f:=by
 unfold aN at b;split at b
 .cases b
 .rename_i h;exact⟨h,b⟩
def aS.aN(b:aS w0 M g s a w)(i:aD):aS w0 M (Fw.aN i g) {s with H:=Fw.aN i s.H} a w:=by
 have m:(view w M g s.n).Ext (view w M (Fw.aN i g) s.n):=
  ⟨λf u y d=>⟨dK (dr d) (cR d).1 λe l j h=>(cR d).2 _ _ _ (j_ h).2,hM⟩,λ_=>b_ _,λ_ _ _ _ _ d=>(j_ d).2⟩
 refine⟨b.defers,b.size,λr=>(b.env r).mono m,λe o q=>?_,λe l f j d=>b.base _ _ _ _ (j_ d).2,λe x l f j z t d p=>b.inj _ _ _ _ _ _ _ (j_ d).2 (j_ p).2,b.below,
  λf h=>⟨(b.m0 f h).1,λe l j d=>(b.m0 f h).2 _ _ _ (j_ d).2⟩,b.mm,b.zm,b.tree,b.nd,b.og.ext m,b.wm⟩
 have k:Fw.aN i s.H e=E o:=q;unfold Fw.aN at k;split at k
 .cases k
 .rename_i h;refine(b.obj e o k).mono m λl f j d=>⟨?_,A⟩;show Fw.aN i g e=_;unfold Fw.aN;rw[av h];exact d
def Rd.CR(R:aS w0 M g s a w)(I:aD){p f:D}(av:Fz (bi I s.H) p f):∀{v:aE},Rd (view w M g s.n) p v->Rd (view w (λj=>M j\/∃i B o,aN I g i=E (B,j,o)) (λ_=>aa) db) f v:=by
 have ai:∀{i:Nat}{u:Ob},bi I s.H i=E u->i∈I/\s.H i=E u:=λ{i u}q=>by
  unfold bi at q;split at q
  .rename_i r;exact⟨r,q⟩
  .cases q
 have ae:∀{i B j o:Nat},i∈I->g i=E (B,j,o)->¬(M j\/∃i B o,aN I g i=E (B,j,o)):=λ{i B j o}ay f=>by
  rintro(r|⟨aK,aL,aH,r⟩)
  .exact(R.m0 j r).2 _ _ _ f
  .obtain⟨A,t⟩:=j_ r;have:=R.inj _ _ _ _ _ _ _ f t;subst this;exact A ay
 induction av with
 |cl p q=>
  intro v d;refine d.closed (λj aF l r=>⟨?_,hM⟩) q;obtain⟨A,t⟩:=cR r;refine dK (dr r) ?_ Zs;rintro(G|⟨i,B,o,G⟩)
  .exact A G
  .exact t _ _ _ (j_ G).2
 |cs am X q=>
  intro v d;cases d with|cs _ _ _ Y _=>
  refine Y.closed (λj aF l r=>⟨?_,hM⟩) q;obtain⟨A,t⟩:=cR r;refine dK (dr r) ?_ Zs;rintro(G|⟨i,B,o,G⟩)
  .exact A G
  .exact t _ _ _ (j_ G).2
 |nil am=>intro v d;cases d;exact .nil am
 |ms i u X C F V aJ Q L au y=>
  intro v d;obtain⟨W,F⟩:=ai F;obtain⟨aw,j,o,vs,x,U,az,ab,ax,O⟩:=R.obj i u F;have x:=x;cases d with|ms _ _ _ an aq ah d=>
  obtain⟨rfl,rfl⟩:=d j o x;have Z:∀(b:Nat)(z:DL)(e:Nat)(p:D),X[b]?=E z->z[e]?=E p->∃l,vs[b*u.sz+e]?=E l/\Rd (view w M g s.n) (C b e) l:=λb z e p h K=>O _ _ (L b z e p h K);refine .sl u.sz X j 0 aq (λb e=>vs.getD (b*u.sz+e) cC) ah.2 ab Q (λb z e p h K=>?_) λb z e p h K=>?_
  .obtain⟨l,m,_⟩:=Z b z e p h K;refine dK ?_ (ae W x) Zs;rw[ek,nH (U.cells V)];simp[iv,m]
  .obtain⟨l,m,S⟩:=Z b z e p h K;have:=y b z e p h K S;simpa[iv,m]using this
 |rf i u ak C J F V L au y=>
  intro v d;obtain⟨W,F⟩:=ai F;obtain⟨aw,j,o,vs,x,U,az,ab,ax,O⟩:=R.obj i u F;have x:=x;cases d with|rf _ _ _ an ah d=>
  have:=d j o x;subst this;refine .cp C j ak (λe=>vs.getD (ak+e) cC) (λe f k=>?_) λe f k=>?_
  .obtain⟨l,m,_⟩:=O _ _ (L e f k);refine dK ?_ (ae W x) Zs;rw[nH (U.cells V)];simp[iv,m]
  .obtain⟨l,m,S⟩:=O _ _ (L e f k);have:=y e f k S;simpa[iv,m]using this
 |fn ar ap bs cs J Q aI q Y y aA=>
  intro v d;cases d with|fn _ _ _ aG vs A t aB aC=>
  refine .fn ar bs J aG vs Zo Zo (λb f l k m=>?_) λb f l k m=>?_
  .have h:b<ap.length:=by have:=(ej.1 k).1;omega
   exact y b _ f (bR h) k (aB b _ l (bR h) m)
  .have h:b<cs.length:=by have:=(ej.1 k).1;omega
   exact aA b _ f (bR h) k (aC b _ l (bR h) m)
 |ag J C Q q y=>
  intro v d;cases d with|ag _ vs A t=>
  refine .ag C vs Zo λb f l k m=>?_;have h:b<J.length:=by have:=(ej.1 k).1;omega
  exact y b _ f (bR h) k (t b _ l (bR h) m)
 |tp J C Q q y=>
  intro v d;cases d with|tp _ vs A t=>
  refine .tp C vs Zo λb f l k m=>?_;have h:b<J.length:=by have:=(ej.1 k).1;omega
  exact y b _ f (bR h) k (t b _ l (bR h) m)
end
def Cb{P:ay}{s:St}{l:bK}{first e args:DL}{j:ON}{i:aU}(d:aD)(bs:DL)(h:D)(m:Sp P l bs h)(J:bs.length=(first++args++e).length)
 (G:∀x∈(first++args++e).zip bs,Fz (bi d s.H) x.1 x.2) (y:Cl h) (p:i ({s with H:=aN d s.H}.put j h)):jc P s (.fn l first e) args j i:=by
 refine .inr (.inr λw0 M g a w I hr vs K B=>⟨m.ok,?_⟩);refine(m.run w (λb=>M b\/∃t x c,aN d g t=E (x,b,c)) vs ?_ Zo λf o v z C=>?_).mono λx Q⟨v,F,u,r⟩=>⟨v,h,aN d s.H,s.n,s.T,aN d g,M,F,(hr.aN d).grow u,?_,p⟩
 .exact Hx
 .have A:f<(first++args++e).length:=by have:=(ej.1 z).1;omega
  refine Rd.CR hr d (G ((first++args++e)[f],o) (hQ.2 ⟨f,?_⟩)) (B f _ v (bR A) C);exact Zg
 .refine r.closed (λb L O k=>⟨?_,hM⟩) y;exact Fa
def L'{P:ay}{rs:eP}{b:aQ}{e:Nat}{d:ct}{s:St}:tQ P rs b e d .ret s=pY (dj P s rs) (rB b e d s):=by
 apply propext;show(∃f,dj P s rs=E f/\rB b e d s f)↔_;exact yv
def UQ{P:ay}{e:eP}{b:aQ}{f:Nat}{d:ct}{s:St}:tQ P e b f d .normal s=pY (dj P s e) (rB b f d s):=L'
end
section
def dx:List Int->Int->List Int
 |[],x=>[x]
 |y::l,x=>if y>=x then(if y>x then x::y::l else y::l)else y::dx l x
def i7(l:IL):Prop:=l.Pairwise (·<·)
def DK{a b:Int}:∀{l:IL},a∈dx l b↔a∈l\/a=b
 |[]=>by simp[dx]
 |y::l=>by
  unfold dx;split
  .exact Zg
  .simp only[cJ,DK (l:=l)];exact Zg
def H7{g:Int}:∀{d:IL},i7 d->i7 (dx d g)
 |[],_=>by simp[dx,i7]
 |y::d,b=>by
  have f:=pj.1 b;unfold dx;split
  .split
   .refine pj.2 ⟨λe a=>?_,b⟩;exact Zg
   .exact b
  .refine pj.2 ⟨λe a=>?_,H7 f.2⟩;rcases DK.1 a with a|rfl
   .exact f.1 e a
   .omega
def DD{x:Int}:∀(a:IL),a.length<=(dx a x).length/\(dx a x).length<=a.length+1
 |[]=>by simp[dx]
 |y::a=>by
  unfold dx;have:=DD (x:=x) a;split
  .split<;>simp
  .simp only[di];omega
def wJ:∀{b d:IL},i7 b->i7 d->(∀g,g∈b↔g∈d)->b=d
 |[],[],_,_,_=>rfl
 |[],f::d,_,_,a=>absurd ((a f).2 Zs) Zs
 |x::b,[],_,_,a=>absurd ((a x).1 Zs) Zs
 |x::b,f::d,k,l,a=>by
  have i:=pj.1 k;have j:=pj.1 l;have m:x=f:=by
   rcases cJ.1 ((a x).1 Zs)with e|e
   .exact e
   .rcases cJ.1 ((a f).2 Zs)with h|h
    .exact h.symm
    .have:=j.1 x e;have:=i.1 f h;omega
  subst m;rw[wJ i.2 j.2 λg=>?_];exact Zg
def sI{b:IL}(a:i7 b):b.Nodup:=List.Pairwise.imp (λa=>by omega) a
def tB{n:Nat}:∀{a:IL},a.Nodup->(∀b∈a,0<=b/\b<n)->a.length<=n:=by
 induction n with
 |zero=>
  intro a _ e;cases a with
  |nil=>simp
  |cons b a=>have:=e b Zs;omega
 |succ n f=>
  intro a d e;have j:(a.filter λb=>decide (b≠(n:Int))).length<=n:=f (d.filter _) λb h=>by
   exact Zg
  have g:∀(a:IL),a.Nodup->a.length<=(a.filter λb=>decide (b≠(n:Int))).length+1:=by
   intro a
   induction a with
   |nil=>simp
   |cons b a f=>
    intro d;have l:=la.1 d;by_cases h:b=(n:Int)
    .have:(a.filter λb=>decide (b≠(n:Int)))=a:=List.filter_eq_self.2 λi k=>by
      exact Zg
     exact Zg
    .exact Zg
  have:=g a d;omega
inductive kN (u:Int->List Int):Int->Int->Prop
 |refl (i:Int):kN u i i
 |step {i j k:Int} (h:j∈u i) (t:kN u j k):kN u i k
def kN.trans{u:Int->IL}{d e f:Int}(a:kN u d e)(b:kN u e f):kN u d f:=by
 induction a with
 |refl=>exact b
 |step a _ g=>exact .step a (g b)
def kN.last{u:Int->IL}{a b d:Int}(e:kN u a b)(f:d∈u b):kN u a d:=e.trans (.step f (.refl _))
section
variable{u:Int->IL}{at':Int}{n:Nat}
def VA{a b:IL}(k:i7 a)(q:i7 b)(f:∀d∈a,d∈b)(e:b.length<=a.length):a=b:=by
 have s:∀(a b:IL),a.Nodup->(∀d∈a,d∈b)->b.length<=a.length->∀d∈b,d∈a:=by
  intro a
  induction a with
  |nil=>intro b _ _ e d g;cases b with|nil=>exact g|cons=>simp at e
  |cons l a r=>
   intro b p f e d g;have j:=la.1 p;by_cases h:d=l
   .simp[h]
   .have:=r (b.erase l) j.2 (λm i=>(List.mem_erase_of_ne (λo=>j.1 (by rw[<-o];exact i))).2 (f m (by simp[i]))) Zg d ((List.mem_erase_of_ne h).2 g);simp[this]
 exact wJ k q λd=>⟨f d,s a b (sI k) f e d⟩
open Classical in
def qw(u:Int->IL)(n:Nat)(k:Int):IL:=((List.range n).map Int.ofNat).filter λi=>decide (kN u k i)
def N4:∀n:Nat,i7 ((List.range n).map Int.ofNat):=λn=>by
 unfold i7;rw[List.pairwise_map];exact List.pairwise_lt_range.imp λa=>by simpa using a
def Tq{n:Nat}{a:Int}:a∈(List.range n).map Int.ofNat↔0<=a/\a<n:=by
 simp only[aG,rb];constructor
 .exact Zg
 .rintro⟨b,d⟩;exact⟨a.toNat,Zo,by exact Zg⟩
def uF(a:Int):i7 (qw u n a):=List.Pairwise.filter _ (N4 n)
open Classical in
def tx{a b:Int}:a∈qw u n b↔(0<=a/\a<n)/\kN u b a:=by
 unfold qw;rw[ko,Tq,cO]
def HN{f:Int}{b:IL}(k:f∈b)(h:∀a∈b,0<=a/\a<n)(l:∀a∈b,kN u f a)(j:∀a∈b,∀i∈u a,i∈b)(a:Int):a∈b↔a∈qw u n f:=by
 refine⟨λe=>tx.2 ⟨h a e,l a e⟩,λe=>?_⟩;have o:∀g a,kN u g a->g∈b->a∈b:=by
  intro g a d
  induction d with
  |refl=>exact λd=>d
  |step d _ m=>exact λh=>m (j _ h _ d)
 exact o f a (tx.1 e).2 k
end
def wt(l:IL):Prop:=l.Pairwise (·<=·)
def Mx:∀{b d:IL},wt b->wt d->b.Perm d->b=d
 |[],d,_,_,a=>(List.nil_perm.1 a).symm
 |x::b,[],_,_,a=>absurd a.length_eq Zs
 |x::b,f::d,i,j,a=>by
  have g:=pj.1 i;have h:=pj.1 j;have k:x=f:=by
   have l:x<=f:=by
    rcases cJ.1 (a.mem_iff.2 (show f∈f::d by simp))with e|e
    .omega
    .exact g.1 f e
   have m:f<=x:=by
    rcases cJ.1 (a.mem_iff.1 (show x∈x::b by simp))with e|e
    .omega
    .exact h.1 x e
   omega
  subst k;rw[Mx g.2 h.2 (List.perm_cons x|>.1 a)]
def mD(l:IL):IL:=l.mergeSort λa b=>decide (a<=b)
def Mw(d:IL):wt (mD d):=by
 have:=List.pairwise_mergeSort (le:=λa b:Int=>decide (a<=b)) (λa b f g h=>by simp at*;omega) (λa b=>by simp;omega) d;exact this.imp λe=>by simpa using e
def tU(a:IL):(mD a).Perm a:=List.mergeSort_perm a _
def YC{a b:IL}(d:wt b)(e:b.Perm a):mD a=b:=Mx (Mw a) d ((tU a).trans e.symm)
def Vk{b a:IL}(j:b.Nodup)(k:i7 a)(e:∀d,d∈b↔d∈a):mD b=a:=by
 refine wJ ?_ k λd=>by rw[(tU b).mem_iff];exact e d
 have m:∀a:IL,wt a->a.Nodup->i7 a:=by
  intro a
  induction a with
  |nil=>intros;exact .nil
  |cons p a l=>
   intro f h;have g:=pj.1 f;have i:=la.1 h;refine pj.2 ⟨λd o=>?_,l g.2 i.2⟩;exact Zg
 exact m _ (Mw b) ((tU b).symm.nodup j)
end
end
end Go.Fw
