/- A part of the proof about KeyOf. No condition. -/
import Derived.Test.YtiiahfjnecgpgaaGreatDoorM01
import Derived.Test.YtiiahfjnecgpgaaGreatDoorM04
import Derived.Test.YtiiahfjnecgpgaaGreatDoorM07
import Derived.Test.YtiiahfjnecgpgaaGreatDoorM08
import Derived.Test.YtiiahfjnecgpgaaGreatDoorM09
set_option maxRecDepth 100000
set_option maxHeartbeats 8000000
set_option linter.unusedSimpArgs false
set_option linter.unusedVariables false
set_option linter.defProp false
open Go.Proofs.Tryz
open Nat renaming reduceEqDiff->aP
open Go.Proofs.Tryz renaming prog->aB
open Go renaming maxLen->ao,Program->ay,FuncId->bK,Func->iw,Code->dH
open Go.IntWalk renaming i64_in->cW
open Option renaming some->E,none->aa
open Bool renaming false->al,true->ad
namespace Go.Fw
noncomputable section
attribute [local irreducible] St.put
section
open Classical
def fF(ab:aw)(ds:aF):Int:=if fS ab ds≠0 then fS ab ds else if 24<(dA ab ds).length then 4 else if(dA ab ds).all Core.valid then 0 else 4
abbrev Bj(ab:aw)(ds:aF)(r:D):Prop:=∃a:List bQ,r=.tp [.any,.sl 5 (a.map aW),I (fF ab ds)]/\a.map bQ.c=if fF ab ds=0 then dA ab ds else[]
variable {a4:aw}{h:Nat}{v2:dv}
attribute [local semireducible] St.put
def Tr{a:aF}(k:fS a4 a=0)(p:(bm.mk a4 a).ok)(m:hT a4 a (a.map ah.bd) [] 0 h a.length v2):∀b(i:b<(a.map ah.bd).length)(j:b<v2.length),Mn a4 a (a.map ah.bd)[b] v2[b]:=λb i j=>by
 have g:=n9 (oM (qm (sQ k))) p;have e:=m.nY b i j;have f:=ax (by simpa using i);have l:=g.bd _ f;have d:=sQ k;rw[eI]at e⊢;refine⟨l.2.1,⟨g.sh f,e,⟨?_,by simp[ids],by simp[ids]⟩,?_,Zs⟩,J_ g.pg _ e l.1 Zs,Zo,g.num f e⟩
 .obtain⟨r,t,s,o⟩:=m.mem (ax j);exact o
 .rw[g_,av (by rw[qm d];simp)]at d;split at d
  .rename_i q;exact q _ f
  .cases d
attribute [local irreducible] St.put
attribute [local semireducible] St.put
def HQ:∀(a:dv)(d b:Nat)(g:b<a.length),∀e∈(a[b]).eR (d+(eQ (a.take b)).length),e∈iD a d
 |x::a,d,0,g,e,f=>by rw[iD];exact eE _ (by simpa[eQ]using f)
 |x::a,d,b+1,g,e,f=>by
  rw[iD];refine eN _ (HQ a (d+x.aZ) b (by simpa using g) e ?_);have h:(eQ ((x::a).take (b+1))).length=x.aZ+(eQ (a.take b)).length:=by rw[oC,oC,ix,bp,ia]
  rw[h,<-re]at f;simpa using f
attribute [local irreducible] St.put
attribute [local semireducible] St.put
def HP:∀(b:dv)(e:Nat),∀d∈iD b e,∃f∈b,∃i,d∈f.eR i
 |x::b,e,d,a=>by
  rw[iD]at a;rcases cg.1 a with a|a
  .exact⟨x,Zs,e,a⟩
  .obtain⟨f,h,g⟩:=HP b _ d a;exact⟨f,by simp[h],g⟩
attribute [local irreducible] St.put
variable {g1:Type}
attribute [local semireducible] St.put
def LV{R:g1->g1->Prop}{a b:g1}:∀{g:List g1},g.Pairwise R->a∈g->b∈g->a=b\/R a b\/R b a
 |x::g,d,e,f=>by
  have d:=pj.1 d;rcases cJ.1 e with h|e<;>rcases cJ.1 f with i|f
  .exact .inl (h.trans i.symm)
  .exact .inr (.inl (h▸d.1 b f))
  .exact .inr (.inr (i▸d.1 a e))
  .exact LV d.2 e f
attribute [local irreducible] St.put
attribute [local semireducible] St.put
def B4{ab:aw}{ds:aF}(r:∀e∈ds,(ah.bd e).num<=160)(t:(bm.mk ab ds).sz<=1048576):∀d∈dA ab ds,Gc d 10000000:=by
 have x:∀(g:a_)(i:Nat),∀a∈gS ab ds g i,∃j∈g,∃l,a=cw ab ds j [] 0 l:=λg=>by
  induction g with
  |nil=>intro i a h;cases h
  |cons j g w=>
   intro i a h;rcases cJ.1 h with rfl|h
   .exact⟨j,Zs,i,A⟩
   .obtain⟨y,m,k⟩:=w _ a h;exact⟨y,by simp[m],k⟩
 have p:∀a∈gS ab ds (ds.map ah.bd) 0,Gc a.1 10000000/\∀d∈a.2,Gc d 10000000:=λa f=>by
  obtain⟨j,u,l,rfl⟩:=x _ _ a f;obtain⟨e,o,rfl⟩:=aG.1 u;have m:=r e o;have k:(ah.bd e).sz<=1048576:=by
   have q:=ah.gj o;simp only[bm.sz]at t;obtain⟨z,B,d⟩:=e;simp only[ah.sz,ah.bd]at q⊢;omega
  have:=MN (ab:=ab) (ds:=ds) (ah.bd e) [] 0 l Zo k;exact⟨this.1.le Zo,this.2⟩
 intro d b;rcases cg.1 b with b|b
 .obtain⟨a,f,rfl⟩:=aG.1 b;exact(p a f).1
 .obtain⟨C,s,b⟩:=ft.1 b;obtain⟨a,f,rfl⟩:=aG.1 s;exact(p a f).2 d b
attribute [local irreducible] St.put
attribute [local semireducible] St.put
def lifted{h:aw}{g:aF}(bv:(bm.mk h g).sz<=1048576)(aS:(bm.mk h g).ok):jj aB 49 [.ag [ai.sl h,ah.sl g]] λ_=>Bj h g:=by
 have b8:Cl (.ag [ai.sl h,ah.sl g]):=Cl.bu cu;have a4:cy aB 121=E (125,5,88):=Zk;have a5:∀(d0 d1:D)(e:List bQ)(m:Int),fj d1 (.sl 5 (e.map aW))->m=fF h g->(e.map bQ.c=if fF h g=0 then dA h g else[])->∃X,(∀Z v,Rd Z (.tp [d0,d1,I m]) v->Rd Z X v)/\Cl X/\Bj h g X:=λd0 d1 e m aQ j p=>by
  refine⟨.tp [.any,.sl 5 (e.map aW),I m],λZ v i=>?_,Cl.ir (eO.all (.c .any (.c (Cl.fH (nc e)) (.c (aO _) .n)))),e,by rw[j],p⟩;cases i with
  |tp _ vs cc bz=>
   refine .tp _ vs (by simpa using cc) λak d v q bB=>?_
   match ak,q with
   |0,q=>cases q;exact .any v
   |1,q=>cases q;exact aQ _ _ (bz 1 _ v A bB)
   |2,q=>cases q;exact bz 2 _ v A bB
 have aD:∀(m:Int),m=fF h g->m≠0->∃X,(∀Z v,Rd Z (.tp [.sc (.pointer aa),a',I m]) v->Rd Z X v)/\Cl X/\Bj h g X:=λm j p=>a5 _ _ [] m fj.nil j (by rw[av (j▸p)];rfl);have bl:=λ{s:St}{dst:ON}{K:aU}=>Ty bv aS (s:=s) (dst:=dst) (K:=K);refine jj.TP ⟨_,func49,A,A⟩ λbM=>?_;have b1:ai.sl h=.sl 2 (ai.ae h):=A;have b2:ah.sl g=.sl 12 (ah.ae g):=A;rw[b1,b2]at b8 bl⊢;refine pz [1000041,1000056,1000058] [.tmp 2,.tmp 3,.tmp 4] func49 A Zk ntmps49 A Zs ?_;simp only[go_sem];refine .inr (.inr (bl (λu ck=>?_) λu ay ck b cz aJ bZ a6 ax ab aN=>?_))
 .have cC:(fS h g==0)=al:=by simpa using u
  simp only[go_sem];refine aT (λi=>?_) λi=>?_
  .simp only[go_sem];exact aD _ (by rw[fF,aM u]) u
  .exfalso;simp at i;exact u i
 have Q:=n9 (oM (qm (sQ u))) aS;have bn:=Tr u aS ax;have bo:=ax.len;obtain⟨az,bO,aC,bP⟩:=Ih Q.pg (g.map ah.bd) b 0 (by simpa using bo) bn;have bb:(dA h g).length=b.length+(eQ b).length:=by unfold dA;rw[bF,bW,az,aC]
 have b5:=aN;obtain⟨⟨cJ,cL,cK,rows,a7,bD,bt,-⟩,-,-⟩:=b5;have cE:=Q.pg.len;have aR:∀t∈b,t.num<=640:=λt z=>by obtain⟨d,q,j,p⟩:=ax.mem z;exact Q.num q j
 have bc:∀am:dv,(∀t∈am,t∈b)->(eQ am).length<=am.length*640:=λam=>by
  induction am with
  |nil=>intro _;simp[eQ]
  |cons m cB ch=>
   intro i;have j:=aR m (i m Zs);have p:=wM m;have aK:=ch λt z=>i t (by simp[z]);rw[oC]at aK⊢;rw[bp,ia,di];omega
 have cD:=bc b λt z=>z;simp only[a7,go_sem];refine AA (d:=I rows.length) (by rcases bD with⟨i,rfl⟩|⟨a,bX,-,rfl,-⟩<;>first|(rw[i];rfl)|rfl) ?_;have cv:IntKind.i64.wrap ((b.length:Int)+(rows.length:Int))=((b.length+(eQ b).length:Nat):Int):=by rw[bt,cW _ Zo];omega
 simp only[cv,go_sem];refine aT (λL=>?_) λL=>?_
 .have L:24<(dA h g).length:=by rw[bb];simp at L;omega
  simp only[go_sem];exact aD 4 (by rw[fF,av (by simpa using u),aM L]) Zd
 have L:¬24<(dA h g).length:=by rw[bb];simp at L;omega
 obtain⟨an,ci,bH,bw,cb⟩:=Ti aN;have a9:LS h g an ay aJ bZ (eQ b) a6:=⟨aN,ci,bH,bw,cb,by
  have:=HT b 0;rw[<-ab,dZ]at this;exact this.nodup (by have:=ax.nodup;simpa[fb]using this)⟩
 have bf:h.length<=1000:=by have:=Q.pg.vd.1;omega
 have be:∀d∈h,(ai.cs d).length<=1000:=λd q=>by
  obtain⟨ak,ca,rfl⟩:=dG q;have j:=(Q.pg.vd.2 ak ca).1;simp only[sR,b3,cO]at j;omega
 have br:∀a∈an,a=19\/a=21\/a=126\/a=137\/a=147:=λa l=>by have:=bw a l;simpa using this
 simp only[go_sem];refine bq 32 b.length (λk=>kq 62 bM [] [(5,.rf 21 aJ 0),(30,.sl 1 (aq Nd.d b)),(31,I b.length)] λW U=>(∀a∈an,U a=ay a)/\∃e:List bQ,aH [41] U 125 5 (e.map aW) (W 8)/\e.map bQ.c=((gS h g (g.map ah.bd) 0).map Prod.fst).take k) A
  ⟨A,A,A,by simp[af],λa l=>A,[],.inl ⟨A,by simp[af]⟩,A⟩ ?_
 rintro k W U cm bN a2 cf⟨rfl,rfl,M,e,R,r⟩;obtain⟨ct,J⟩:=Zx (W 8);rw[J]at R;have au:e.length=min k b.length:=by have:=dO List.length r;rw[bW,fP,bW,az]at this;exact this
 simp only[go_sem];refine aT (λi=>?_) λi=>?_
 .have y:=bh i;have bY:=hX (f:=Nd.d) y;simp only[J,bY,go_sem];have P:=bn k (by simpa[bo]using y) y;have b7:=bc (b.take k) λt z=>p9 z;rw[fP]at b7;have aZ:∀f∈(b[k]).eR (eQ (b.take k)).length,f∈a6.map Prod.snd:=λf ar=>by rw[ab];exact HQ b 0 k y f (by rwa[ek])
  have b6:=EE Q.pg bf be a9 _ (vars:=[]) (eQ (b.take k)).length P.kd P.cx P.rl Zs P.w aZ (oq _) (by have:=P.n1;omega) (by have:=P.n2;omega) (by have:=P.n2;simp;omega) (by have j:=P.n2;have p:=wM b[k];have aK:min k b.length<=8:=Zo;have:=ui 640 aK;omega);refine .inr (.inr (Cc (b6 _ _ _ (λa l=>M a l) λco cr aY cg=>?_) A λak d a3 j p=>?_))
  .obtain⟨⟨⟨C,G,B,F⟩,V⟩,rfl,a0⟩:=aY;have ba:=bO k y;rw[ek]at ba;simp only[aW,go_sem];refine GK.intro (dS.eF (S:=[41]) (rows:=e.map aW) (bx:=[aW ⟨.mk C G B F,V⟩]) a4 (by simp only[af,aI,aV,aP,bT,bU,reduceCtorEq];exact R.congr bJ) (nf _) (by simp[af,cF,aj,aW,Core.ds,ints]) Zs (by simpa using vM ⟨.mk C G B F,V⟩) (by rw[bW,au];show(min k b.length+1)*88<=_;omega) (by rw[bW,au];show min k b.length+1<=ao;unfold ao;omega) λbL cn cw a1 aL=>?_);simp only[go_sem];refine bg y ⟨A,A,A,by simp[af],λa l=>by have j:=br a l;exact(aL a Zo de).trans (by simp only[bV _ _ (show a≠40 by omega)];exact M a l),e++[⟨.mk C G B F,V⟩],by simpa[af]using a1,?_⟩;rw[bC,r];rw[List.take_add_one,gF,ba];have ap:Core.mk C G B F=iW h g b[k] [] (eQ (b.take k)).length:=a0.c;rw[<-ap];rfl
  .match ak,j,p with
   |0,j,p=>cases j;cases p;exact fj.rfl
   |1,j,p=>cases j;cases p;exact fj.rfl
   |2,j,p=>cases j;cases p;exact fj.nil
 .have aX:=bS i;subst aX;rw[cU (by rw[bW];omega)]at r;have a8:=(M 21 bH).trans a7;simp only[a8,go_sem];refine AA (d:=I (eQ b).length) (by rw[<-bt];rcases bD with⟨i,rfl⟩|⟨a,bX,-,rfl,-⟩<;>first|(rw[i];rfl)|rfl) ?_;simp only[go_sem];refine bq 48 (eQ b).length (λk=>kq 62 a2 [] [(5,.rf 21 aJ 0),(47,I (eQ b).length)] λW U=>(∀a∈an,U a=ay a)/\∃e:List bQ,aH [41,56] U 125 5 (e.map aW) (W 8)/\e.map bQ.c=(gS h g (g.map ah.bd) 0).map Prod.fst++(((gS h g (g.map ah.bd) 0).map Prod.snd).flatten).take k) A
   ⟨A,A,A,by simp[af],λa l=>M a l,e,by simpa[af,J]using R.sub Zs,by simpa using r⟩ ?_
  clear R M r au J a8;rintro k W U cm bN a2 cf⟨rfl,rfl,M,e,R,r⟩;obtain⟨ct,J⟩:=Zx (W 8);rw[J]at R;have au:e.length<=24:=by have:=dO List.length r;rw[bW,bF,bW,fP,az,aC]at this;omega
  simp only[go_sem];refine aT (λi=>?_) λi=>?_
  .have y:k<(eQ b).length:=by simpa using i
   obtain⟨cq,cd,cG,bk,aZ,aQ,cH,ce,bj⟩:=bP k _ (bR y);rw[ek]at bk bj aQ;have b0:=branch Q.pg bf be a9 bk (by have:=aR cq cd;omega) (bR y) Zo (λf ar=>by rw[ab];exact aZ f ar) (λaE ar=>?_) (λf b9 aE b' bI bK=>?_) ce
   .simp only[J,go_sem];refine .inr (.inr (b0 _ _ _ A (λa l=>M a l) λco cr aY cg=>?_));obtain⟨⟨⟨C,G,B,F⟩,V⟩,rfl,a0⟩:=aY;simp only[aW,go_sem];refine GK.intro (dS.eF (S:=[41,56]) (rows:=e.map aW) (bx:=[aW ⟨.mk C G B F,V⟩]) a4 (by simp only[af,aI,aV,aP,bT,bU,reduceCtorEq];exact R.congr bJ) (nf _) (by simp[af,cF,aj,aW,Core.ds,ints]) Zs (by simpa using vM ⟨.mk C G B F,V⟩) (by rw[bW];show(e.length+1)*88<=_;omega) (by rw[bW];show e.length+1<=ao;unfold ao;omega) λbL cn cw a1 aL=>?_);simp only[go_sem];refine bg y ⟨A,A,A,by simp[af],λa l=>by have j:=br a l;exact(aL a Zo de).trans (by simp only[bV _ _ (show a≠55 by omega)];exact M a l),e++[⟨.mk C G B F,V⟩],by simpa[af]using a1.sub Zs,?_⟩;rw[bC,r,List.take_add_one,bj];simpa using a0.c
   .obtain⟨t,z,cj,j⟩:=HP b 0 aE.2 (by rw[<-ab];exact aG.2 ⟨aE,ar,A⟩);have:=Jf t cj _ j;have:=aR t z;omega
   .have bs:=(HR b 0).2;rw[<-ab,List.pairwise_map]at bs;rcases LV bs b9 b' with a3|j|j
    .exact a3.symm
    .exact absurd bK (j k bI)
    .exact absurd bI (j k bK)
  .have aX:k=(eQ b).length:=by simp at i;omega
   subst aX;rw[cU (by rw[aC];omega)]at r;have bG:e.map bQ.c=dA h g:=r;have b_:∀a∈e,a.c.cA<=1000000000/\a.c.ok:=λa l=>by
    have:=B4 (λd q=>(Q.bd d q).2.2) bv a.c (by rw[<-bG];exact aG.2 ⟨a,l,A⟩);exact⟨by have:=this.n;omega,this.o⟩
   simp only[go_sem];refine GK.ln [41,56] 8 (.sl 5 (e.map aW)) (by simp only[af,aV,aP,J,bT,bU,aI,reduceCtorEq];exact aH.fz (S:=[41,56]) (R.congr (by simp[bi])) Zd (nf _) (nc _)) (Cl.fH (nc e)) ?_;simp only[go_sem];refine hU (NS e iM b_) (.c (Cl.fH (nc e)) (.c (Cl.qu Zs Zs) .n)) ?_;have a_:(e.any λa=>!a.c.valid)=!(dA h g).all Core.valid:=by rw[<-bG,List.all_map,<-xH,Bool.not_not];rfl
   simp only[go_sem];refine aT (λi=>?_) λi=>?_
   .rw[a_]at i;simp only[go_sem];exact aD 4 (by rw[fF,av (by simpa using u),av L,av (by simpa using i)]) Zd
   .rw[a_]at i;have ap:fF h g=0:=by rw[fF,av (by simpa using u),av L,aM (by simpa using i)]
    simp only[go_sem];exact a5 _ _ e 0 fj.rfl ap.symm (by rw[aM ap,r];rfl)
attribute [local irreducible] St.put
end
section
open Classical
def cc(e:Env):DL:=[strs (e.map Ev.n),.sl 3 (O.ae (e.map Ev.t)),ints (e.map Ev.l)]
def fo(b:Env):∀a∈cc b,Cl a:=eO.all (.c (jW _) (.c (O.cI _) (.c (lk _) .n)))
variable {g1:Type}
def all_map(d:g1->D)(e:∀a,b4 (d a)=ad)(g:List g1):(g.map λa=>[d a]).flatten.all b4=ad:=by
 rw[b6];intro h b;obtain⟨i,f,b⟩:=ft.1 b;obtain⟨a,-,rfl⟩:=aG.1 f;simp at b;subst b;exact e a
def O.Ly(e:cz):(O.ae e).flatten.all b4=ad:=by
 rw[b6];intro d a;obtain⟨g,b,a⟩:=ft.1 a;rw[O.bZ]at b;obtain⟨f,-,rfl⟩:=aG.1 b;exact O.one f d a
def KM(d:g1->D)(a:List g1):(a.map λb=>[d b]).flatten.length=a.length:=by
 induction a with
 |nil=>rfl
 |cons b a e=>simp[e]
def Wd(a:cz):(O.ae a).flatten.length=a.length*3:=by rw[jM (O.ea a),O.bb]
def mq(a:Env)(k:BA)(m:O)(j:Int)(u:a.length<=4000000):au 118 [.ag (cc a),S k,.ag m.ds,I j] (.ag (cc (a++[⟨k,m,j⟩]))):=by
 have b:=KM S (a.map Ev.n);have d:=Wd (a.map Ev.t);have g:=KM I (a.map Ev.l);rw[bW]at b d g;have r:(O.ae (a.map Ev.t)).length=a.length:=by rw[O.bb,bW]
 obtain⟨w,y,x⟩:=m;generalize s:D.ag (cc (a++[⟨k,.mk w y x,j⟩]))=C;refine Sp.e [] [.cell 8 152] func118 ntmps118 ?_;have h:∀i,i<=4000001->i<=ao:=λi B=>by unfold ao;omega
 have o:=all_map S (λ_=>A) (a.map Ev.n);have p:=O.Ly (a.map Ev.t);have q:=all_map I (λ_=>A) (a.map Ev.l);cases a with
 |nil=>
  simp only[cc,cB,O.ae,go_sem];refine mc [0,1,2,4,5,7,8,9,11,12,14,15,16,18,19,3,6,10,13,17,20,21,22] [] [9,14,16,21,23,28] ?_;simp only[fX,a8,go_sem]
  iterate 3 (refine⟨⟨A,h _ Zo⟩,?_⟩)
  subst s;exact Fz.lI (.c (Fz.rows A A A Zd Zs (e_ (f:=S) _) Zs (cI.1 (jW _))) (.c (Fz.rows A A A Zd (by simp[O.bb]) (O.ea _) (by simp[O.bZ,O.ds]) (O.bA _)) (.c (Fz.rows A A A Zd Zs (e_ (f:=I) _) Zs (cI.1 (lk _))) .n)))
 |cons z a=>
  obtain⟨K,⟨F,J,L⟩,G⟩:=z;simp only[cc,bp,O.ae,go_sem]at b d g r o p q⊢;refine mc [0,1,2,4,5,7,8,9,11,12,14,15,16,18,19,3,6,10,13,17,20,21,22] [] [9,14,16,21,23,28] ?_;simp only[o,p,q,b,d,g,r,lc,fX,a8,go_sem];rw[di]at u
  iterate 3 (refine⟨⟨Zo,Zo,h _ Zo⟩,?_⟩;refine⟨⟨A,Zo,h _ Zo⟩,?_⟩)
  subst s;exact Fz.lI (.c (Fz.rows A A A Zd Zs (e_ (f:=S) _) Zs (cI.1 (jW _))) (.c (Fz.rows A A A Zd (by simp[O.bb]) (O.ea _) (by simp[O.bZ,O.ds]) (O.bA _)) (.c (Fz.rows A A A Zd Zs (e_ (f:=I) _) Zs (cI.1 (lk _))) .n)))
def Pd(a:IL)(i:a.length<=100000000):au 88 [ints a] (ints a):=by
 refine gp.sp (e:=2) (rows:=aq I a) ?_ (e_ _);cases a with
 |nil=>
  refine gp.none ?_ λm o=>?_
  .refine gp.eo [] [.tmp 2] func88 A Zk ntmps88 A Zs ?_ ?_
   .simp[aq]
   simp only[go_sem];exact .inl ⟨A,A⟩
  .refine gp.eo [] [.tmp 2] func88 A Zk ntmps88 A Zs ?_ ?_
   .simp[aq]
   simp only[go_sem];exact⟨iy _,.inr ⟨7,⟨0,2,1,[],aa⟩,A,A,A,A,⟨[],A⟩,A⟩⟩
 |cons b a=>
  have g:=all_map I (λ_=>A) (b::a);simp only[di]at i;have j:=dC I (b::a);have f:=cI.1 (lk (b::a));simp only[aq,bp,di]at g j f⊢;refine gp.eo [] [.tmp 2] func88 A Zk ntmps88 A Zs ?_ ?_
  .intro h d;obtain⟨l,k,d⟩:=ft.1 d;exact f l k h d
  simp only[g,go_sem];exact⟨⟨Zo,by unfold ao;omega⟩,.inr ⟨7,⟨0,2,1,_,aa⟩,Zs,A,A,A,⟨[],Zs⟩,A⟩⟩
variable {m8:IL}{s1:bM}
def pL{a v:Int}(b:(Core.mk a v m8 s1).aY=ad):kB (.mk a v m8 s1)=ad/\m8.length<=4/\s1.length<=3/\∀j∈s1,j.aY=ad:=by
 rw[Core.aY,b3,Core.gB,b6]at b;have k:=b.1;simp only[kB,b3,a1,cO]at k;have l:(eC a).2.1<=3/\(eC a).2.2.2<=4:=by
  unfold eC;by_cases d:a=1\/a=2\/a=11
  .rw[aM d];decide
  rw[av d];by_cases e:a=3\/a=5\/a=7
  .rw[aM e];decide
  rw[av e];by_cases f:a=4\/a=6
  .rw[aM f];decide
  rw[av f];by_cases g:a=8
  .rw[aM g];decide
  rw[av g];by_cases h:a=9
  .rw[aM h];decide
  rw[av h];by_cases i:a=10
  .rw[aM i];decide
  .rw[av i];decide
 exact⟨b.1,Zo,Zo,b.2⟩
variable {fd:bt}{a0 gs:Int}{am be g2 g7:D}
def Fz.NO(a:Fz fd am g2)(b:Fz fd be g7):Fz fd (.ag [I a0,I gs,am,be]) (.ag [I a0,I gs,g2,g7]):=Fz.lI (.c (.cl _ (aO _)) (.c (.cl _ (aO _)) (.c a (.c b .n))))
def IQ(d:Core)(V:d.aY=ad):au 50 [.ag d.ds] (.ag d.ds):=by
 have Z:∀e:Core,SizeOf.sizeOf e<SizeOf.sizeOf d->e.aY=ad->au 50 [.ag e.ds] (.ag e.ds):=λe i h=>IQ e h;obtain⟨ab,v,f,a⟩:=d;obtain⟨-,aq,ar,W⟩:=pL V;refine Sp.s [] [.cell 2 81] func50 ntmps50 ?_;refine cX [] [12] ?_;simp only[go_sem];refine yQ (ints f) (Pd f Zo) cu ?_;simp only[Core.bb a,go_sem];refine bq 17 a.length (λb=>Fw.cK 30 [(2,.rf 2 0 0),(3,.rf 3 0 0),(15,.sl 4 (Core.ae a)),(16,I a.length)] λR j ak K=>(∃g,j 2=E ⟨0,81,4,g,aa⟩/\g.length=4)/\∃e,j 3=E ⟨0,81,4,[I ab,I v,ints f,e],aa⟩/\aH [26] j 81 4 (Core.ae (a.take b)) e) A
  ⟨A,by simp[af,ba],⟨_,by simp[aj];rfl,A⟩,_,by simp[aj,ints],.inl ⟨A,A⟩⟩ ?_
 rintro b R j ak K an av⟨⟨g,u,B⟩,e,l,i⟩;simp only[go_sem];refine aT (λh=>?_) λh=>?_
 .have m:=bh h;have q:=Core.bo a b m;have F:=ax m;have t:=Z a[b] (by have:=cH F;simp;omega) (W _ F);have C:=Core.cl a[b];have r:Core.ae (a.take (b+1))=Core.ae (a.take b)++[a[b].ds]:=by rw[Core.bZ,Core.bZ,ch m,bC];rfl
  have D:(Core.ae (a.take b)).length=b:=by rw[Core.bb];simp;omega
  have G:=Core.one a[b];rcases U:a[b]with⟨M,Q,L,P⟩
  rw[U]at q t C r G;simp only[Core.ds]at q t C r G;simp only[q,go_sem];refine cX [3,5] [] ?_;simp only[l,ic,go_sem];refine bw t ?_;simp only[l,go_sem];refine iO (S:=[26]) (rows:=Core.ae (a.take b)) (bx:=[[I M,I Q,ints L,.sl 4 (Core.ae P)]]) Zs Zk (by simp only[af,aI,aV,aP,bT,bU,reduceCtorEq];exact i.congr bJ) (Core.ea _) (by simp[af,cF,aj,ints]) Zs A (by rw[D];show(b+1)*64<=_;omega) (by rw[D];show b+1<=ao;unfold ao;omega) (by show 26<30;decide) ?_;intro am aw ay J z;obtain⟨ap,rfl,-⟩:=fG J Zs;have y:=z 3 Zd Zd;have w:=z 2 Zd Zd;simp only[bV,dP,aP,dz,u,l]at y w;simp only[y,go_sem];refine bg m ⟨A,by simp[af],⟨g,by simp[aj,w],B⟩,_,by simp only[bH];rfl,?_⟩;rw[r];exact aH.congr J bJ
 .have X:=bS h;subst X;rw[b9]at i;obtain⟨az,aB,aC,aD,rfl⟩:∃o p d f,g=[o,p,d,f]:=by
   match g,B with
   |[o,p,d,f],_=>exact⟨o,p,d,f,A⟩
  simp only[h,u,l,go_sem];refine⟨n3 i,Fz.NO (.cl _ (lk f)) ?_⟩;exact(aH.fz (i.congr bJ) Zd (Core.ea _) (Core.bA _))
termination_by SizeOf.sizeOf d
decreasing_by exact i
variable {a4:aw}{a5:aF}
def Ig(a:fF a4 a5=0):(dA a4 a5).length<=24/\∀b∈dA a4 a5,b.valid=ad:=by
 unfold fF at a;split at a
 .rename_i d;exact absurd a d
 .split at a
  .cases a
  .split at a
   .rename_i f e;exact⟨Zo,by simpa using e⟩
   .cases a
variable {z5:Core}
def p3(a:z5.valid=ad):z5.aY=ad:=by simp only[Core.valid,b3]at a;exact a.1
def S5{b:aw}{d:aF}(av:(bm.mk b d).sz<=1048576)(aq:(bm.mk b d).ok):au 28 [.ag [ai.sl b,ah.sl d]] (.tp [.ag [Core.sl (if fF b d=0 then dA b d else[])],I (fF b d)]):=by
 have F:=lifted av aq;have G:Cl (.ag [ai.sl b,ah.sl d]):=Cl.bu cu;have X:ai.sl b=.sl 2 (ai.ae b):=A;have Z:ah.sl d=.sl 12 (ah.ae d):=A;obtain⟨B,r⟩:∃B,(if fF b d=0 then dA b d else[])=B:=⟨_,A⟩;have W:B.length<=24/\∀p∈B,p.aY=ad:=by
  rw[<-r];split
  .rename_i a;have:=Ig a;exact⟨this.1,λp ak=>p3 (this.2 p ak)⟩
  .simp
 rw[r];rw[X,Z]at G F⊢;refine Sp.s [] [.cell 2 40,.tmp 3] func28 ntmps28 ?_;refine qi [] F (.c (.cl _ G) .n) ?_;rintro aC aL⟨e,rfl,m⟩aG-;rw[r]at m;have an:(e.map aW).length=B.length:=by rw[bW,<-m,bW]
 simp only[ly,an,go_sem];refine bq 18 B.length (λa=>Fw.cK 33 [(2,.rf 2 0 0),(7,.rf 7 0 0),(16,.sl 5 (e.map aW)),(17,I B.length),(6,I (fF b d))] λU g ay L=>(∃y,g 2=E ⟨0,40,1,[y],aa⟩)/\∃w,g 7=E ⟨0,40,1,[w],aa⟩/\aH [28] g 81 4 (Core.ae (B.take a)) w) A
  ⟨A,by simp[af,ba],⟨_,by simp[aj];rfl⟩,_,by simp[aj],.inl ⟨A,A⟩⟩ ?_
 rintro a U g ay L aB aJ⟨⟨y,z⟩,w,i,o⟩;simp only[go_sem];refine aT (λh=>?_) λh=>?_
 .have f:=bh h;have ap:a<e.length:=by rw[<-m,bW]at f;exact f
  have ab:B[a]=e[a].c:=by subst m;simp
  have q:(e.map aW)[a]?=E (aW e[a]):=by simp[ap]
  have j:=IQ B[a] (W.2 _ (ax f));have u:=Core.cl B[a];have l:Core.ae (B.take (a+1))=Core.ae (B.take a)++[B[a].ds]:=by rw[Core.bZ,Core.bZ,ch f,bC];rfl
  have J:(Core.ae (B.take a)).length=a:=by rw[Core.bb];simp;omega
  rw[ab]at j u l;rcases am:e[a]with⟨⟨P,R,M,Q⟩,aD⟩
  rw[am]at q j u l;simp only[aW,Core.ds,bf,a8]at q j u l;simp only[q,go_sem];refine cX [7,9] [] ?_;simp only[i,ic,go_sem];refine bw j ?_;simp only[i,go_sem];refine iO (S:=[28]) (rows:=Core.ae (B.take a)) (bx:=[[I P,I R,ints M,.sl 4 (Core.ae Q)]]) Zs Zk (by simp only[af,aI,aV,aP,bT,bU,reduceCtorEq];exact o.congr bJ) (Core.ea _) (by simp[af,cF,aj,ints]) Zs A (by rw[J];show(a+1)*64<=_;omega) (by rw[J];show a+1<=ao;unfold ao;omega) (by show 28<33;decide) ?_;intro az aK aM K t;obtain⟨aE,rfl,-⟩:=fG K Zs;have D:=t 7 Zd Zd;have C:=t 2 Zd Zd;have V:=t 9 Zd Zd;simp only[bV,bH,dP,aP,dz,z,i]at D C V;simp only[D,go_sem];refine bg f ⟨A,by simp[af],⟨y,by simp[aj,C]⟩,_,by simp only[bH];rfl,?_⟩;rw[l];exact aH.congr K bJ
 .have ar:=bS h;subst ar;rw[b9]at o;simp only[h,z,i,go_sem];refine⟨n3 o,Fz.k3 (Fz.lI (.c (aH.fz (o.congr bJ) Zd (Core.ea _) (Core.bA _)) .n)) (.cl _ (aO _))⟩
variable {h V:Nat}
def Nx(b:h<V)(a:V<=ao):IntKind.i64.wrap ((h:Int)+1)=((h+1:Nat):Int):=iX h (by unfold ao at a;omega)
def vH(j y:O)(r:j.ok):au 180 [.ag j.ds,.ag y.ds] (B (decide (j=y))):=by
 match j,y,r with
 |.mk g h b,.mk p q d,r=>
 simp only[O.ok]at r;obtain⟨aE,ab,ak⟩:=r;have Z:∀o∈b,∀w,au 180 [.ag o.ds,.ag w.ds] (B (decide (o=w))):=λo m w=>vH o w (O.dW ak o m);have L:=O.bb b;have W:=O.bb d;have u:¬O.mk g h b=.mk p q d->al=decide (O.mk g h b=.mk p q d):=λa=>(bj a).symm;refine Sp.s [] [.tmp 4] func180 ntmps180 ?_;by_cases z:g=p
 case neg=>
  have f1:(g !=p)=ad:=by simp[z]
  simp only[f1,go_sem];exact Fz.bool (u λa=>z (by cases a;rfl))
 subst z;have f1:(g !=g)=al:=Zs;by_cases C:h=q
 case neg=>
  have f2:(h.toList==q.toList)=al:=by rw[du];exact bj C
  simp only[bne,f2,uk,go_sem];exact Fz.bool (u λa=>C (by cases a;rfl))
 subst C;by_cases D:b.length=d.length
 case neg=>
  have f3:((b.length:Int)==(d.length:Int))=al:=by simp;omega
  simp only[bne,f3,uk,L,W,go_sem];exact Fz.bool (u λa=>D (by cases a;rfl))
 have f3:((b.length:Int)==(d.length:Int))=ad:=by simp[D]
 simp only[bne,f3,uk,L,W,go_sem];refine bq 5 b.length (λf=>Fw.Inv 46 [(2,.cp [I g,S h,.sl 3 (O.ae b)]),(3,.cp [I g,S h,.sl 3 (O.ae d)])] (∀(e:Nat)(a:e<b.length)(l:e<d.length),e<f->b[e]=d[e])) A ⟨A,by simp[af,ba],Zs⟩ ?_;rintro f az aw aD ay _ aC R;simp only[L,go_sem];refine aT (λa=>?_) λa=>?_
 .have t:=bh a;have G:=O.bo b f t;have J:=O.bo d f Zo;have K:=Z b[f] (ax t) d[f];have M:=O.cl b[f];have P:=O.cl d[f];obtain⟨am,an,ap,m⟩:=O.ex b[f];obtain⟨aq,ar,av,V⟩:=O.ex d[f];have U:b[f]=d[f]->∀(e:Nat)(a:e<b.length)(l:e<d.length),e<f+1->b[e]=d[e]:=λF e a l aB=>by
   by_cases i:e=f
   .subst i;exact F
   .exact R e a l Zo
  have Q:b[f]≠d[f]->¬b=d:=λF a=>F (by subst a;rfl);rw[m,V]at K U Q;rw[m]at G M;rw[V]at J P;simp only[O.ds]at G J K M P;simp only[a,G,J,go_sem];refine b7 ?_;refine d' K ?_;by_cases i:O.mk am an ap=.mk aq ar av
  .simp only[bD i,go_sem];exact qH (by simp[af,Nx t ab]) t ⟨A,by simp[af],U i⟩
  .simp only[bj i,go_sem];exact Fz.bool (u λa=>Q i (by first|exact a|(cases a;rfl)))
 .have X:=bS a;subst X;have:=p7 D λe a l=>R e a l a;simp only[a,go_sem];exact Fz.bool (by simp[this])
termination_by j
decreasing_by have:=cH m;simp;omega
def U9(a d:cz)(G:a.length<=ao)(I:∀h∈a,h.ok):au 182 [.sl 3 (O.ae a),.sl 3 (O.ae d)] (B (decide (a=d))):=by
 have K:∀h∈a,∀m,au 180 [.ag h.ds,.ag m.ds] (B (decide (h=m))):=λh l m=>vH h m (I h l);have F:=O.bb a;have L:=O.bb d;have w:¬a=d->al=decide (a=d):=λb=>(bj b).symm;refine Sp.e [] [.tmp 4] func182 ntmps182 ?_;simp only[F,L,go_sem];by_cases o:a.length=d.length
 case neg=>
  have f3:((a.length:Int)==(d.length:Int))=al:=by simp;omega
  simp only[bne,f3,go_sem];exact Fz.bool (w λb=>o (by rw[b]))
 have f3:((a.length:Int)==(d.length:Int))=ad:=by simp[o]
 simp only[bne,f3,go_sem];refine bq 5 a.length (λg=>Fw.Inv 27 [(0,.sl 3 (O.ae a)),(1,.sl 3 (O.ae d))] (∀(f:Nat)(b:f<a.length)(j:f<d.length),f<g->a[f]=d[f])) A ⟨A,by simp[af,ba],Zs⟩ ?_;rintro g X V ak W _ ab z;simp only[F,go_sem];refine aT (λb=>?_) λb=>?_
 .have k:=bh b;have q:=O.bo a g k;have r:=O.bo d g Zo;have s:=K a[g] (ax k) d[g];have t:=O.cl a[g];have u:=O.cl d[g];obtain⟨M,P,Q,l⟩:=O.ex a[g];obtain⟨R,S,U,D⟩:=O.ex d[g];have C:a[g]=d[g]->∀(f:Nat)(b:f<a.length)(j:f<d.length),f<g+1->a[f]=d[f]:=λp f b j Z=>by
   by_cases i:f=g
   .subst i;exact p
   .exact z f b j Zo
  have y:a[g]≠d[g]->¬a=d:=λp b=>p (by subst b;rfl);rw[l,D]at s C y;rw[l]at q t;rw[D]at r u;simp only[O.ds]at q r s t u;simp only[b,q,r,go_sem];refine b7 ?_;refine d' s ?_;by_cases i:O.mk M P Q=.mk R S U
  .simp only[bD i,go_sem];exact qH (by simp[af,Nx k G]) k ⟨A,by simp[af],C i⟩
  .simp only[bj i,go_sem];exact Fz.bool (w λb=>y i (by first|exact b|(cases b;rfl)))
 .have J:=bS b;subst J;have:=p7 o λf b j=>z f b j b;simp only[b,go_sem];exact Fz.bool (by simp[this])
abbrev tZ:O:=.mk 0 nE []
def rm:O->Prop|.mk k _ ks=>k=4->ks≠[]
variable {s2:Bool}
def Fz.tz:Fz fd (.tp [.ag [I 0,S nE,a'],B s2]) (.tp [.ag tZ.ds,B s2]):=.k3 (sk 0 nE (.nil 3)) (.cl _ (aO _))
variable {Do:Bool}
def Fz.ty(a:O)(b:s2=Do):Fz fd (.tp [.ag a.ds,B s2]) (.tp [.ag a.ds,B Do]):=.k3 (.cl _ (Cl.bu (O.cl a))) (.bool b)
def zX(b:O)(l:rm b):au 119 [.ag b.ds] (.tp [.ag (((gT b).map Prod.fst).getD tZ).ds,B (gT b).isSome]):=by
 obtain⟨a,g,d⟩:=b;refine Sp.s [] [.cell 2 87,.tmp 3] func119 ntmps119 ?_;by_cases f:a=4
 .subst f
  match d,l A with
  |.mk h j i::d,_=>
  simp only[O.ae,go_sem];exact Fz.ty (.mk h j i) A
 have f4:(a==4)=al:=by simp[f]
 by_cases e:a=1
 .subst e;simp only[f4,go_sem];exact Fz.ty (.mk 1 g d) A
 have f1:(a==1)=al:=by simp[e]
 simp only[f4,f1,go_sem];have:gT (.mk a g d)=aa:=by simp[gT,e,f]
 rw[this];exact Fz.tz
def DA(a:aw)(L:aF)(R:mG a)(Z v:Int)(f:BA)(ae:O)(b:aK)(ab:a_)(h:Env)(g:Int)(av:0<=fD a f)(aB:b.length=(jd a f).length)(aX:h.length+b.length<=4000000):
 au 171 [.cp [ai.sl a,ah.sl L],.cp (Y.ds (.mk Z v f ae b ab)),.ag (cc h),I g] (.ag (cc (h++cL a f b g))):=by
 obtain⟨r,ay,s,W,am,aN,an,aP,ap⟩:=oN av;have U:=rX a f R.len R.cs;rw[am,ap]at U;have z:=ai.bo a r ay;obtain⟨aI,aL,aJ⟩:=ae;obtain⟨K,l,F⟩:∃K l,a[r]=.mk K l:=by cases a[r];exact⟨_,_,A⟩
 have az:s<l.length:=by rw[F]at W;exact W
 obtain⟨J,i,Q⟩:∃J i,l[s]=.mk J i:=aA.ex _;have q:jd a f=i:=by rw[an];simp only[F,ai.cs,Q,aA.fs]
 have B:=aA.bo l s az;rw[F]at z;rw[Q]at B;rw[q]at aB;simp only[ai.ds,aA.ds,aA.sl]at z B;have aU:=aA.bb l;have aV:=ai.bb a;have aW:=O.bb i;have aC:(b.map λG=>[S G]).length=b.length:=Zs;refine Sp.e [6] [.cell 8 152] func171 ntmps171 ?_;simp only[cc,go_sem];refine b7 ?_;refine iP U ?_;refine bq 11 b.length (λd=>Fw.cK 59 [(0,.cp [ai.sl a,ah.sl L]),(1,.cp (Y.ds (.mk Z v f (.mk aI aL aJ) b ab))),(6,.rf 6 0 0),(8,.rf 8 0 0),(3,I g),(9,I r),(10,I s)] λaq t aH ak=>(∃j,t 8=E ⟨0,152,3,j,aa⟩/\j.length=3)/\t 6=E ⟨0,152,3,cc (h++(cL a f b g).take d),aa⟩) A
  ⟨A,by simp[af,ba,ai.sl,ah.sl,Y.ds,O.ds,strs],⟨_,by simp[aj];rfl,A⟩,by simp[aj,cc,strs,ints]⟩ ?_
 rintro d aq t aH ak aM aY⟨⟨j,M,P⟩,m⟩;simp only[aC,go_sem];refine aT (λo=>?_) λo=>?_
 .have X:=bh o;have ar:(b.map λG=>[S G])[d]?=E [S b[d]]:=by simp[X]
  have C:=O.bo i d Zo;obtain⟨aQ,aS,aR,V⟩:=O.ex i[d];rw[V]at C;have D:=mq (h++(cL a f b g).take d) b[d] i[d] g (by rw[bF,fP];omega);have aG:d<(cL a f b g).length:=by simp only[cL,bW,wb,q];omega
  have aD:h++(cL a f b g).take d++[⟨b[d],i[d],g⟩]=h++(cL a f b g).take (d+1):=by
   rw[ch aG,<-dM];congr 2;simp[cL,q]
  rw[aD,V]at D;have p:=fo (h++(cL a f b g).take (d+1));have ax:=fo (h++(cL a f b g).take d);simp only[O.ds,cc,strs,ints]at C D m p ax;simp only[go_sem];refine cX [6] [] ?_;simp only[m,z,B,ar,C,go_sem];refine bw D ?_;simp only[m,go_sem];exact bg X ⟨A,by simp[af,Y.ds,O.ds,strs],⟨j,by simp[aj,M],P⟩,by simp[aj,cc,strs,ints]⟩
 .have aE:=bS o;subst aE;rw[cU (by simp only[cL,bW,wb,q];omega)]at m;obtain⟨aZ,a0,a1,rfl⟩:∃u w y,j=[u,w,y]:=by
   match j,P with
   |[u,w,y],_=>exact⟨u,w,y,A⟩
  have p:=fo (h++cL a f b g);simp only[cc,strs,ints]at m p;simp only[o,m,M,go_sem];exact .cl _ (Cl.bu p)
def KT(d:Env)(b:Ev)(a:BA):look (d++[b]) a=if b.n=a then E b else look d a:=by
 unfold look;by_cases e:b.n=a<;>simp[e]
def o7(f:BA)(a:Env):(look a f=aa/\jb (a.map Ev.n) f=-1)\/∃(e:Nat)(d:e<a.length),look a f=E a[e]/\jb (a.map Ev.n) f=e:=by
 obtain⟨b,rfl⟩:∃b:Env,a=b.reverse:=⟨a.reverse,Zs⟩
 induction b with
 |nil=>exact .inl ⟨A,A⟩
 |cons k b j=>
  rw[List.reverse_cons,KT,bC,bp,cB,yD];by_cases d:k.n=f
  .rw[aM d,aM d];exact .inr ⟨b.length,Zs,Zs,Zs⟩
  .rw[av d,av d];rcases j with⟨g,h⟩|⟨e,i,g,h⟩
   .exact .inl ⟨g,h⟩
   .exact .inr ⟨e,by simp at i⊢;omega,by rw[g,yh i],h⟩
def l8(ab:aw)(ds:aF)(t:Y)(e:Env)(l:Int):Prop:=∃a:O,rm a/\au 116 [.cp [ai.sl ab,ah.sl ds],.cp t.ds,.ag (cc e),I l] (.tp [.ag a.ds,B (a6 ab ds t e l).isSome])/\∀ty,a6 ab ds t e l=E ty->a=ty
def SD{a:aw}{g:aF}(aE:fR a g){v tk d:Int}{n tn:BA}{az:cz}{ns:aK}{o:Y}{b:a_}{e:Env}{L:BA}(cJ:e.length<=1000000)
 (m:sD a b L h) {an ap bN bO bP bQ bR:D} (a5:(Y.ae (o::b))[1]?=E [an,ap,S L,bN,bO,bP,bQ,bR]) (cb:zE (o::b)=L) (bV:l8 a g o e d) (ci:∀C,a6 a g o e d=E C->O.w C)
 (b1:∀v n a1 ns f,.mk 10 v n a1 ns [f]∈b->l8 a g f (e++cL a n ns d) d) (cj:∀a1∈b,∀C,a6 a g a1 e d=E C->O.w C):
 au 179 [.cp [ai.sl a,ah.sl g],.cp (Y.ds (.mk 9 v n (.mk tk tn az) ns (o::b))),.ag (cc e),I d] (.tp [.ag ((a6 a g (.mk 9 v n (.mk tk tn az) ns (o::b)) e d).getD tZ).ds,B (a6 a g (.mk 9 v n (.mk tk tn az) ns (o::b)) e d).isSome]):=by
 have aV:=rX a L aE.ll.len aE.ll.cs;obtain⟨c0,b_⟩:=Zx (je (-1) a L);rw[m.at_,b_]at aV;have aq:=ai.bo a h m.hi;have aU:lM a L=ai.nm (a[h]'m.hi):=by simp[lM,m.at_,m.hi]
 obtain⟨F,a4,ca⟩:∃F a4,a[h]'m.hi=.mk F a4:=match a[h]'m.hi with|.mk l r=>⟨l,r,A⟩
 rw[ca]at aq aU;simp only[ai.ds,ai.nm]at aq aU;have bh:(Y.ae (o::b)).length=b.length+1:=by rw[Y.bb];simp
 have cM:=m.hi;have ce:=q0.2 m.ne;have cO:=m.le;obtain⟨bK,cE,aX,cg⟩:=bV;have b':Cl (.cp [ai.sl a,ah.sl g]):=Cl.eX cu;have b9:=fo e;have cP:=Y.cl o;have aR:(Y.ae (o::b))[0]?=E o.ds:=A;rw[si,cb,aU];obtain⟨bH,bI,bJ,bd⟩:∃l r f,cc e=[l,r,f]:=⟨_,_,_,A⟩;rw[bd]at aX b9⊢;have cn:=Y.cl o;obtain⟨bs,bD,bv,⟨bz,bC,bB⟩,bx,bt⟩:=o;have cw:Int.toNat 1=1:=A;have bW:((0:Int)<=1)=True:=Zs;obtain⟨ab,z,aJ⟩:=bK;simp only[Y.ds,O.ds,strs,bf,a8,ai.sl,ah.sl]at aX aR aV b' cn⊢;obtain⟨am,be⟩:∃am,am=Y.ae (.mk bs bD bv (.mk bz bC bB) bx bt::b):=⟨_,A⟩;rw[<-be]at aR a5 bh⊢;refine Sp.s [] [.cell 8 87,.tmp 9] func179 ntmps179 ?_;refine cX [] [28] ?_;simp only[aR,go_sem];refine jx aX ?_;refine b7 ?_;simp only[cw,bW,a5,go_sem];refine iP aV ?_;have aI:∀p,Fz p (.tp [.ag [I 0,S nE,a'],B al]) (.tp [.ag tZ.ds,B al]):=λp=>Fz.tz;cases bk:a6 a g (.mk bs bD bv (.mk bz bC bB) bx bt) e d with
 |none=>
  simp only[Option.isSome_none,go_sem];refine b7 ?_;exact aI _
 |some C=>
  have:=cg C bk;subst this;have ch:=ci _ bk;simp only[lY,go_sem];have bn:O.mk ab z aJ≠kh F->∀p,Fz p (.tp [.ag [I 0,S nE,a'],B al]) (.tp [.ag (((E (O.mk ab z aJ)).bind λl=>if l=kh F then mB (b.map λf=>a6 a g f e d)else aa).getD tZ).ds,B ((E (O.mk ab z aJ)).bind λl=>if l=kh F then mB (b.map λf=>a6 a g f e d)else aa).isSome]):=λj p=>by
   rw[jS,av j];exact aI _
  by_cases aL:ab=2
  case neg=>
   have f2:(ab==2)=al:=by simp[aL]
   refine b7 ?_;simp only[bne,f2,go_sem];exact bn (λj=>aL (by cases j;rfl)) _
  subst aL;have:aJ=[]:=by have:=ch.1;rw[eL,O.aY,b3]at this;have:=this.1;simp[fL]at this;exact this.2
  subst this;by_cases aP:z=F
  case neg=>
   have f2:(z.toList==F.toList)=al:=by rw[du];exact bj aP
   refine b7 ?_;simp only[bne,aq,f2,go_sem];exact bn (λj=>aP (by cases j;rfl)) _
  subst aP;have f2:(z.toList==z.toList)=ad:=Zs;refine b7 ?_;simp only[bne,aq,f2,go_sem];have cf:(E (O.mk 2 z [])).bind (λl=>if l=kh z then mB (b.map λf=>a6 a g f e d)else aa)=mB (b.map λf=>a6 a g f e d):=by rw[jS,aM A]
  rw[cf];refine mW (λak=>∃i:Nat,i<=b.length/\Fw.cK 114 [(0,.cp [.sl 2 (ai.ae a),.sl 12 (ah.ae g)]),(1,.cp [I 9,I v,S n,I tk,S tn,.sl 3 (O.ae az),.sl 1 (ns.map λak=>[S ak]),.sl 8 am]),(6,.cp [bH,bI,bJ]),(3,I d),(15,I (i+1:Nat)),(8,.rf 8 0 0),(14,.rf 14 0 0)] (λbU p co bM=>(∃W,p 8=E ⟨0,87,3,W,aa⟩/\W.length=3)/\∃an ap a2,p 14=E ⟨0,87,3,[an,ap,a2],aa⟩/\(0<i->∃q:O,q.ds=[an,ap,a2]/\∀(h:Nat)(j:h<b.length),h<i->a6 a g b[h] e d=E q)) ak)
   (λak=>match ak.env 15 with|.sc (.int _ n)=>b.length+1-n.toNat|_=>0) ⟨0,iy _,A,by simp[af,ba],⟨_,by simp[aj];rfl,A⟩,_,_,_,by simp[aj];exact⟨A,A,A⟩,Zs⟩ ?_
  rintro⟨bU,p,co,cQ,bM,cB⟩⟨i,cN,rfl,bi,⟨W,M,b8⟩,b0,cC,cD,X,bg⟩;simp only[a7]at bi M X;obtain⟨f0,f1,f6,f3,f15,f8,f14,-⟩:=bi;obtain⟨c2,c3,c4,rfl⟩:∃l r f,W=[l,r,f]:=by
   match W,b8 with
   |[l,r,f],_=>exact⟨l,r,f,A⟩
  simp only[f15,f1,bh,go_sem];refine aT (λj=>?_) λj=>?_
  .have P:i<b.length:=by simp at j;omega
   have bc:i<(ai.cs (a[h]'m.hi)).length:=by rw[<-m.len];exact P
   obtain⟨V,u,⟨Q,U,R⟩,y,t,aB,b5,b2,cH⟩:=m.br i P bc;have aS:=IJ aE.vd m.hi bc;rw[<-b5]at aS;have aW:Y.mk 10 V u (.mk Q U R) y [t]∈b:=aB▸ax P;have aC:=DA a g aE.ll 10 V u (.mk Q U R) y [t] e d (by rw[aS.1];omega) (by rw[aS.2,b2]) Zo;obtain⟨bL,cG,aH,bp⟩:=b1 _ _ _ _ _ aW;have Z:a6 a g (.mk 10 V u (.mk Q U R) y [t]) e d=a6 a g t (e++cL a u y d) d:=vN;have a0:=cj _ aW;rw[Z]at a0;rw[<-aB]at Z;have bX:=fo (e++cL a u y d);obtain⟨cx,cy,cA,bY⟩:∃l r f,cc (e++cL a u y d)=[l,r,f]:=⟨_,_,_,A⟩;obtain⟨bF,bq⟩:=Zx (a6 a g t (e++cL a u y d) d);have bl:bF∈b.map λf=>a6 a g f e d:=aG.2 ⟨_,aB▸aW,by rw[Z,bq]⟩;rw[bq]at aH bp Z a0;rw[bY]at aC aH bX;rw[bd]at aC;have a9:am[i+1]?=E (Y.mk 10 V u (.mk Q U R) y [t]).ds:=by rw[<-aB,be];simp[Y.ae,Y.bo b i P]
   have bS:=Y.cl t;have bT:=Y.cl (.mk 10 V u (.mk Q U R) y [t]);obtain⟨cR,cZ,cT,⟨cV,cY,cW⟩,cU,cS⟩:=t;obtain⟨G,K,J⟩:=bL;simp only[Y.ds,O.ds,strs,bf,a8,ai.sl,ah.sl,Y.ae]at a9 aC aH bS bT;have cm:Int.toNat ((i+1:Nat):Int)=i+1:=A;simp only[j,f1,f15,a9,cm,go_sem];refine cX [] [94,96] ?_;simp only[f0,f6,f3,go_sem];refine uL aC ?_;simp only[f3,go_sem];refine jx aH ?_;cases bF with
   |none=>
    rw[El bl];simp only[Option.isSome_none,f8,M,go_sem];exact aI _
   |some C=>
    have:=bp C A;subst this;have bm:(∀(h:Nat)(j:h<b.length),h<i->a6 a g b[h] e d=E (.mk G K J))->∀(h:Nat)(j:h<b.length),h<i+1->a6 a g b[h] e d=E (.mk G K J):=λcq h j aD=>by
     by_cases f:h=i
     .subst f;exact Z
     .exact cq h j Zo
    have bG:=iX (i+1) Zo;by_cases a3:i=0
    .have aQ:decide (((i+1:Nat):Int)>1)=al:=by simp[a3]
     simp only[lY,f15,aQ,f14,X,bG,go_sem];refine⟨⟨i+1,P,A,by simp[af,f0,f1,f3,f6,f8,f14],⟨_,by simp[aj,M];rfl,A⟩,_,_,_,by simp[aj],λ_=>⟨.mk G K J,A,bm λh j aD=>by omega⟩⟩,by simp[af,a3];omega⟩
    .obtain⟨q,ar,ay⟩:=bg Zo;have aQ:decide (((i+1:Nat):Int)>1)=ad:=by simp;omega
     have aZ:=vH (.mk G K J) q (a0 _ A).2;have bZ:=O.cl q;rw[ar]at aZ bZ;simp only[O.ds]at aZ;simp only[lY,f15,aQ,f14,X,go_sem];refine bw aZ ?_;by_cases aN:O.mk G K J=q
     .subst aN;simp only[f15,f14,X,bG,go_sem];refine⟨⟨i+1,P,A,by simp[af,f0,f1,f3,f6,f8,f14],⟨_,by simp[aj,M];rfl,A⟩,_,_,_,by simp[aj],λ_=>⟨.mk G K J,A,bm ay⟩⟩,by simp[af];omega⟩
     .rw[Mp bl (aG.2 ⟨b[0],ax _,ay 0 Zo Zo⟩) (by simpa using aN)];simp only[bj aN,f8,M,go_sem];exact aI _
  .have cd:i=b.length:=by(simp at j;omega)
   subst cd;obtain⟨q,ar,ay⟩:=bg ce;rw[Mo (x:=E q) (by simp;exact m.ne) (by intro c1 ck;obtain⟨f,b6,rfl⟩:=aG.1 ck;obtain⟨h,aD,rfl⟩:=dG b6;exact ay h aD aD)];obtain⟨cr,cv,ct⟩:=q;simp only[O.ds,vZ,fa]at ar;obtain⟨rfl,rfl,rfl⟩:=ar;simp only[j,f8,f14,M,X,lY,go_sem];exact Fz.ty (.mk cr cv ct) A
def mo(ab:List ai)(k:Int)(n:ByteArray):Option (List O)->O
 |none=>tZ
 |some ts=>if k=3 then js else if k=5 then(ff ab k n ts).getD tZ else if k=8 then kh (lM ab n)else ts.getD 1 tZ
variable {go lw ro:O}
def NY(b:O.w go)(a:li go lw=E ro):O.w ro:=by
 unfold li at a;split at a
 .split at a
  .cases a;exact Bd b _ Zs
  .cases a
 .cases a
def rn(a:O.w go):rm go:=by
 obtain⟨d,f,e⟩:=go;rintro rfl;obtain⟨b,rfl,-⟩:=Nt a;simp
variable {UV:cz}{he:aK}
def zY{d:aw}{y:aF}(bw:fR d y){p v a3 G:Int}{o a4:BA}{m:a_}{l:Env}(ar:p=3\/p=5\/p=8\/p=11)(cQ:m.length<=16)(cj:p=3->m.length=2)(ck:p=5->m.length=2)(ci:p=11->m.length=3)(cm:p=8->0<=fD d o)
 (cw:∀f∈m,l8 d y f l G) (bF:∀f∈m,∀ak,a6 d y f l G=E ak->O.w ak):l8 d y (.mk p v o (.mk a3 a4 UV) he m) l G:=by
 have bz:a6 d y (.mk p v o (.mk a3 a4 UV) he m) l G=(m.mapM λf=>a6 d y f l G).bind (ff d p o):=p0 ar;have cb:=fo l;obtain⟨bM,bN,bO,aR⟩:∃C D f,cc l=[C,D,f]:=⟨_,_,_,A⟩;rw[aR]at cb;have ce:=Y.bb m;have cd:Cl (.cp [ai.sl d,ah.sl y]):=Cl.eX cu;have f1:(p==1)=al/\(p==2)=al/\(p==4)=al/\(p==6)=al/\(p==7)=al/\(p==9)=al:=by rcases ar with rfl|rfl|rfl|rfl<;>decide
 obtain⟨f1,f2,f4,f6,f7,f9⟩:=f1;obtain⟨M,Z⟩:∃M,m.mapM (λf=>a6 d y f l G)=M:=⟨_,A⟩;have bY:cy aB 72=E (87,3,48):=Zk;have b':∀a,M=E a->∀t∈a,O.w t:=λa l t ab=>by
  rw[l]at Z;obtain⟨f,b_,l⟩:=Ag Z t ab;exact bF f b_ t l
 refine⟨mo d p o M,?_,?_,?_⟩
 .have aS:rm tZ:=λb=>by cases b
  cases M with
  |none=>exact aS
  |some a=>
   have bs:=b' a A;rcases ar with rfl|rfl|rfl|rfl
   .exact λb=>by cases b
   .have l:mo d 5 o (E a)=(ff d 5 o a).getD tZ:=by simp[mo]
    rw[l];cases R:ff d 5 o a with
    |none=>exact aS
    |some bc=>
     simp only[ff,Int.reduceEq,aV,aI]at R;split at R
     .exact rn (NY (bs _ Zs) R)
     .cases R
   .exact λb=>by cases b
   .have l:mo d 11 o (E a)=a.getD 1 tZ:=by simp[mo]
    rw[l,sy];cases R:a[1]? with
    |none=>exact aS
    |some bc=>exact rn (bs _ (eg R))
 .rw[aR,bz,Z];refine Sp.e [1000195,1000199] [.cell 8 87,.tmp 9] func116 ntmps116 ?_;simp only[f1,f2,f4,f6,f7,f9,go_sem];refine bq 20 m.length (λz=>Fw.cK 296 [(0,.cp [.sl 2 (ai.ae d),.sl 12 (ah.ae y)]),(1,.cp [I p,I v,S o,I a3,S a4,.sl 3 (O.ae UV),.sl 1 (he.map λcB=>[S cB]),.sl 8 (Y.ae m)]),(6,.cp [bM,bN,bO]),(3,I G),(8,.rf 8 0 0)] λbn L cA bQ=>(∃an,L 8=E ⟨0,87,3,an,aa⟩/\an.length=3)/\∃a,a.length=z/\(∀(s:Nat)(b:s<m.length)(bp:s<a.length),a6 d y m[s] l G=E a[s])/\aH [166,195] L 87 3 (O.ae a) (bn 19)) A
   ⟨A,by simp[af,ba],⟨_,by simp[aj];rfl,A⟩,[],A,Zs,.inr ⟨166,0,Zs,A,by simp[aj,O.ae]⟩⟩ ?_
  rintro z bn L cA bQ cL R⟨⟨an,aQ,ca⟩,a,F,aZ,a1⟩;obtain⟨cE,cG,cH,rfl⟩:∃C D f,an=[C,D,f]:=by
   match an,ca with
   |[C,D,f],_=>exact⟨C,D,f,A⟩
  simp only[ce,go_sem];refine aT (λb=>?_) λb=>?_
  .have aE:=bh b;have J:=(Y.bo m) z aE;obtain⟨bP,cO,au,bB⟩:=cw m[z] (ax aE);have bI:=Y.cl m[z];obtain⟨cD,aX⟩:=Zx (a6 d y m[z] l G);rw[aR]at au;rw[aX]at au bB;obtain⟨cS,c0,cU,⟨cW,cZ,cY⟩,cV,cT,ch⟩:∃C D f bR l b1,m[z]=.mk C D f bR l b1:=by cases m[z];exact⟨_,_,_,_,_,_,A⟩
   obtain⟨aG,aL,aJ⟩:=bP;rw[ch]at J au bI;simp only[Y.ds,O.ds,strs,bf,a8,ai.sl,ah.sl]at J au cd bI;simp only[b,go_sem];refine cX [] [186] ?_;simp only[J,go_sem];refine jx au ?_;cases cD with
   |none=>
    have:M=aa:=by rw[<-Z];exact mapM_none aE aX
    subst this;simp only[Option.isSome_none,aQ,go_sem];exact Fz.tz
   |some ak=>
    have:=bB ak A;subst this;simp only[lY,go_sem];refine GK.intro (dS.eF (S:=[166,195]) (rows:=O.ae a) (bx:=[(O.mk aG aL aJ).ds]) bY (by simp only[af,aI,aV,aP,bT,bU,reduceCtorEq];exact a1.congr bJ) (O.ea _) (by simp[af,cF,aj,O.ds]) Zs (by rfl) (by rw[O.bb,F];show(z+1)*48<=_;omega) (by rw[O.bb,F];show z+1<=ao;unfold ao;omega) λcJ cR c1 cv b8=>?_);have br:=b8 8 Zd Zd;simp only[bV,dP,aP,dz,aQ]at br;simp only[go_sem];refine bg aE ⟨A,by simp[af],⟨_,by simp[br];rfl,A⟩,a++[.mk aG aL aJ],by simp[F],λs b bp=>?_,?_⟩
    .by_cases f:s<a.length
     .rw[yh f];exact aZ s b f
     .have:s=z:=by simp at bp;omega
      subst this;simp[<-F];rw[<-aX];congr 1;simp[F]
    .rw[show O.ae (a++[.mk aG aL aJ])=O.ae a++[(O.mk aG aL aJ).ds]by rw[O.bZ,O.bZ,bC];rfl];simp only[af,aI,aV,aP,bT,bU,reduceCtorEq];exact(cv.congr Zs).sub Zs
  .have cn:=bS b;subst cn;have b9:M=E a:=by rw[<-Z,mapM_some (g:=id) F λcx b6 aM=>aZ cx b6 aM,List.map_id]
   subst b9;have cr:Cl (.sl 3 (O.ae a)):=O.cI a;simp only[b,go_sem];refine GK.ln [166,195] 19 (.sl 3 (O.ae a)) ?_ cr ?_
   .simp only[af,aV,aP,bT,bU,aI,reduceCtorEq];exact aH.fz (a1.congr (by simp[bi])) Zd (O.ea _) (O.bA _)
   have K:aN [166,195] L 8=E ⟨0,87,3,[cE,cG,cH],aa⟩:=by simp[aN,aQ]
   have ay:Int.toNat 1=1:=A;have cC:Int.toNat 2=2:=A;have ap:((0:Int)<=1)=True:=Zs;have b5:((0:Int)<=2)=True:=Zs;clear a1;have a0:∀t∈a,O.w t:=λt ab=>by
    obtain⟨s,aD,rfl⟩:=dG ab;exact bF _ (ax Zo) _ (aZ s Zo aD)
   rcases ar with rfl|rfl|rfl|rfl
   .obtain⟨⟨h,q,r⟩,⟨b0,i,j⟩,rfl⟩:=o6 (F.trans (cj A));have aU:((E [O.mk h q r,.mk b0 i j]).bind (ff d 3 o)).isSome=(decide (h=1)&&decide (b0=1)):=by
     by_cases u:h=1<;>by_cases P:b0=1<;>simp[ff,O.kd,u,P]
    rw[aU];simp only[O.ae,go_sem];refine cX [] [202] ?_;simp only[go_sem];refine uL Kp ?_;simp only[O.ae,go_sem];by_cases u:h=1
    .simp only[u,uk,ay,ap,K,go_sem];refine Fz.ty js ?_;rw[iG]
    .have Q:(h==1)=al:=by simp[u]
     simp only[Q,K,go_sem];refine Fz.ty js ?_;simp[u]
   .obtain⟨⟨h,q,r⟩,⟨b0,i,j⟩,rfl⟩:=o6 (F.trans (ck A));have bG:O.w (.mk h q r):=a0 _ Zs;have aW:(E [O.mk h q r,.mk b0 i j]).bind (ff d 5 o)=li (.mk h q r) (.mk b0 i j):=by simp[ff]
    have aq:mo d 5 o (E [O.mk h q r,.mk b0 i j])=(li (.mk h q r) (.mk b0 i j)).getD tZ:=by simp[mo,ff]
    rw[aW,aq];have bH:li (.mk h q r) (.mk b0 i j)=aa->∀L,Fz L (.tp [.ag [I 0,S nE,a'],B al]) (.tp [.ag ((li (.mk h q r) (.mk b0 i j)).getD tZ).ds,B (li (.mk h q r) (.mk b0 i j)).isSome]):=λb L=>by rw[b];exact Fz.tz
    simp only[O.ae,go_sem];by_cases bK:h=3
    case neg=>
     have b2:(h==3)=al:=by simp[bK]
     refine b7 ?_;simp only[bne,b2,K,go_sem];exact bH (by unfold li;split<;>simp_all) _
    subst bK;obtain⟨bL,bc,rfl⟩:=o6 (show r.length=2 by have:=bG.1;rw[eL,O.aY,b3]at this;have:=this.1;simp[fL]at this;exact this.2);have ct:=Bd bG bL Zs;obtain⟨a5,a7,a9⟩:=bL;obtain⟨bd,be,bk⟩:=bc;have co:=vH (.mk a5 a7 a9) (.mk b0 i j) ct.2;refine b7 ?_;simp only[bne,uk,O.ae,ay,ap,go_sem];refine d' co ?_;by_cases az:O.mk a5 a7 a9=.mk b0 i j
    .simp only[bD az,K,ay,ap,go_sem];rw[show li (.mk 3 q [.mk a5 a7 a9,.mk bd be bk]) (.mk b0 i j)=E (.mk bd be bk)by simp[li,az]];exact Fz.ty (.mk bd be bk) A
    .simp only[bj az,K,go_sem];exact bH (by simp only[li];rw[av];simpa using az) _
   .have bv:=rX d o bw.ll.len bw.ll.cs;obtain⟨s,aD,t,ab,bm,cM,bW,cN,bX⟩:=oN (cm A);rw[bm,bX]at bv;have J:=ai.bo d s aD;obtain⟨W,V,aC⟩:∃W V,d[s]=.mk W V:=by cases d[s];exact⟨_,_,A⟩
    have cq:t<V.length:=by rw[aC]at ab;exact ab
    obtain⟨bl,X,bt⟩:∃bl X,V[t]=.mk bl X:=aA.ex _;have cg:jd d o=X:=by rw[bW];simp only[aC,ai.cs,bt,aA.fs]
    have cf:lM d o=W:=by simp[lM,bm,aD,aC,ai.nm]
    have Q:=aA.bo V t cq;rw[aC]at J;rw[bt]at Q;simp only[ai.ds,aA.ds,aA.sl]at J Q;have cP:=ai.bb d;have aq:mo d 8 o (E a)=kh W:=by simp[mo,cf]
    have aW:((E a).bind (ff d 8 o)).isSome=decide (a=X):=by
     by_cases f:a=X<;>simp[ff,cg,f]
    rw[aq,aW];simp only[go_sem];refine b7 ?_;refine iP bv ?_;refine cX [] [281,295] ?_;simp only[J,go_sem];refine uL (Sf W) ?_;simp only[J,Q,aA.bb V,go_sem];refine yQ _ (U9 a X iM λt b=>(a0 t b).2) cu ?_;simp only[K,go_sem];exact Fz.ty (kh W) A
   .obtain⟨⟨h,q,r⟩,⟨b0,i,j⟩,⟨am,u,P⟩,rfl⟩:∃C D f,a=[C,D,f]:=by
     match a,F.trans (ci A)with
     |[C,D,f],_=>exact⟨_,_,_,A⟩
    have aU:((E [O.mk h q r,.mk b0 i j,.mk am u P]).bind (ff d 11 o)).isSome=(decide (h=1)&&decide (O.mk b0 i j=.mk am u P)):=by
     by_cases U:h=1
     .by_cases a2:O.mk b0 i j=.mk am u P
      .rw[a2];simp[ff,O.kd,U]
      .rw[bj a2];simp only[jS,ff];simp[O.kd,U];simpa using a2
     .simp[ff,O.kd,U]
    have aq:mo d 11 o (E [O.mk h q r,.mk b0 i j,.mk am u P])=.mk b0 i j:=by simp[mo]
    rw[aU,aq];simp only[O.ae,go_sem];refine cX [] [259] ?_;simp only[ay,ap,go_sem];by_cases U:h=1
    .simp only[U,uk,ay,cC,ap,b5,go_sem];refine uL (vH (.mk b0 i j) (.mk am u P) ((a0 (.mk b0 i j) Zs).2)) ?_;simp only[K,go_sem];refine Fz.ty (.mk b0 i j) ?_;simp
    .have Q:(h==1)=al:=by simp[U]
     simp only[Q,K,go_sem];refine Fz.ty (.mk b0 i j) ?_;simp[U]
 .intro ak b;rw[bz,Z]at b;obtain⟨a,l,aM⟩:=iJ.1 b;clear b;subst l;have b:=aM;rcases ar with rfl|rfl|rfl|rfl
  .simp[ff]at b;simp[mo,b.2]
  .show(ff d 5 o a).getD tZ=ak;rw[b];rfl
  .simp[ff]at b;simp[mo,b.2]
  .simp only[ff,Int.reduceEq,aV]at b;split at b
   .split at b
    .cases b;simp[mo]
    .cases b
   .cases b
variable {dg:BA}
def Kg(b:a0≠4):rm (.mk a0 dg UV):=λa=>absurd a b
def R2(a:O):rm (kG a):=λ_=>by simp
def I8(a b:Env):(a++b).map Ev.n=a.map Ev.n++b.map Ev.n:=bC
def CM{l:Int}(a:he.length=(jd a4 dg).length):(cL a4 dg he l).map Ev.n=he:=by
 rw[cL,dZ];exact List.map_fst_zip Zo
def zZ{f:aw}{b:aF}(hp:fR f b):∀(y:Y)(a:Env)(l:Int),TC f b y (a.map Ev.n)->(∀d∈a,O.w d.t)->0<=l->l+y.num<=1000->a.length+3*y.num<=1000000->Y.kd y≠10->l8 f b y a l
 |.mk C v n (.mk tk tn az) ns p,a,l,iE,u6,b9,c3,cY,b8=>by
  obtain⟨f1,f2,f3,f4,f5,f6⟩:=iE.form;have bC:∀c∈p,c.num+1<=Y.num (.mk C v n (.mk tk tn az) ns p):=λc hc=>by have:=Y.gV hc;rw[Y.num];omega
  have a9:∀(i:Nat)(h:i<p.length),¬(C=9/\0<i)->Y.kd p[i]≠10:=λi h q c=>q ((iE.case i h).1 c);have ih:∀(i:Nat)(h:i<p.length)(g:Env)(av:Int),g.map Ev.n=bN C n ns i->(∀d∈g,O.w d.t)->g.length<=3->l<=av->av<=l+1->¬(C=9/\0<i)->l8 f b p[i] (a++g) av:=λi h g av a3 a4 bx c1 c2 aJ=>by
   have P:=bC _ (ax h);refine zZ hp p[i] (a++g) av ?_ (λd K=>(cg.1 K).elim (u6 d) (a4 d)) Zo Zo de (a9 i h aJ);rw[I8,a3];exact iE.cM i h
  have cf:∀(i:Nat)(h:i<p.length)(aN:Int)(aL:BA)(aM:O)(ay:aK)(c:Y)(q:p[i]=.mk 10 aN aL aM ay [c])(g:Env),g.map Ev.n=ay->(∀d∈g,O.w d.t)->g.length<=3->l8 f b c (a++g) l:=λi h aN aL aM ay c q g a3 a4 bx=>by
   have P:=bC _ (ax h);have a0:=iE.cM i h;rw[q]at P a0;have c5:=Y.gV (l:=[c]) (c:=c) Zs;rw[Y.num]at P;have bY:=a0.cM 0 Zs;have b6:C=9:=by
    by_cases bK:C=9/\0<i
    .exact bK.1
    .have:=a9 i h bK;rw[q]at this;exact absurd A this
   subst b6;refine zZ hp c (a++g) l ?_ (λd K=>(cg.1 K).elim (u6 d) (a4 d)) b9 Zo de λq=>?_
   .rw[I8,a3];have:=bY;simp[bN]at this;exact this
   .have:=(a0.case 0 Zs).1 q;omega
  have aH:∀c∈p,(∀i,bN C n ns i=[])->C≠9->l8 f b c a l:=λc hc hb h9=>by
   exact Ho
  have R:∀c∈p,∀o,a6 f b c a l=E o->O.w o:=λc hc o h=>by
   exact FV
  have bw:rm tZ:=λh=>by cases h
  have b0:Cl (.cp [ai.sl f,ah.sl b]):=Cl.eX cu;have X:=fo a;obtain⟨aP,bj,bL,u⟩:∃m g c,cc a=[m,g,c]:=⟨_,_,_,A⟩;have cV:Cl (.cp [.sl 2 (ai.ae f),.sl 12 (ah.ae b)]):=b0;have bG:Cl (.cp (Y.ds (.mk C v n (.mk tk tn az) ns p))):=Cl.eX (Y.cl _);simp only[Y.ds,O.ds,strs,bf,a8]at bG;rcases mT C with rfl|rfl|rfl|rfl|rfl|rfl|rfl|rfl|rfl|rfl|rfl|⟨q1,q2,q3,q4,q5,q6,q7,q8,q9,tL,tM⟩
  case inr.inr.inl=>(simp[a1,cN]at f1;exact zY hp Zs Zo (λq=>by first|omega|exact absurd q Zd) (λq=>by first|omega|exact absurd q Zd) (λq=>by first|omega|exact absurd q Zd) (λq=>by first|exact absurd q Zd|(have:=(iQ iE.fit).1;simp[dR]at this;omega)) (λc hc=>aH c hc (λi=>by simp[bN]) Zd) R)
  case inr.inr.inr.inr.inl=>(simp[a1,cN]at f1;exact zY hp Zs Zo (λq=>by first|omega|exact absurd q Zd) (λq=>by first|omega|exact absurd q Zd) (λq=>by first|omega|exact absurd q Zd) (λq=>by first|exact absurd q Zd|(have:=(iQ iE.fit).1;simp[dR]at this;omega)) (λc hc=>aH c hc (λi=>by simp[bN]) Zd) R)
  case inr.inr.inr.inr.inr.inr.inr.inl=>(simp[a1,cN]at f1;exact zY hp Zs Zo (λq=>by first|omega|exact absurd q Zd) (λq=>by first|omega|exact absurd q Zd) (λq=>by first|omega|exact absurd q Zd) (λq=>by first|exact absurd q Zd|(have:=(iQ iE.fit).1;simp[dR]at this;omega)) (λc hc=>aH c hc (λi=>by simp[bN]) Zd) R)
  case inr.inr.inr.inr.inr.inr.inr.inr.inr.inr.inl=>(simp[a1,cN]at f1;exact zY hp Zs Zo (λq=>by first|omega|exact absurd q Zd) (λq=>by first|omega|exact absurd q Zd) (λq=>by first|omega|exact absurd q Zd) (λq=>by first|exact absurd q Zd|(have:=(iQ iE.fit).1;simp[dR]at this;omega)) (λc hc=>aH c hc (λi=>by simp[bN]) Zd) R)
  case inr.inr.inr.inr.inr.inr.inr.inr.inr.inl=>exact absurd A b8
  .have am:a6 f b (.mk 1 v n (.mk tk tn az) ns p) a l=E (((look a n).map Ev.t).getD (rG b n)):=by simp[a6,iu]
   have bU:aP=strs (a.map Ev.n):=by rw[cc]at u;cases u;rfl
   have bV:bj=.sl 3 (O.ae (a.map Ev.t)):=by rw[cc]at u;cases u;rfl
   have Z:=nZ (a.map Ev.n) n kO;rw[<-bU]at Z;have cT:=X aP (by rw[u];simp);rw[l8,am,u];rcases o7 n a with⟨aB,aW⟩|⟨i,hi,aB,aW⟩
   .have b_:=iE.free n (by
     rw[fv];refine .inl ⟨A,A,λP=>?_⟩;obtain⟨d,K,cd⟩:=aG.1 P;have:=List.find?_eq_none.1 (show(a.reverse).find? (λd=>decide (d.n=n))=aa from aB) d (by simpa using K);simp[cd]at this)
    obtain⟨an,V,aE,-⟩:=rV b_;have aE:dh b n=an:=aE;have bB:=xy b n (by have:=hp.len;unfold ao;omega);rw[aW]at Z;rw[aE]at bB;have M:=ah.bo b an V;have b2:rG b n=ah.ty b[an]:=by simp[rG,aE,V]
    rw[aB,Option.map_none,Option.getD_none,b2];obtain⟨cQ,⟨aS,aU,aT⟩,cP,b1⟩:∃m g c,b[an]=.mk m g c:=by cases b[an];exact⟨_,_,_,A⟩
    have Q:=hp.wV _ (ax V);rw[b1]at M Q⊢;simp only[ah.ty]at Q⊢;refine⟨_,rn Q,?_,λo h=>by cases h;rfl⟩;simp only[ah.ds,O.ds,bf,a8]at M;refine Sp.s [] [.cell 8 87,.tmp 9] func116 ntmps116 ?_;refine b7 ?_;refine d' Z ?_;simp only[ge_iff_le,go_sem];refine cX [] [57] ?_;simp only[go_sem];refine uL bB ?_;simp only[M,go_sem];exact Fz.ty (.mk aS aU aT) A
   .have Q:=u6 _ (ax hi);have M:=O.bo (a.map Ev.t) i (by simpa using hi);rw[eI]at M;have c4:(O.ae (a.map Ev.t)).length=a.length:=by rw[O.bb];simp
    rw[aB,ey,kM];rw[aW]at Z;obtain⟨cS,⟨aS,aU,aT⟩,cR,b5⟩:∃m g c,a[i]=⟨m,g,c⟩:=⟨_,_,_,A⟩;rw[b5]at M Q⊢;refine⟨_,rn Q,?_,λo h=>by cases h;rfl⟩;simp only[O.ds]at M;have cZ:decide ((i:Int)>=0)=ad:=Zs;subst bV;refine Sp.s [] [.cell 8 87,.tmp 9] func116 ntmps116 ?_;refine b7 ?_;refine d' Z ?_;simp only[M,go_sem];exact Fz.ty (.mk aS aU aT) A
  .rw[l8,u];refine⟨js,Kg Zd,?_,λo h=>by simpa[a6,iu]using h⟩;rw[show a6 f b (.mk 2 v n (.mk tk tn az) ns p) a l=E js by simp[a6,iu]];refine Sp.s [] [.cell 8 87,.tmp 9] func116 ntmps116 ?_;refine hU Kp .n ?_;simp only[go_sem];exact Fz.ty js A
  .obtain⟨c,rfl⟩:=hP.1 (show p.length=1 by simp[a1,cN]at f1;omega);have cb:O.w (.mk tk tn az):=⟨by simp only[jt,fK,aI,b3]at f3;exact f3.1,by have:=iE.ok;rw[Y.ok]at this;exact this.2.1⟩;have am:a6 f b (.mk 4 v n (.mk tk tn az) ns [c]) a l=(a6 f b c (a++[⟨n,.mk tk tn az,l⟩]) l).map (kH (.mk tk tn az)):=by simp[a6,iu,kj]
   obtain⟨r,aZ,j,J⟩:=ih 0 Zs [⟨n,.mk tk tn az,l⟩] l (by simp[bN]) (by simp;exact cb) Zs Zo Zo Zs;have G:=mq a n (.mk tk tn az) l Zo;have aX:=fo (a++[⟨n,.mk tk tn az,l⟩]);obtain⟨bM,bP,bQ,aY⟩:∃m g c,cc (a++[⟨n,.mk tk tn az,l⟩])=[m,g,c]:=⟨_,_,_,A⟩;have a7:=Ko (.mk tk tn az) r;have a':=Y.cl c;simp only[fO]at j J;rw[aY]at G j aX;rw[u]at G X;rw[l8,am,u];refine⟨kH (.mk tk tn az) r,Kg Zd,?_,λo h=>?_⟩
   rotate_left
   .obtain⟨m,a2,rfl⟩:=jg.1 h;rw[J m a2]
   rw[Option.isSome_map];obtain⟨W,z⟩:=Zx ((a6 f b c (a++[⟨n,.mk tk tn az,l⟩]) l).isSome);rw[z]at j⊢;obtain⟨a_,bi,bc,⟨be,bh,bg⟩,bd,ba⟩:=c;obtain⟨ap,ar,aq⟩:=r;simp only[Y.ds,O.ds,strs,bf,a8,ai.sl,ah.sl]at G j a' bG;refine Sp.e [] [.cell 8 87,.tmp 9] func116 ntmps116 ?_;simp only[Y.ae,go_sem];refine cX [] [83,85] ?_;simp only[go_sem];refine jx G ?_;refine jx j ?_;refine cX [] [92,93] ?_;simp only[go_sem];refine jx a7 ?_;exact Fz.ty (kH (.mk tk tn az) (.mk ap ar aq)) A
  .obtain⟨c,rfl⟩:=hP.1 (show p.length=1 by simp[a1,cN]at f1;omega);have am:a6 f b (.mk 6 v n (.mk tk tn az) ns [c]) a l=(a6 f b c a (l+1)).map kG:=by simp[a6,iu,kj]
   obtain⟨r,aZ,j,J⟩:=ih 0 Zs [] (l+1) (by simp[bN]) Zs Zs Zo Zo Zs;have a7:=Kn r;have a':=Y.cl c;simp only[fO,c_]at j J;rw[u]at j X;rw[l8,am,u];refine⟨kG r,R2 r,?_,λo h=>?_⟩
   rotate_left
   .obtain⟨m,a2,rfl⟩:=jg.1 h;rw[J m a2]
   rw[Option.isSome_map];obtain⟨W,z⟩:=Zx ((a6 f b c a (l+1)).isSome);rw[z]at j⊢;obtain⟨a_,bi,bc,⟨be,bh,bg⟩,bd,ba⟩:=c;obtain⟨ap,ar,aq⟩:=r;simp only[Y.ds,O.ds,strs,bf,a8,ai.sl,ah.sl]at j a';have Q:IntKind.i64.wrap (l+1)=l+1:=cW _ Zo;refine Sp.e [] [.cell 8 87,.tmp 9] func116 ntmps116 ?_;simp only[Y.ae,go_sem];refine cX [] [107] ?_;simp only[Q,go_sem];refine jx j ?_;refine bO a7 ?_;exact Fz.ty (kG (.mk ap ar aq)) A
  .obtain⟨L,D,rfl⟩:=o6 (show p.length=2 by simp[a1,cN]at f1;omega);obtain⟨r,aZ,j,J⟩:=ih 0 Zs [] l (by simp[bN]) Zs Zs Zo Zo Zs;have ch:=Y.cl L;have ci:=Y.cl D;have U:=zX r aZ;have bI:=R L Zs;have bJ:=ih 1 Zs;simp only[fO,i1,c_]at j J bJ;rw[u]at j X;rw[l8,oh,u];obtain⟨F,aC⟩:=Zx (a6 f b L a l);rw[aC]at j J bI⊢;obtain⟨aQ,aD⟩:=Zx (gT r);rw[aD]at U;obtain⟨W,z⟩:=Zx (F.isSome);rw[z]at j;obtain⟨a_,bi,bc,⟨be,bh,bg⟩,bd,ba⟩:=L;obtain⟨ap,ar,aq⟩:=r;simp only[Y.ds,O.ds,strs,bf,a8,ai.sl,ah.sl]at j ch U;obtain⟨dd,dg,df,K⟩:=O.ex ((aQ.map Prod.fst).getD tZ);rw[K]at U;simp only[O.ds]at U;have bt:(F.bind λm=>(gT m).bind λd=>a6 f b D (a++[⟨n,d.1,l+d.2⟩]) l)=aa->(W=al\/aQ.isSome=al)->∃r:O,rm r/\au 116 [.cp [ai.sl f,ah.sl b],.cp (Y.ds (.mk 7 v n (.mk tk tn az) ns [.mk a_ bi bc (.mk be bh bg) bd ba,D])),.ag [aP,bj,bL],I l] (.tp [.ag r.ds,B (F.bind λm=>(gT m).bind λd=>a6 f b D (a++[⟨n,d.1,l+d.2⟩]) l).isSome])/\∀o,(F.bind λm=>(gT m).bind λd=>a6 f b D (a++[⟨n,d.1,l+d.2⟩]) l)=E o->r=o:=λh a5=>by
    rw[h];refine⟨tZ,bw,?_,λo h=>by cases h⟩;refine Sp.e [] [.cell 8 87,.tmp 9] func116 ntmps116 ?_;simp only[Y.ae,go_sem];refine cX [] [124] ?_;simp only[go_sem];refine jx j ?_;refine bO U ?_;rcases a5 with rfl|a5
    .simp only[go_sem];exact Fz.tz
    .cases W<;>simp only[a5,go_sem]<;>exact Fz.tz
   cases F with
   |none=>exact bt A (.inl (by rw[<-z];rfl))
   |some o=>
    have:=J o A;subst this;cases aQ with
    |none=>exact bt (by simp[aD]) (.inr A)
    |some d=>
     subst z;simp only[ey,kM]at K;obtain⟨bk,bX,ak,bH⟩:=bJ [⟨n,d.1,l⟩] l (by simp[bN]) (by simp;exact(Bc (bI _ A) aD)) Zs Zo Zo Zs;have ca:a6 f b D (a++[⟨n,d.1,l⟩]) l=a6 f b D (a++[⟨n,d.1,l+d.2⟩]) l:=AX D _ _ l l ((iE.cM 1 Zs).sh hp (a9 1 Zs Zs)) λco _=>by
      simp only[eT,KT];by_cases c:n=co<;>simp[c]
     rw[ca]at ak bH;have G:=mq a n d.1 l Zo;have aX:=fo (a++[⟨n,d.1,l⟩]);obtain⟨bM,bP,bQ,aY⟩:∃m g c,cc (a++[⟨n,d.1,l⟩])=[m,g,c]:=⟨_,_,_,A⟩;rw[aY]at G ak aX;rw[u,K]at G;rw[jS,aD,jS];refine⟨bk,bX,?_,bH⟩;obtain⟨cv,bT⟩:=Zx ((a6 f b D (a++[⟨n,d.1,l+d.2⟩]) l).isSome);rw[bT]at ak⊢;obtain⟨W,z⟩:=Zx ((E (O.mk ap ar aq)).isSome);rw[z]at j;obtain⟨c6,dc,c8,⟨c',db,da⟩,c9,c7⟩:=D;obtain⟨mk,ck,cj⟩:=bk;simp only[Y.ds,O.ds,strs,bf,a8,ai.sl,ah.sl]at ak ci G;have cm:Int.toNat 1=1:=A;have bS:((0:Int)<=1)=True:=Zs;refine Sp.e [] [.cell 8 87,.tmp 9] func116 ntmps116 ?_;simp only[Y.ae,go_sem];refine cX [] [124] ?_;simp only[go_sem];refine jx j ?_;refine bO U ?_;simp only[<-z,lY,go_sem];refine cX [] [150,152,154] ?_;simp only[cm,bS,go_sem];refine jx G ?_;refine jx ak ?_;exact Fz.ty (.mk mk ck cj) A
  .obtain⟨L,c,aR,i,rfl,P⟩:=DH hp iE;have bv:=ih 0 Zs [] l (by simp[bN]) Zs Zs Zo Zo Zs;simp only[fO,c_]at bv;have aV:∃bl bm bn bp bq br bs,(Y.ae (L::c::aR))[1]?=E [bl,bm,S (Y.jA c),bn,bp,bq,br,bs]:=by
    obtain⟨cB,cC,cD,⟨cE,cG,cJ⟩,cK,cO⟩:=c;exact⟨_,_,_,_,_,_,_,A⟩
   obtain⟨bl,bm,bn,bp,bq,br,bs,aV⟩:=aV;have ab:=SD hp (v:=v) (tk:=tk) (n:=n) (tn:=tn) (az:=az) (ns:=ns) Zo P aV A bv (R L Zs) (λaN aL aM ay bR b'=>?_) λy bF=>R y (by simp at bF⊢;exact .inr bF)
   .have V:∀o,a6 f b (.mk 9 v n (.mk tk tn az) ns (L::c::aR)) a l=E o->O.w o:=λo h=>qP hp _ iE u6 h;obtain⟨F,aC⟩:∃y,a6 f b (.mk 9 v n (.mk tk tn az) ns (L::c::aR)) a l=y:=⟨_,A⟩;rw[aC]at ab V;rw[l8,aC,u];rw[u]at ab X;refine⟨F.getD tZ,?_,?_,λo h=>by rw[h];rfl⟩
    .cases F with
     |none=>exact bw
     |some cn=>exact rn (V cn A)
    obtain⟨cq,ct,cr,ce⟩:=O.ex (F.getD tZ);rw[ce]at ab⊢;simp only[Y.ds,O.ds,strs,bf,a8,ai.sl,ah.sl]at ab;refine Sp.s [] [.cell 8 87,.tmp 9] func116 ntmps116 ?_;refine bO ab ?_;exact Fz.ty (.mk cq ct cr) A
   .obtain⟨q,aJ,bD⟩:=dG b';obtain⟨cA,cx,cz,cy,cw,c0,bz,cU,bZ,bx⟩:=P.fs hp aJ;rw[bD]at bz;cases bz;refine cf (q+1) (by simp at aJ⊢;omega) aN aL aM ay bR bD _ (CM bZ) (vV hp) ?_;rw[cL,bW,wb];omega
  .exact Bv
termination_by y=>y
decreasing_by
 .have:=cH (ax h);simp;omega
 .have:=cH (ax h);rw[q]at this;simp at this⊢;omega
variable {m4:Type}
def Tn{f:g1->Option m4}{a:List g1}(d:(a.mapM f).isSome=ad)(b:Nat)(e:b<a.length):(f a[b]).isSome=ad:=by
 cases g:f a[b]with
 |none=>rw[mapM_none e g]at d;cases d
 |some _=>rfl
def Ws{d:aw}{e:aF}{a v:Int}{l:BA}{o:O}{m:aK}{g:a_}{j:Env}{b:Int}(hS:Sh d (.mk a v l o m g))(h:(a6 d e (.mk a v l o m g) j b).isSome=ad)(i:Nat)(hi:i<g.length):
 (a6 d e g[i] (b8 d e a l o m g j b i) (bL a b)).isSome=ad:=by
 have pN:=hS.len;have p:a=3\/a=5\/a=8\/a=11->(a6 d e g[i] (b8 d e a l o m g j b i) (bL a b)).isSome=ad:=λr=>by
  have u:b8 d e a l o m g j b i=j:=by rcases r with rfl|rfl|rfl|rfl<;>simp[b8,cV]
  have w:bL a b=b:=by rcases r with rfl|rfl|rfl|rfl<;>simp[bL]
  rw[u,w];rw[p0 r]at h;refine Tn (f:=λc=>a6 d e c j b) ?_ i hi;cases k:g.mapM λc=>a6 d e c j b with
  |none=>rw[k]at h;cases h
  |some _=>rfl
 rcases mT a with rfl|rfl|rfl|rfl|rfl|rfl|rfl|rfl|rfl|rfl|rfl|⟨q1,q2,q3,q4,q5,q6,q7,q8,q9,tL,tM⟩
 .simp[a1,cN]at pN;subst pN;simp at hi
 .simp[a1,cN]at pN;subst pN;simp at hi
 .exact p Zs
 .exact E7
 .exact p Zs
 .exact E7
 .obtain⟨q,x,rfl⟩:=sj (show g.length=2 by simp[a1,cN]at pN;omega);rw[oh]at h;cases k:a6 d e q j b with
  |none=>rw[k]at h;cases h
  |some s=>
   rw[k,jS]at h;cases q2:gT s with
   |none=>rw[q2]at h;cases h
   |some y=>
    rw[q2,jS]at h
    match i,hi with
    |0,_=>simp[b8,cV,bL,k]
    |1,_=>simpa[b8,cV,bL,er,k,q2]using h
 .exact p Zs
 .cases g with
  |nil=>simp at hi
  |cons q t=>
   rw[si]at h;cases k:a6 d e q j b with
   |none=>rw[k]at h;cases h
   |some s=>
    rw[k,jS]at h
    match i,hi with
    |0,_=>simp[b8,cV,bL,k]
    |i+1,hi=>
     simp only[i1];split at h
     .cases q2:a6 d e (t[i]'(by simpa using hi)) j b with
      |none=>rw[El (aG.2 ⟨_,ax _,q2⟩)]at h;cases h
      |some z=>simp[b8,cV,bL,q2]
     .cases h
 .obtain⟨c,rfl⟩:=hS.one Zs;obtain rfl:i=0:=by simp at hi;omega
  rw[vN]at h;simpa[b8,cV,er,bL]using h
 .exact p Zs
 .exact Bu
structure RC (ab:List ai) (ds:List ah) (t:Y) (e:Env) (l:Int):Prop where
 tc:TC ab ds t (e.map Ev.n)
 sh:Sh ab t
 w:∀x∈e,O.w x.t
 l0:0<=l
 l1:l+t.num<=1000
 el:e.length+3*t.num<=1000000
 ty:(a6 ab ds t e l).isSome=ad
variable {hw:a_}
def PZ{b:aw}{d:aF}(k:fR b d){v:Int}{e:Env}{l:Int}(i:TC b d (.mk a0 v dg go he hw) (e.map Ev.n))(o:∀h∈e,O.w h.t):(∀h∈er b d a0 dg go he hw e l,O.w h.t)/\(er b d a0 dg go he hw e l).length<=3:=by
 obtain⟨f1,f2,f3,f4,f5,f6⟩:=i.form;unfold er;split
 .rename_i a;refine⟨?_,Zs⟩;have f:=i.ok;rw[Y.ok]at f;simp only[bG,dT];exact⟨by simp only[jt,fK,a,aI,b3]at f3;exact f3.1,f.2.1⟩
 .split
  .rename_i a;refine⟨λh p=>?_,by cases((hw.head?.bind λa=>a6 b d a e l).bind gT)<;>simp⟩;obtain⟨u,g,rfl⟩:=aG.1 p;rw[Option.mem_toList]at g;obtain⟨r,j,g⟩:=iJ.1 g;obtain⟨s,f,j⟩:=iJ.1 j;obtain⟨q,m,rfl⟩:=dG (List.mem_of_mem_head? (Option.mem_def.2 f));exact Bc (qP k _ (i.cM q m) o j) g
  .split
   .rename_i a;exact⟨vV k,by rw[cL,bW,wb];simp[im,a]at f4;omega⟩
   .simp
variable {g6:Env}
def R8{a v:Int}{b:BA}{d:aK}{e:Int}(h:Sh a4 (.mk a v b go d hw))(g:(a6 a4 a5 (.mk a v b go d hw) g6 e).isSome=ad)(i:Nat):
 (b8 a4 a5 a b go d hw g6 e i).map Ev.n=g6.map Ev.n++bN a b d i:=by
 have:=zU (i:=i) (bs:=(er a4 a5 a b go d hw g6 e).map λf=>⟨0,f.n,f.t,f.l⟩) h g (by rw[dZ];exact List.map_id _);rw[<-this];unfold b8;split<;>simp[Function.comp_def]
def RC.cM(i:fR a4 a5){d v:Int}{e:a_}{l:Int}(a:RC a4 a5 (.mk d v dg go he e) g6 l)(b:Nat)(f:b<e.length):RC a4 a5 e[b] (b8 a4 a5 d dg go he e g6 l b) (bL d l):=by
 have r:(e[b]).num+1<=Y.num (.mk d v dg go he e):=by have:=Y.gV (ax f);rw[Y.num];omega
 obtain⟨j,p⟩:=PZ i (l:=l) a.tc a.w;have q:l<=bL d l/\bL d l<=l+1:=by unfold bL;split<;>omega
 have m:=a.l1;have o:=a.el;have k:=a.l0;refine⟨by rw[R8 a.sh a.ty];exact a.tc.cM b f,a.sh.cM _ (ax f),λh g=>?_,Zo,Zo,?_,Ws a.sh a.ty b f⟩
 .unfold b8 at g;split at g
  .exact(cg.1 g).elim (a.w h) (j h)
  .exact a.w h g
 .unfold b8;split
  .rw[bF];omega
  .omega
def RC.tp{e:aw}{f:aF}(j:fR e f){b:Y}{g:Env}{h:Int}(a:RC e f b g h)(m:Y.kd b≠10):∃d:O,a6 e f b g h=E d/\O.w d/\au 116 [.cp [ai.sl e,ah.sl f],.cp b.ds,.ag (cc g),I h] (.tp [.ag d.ds,B ad]):=by
 obtain⟨d,-,k,o⟩:=zZ j b g h a.tc a.w a.l0 a.l1 a.el m;have l:=a.ty;cases i:a6 e f b g h with
 |none=>rw[i]at l;cases l
 |some p=>
  have:=o p i;subst this;rw[i]at k;exact⟨d,A,qP j b a.tc a.w i,k⟩
def Kx{ab:aw}{ds:aF}(y:fR ab ds):∀(t:Y)(e:Env)(l:Int),RC ab ds t e l->au 167 [.cp [ai.sl ab,ah.sl ds],.cp t.ds,.ag (cc e),I l] (B (decide (eS ab ds t e l)))
 |.mk k v n (.mk tk tn az) ns ks,e,l,h=>by
  have ih:∀(i:Nat)(hi:i<ks.length),au 167 [.cp [ai.sl ab,ah.sl ds],.cp (ks[i]).ds,.ag (cc (b8 ab ds k n (.mk tk tn az) ns ks e l i)),I (bL k l)] (B (decide (eS ab ds ks[i] (b8 ab ds k n (.mk tk tn az) ns ks e l i) (bL k l)))):=λi hi=>Kx y _ _ _ (h.cM y i hi);have ak:=fo e;obtain⟨E1,E2,E3,hA⟩:∃d f c,cc e=[d,f,c]:=⟨_,_,_,A⟩;have ay:E1=strs (e.map Ev.n):=by rw[cc]at hA;cases hA;rfl
  have aR:E2=.sl 3 (O.ae (e.map Ev.t)):=by rw[cc]at hA;cases hA;rfl
  have aB:E3=ints (e.map Ev.l):=by rw[cc]at hA;cases hA;rfl
  have aS:Cl (.cp [.sl 2 (ai.ae ab),.sl 12 (ah.ae ds)]):=Cl.eX cu;have ap:Cl (.cp (Y.ds (.mk k v n (.mk tk tn az) ns ks))):=Cl.eX (Y.cl _);simp only[Y.ds,O.ds,strs,bf,a8]at ap;have aV:=rM h.tc.gd;have aU:=h.el;have aX:=h.l1;have aW:=h.l0;have aY:0<Y.num (.mk k v n (.mk tk tn az) ns ks):=by rw[Y.num];omega
  have pN:=h.sh.len;rw[hA]at ak⊢;by_cases c8:l<=8
  case neg=>
   have f8:decide (l>8)=ad:=by simp;omega
   rw[bj λq=>c8 (tv.1 q).1];refine Sp.e [] [.tmp 8] func167 ntmps167 ?_;simp only[f8,go_sem];exact Fz.bool A
  have f8:decide (l>8)=al:=by simp;omega
  have jm:=tv (ab:=ab) (ds:=ds) (k:=k) (v:=v) (n:=n) (t:=.mk tk tn az) (ns:=ns) (ks:=ks) (e:=e) (l:=l);obtain⟨kk,qA⟩:=Zx (k);rcases mT k with rfl|rfl|rfl|rfl|rfl|rfl|rfl|rfl|rfl|rfl|rfl|⟨q1,q2,q3,q4,q5,q6,q7,q8,q9,tL,tM⟩
  case inr.inl=>
   exact Z9
  case inr.inr.inl=>
   exact Z9
  case inr.inr.inr.inr.inl=>
   exact Z9
  case inr.inr.inr.inr.inr.inr.inr.inl=>
   exact Z9
  case inr.inr.inr.inr.inr.inr.inr.inr.inl=>
   exact Z9
  case inr.inr.inr.inr.inr.inr.inr.inr.inr.inr.inl=>
   exact Z9
  .obtain rfl:ks=[]:=h.sh.zero A;have u:=nZ (e.map Ev.n) n kO;have aQ:Cl E1:=ak E1 Zs;rw[<-ay]at u;rcases o7 n e with⟨G,P⟩|⟨i,hi,G,P⟩
   .rw[P]at u;rw[bD (jm.2 ⟨c8,λ_ x C=>(by rw[G]at C;cases C),Zs⟩)];refine Sp.e [] [.tmp 8] func167 ntmps167 ?_;simp only[f8,go_sem];refine b7 ?_;refine d' u ?_;simp only[Int.reduceLT,go_sem];exact Fz.bool A
   .rw[P]at u;have aH:decide ((i:Int)<0)=al:=Zs;have g0:(e.map λx=>[I x.l])[i]?=E [I e[i].l]:=by simp[hi]
    have hd:(e[i].l==l)=decide (eS ab ds (.mk 1 v n (.mk tk tn az) ns []) e l):=by
     rw[iG,jh,jm];exact Iff.intro (λq=>And.intro c8 (And.intro (λ_ x C=>by rw[G]at C;cases C;exact q) Zs)) λq=>q.2.1 A _ G
    have aD:E3=.sl 1 (e.map λx=>[I x.l]):=by rw[aB,ints,dZ];rfl
    subst aD;refine Sp.e [] [.tmp 8] func167 ntmps167 ?_;simp only[f8,go_sem];refine b7 ?_;refine d' u ?_;simp only[aH,g0,go_sem];exact Fz.bool hd
  .obtain⟨c,rfl⟩:=h.sh.one Zs;have hs:=ih 0 Zs;have kc:=Y.cl c;have a:=mq e n (.mk tk tn az) l Zo;have hK:b8 ab ds 4 n (.mk tk tn az) ns [c] e l 0=e++[⟨n,.mk tk tn az,l⟩]:=by simp[b8,cV,er]
   have hL:bL 4 l=l:=by simp[bL]
   have hd:decide (eS ab ds c (e++[⟨n,.mk tk tn az,l⟩]) l)=decide (eS ab ds (.mk 4 v n (.mk tk tn az) ns [c]) e l):=by
    rw[jh,jm];simp[hK,hL,c8]
   rw[hK,hL]at hs;have p:=fo (e++[⟨n,.mk tk tn az,l⟩]);obtain⟨V,W,X,r⟩:∃d f c,cc (e++[⟨n,.mk tk tn az,l⟩])=[d,f,c]:=⟨_,_,_,A⟩;rw[r]at a hs p;rw[hA]at a;simp only[fO]at hs;obtain⟨qk,qv,qn,⟨hG,hJ,hI⟩,hF,hE⟩:=c;simp only[Y.ds,O.ds,strs,bf,a8,ai.sl,ah.sl]at a hs kc;refine Sp.e [] [.tmp 8] func167 ntmps167 ?_;simp only[f8,Y.ae,go_sem];refine b7 ?_;refine iP a ?_;exact wA
  .obtain⟨c,rfl⟩:=h.sh.one Zs;have hs:=ih 0 Zs;have kc:=Y.cl c;have hK:b8 ab ds 6 n (.mk tk tn az) ns [c] e l 0=e:=by simp[b8,cV]
   have hL:bL 6 l=l+1:=by simp[bL]
   have hd:decide (eS ab ds c e (l+1))=decide (eS ab ds (.mk 6 v n (.mk tk tn az) ns [c]) e l):=by
    rw[jh,jm];simp[hK,hL,c8]
   rw[hK,hL,hA]at hs;simp only[fO]at hs;have aI:IntKind.i64.wrap (l+1)=l+1:=cW _ Zo;obtain⟨qk,qv,qn,⟨hG,hJ,hI⟩,hF,hE⟩:=c;simp only[Y.ds,O.ds,strs,bf,a8,ai.sl,ah.sl]at hs kc;refine Sp.e [] [.tmp 8] func167 ntmps167 ?_;simp only[f8,aI,Y.ae,go_sem];refine b7 ?_;exact wA
  .obtain⟨m,o,rfl⟩:=sj (show ks.length=2 by simp[a1,cN]at pN;omega);have z:=ih 0 Zs;have g:=ih 1 Zs;have an:=h.cM y 0 Zs;have aL:=Y.cl m;have aN:=Y.cl o;have hL:bL 7 l=l:=by simp[bL]
   have hK:b8 ab ds 7 n (.mk tk tn az) ns [m,o] e l 0=e:=by simp[b8,cV]
   simp only[hL,hK,fO,i1]at z g an;obtain⟨M,am,aE,hs⟩:=an.tp y (λq=>by have:=(h.tc.case 0 Zs).1 q;omega);have R:=zX M (rn aE);have U:=h.ty;rw[oh,am,jS]at U;cases b:gT M with
   |none=>rw[b]at U;cases U
   |some x=>
    have Q:b8 ab ds 7 n (.mk tk tn az) ns [m,o] e l 1=e++[⟨n,x.1,l+x.2⟩]:=by simp[b8,cV,er,am,b]
    rw[b]at R;rw[Q]at g;have a:=mq e n x.1 (l+x.2) Zo;have p:=fo (e++[⟨n,x.1,l+x.2⟩]);obtain⟨V,W,X,r⟩:∃d f c,cc (e++[⟨n,x.1,l+x.2⟩])=[d,f,c]:=⟨_,_,_,A⟩;have hd:(decide (eS ab ds m e l)&&decide (eS ab ds o (e++[⟨n,x.1,l+x.2⟩]) l))=decide (eS ab ds (.mk 7 v n (.mk tk tn az) ns [m,o]) e l):=by
     rw[<-Bool.decide_and,jh,jm];refine⟨λq=>⟨c8,λq=>(by cases q),λi hi=>?_⟩,λq=>⟨?_,?_⟩⟩
     .match i,hi with
      |0,_=>rw[hK,hL];exact q.1
      |1,_=>rw[Q,hL];exact q.2
     .have:=q.2.2 0 Zs;rwa[hK,hL]at this
     .have:=q.2.2 1 Zs;rwa[Q,hL]at this
    obtain⟨L,aZ,aK⟩:=M;have K:x.2=if L=4 then 1 else 0:=by
     simp only[gT]at b;split at b
     .rename_i c;rw[aM c];cases aK<;>simp at b;rw[<-b]
     .rename_i c;rw[av c];split at b<;>simp at b;rw[<-b]
    rw[r]at a g p;rw[hA]at a z hs;obtain⟨⟨a_,bc,bb⟩,ar⟩:=x;obtain⟨qk,qv,qn,⟨hG,hJ,hI⟩,hF,hE⟩:=m;obtain⟨a0,a',a3,⟨a5,a9,a6⟩,a4,a2⟩:=o;simp only[ey,kM,lY,Y.ds,O.ds,strs,bf,a8,ai.sl,ah.sl]at a z g aL aN hs R;have aq:Int.toNat 1=1:=A;have Z:((0:Int)<=1)=True:=Zs;refine Sp.e [] [.tmp 8] func167 ntmps167 ?_;simp only[f8,Y.ae,go_sem];refine cX [] [86] ?_;simp only[go_sem];refine jx hs ?_;refine bO R ?_;have aJ:IntKind.i64.wrap (l+1)=l+1:=cW _ Zo;by_cases F:L=4
    .have f4:(L==4)=ad:=by simp[F]
     obtain rfl:ar=1:=by rw[aM F]at K;exact K
     simp only[f4,aJ,go_sem];refine b7 ?_;refine d' z ?_;by_cases q:eS ab ds (.mk qk qv qn (.mk hG hJ hI) hF hE) e l
     .rw[bD q,hN]at hd;simp only[bD q,aq,Z,go_sem];refine iP a ?_;refine iP g ?_;exact Fz.bool hd
     .rw[bj q,mF]at hd;simp only[bj q,go_sem];exact Fz.bool hd
    .have f4:(L==4)=al:=by simp[F]
     obtain rfl:ar=0:=by rw[av F]at K;exact K
     simp only[su]at a g hd;simp only[f4,go_sem];refine b7 ?_;refine d' z ?_;by_cases q:eS ab ds (.mk qk qv qn (.mk hG hJ hI) hF hE) e l
     .rw[bD q,hN]at hd;simp only[bD q,aq,Z,go_sem];refine iP a ?_;refine iP g ?_;exact Fz.bool hd
     .rw[bj q,mF]at hd;simp only[bj q,go_sem];exact Fz.bool hd
  .obtain⟨c,rfl⟩:=h.sh.one Zs;have hs:=ih 0 Zs;have kc:=Y.cl c;have aG:0<=fD ab n:=by have:=(iQ h.tc.fit).1;simp[dR]at this;omega
   have hK:b8 ab ds 10 n (.mk tk tn az) ns [c] e l 0=e++cL ab n ns l:=by simp[b8,cV,er]
   have hL:bL 10 l=l:=by simp[bL]
   have hd:decide (eS ab ds c (e++cL ab n ns l) l)=decide (eS ab ds (.mk 10 v n (.mk tk tn az) ns [c]) e l):=by
    rw[jh,jm];simp[hK,hL,c8]
   have aP:ns.length<=3:=by have:=h.tc.form.2.2.2.1;simp[im]at this;omega
   have J:=DA ab ds y.ll 10 v n (.mk tk tn az) ns [c] e l aG (h.sh.vr A) Zo;rw[hK,hL]at hs;have p:=fo (e++cL ab n ns l);obtain⟨V,W,X,r⟩:∃d f c,cc (e++cL ab n ns l)=[d,f,c]:=⟨_,_,_,A⟩;rw[r]at J hs p;rw[hA]at J;simp only[fO]at hs;obtain⟨qk,qv,qn,⟨hG,hJ,hI⟩,hF,hE⟩:=c;simp only[Y.ds,Y.ae,O.ds,strs,bf,a8,ai.sl,ah.sl]at J hs kc ap;refine Sp.e [] [.tmp 8] func167 ntmps167 ?_;simp only[f8,Y.ae,go_sem];refine b7 ?_;refine iP J ?_;exact wA
  .exact Bu
termination_by t=>t
decreasing_by
 have:=cH (ax hi);simp;omega
def Fz.za:Fz fd (.ag [a',a',a']) (.ag (cc [])):=Fz.lI (.c (.nil 1) (.c (.nil 3) (.c (.nil 1) .n)))
def l7.rc(b:l7 a4 a5){a:ah}(d:a∈a5)(f:a6 a4 a5 (ah.bd a) [] 0=E (ah.ty a)):RC a4 a5 (ah.bd a) [] 0:=by
 obtain⟨e,g,h⟩:=b.bd a d;exact⟨e,b.sh d,Zs,Zo,Zo,by simp;omega,by rw[f];rfl⟩
def SE(b:aw)(a:aF)(d:(bm.mk b a).sz<=1048576)(G:(bm.mk b a).ok):au 166 [.cp [ai.sl b,ah.sl a]] (I (gq b a)):=by
 have hn:=Su (.mk b a) d G;have ar:Cl (.cp [.sl 2 (ai.ae b),.sl 12 (ah.ae a)]):=Cl.eX cu;simp only[bm.ds,ai.sl,ah.sl]at hn;by_cases e:gU (.mk b a)=0
 case neg=>
  have f0:(gU (.mk b a)==0)=al:=by simp[e]
  rw[show gq b a=gU (.mk b a)by rw[gq,aM e]];refine Sp.s [] [.tmp 2] func166 ntmps166 ?_;exact BC
 have o:=n9 e G;have az:=ah.bb a;have aI:=o.pg.len;rw[e]at hn;refine Sp.s [] [.tmp 2] func166 ntmps166 ?_;refine bw hn ?_;simp only[bne,go_sem];refine bq 4 a.length (λj=>Fw.cK 49 [(0,.cp [.sl 2 (ai.ae b),.sl 12 (ah.ae a)])] λap Z aJ ak=>∀(i:Nat)(h:i<a.length),i<j->a6 b a (ah.bd a[i]) [] 0=E (ah.ty a[i])) A ⟨A,by simp[ba,af],Zs⟩ ?_;rintro j ap Z aK ak _ aH lq;simp only[az,go_sem];refine aT (λh=>?_) λh=>?_
 .have u:=bh h;have F:=ax u;have l:=ah.bo a j u;obtain⟨y,an,aE⟩:=o.bd _ F;obtain⟨ab,-,d,p⟩:=zZ o.pg (ah.bd a[j]) [] 0 y Zs Zo Zo de an;have m:a6 b a (ah.bd a[j]) [] 0=E (ah.ty a[j])->∀(i:Nat)(h:i<a.length),i<j+1->a6 b a (ah.bd a[i]) [] 0=E (ah.ty a[i]):=λq i h t=>by
   exact ys
  have f:¬a6 b a (ah.bd a[j]) [] 0=E (ah.ty a[j])->gq b a=8:=λq=>by
   rw[gq,av (by simp[e]),av λaD=>q (aD _ F)]
  have r:∀g,a6 b a (ah.bd a[j]) [] 0=E g->O.w g:=λg q=>qP o.pg _ y Zs q;generalize a[j]=z at l d p m f r;obtain⟨aG,⟨B,D,C⟩,⟨P,X,R,⟨U,W,V⟩,S,Q⟩⟩:=z;have M:=Y.cl (.mk P X R (.mk U W V) S Q);simp only[ah.bd,ah.ty]at d p m f r;obtain⟨am,aq⟩:=Zx (a6 b a (.mk P X R (.mk U W V) S Q) [] 0);rw[aq]at d p m f r;obtain⟨J,L,K⟩:=ab;simp only[ah.ds,Y.ds,O.ds,strs,bf,a8,ai.sl,ah.sl]at l d M;simp only[l,go_sem];refine fm [] d (.c (.cl _ ar) (.c (.cl _ (Cl.eX M)) (.c Fz.za (.c (.cl _ (aO _)) .n)))) (Cl.ir cu) ?_;simp only[ly,go_sem];cases am with
  |none=>
   rw[f Zs];simp only[Option.isSome_none,go_sem];refine b7 ?_;exact Fz.int A
  |some g=>
   have:=p g A;subst this;have aC:=vH (.mk J L K) (.mk B D C) (r _ A).2;simp only[lY,go_sem];refine b7 ?_;simp only[l,go_sem];refine d' aC ?_;by_cases q:O.mk J L K=.mk B D C
   .simp only[bD q,go_sem];exact bg u ⟨A,by simp[af],m (by rw[q])⟩
   .rw[f (by simpa using q)];simp only[bj q,go_sem];exact Fz.int A
 .have aB:=bS h;subst aB;rw[show gq b a=0 by rw[gq,av (by simp[e]),aM λz ay=>by obtain⟨i,t,rfl⟩:=dG ay;exact lq i t t]];simp only[h,go_sem];exact Fz.int A
def Sc(a:Bool):au 236 [B a] (I (if a then 1 else 0)):=by
 refine Sp.s [] [.tmp 2] func236 ntmps236 ?_;cases a<;>simp only[go_sem]<;>exact Fz.int A
def Sa(a b:Int):au 238 [I a,I b] (I (max a b)):=by
 refine Sp.s [] [.tmp 4] func238 ntmps238 ?_;by_cases d:a>b
 .simp only[bD d,go_sem];exact Fz.int Zo
 .simp only[bj d,go_sem];exact Fz.int Zo
def EJ(a:BA)(e:Int)(f:BA)(g:aK):∀(d:a_)(b:Nat),(∀c∈d,0<=fg a c/\fg a c<=c.num)->(∀m∈lV a e f g d b,0<=m)/\(lV a e f g d b).sum<=Y.aR d
 |[],_,_=>by simp[lV,Y.aR]
 |c::j,b,i=>by
  obtain⟨h,o⟩:=EJ a e f g j (b+1) λc l=>i c (by simp[l]);obtain⟨k,p⟩:=i c Zs;simp only[lV,cJ,wi,ia,Y.aR];split
  .exact⟨⟨oq _,h⟩,by push_cast;omega⟩
  .exact⟨⟨k,h⟩,by push_cast;omega⟩
def EG(a:BA):∀b:Y,0<=fg a b/\fg a b<=b.num
 |.mk e v g b h f=>by
  have k:∀d∈f,0<=fg a d/\fg a d<=d.num:=λd j=>EG a d;obtain⟨i,l⟩:=EJ a e g h f 0 k;obtain⟨m,o⟩:=wT e (lV a e g h f 0) 0 0 0 i (oq _);rw[fg,Y.num];split
  .split<;>constructor<;>push_cast<;>omega
  .push_cast;constructor<;>omega
termination_by b=>b
decreasing_by
 have:=cH j;simp;omega
def z7(a:BA):∀p:Y,p.num<=100000->dE p=ad->au 168 [.cp p.ds,S a] (I (fg a p))
 |.mk b v i (.mk u y w) j g,aL,W=>by
  have aI:∀h∈g,h.num<=100000:=λh t=>by have:=Y.gV t;rw[Y.num]at aL;omega
  have aH:=(s6 W).2;have aU:∀h∈g,au 168 [.cp h.ds,S a] (I (fg a h)):=λh t=>z7 a h (aI h t) (aH h t);have a0:=rM W;have aN:Cl (.cp (Y.ds (.mk b v i (.mk u y w) j g))):=Cl.eX (Y.cl _);have am:=Dy b v i u y w j g;simp only[Y.ds,O.ds,strs,bf,a8]at aN am;by_cases z:b=1
  .have f1:(b==1)=ad:=by simp[z]
   refine Sp.e [] [.tmp 4] func168 ntmps168 ?_;simp only[f1,go_sem];refine bO (Sc _) ?_;refine Fz.int ?_;rw[du,fg,aM z];by_cases l:i=a<;>simp[l]
  have f1:(b==1)=al:=by simp[z]
  have a1:j.length<=3:=by
   have aq:=W;rw[dE,Y.aY,b3]at aq;have:=aq.1;simp only[nh,fJ,fp,b3]at this;have:=this.1.2.1.2;simp only[im]at this;split at this<;>simp at this
   .omega
   .simp[this]
  obtain⟨U,r⟩:=Zx (lV a b i j g 0);have aD:U.length=g.length:=by rw[<-r,EI]
  have ak:∀P∈U,0<=P:=by rw[<-r];exact(EJ a b i j g 0 λh _=>EG a h).1
  have aS:fg a (.mk b v i (.mk u y w) j g)=gI b U 0 0 0:=by rw[fg,av z,r]
  have aR:=(EG a (.mk b v i (.mk u y w) j g)).2;rw[aS]at aR⊢;refine Sp.e [] [.tmp 4] func168 ntmps168 ?_;simp only[f1,go_sem];refine bq 7 g.length (λd=>Fw.cK 69 [(0,.cp [I b,I v,S i,I u,S y,.sl 3 (O.ae w),.sl 1 (j.map λf=>[S f]),.sl 8 (Y.ae g)]),(1,S a)] λQ az a3 aB=>∃f m:Int,Q 5=I f/\Q 6=I m/\0<=f/\0<=m/\gI b U 0 0 0=gI b (U.drop d) d f m) A ⟨A,by simp[ba,af],0,0,by simp[af],by simp[af],oq _,oq _,A⟩ ?_;rintro d Q az a2 aB _ aZ⟨f,m,e5,e6,aw,zI,oX⟩;simp only[go_sem];refine aT (λB=>?_) λB=>?_
  .have aC:=bh B;have X:d<U.length:=Zo;have R:=Y.bo g d aC;have Z:=aU g[d] (ax aC);have ay:=Y.cl g[d];have o:=EH a b i j g 0 d aC (by rw[r];exact X);simp only[r,ek]at o;have aQ:=ak _ (ax X);rw[ph X,gI]at oX;have ar:∀f m:Int,0<=m->f+m<=gI b (U.drop (d+1)) (d+1) f m:=λf m aJ=>(wT b _ (d+1) f m (λP aP=>ak P (ra aP)) aJ).1;have an:=am d;obtain⟨bs,ap⟩:=Zx (bN b i j d);rw[ap]at an o;have aF:bs.length<=ao:=by
    rw[<-ap];unfold bN ao;split
    .simp
    .split
     .omega
     .simp
   have aE:=nZ bs a aF;have s:=yC a bs;have aK:(bs.any λaX=>decide (aX=a))=decide (a∈bs):=by
    rw[nk];simp
   rw[aK]at s;generalize g[d]=h at R Z ay o;generalize U[d]=P at oX o aQ;obtain⟨C,M,F,⟨J,L,K⟩,G,D⟩:=h;simp only[Y.ds,O.ds,strs,bf,a8]at R Z ay;simp only[go_sem];refine bO an ?_;refine bO aE ?_;by_cases l:a∈bs
   .rw[bD l]at s;rw[aM l]at o;subst o;simp only[s,go_sem];refine bg aC ⟨A,by simp[af],f,m,by simp[af,e5],by simp[af,e6],aw,zI,?_⟩;rw[oX];split
    .rw[Int.max_eq_left zI]
    .rw[su]
   .rw[bj l]at s;rw[av l]at o;subst o;simp only[s,R,go_sem];refine bO Z ?_;by_cases q:0<d/\(b=9\/b=11)
    .rw[aM q]at oX;have d0:decide ((d:Int)>0)=ad:=by simp;omega
     have V:=ar f (max m (fg a (.mk C M F (.mk J L K) G D))) Zo;rw[<-oX]at V;simp only[d0,go_sem];rcases q.2 with rfl|rfl
     all_goals
      simp only[e6,go_sem];refine bO (Sa _ _) ?_;exact bg aC ⟨A,by simp[af],f,_,by simp[af,e5],by simp[af],aw,Zo,oX⟩
    .rw[av q]at oX;have V:=ar (f+fg a (.mk C M F (.mk J L K) G D)) m zI;rw[<-oX]at V;have hw:IntKind.i64.wrap (f+fg a (.mk C M F (.mk J L K) G D))=f+fg a (.mk C M F (.mk J L K) G D):=cW _ Zo;by_cases ab:0<d
     .have d0:decide ((d:Int)>0)=ad:=by simp;omega
      have aW:(b==9)=al:=by simp;intro l;exact q ⟨ab,.inl l⟩
      have aV:(b==11)=al:=by simp;intro l;exact q ⟨ab,.inr l⟩
      simp only[d0,aW,aV,go_sem];exact E9
     .have d0:decide ((d:Int)>0)=al:=by simp;omega
      simp only[d0,go_sem];exact E9
  .have aG:=bS B;subst aG;rw[<-aD,List.drop_length,gI]at oX;have hw:IntKind.i64.wrap (f+m)=f+m:=cW _ Zo;simp only[B,e5,e6,hw,go_sem];exact Fz.int oX.symm
termination_by p=>p
decreasing_by
 have:=cH t;simp;omega
def Ii(m:Y)(a:Env)(k:Int):kT m a k↔∀(b:Nat)(p:b<a.length),a[b].l=k->jb (a.map Ev.n) a[b].n=b->fg a[b].n m<=1:=by
 constructor
 .intro i b p h q;rcases o7 a[b].n a with⟨_,g⟩|⟨f,j,d,g⟩
  .omega
  .obtain rfl:b=f:=Zo;exact i _ _ d h
 .intro i o v e h;rcases o7 o a with⟨d,_⟩|⟨f,j,d,g⟩
  .rw[d]at e;cases e
  .rw[d]at e;cases e;obtain rfl:a[f].n=o:=(jN d).2;exact i f j h g
def Kw(f:Y)(a:Env)(d:Int)(R:f.num<=100000)(P:dE f=ad)(am:a.length<=4000000):au 170 [.cp f.ds,.ag (cc a),I d] (B (decide (kT f a d))):=by
 have L:=λb=>z7 b f R P;have W:=Y.cl f;have J:=λb=>nZ (a.map Ev.n) b kO;have V:(a.map λb=>[S b.n]).length=a.length:=Zs;have ar:(a.map λb=>[I b.l]).length=a.length:=Zs;have U:Cl (strs (a.map Ev.n)):=jW _;obtain⟨m,y,p,⟨s,w,u⟩,r,o⟩:=f;have K:strs (a.map Ev.n)=.sl 1 (a.map λb=>[S b.n]):=by rw[strs,dZ];rfl
 have ap:ints (a.map Ev.l)=.sl 1 (a.map λb=>[I b.l]):=by rw[ints,dZ];rfl
 rw[K]at U;simp only[K]at J;simp only[Y.ds,O.ds,strs,bf,a8]at L W;refine Sp.e [] [.tmp 6] func170 ntmps170 ?_;simp only[cc,go_sem];refine bq 7 a.length (λj=>Fw.Inv 44 [(0,.cp [I m,I y,S p,I s,S w,.sl 3 (O.ae u),.sl 1 (r.map λX=>[S X]),.sl 8 (Y.ae o)]),(2,I d),(4,.cp [.sl 1 (a.map λb=>[S b.n]),.sl 3 (O.ae (a.map Ev.t)),.sl 1 (a.map λb=>[I b.l])])] (∀(i:Nat)(h:i<a.length),i<j->a[i].l=d->jb (a.map Ev.n) a[i].n=i->fg a[i].n (.mk m y p (.mk s w u) r o)<=1)) A ⟨A,by simp[ba,af],Zs⟩ ?_;rintro j ak Z av ab _ aq lq;simp only[V,go_sem];refine aT (λh=>?_) λh=>?_
 .have g:=bh h;have G:(a.map λb=>[S b.n])[j]?=E [S a[j].n]:=by simp[g]
  have M:(a.map λb=>[I b.l])[j]?=E [I a[j].l]:=by simp[g]
  have D:(a[j].l=d->jb (a.map Ev.n) a[j].n=j->fg a[j].n (.mk m y p (.mk s w u) r o)<=1)->∀(i:Nat)(h:i<a.length),i<j+1->a[i].l=d->jb (a.map Ev.n) a[i].n=i->fg a[i].n (.mk m y p (.mk s w u) r o)<=1:=λq i h an=>by
   exact ys
  simp only[go_sem];refine b7 ?_;simp only[M,go_sem];by_cases z:a[j].l=d
  case neg=>
   have f1:(a[j].l==d)=al:=by simp[z]
   simp only[f1,go_sem];exact bg g ⟨A,by simp[af],D λq=>absurd q z⟩
  have f1:(a[j].l==d)=ad:=by simp[z]
  simp only[f1,G,go_sem];refine iP (J a[j].n) ?_;by_cases C:jb (a.map Ev.n) a[j].n=j
  case neg=>
   have f2:(jb (a.map Ev.n) a[j].n==(j:Int))=al:=by simp[C]
   simp only[f2,go_sem];exact bg g ⟨A,by simp[af],D λ_ q=>absurd q C⟩
  have f2:(jb (a.map Ev.n) a[j].n==(j:Int))=ad:=by simp[C]
  simp only[f2,G,go_sem];refine d' (L a[j].n) ?_;by_cases F:fg a[j].n (.mk m y p (.mk s w u) r o)>1
  .simp only[bD F,go_sem];exact Fz.bool (bj λq=>by have:=(Ii _ _ _).1 q j g z C;omega).symm
  .simp only[bj F,go_sem];exact bg g ⟨A,by simp[af],D λ_ _=>by omega⟩
 .have Q:=bS h;subst Q;simp only[h,go_sem];exact Fz.bool (bD ((Ii _ _ _).2 λi h=>lq i h h)).symm
def QX(d:Env)(b:Ev)(a:BA):fx (d++[b]) [a]=if b.n=a then fx d [a]else fx d [a]++[b]:=by
 unfold fx;by_cases e:b.n=a<;>simp[e]
def QW(d:Env)(a:BA)(b:aK):fx (fx d b) [a]=fx d (b++[a]):=by
 unfold fx;rw[List.filter_filter];congr 1;funext v;by_cases e:v.n∈b<;>by_cases f:v.n=a<;>simp[e,f]
def pn(e:Env)(c:DL):Prop:=(e=[]/\c=[a',a',a'])\/c=cc e
variable {a3:DL}
def pn.fz(a:pn g6 a3):Fz fd (.ag a3) (.ag (cc g6)):=by
 rcases a with⟨rfl,rfl⟩|rfl
 .exact Fz.za
 .exact .cl _ (Cl.bu (fo g6))
def pn.three(e:pn g6 a3):∃a b d,a3=[a,b,d]/\b4 a=ad/\b4 b=ad/\b4 d=ad:=by
 rcases e with⟨_,rfl⟩|rfl<;>exact⟨_,_,_,A,A,A,A⟩
def SB(a:Env)(d:BA)(X:a.length<=1000000):au 169 [.ag (cc a),S d] (.ag (cc (fx a [d]))):=by
 have R:(a.map λf=>[S f.n]).length=a.length:=Zs;have ah:(a.map λf=>[I f.l]).length=a.length:=Zs;have ak:(O.ae (a.map Ev.t)).length=a.length:=by rw[O.bb,bW]
 have ai:strs (a.map Ev.n)=.sl 1 (a.map λf=>[S f.n]):=by rw[strs,dZ];rfl
 have Z:ints (a.map Ev.l)=.sl 1 (a.map λf=>[I f.l]):=by rw[ints,dZ];rfl
 refine Sp.e [5] [.cell 4 152] func169 ntmps169 ?_;simp only[cc,go_sem];refine bq 6 a.length (λb=>Fw.cK 40 [(1,S d),(5,.rf 5 0 0),(4,.rf 4 0 0),(2,.cp [.sl 1 (a.map λf=>[S f.n]),.sl 3 (O.ae (a.map Ev.t)),.sl 1 (a.map λf=>[I f.l])])] λL x an K=>(∃h,x 4=E ⟨0,152,3,h,aa⟩/\h.length=3)/\∃g,x 5=E ⟨0,152,3,g,aa⟩/\pn (fx (a.take b) [d]) g) A
  ⟨A,by simp[ba,af],⟨_,by simp[aj];rfl,A⟩,[a',a',a'],by simp[aj],.inl ⟨A,A⟩⟩ ?_
 rintro b L x am K _ ab⟨⟨h,u,B⟩,g,m,o⟩;obtain⟨d1,d2,d3,rfl,ap,aq,ar⟩:=o.three;simp only[R,go_sem];refine aT (λk=>?_) λk=>?_
 .have j:=bh k;have C:(a.map λf=>[S f.n])[b]?=E [S a[b].n]:=by simp[j]
  have M:(a.map λf=>[I f.l])[b]?=E [I a[b].l]:=by simp[j]
  have s:=O.bo (a.map Ev.t) b (by simpa using j);rw[eI]at s;have q:=QX (a.take b) a[b] d;rw[<-ch j]at q;have Y:(fx (a.take b) [d]).length<=1000000:=by
   have:=nl (λv:Ev=>!decide (v.n∈[d])) (a.take b);rw[fP]at this;unfold fx;omega
  simp only[C,go_sem];by_cases g:a[b].n=d
  .have f1:(a[b].n.toList==d.toList)=ad:=by rw[du];exact bD g
   rw[aM g]at q;simp only[f1,go_sem];exact bg j ⟨A,by simp[af],⟨h,by simp[u],B⟩,_,m,by rw[q];exact o⟩
  .have f1:(a[b].n.toList==d.toList)=al:=by rw[du];exact bj g
   rw[av g]at q;have i:=mq (fx (a.take b) [d]) a[b].n a[b].t a[b].l Zo;have U:fx (a.take b) [d]++[⟨a[b].n,a[b].t,a[b].l⟩]=fx (a.take (b+1)) [d]:=q.symm;rw[U]at i;obtain⟨F,J,G,V⟩:=O.ex a[b].t;rw[V]at i s;have p:=fo (fx (a.take (b+1)) [d]);obtain⟨r,D⟩:=Zx (fx (a.take (b+1)) [d]);rw[D]at i p;have i:au 118 [.ag (cc (fx (a.take b) [d])),S a[b].n,.ag [I F,S J,.sl 3 (O.ae G)],I a[b].l] (.ag [.sl 1 ((r.map Ev.n).map λW=>[S W]),.sl 3 (O.ae (r.map Ev.t)),.sl 1 ((r.map Ev.l).map λd=>[I d])]):=i;simp only[O.ds]at s;simp only[f1,go_sem];refine cX [5] [] ?_;simp only[m,C,M,s,go_sem];refine fm [] i (.c o.fz (.c (.cl _ (aO _)) (.c (.cl _ (Cl.bu (O.cl (.mk F J G)))) (.c (.cl _ (aO _)) .n)))) (Cl.bu p) ?_;simp only[m,ly,go_sem];refine bg j ⟨A,by simp[af],⟨h,by simp[aj,u],B⟩,cc r,by simp[aj,cc,strs,ints],.inr (by rw[D])⟩
 .have Q:=bS k;subst Q;obtain⟨aw,ax,ay,rfl⟩:∃y z g,h=[y,z,g]:=by
   match h,B with
   |[y,z,g],_=>exact⟨y,z,g,A⟩
  rw[b9]at o;rcases o with⟨P,w⟩|w
  .cases w;rw[P];simp only[k,m,u,go_sem];exact Fz.za
  .have p:=fo (fx a [d]);rw[cc]at w;cases w;simp only[cc,strs,ints]at p;simp only[k,m,u,go_sem];exact .cl _ (Cl.bu p)
def Ky{ab:aw}{ds:aF}(C:fR ab ds):∀(t:Y)(e:Env)(l:Int),RC ab ds t e l->au 113 [.cp [ai.sl ab,ah.sl ds],.cp t.ds,.ag (cc e),I l] (B (decide (ee ab ds t e l)))
 |.mk k v n (.mk tk tn az) ns ks,e,l,h=>by
  have ih:∀(i:Nat)(hi:i<ks.length),au 113 [.cp [ai.sl ab,ah.sl ds],.cp (ks[i]).ds,.ag (cc (b8 ab ds k n (.mk tk tn az) ns ks e l i)),I (bL k l)] (B (decide (ee ab ds ks[i] (b8 ab ds k n (.mk tk tn az) ns ks e l i) (bL k l)))):=λi hi=>Ky C _ _ _ (h.cM C i hi);have aS:=fo e;obtain⟨E1,E2,E3,hA⟩:∃f g c,cc e=[f,g,c]:=⟨_,_,_,A⟩;have ay:E1=strs (e.map Ev.n):=by rw[cc]at hA;cases hA;rfl
  have aU:E2=.sl 3 (O.ae (e.map Ev.t)):=by rw[cc]at hA;cases hA;rfl
  have aB:E3=ints (e.map Ev.l):=by rw[cc]at hA;cases hA;rfl
  have bb:Cl (.cp [.sl 2 (ai.ae ab),.sl 12 (ah.ae ds)]):=Cl.eX cu;have aL:Cl (.cp (Y.ds (.mk k v n (.mk tk tn az) ns ks))):=Cl.eX (Y.cl _);simp only[Y.ds,O.ds,strs,bf,a8]at aL;have bd:=rM h.tc.gd;have bc:=h.el;have X:=h.l1;have be:=h.l0;have bi:0<Y.num (.mk k v n (.mk tk tn az) ns ks):=by rw[Y.num];omega
  have pN:=h.sh.len;rw[hA]at aS⊢;have jm:=M1 (ab:=ab) (ds:=ds) (k:=k) (v:=v) (n:=n) (t:=.mk tk tn az) (ns:=ns) (ks:=ks) (e:=e) (l:=l);obtain⟨kk,qA⟩:=Zx (k);rcases mT k with rfl|rfl|rfl|rfl|rfl|rfl|rfl|rfl|rfl|rfl|rfl|⟨q1,q2,q3,q4,q5,q6,q7,q8,q9,tL,tM⟩
  case inl=>
   exact Z8
  case inr.inl=>
   exact Z8
  case inr.inr.inl=>
   exact Z8
  case inr.inr.inr.inr.inl=>
   exact Z8
  case inr.inr.inr.inr.inr.inr.inr.inl=>
   exact Z8
  case inr.inr.inr.inr.inr.inr.inr.inr.inl=>
   exact Z8
  case inr.inr.inr.inr.inr.inr.inr.inr.inr.inr.inl=>
   have hL:bL 11 l=l:=by simp[bL]
   have hK:∀i,b8 ab ds 11 n (.mk tk tn az) ns ks e l i=e:=λi=>by simp[b8,cV]
   have jm:ee ab ds (.mk 11 v n (.mk tk tn az) ns ks) e l↔∀(i:Nat)(h:i<ks.length),(0<i->kT ks[i] e l)/\ee ab ds ks[i] e l:=by
    rw[jm];simp only[hK,hL];refine⟨λq i hi=>⟨λaq=>q.2.2.1 (by trivial) _ ?_,q.2.2.2 i hi⟩,λq=>⟨λc=>absurd c Zd,λc=>absurd c Zd,λ_ c K=>?_,λi hi=>(q i hi).2⟩⟩
    .obtain⟨i,rfl⟩:∃j,i=j+1:=⟨i-1,Zo⟩;exact List.mem_iff_getElem.2 ⟨i,by simp;omega,Zs⟩
    .obtain⟨i,hi,rfl⟩:=dG K;rw[p8];exact(q (1+i) (by simp at hi;omega)).1 Zo
   simp only[hK,hL,hA]at ih;have p:∀c∈ks,au 170 [.cp c.ds,.ag (cc e),I l] (B (decide (kT c e l))):=λc K=>Kw c e l (by have:=Y.gV K;rw[Y.num]at X;omega) (h.sh.cM c K).gd Zo;rw[hA]at p;refine Sp.s [] [.tmp 8] func113 ntmps113 ?_;refine bq 17 ks.length (λj=>Fw.Inv 228 [(0,.cp [.sl 2 (ai.ae ab),.sl 12 (ah.ae ds)]),(1,.cp [I 11,I v,S n,I tk,S tn,.sl 3 (O.ae az),.sl 1 (ns.map λs=>[S s]),.sl 8 (Y.ae ks)]),(3,I l),(6,.cp [E1,E2,E3])] (∀(i:Nat)(h:i<ks.length),i<j->(0<i->kT ks[i] e l)/\ee ab ds ks[i] e l)) A ⟨A,by simp[ba,af],Zs⟩ ?_;rintro j env H n' T _ hj lq;simp only[go_sem];refine aT (λh=>?_) λh=>?_
   .have aC:=bh h;have g0:=Y.bo ks j aC;have nW:=ih j aC;have kc:=Y.cl ks[j];have V:=p _ (ax aC);have ml:(0<j->kT ks[j] e l)->ee ab ds ks[j] e l->∀(i:Nat)(h:i<ks.length),i<j+1->(0<i->kT ks[i] e l)/\ee ab ds ks[i] e l:=λq a' i h hi=>by
     by_cases c:i=j
     .subst c;exact⟨q,a'⟩
     .exact lq i h Zo
    have o3:¬ee ab ds ks[j] e l->¬ee ab ds (.mk 11 v n (.mk tk tn az) ns ks) e l:=λq w=>q (jm.1 w j aC).2;have aI:0<j->¬kT ks[j] e l->¬ee ab ds (.mk 11 v n (.mk tk tn az) ns ks) e l:=λaq q w=>q ((jm.1 w j aC).1 aq);generalize ks[j]=c at g0 nW kc ml o3 V aI;obtain⟨qk,qv,qn,⟨hG,hJ,hI⟩,hF,hE⟩:=c;simp only[Y.ds,O.ds,strs,bf,a8,ai.sl,ah.sl]at g0 nW kc V;by_cases ap:0<j
    .have d0:decide ((j:Int)>0)=ad:=by simp;omega
     simp only[d0,g0,go_sem];refine b7 ?_;refine d' V ?_;by_cases d:kT (.mk qk qv qn (.mk hG hJ hI) hF hE) e l
     case neg=>
      simp only[bj d,go_sem];exact Fz.bool (bj (aI ap d)).symm
     simp only[bD d,g0,go_sem];refine b7 ?_;refine d' nW ?_;by_cases q:ee ab ds (.mk qk qv qn (.mk hG hJ hI) hF hE) e l
     .simp only[bD q,go_sem];exact bg aC ⟨A,by simp[af],ml (λ_=>d) q⟩
     .exact yw
    .have d0:decide ((j:Int)>0)=al:=by simp;omega
     simp only[d0,g0,go_sem];refine b7 ?_;refine b7 ?_;refine d' nW ?_;by_cases q:ee ab ds (.mk qk qv qn (.mk hG hJ hI) hF hE) e l
     .simp only[bD q,go_sem];exact bg aC ⟨A,by simp[af],ml (λq=>absurd q ap) q⟩
     .exact yw
   .exact BH
  .obtain⟨c,rfl⟩:=h.sh.one Zs;have hs:=ih 0 Zs;have kc:=Y.cl c;have a:=mq e n (.mk tk tn az) l Zo;have hK:b8 ab ds 4 n (.mk tk tn az) ns [c] e l 0=e++[⟨n,.mk tk tn az,l⟩]:=by simp[b8,cV,er]
   have hL:bL 4 l=l:=by simp[bL]
   have hd:(decide (fg n c<=1)&&decide (ee ab ds c (e++[⟨n,.mk tk tn az,l⟩]) l))=decide (ee ab ds (.mk 4 v n (.mk tk tn az) ns [c]) e l):=by
    rw[<-Bool.decide_and,jh,jm];simp[hK,hL]
   have G:=z7 n c (by have:=Y.gV (l:=[c]) (c:=c) Zs;rw[Y.num]at X;omega) (h.sh.cM c Zs).gd;rw[hK,hL]at hs;have y:=fo (e++[⟨n,.mk tk tn az,l⟩]);obtain⟨ak,am,an,z⟩:∃f g c,cc (e++[⟨n,.mk tk tn az,l⟩])=[f,g,c]:=⟨_,_,_,A⟩;rw[z]at a hs y;rw[hA]at a;simp only[fO]at hs;obtain⟨qk,qv,qn,⟨hG,hJ,hI⟩,hF,hE⟩:=c;simp only[Y.ds,O.ds,strs,bf,a8,ai.sl,ah.sl]at a hs kc G;refine Sp.e [] [.tmp 8] func113 ntmps113 ?_;simp only[Y.ae,go_sem];refine b7 ?_;refine d' G ?_;by_cases q:fg n (.mk qk qv qn (.mk hG hJ hI) hF hE)<=1
   .rw[bD q,hN]at hd;simp only[bD q,go_sem];refine iP a ?_;exact wA
   .rw[bj q,mF]at hd;simp only[bj q,go_sem];exact Fz.bool hd
  .obtain⟨c,rfl⟩:=h.sh.one Zs;have hs:=ih 0 Zs;have kc:=Y.cl c;have hK:b8 ab ds 6 n (.mk tk tn az) ns [c] e l 0=e:=by simp[b8,cV]
   have hL:bL 6 l=l+1:=by simp[bL]
   have hd:decide (ee ab ds c e (l+1))=decide (ee ab ds (.mk 6 v n (.mk tk tn az) ns [c]) e l):=by
    rw[jh,jm];simp[hK,hL]
   rw[hK,hL,hA]at hs;simp only[fO]at hs;have a2:IntKind.i64.wrap (l+1)=l+1:=cW _ Zo;obtain⟨qk,qv,qn,⟨hG,hJ,hI⟩,hF,hE⟩:=c;simp only[Y.ds,O.ds,strs,bf,a8,ai.sl,ah.sl]at hs kc;refine Sp.e [] [.tmp 8] func113 ntmps113 ?_;simp only[a2,Y.ae,go_sem];refine b7 ?_;exact wA
  .obtain⟨r,u,rfl⟩:=sj (show ks.length=2 by simp[a1,cN]at pN;omega);have F:=ih 0 Zs;have m:=ih 1 Zs;have aK:=h.cM C 0 Zs;have a6:=Y.cl r;have a9:=Y.cl u;have hL:bL 7 l=l:=by simp[bL]
   have hK:b8 ab ds 7 n (.mk tk tn az) ns [r,u] e l 0=e:=by simp[b8,cV]
   simp only[hL,hK,fO,i1]at F m aK;obtain⟨Q,aD,aV,hs⟩:=aK.tp C (λq=>by have:=(h.tc.case 0 Zs).1 q;omega);have U:=zX Q (rn aV);have Z:=h.ty;rw[oh,aD,jS]at Z;cases b:gT Q with
   |none=>rw[b]at Z;cases Z
   |some x=>
    have R:b8 ab ds 7 n (.mk tk tn az) ns [r,u] e l 1=e++[⟨n,x.1,l+x.2⟩]:=by simp[b8,cV,er,aD,b]
    rw[b]at U;rw[R]at m;have a:=mq e n x.1 (l+x.2) Zo;have y:=fo (e++[⟨n,x.1,l+x.2⟩]);obtain⟨ak,am,an,z⟩:∃f g c,cc (e++[⟨n,x.1,l+x.2⟩])=[f,g,c]:=⟨_,_,_,A⟩;have hd:(decide (ee ab ds r e l)&&decide (ee ab ds u (e++[⟨n,x.1,l+x.2⟩]) l))=decide (ee ab ds (.mk 7 v n (.mk tk tn az) ns [r,u]) e l):=by
     rw[<-Bool.decide_and,jh,jm];refine⟨λq=>⟨λq=>absurd q Zd,λq=>absurd q Zd,λq=>absurd q Zd,λi hi=>?_⟩,λq=>⟨?_,?_⟩⟩
     .match i,hi with
      |0,_=>rw[hK,hL];exact q.1
      |1,_=>rw[R,hL];exact q.2
     .have:=q.2.2.2 0 Zs;rwa[hK,hL]at this
     .have:=q.2.2.2 1 Zs;rwa[R,hL]at this
    obtain⟨P,bk,a5⟩:=Q;have M:x.2=if P=4 then 1 else 0:=by
     simp only[gT]at b;split at b
     .rename_i c;rw[aM c];cases a5<;>simp at b;rw[<-b]
     .rename_i c;rw[av c];split at b<;>simp at b;rw[<-b]
    rw[z]at a m y;rw[hA]at a F hs;obtain⟨⟨bz,bC,bB⟩,aP⟩:=x;obtain⟨qk,qv,qn,⟨hG,hJ,hI⟩,hF,hE⟩:=r;obtain⟨bm,bx,bp,⟨bs,bv,bt⟩,br,bn⟩:=u;simp only[ey,kM,lY,Y.ds,O.ds,strs,bf,a8,ai.sl,ah.sl]at a F m a6 a9 hs U;have aN:Int.toNat 1=1:=A;have ar:((0:Int)<=1)=True:=Zs;refine Sp.e [] [.tmp 8] func113 ntmps113 ?_;simp only[Y.ae,go_sem];refine cX [] [79] ?_;simp only[go_sem];refine jx hs ?_;refine bO U ?_;have a3:IntKind.i64.wrap (l+1)=l+1:=cW _ Zo;by_cases J:P=4
    .have f4:(P==4)=ad:=by simp[J]
     obtain rfl:aP=1:=by rw[aM J]at M;exact M
     simp only[f4,a3,go_sem];refine b7 ?_;refine d' F ?_;by_cases q:ee ab ds (.mk qk qv qn (.mk hG hJ hI) hF hE) e l
     .rw[bD q,hN]at hd;simp only[bD q,aN,ar,go_sem];refine iP a ?_;refine iP m ?_;exact Fz.bool hd
     .rw[bj q,mF]at hd;simp only[bj q,go_sem];exact Fz.bool hd
    .have f4:(P==4)=al:=by simp[J]
     obtain rfl:aP=0:=by rw[av J]at M;exact M
     simp only[su]at a m hd;simp only[f4,go_sem];refine b7 ?_;refine d' F ?_;by_cases q:ee ab ds (.mk qk qv qn (.mk hG hJ hI) hF hE) e l
     .rw[bD q,hN]at hd;simp only[bD q,aN,ar,go_sem];refine iP a ?_;refine iP m ?_;exact Fz.bool hd
     .rw[bj q,mF]at hd;simp only[bj q,go_sem];exact Fz.bool hd
  .obtain⟨c,rfl⟩:=h.sh.one Zs;have hs:=ih 0 Zs;have kc:=Y.cl c;have aZ:0<=fD ab n:=by have:=(iQ h.tc.fit).1;simp[dR]at this;omega
   have hK:b8 ab ds 10 n (.mk tk tn az) ns [c] e l 0=e++cL ab n ns l:=by simp[b8,cV,er]
   have hL:bL 10 l=l:=by simp[bL]
   have hd:ee ab ds (.mk 10 v n (.mk tk tn az) ns [c]) e l↔(∀x∈ns,fg x c<=1)/\kT c (fx e ns) l/\ee ab ds c (e++cL ab n ns l) l:=by
    rw[jm];simp[hK,hL,and_assoc]
   have a_:ns.length<=3:=by have:=h.tc.form.2.2.2.1;simp[im]at this;omega
   have aG:c.num<=100000:=by have:=Y.gV (l:=[c]) (c:=c) Zs;rw[Y.num]at X;omega
   have aE:=(h.sh.cM c Zs).gd;have G:=λx=>z7 x c aG aE;have aH:∀ns,(fx e ns).length<=1000000:=λns=>by
    have:=nl (λv:Ev=>!decide (v.n∈ns)) e;unfold fx;omega
   have p:=Kw c (fx e ns) l aG aE (by have:=aH ns;omega);have a0:=λns x=>SB (fx e ns) x (aH ns);have L:=DA ab ds C.ll 10 v n (.mk tk tn az) ns [c] e l aZ (h.sh.vr A) Zo;rw[hK,hL]at hs;have y:=fo (e++cL ab n ns l);obtain⟨ak,am,an,z⟩:∃f g c,cc (e++cL ab n ns l)=[f,g,c]:=⟨_,_,_,A⟩;have aR:fx e []=e:=by simp[fx]
   rw[z]at L hs y;rw[hA]at L;simp only[fO]at hs;have aJ:(ns.map λs=>[S s]).length=ns.length:=Zs;obtain⟨qk,qv,qn,⟨hG,hJ,hI⟩,hF,hE⟩:=c;simp only[Y.ds,Y.ae,O.ds,strs,bf,a8,ai.sl,ah.sl]at L hs kc aL G p;simp only[strs,ints]at ay aB;subst ay aU aB;refine Sp.e [] [.tmp 8] func113 ntmps113 ?_;simp only[Y.ae,go_sem];refine bq 14 ns.length (λj=>Fw.cK 228 [(0,.cp [.sl 2 (ai.ae ab),.sl 12 (ah.ae ds)]),(1,.cp [I 10,I v,S n,I tk,S tn,.sl 3 (O.ae az),.sl 1 (ns.map λs=>[S s]),.sl 8 [[I qk,I qv,S qn,I hG,S hJ,.sl 3 (O.ae hI),.sl 1 (hF.map λs=>[S s]),.sl 8 (Y.ae hE)]]]),(3,I l),(6,.cp [.sl 1 ((e.map Ev.n).map λs=>[S s]),.sl 3 (O.ae (e.map Ev.t)),.sl 1 ((e.map Ev.l).map λn=>[I n])])] λenv H n T=>∀(i:Nat)(h:i<ns.length),i<j->fg ns[i] (.mk qk qv qn (.mk hG hJ hI) hF hE)<=1) A ⟨A,by simp[ba,af],Zs⟩ ?_;rintro j env H n' T aQ hj lq;simp only[aJ,go_sem];refine aT (λh=>?_) λh=>?_
   .have aC:=bh h;have g0:(ns.map λs=>[S s])[j]?=E [S ns[j]]:=by simp[aC]
    simp only[g0,go_sem];refine b7 ?_;refine d' (G ns[j]) ?_;by_cases q:fg ns[j] (.mk qk qv qn (.mk hG hJ hI) hF hE)>1
    .simp only[bD q,go_sem];exact Fz.bool (bj λw=>by have:=(hd.1 w).1 _ (ax aC);omega).symm
    .simp only[bj q,go_sem];refine bg aC ⟨A,by simp[af],λi h hi=>?_⟩;by_cases c:i=j
     .subst c;omega
     .exact lq i h Zo
   have o0:=bS h;subst o0;have aY:∀x∈ns,fg x (.mk qk qv qn (.mk hG hJ hI) hF hE)<=1:=λx a4=>by obtain⟨i,hi,rfl⟩:=dG a4;exact lq i hi hi
   simp only[h,go_sem];clear lq;refine bq 16 ns.length (λj=>Fw.cK 228 [(0,.cp [.sl 2 (ai.ae ab),.sl 12 (ah.ae ds)]),(1,.cp [I 10,I v,S n,I tk,S tn,.sl 3 (O.ae az),.sl 1 (ns.map λs=>[S s]),.sl 8 [[I qk,I qv,S qn,I hG,S hJ,.sl 3 (O.ae hI),.sl 1 (hF.map λs=>[S s]),.sl 8 (Y.ae hE)]]]),(3,I l),(6,.cp [.sl 1 ((e.map Ev.n).map λs=>[S s]),.sl 3 (O.ae (e.map Ev.t)),.sl 1 ((e.map Ev.l).map λn=>[I n])]),(15,.rf 15 (n' 15) 0)] λenv H n T=>H 15=E ⟨n' 15,152,3,cc (fx e (ns.take j)),aa⟩) A ⟨A,by simp[af],by simp[aj,aR,hA]⟩ ?_;rintro j env H bl T aQ hj o;simp only[aJ,go_sem];refine aT (λh=>?_) λh=>?_
   .have aC:=bh h;have g0:(ns.map λs=>[S s])[j]?=E [S ns[j]]:=by simp[aC]
    have W:=a0 (ns.take j) ns[j];rw[QW,<-ch aC]at W;have aX:=fo (fx e (ns.take j));simp only[cc,strs,ints]at o W aX;simp only[go_sem];refine cX [15] [] ?_;simp only[o,g0,go_sem];refine bw W ?_;simp only[o,go_sem];exact bg aC ⟨A,by simp[af],by simp[aj,cc,strs,ints]⟩
   have o0:=bS h;subst o0;rw[b9]at o;have aW:=fo (fx e ns);simp only[cc,strs,ints]at o p aW;simp only[h,o,go_sem];refine b7 ?_;refine d' p ?_;by_cases d:kT (.mk qk qv qn (.mk hG hJ hI) hF hE) (fx e ns) l
   case neg=>
    simp only[bj d,go_sem];exact Fz.bool (bj λw=>d (hd.1 w).2.1).symm
   simp only[bD d,go_sem];refine iP L ?_;refine iP hs ?_;refine Fz.bool ?_;rw[jh,hd];exact⟨λq=>⟨aY,d,q⟩,λq=>q.2.2⟩
  .exact Bu
termination_by t=>t
decreasing_by
 have:=cH (ax hi);simp;omega
def l7.tp(a:gq a4 a5=0):∀b∈a5,a6 a4 a5 (ah.bd b) [] 0=E (ah.ty b):=by
 rw[gq,av (by simp[oM a])]at a;split at a
 .assumption
 .cases a
def SC(a:aw)(ds:aF)(t:(bm.mk a ds).sz<=1048576)(l:(bm.mk a ds).ok):au 112 [.cp [ai.sl a,ah.sl ds]] (I (g_ a ds)):=by
 have hn:=SE a ds t l;have JE:Cl (.cp [.sl 2 (ai.ae a),.sl 12 (ah.ae ds)]):=Cl.eX cu;simp only[ai.sl,ah.sl]at hn;by_cases h:gq a ds=0
 case neg=>
  have f0:(gq a ds==0)=al:=by simp[h]
  rw[show g_ a ds=gq a ds by rw[g_,aM h]];refine Sp.s [] [.tmp 2] func112 ntmps112 ?_;exact BC
 have g:=h;have f:=n9 (oM g) l;have y:=f.pg.len;have r:g_ a ds=if∀d∈ds,eS a ds (ah.bd d) [] 0 then 0 else 9:=by rw[g_,av (by simp[h])]
 rw[h]at hn;rw[r];refine Sp.s [] [.tmp 2] func112 ntmps112 ?_;refine bw hn ?_;simp only[bne,go_sem];refine bq 4 ds.length (λj=>Fw.cK 30 [(0,.cp [.sl 2 (ai.ae a),.sl 12 (ah.ae ds)])] λp m n o=>∀(i:Nat)(h:i<ds.length),i<j->eS a ds (ah.bd ds[i]) [] 0) A ⟨A,by simp[ba,af],Zs⟩ ?_;rintro j p m z o _ w lq;simp only[go_sem];refine aT (λh=>?_) λh=>?_
 .have aC:=bh h;have e:=ax aC;have g0:=ah.bo ds j aC;have u':=Kx f.pg _ _ _ (f.rc e (l7.tp g _ e));have ml:eS a ds (ah.bd ds[j]) [] 0->∀(i:Nat)(h:i<ds.length),i<j+1->eS a ds (ah.bd ds[i]) [] 0:=λq i h hi=>by
   exact ys
  have o3:¬eS a ds (ah.bd ds[j]) [] 0->¬∀d∈ds,eS a ds (ah.bd d) [] 0:=λq u=>q (u _ e);obtain⟨b,hb⟩:=Zx (decide (eS a ds (ah.bd ds[j]) [] 0));exact Gz
 .exact Hf
def SA(a:aw)(ds:aF)(t:(bm.mk a ds).sz<=1048576)(l:(bm.mk a ds).ok):au 68 [.cp [ai.sl a,ah.sl ds]] (I (fS a ds)):=by
 have hn:=SC a ds t l;have JE:Cl (.cp [.sl 2 (ai.ae a),.sl 12 (ah.ae ds)]):=Cl.eX cu;simp only[ai.sl,ah.sl]at hn;by_cases h:g_ a ds=0
 case neg=>
  have f0:(g_ a ds==0)=al:=by simp[h]
  rw[show fS a ds=g_ a ds by rw[fS,aM h]];refine Sp.s [] [.tmp 2] func68 ntmps68 ?_;exact BC
 have g:=qm h;have f:=n9 (oM g) l;have y:=f.pg.len;have r:fS a ds=if∀d∈ds,ee a ds (ah.bd d) [] 0 then 0 else 10:=by rw[fS,av (by simp[h])]
 rw[h]at hn;rw[r];refine Sp.s [] [.tmp 2] func68 ntmps68 ?_;refine bw hn ?_;simp only[bne,go_sem];refine bq 4 ds.length (λj=>Fw.cK 30 [(0,.cp [.sl 2 (ai.ae a),.sl 12 (ah.ae ds)])] λp m n o=>∀(i:Nat)(h:i<ds.length),i<j->ee a ds (ah.bd ds[i]) [] 0) A ⟨A,by simp[ba,af],Zs⟩ ?_;rintro j p m z o _ w lq;simp only[go_sem];refine aT (λh=>?_) λh=>?_
 .have aC:=bh h;have e:=ax aC;have g0:=ah.bo ds j aC;have u':=Ky f.pg _ _ _ (f.rc e (l7.tp g _ e));have ml:ee a ds (ah.bd ds[j]) [] 0->∀(i:Nat)(h:i<ds.length),i<j+1->ee a ds (ah.bd ds[i]) [] 0:=λq i h hi=>by
   exact ys
  have o3:¬ee a ds (ah.bd ds[j]) [] 0->¬∀d∈ds,ee a ds (ah.bd d) [] 0:=λq u=>q (u _ e);obtain⟨b,hb⟩:=Zx (decide (ee a ds (ah.bd ds[j]) [] 0));exact Gz
 .exact Hf
variable {g3:ay}{g5:bK}
def Sp.NR{args:DL}(a:Sp g3 g5 args am)(i:fj am be):Sp g3 g5 args be:=
 ⟨a.ok,λk b vs e h f=>Calls.mono (a.run k b vs e h f) λ_ _⟨v,d,g,j⟩=>⟨v,d,g,i _ _ j⟩⟩
def fj.ag{a b:DL}(l:a.length=b.length)(j:∀g∈a.zip b,fj g.1 g.2):fj (.ag a) (.ag b):=λh v o=>by
 cases o with
 |ag _ vs p k=>
  refine .ag b vs Zo λd i v e m=>?_;have f:d<a.length:=by rw[l];exact(ej.1 e).1
  exact j (a[d],i) (hQ.2 ⟨d,by rw[List.getElem?_zip_eq_some];exact⟨bR f,e⟩⟩) h v (k d _ v (bR f) m)
def zV(j:O)(aB:dp j):au 69 [.ag j.ds] (.ag (cf j).ds):=by
 have am:∀d:O,SizeOf.sizeOf d<SizeOf.sizeOf j->dp d->au 69 [.ag d.ds] (.ag (cf d).ds):=λd f i=>zV d i;obtain⟨o,M,a⟩:=j;have s:=aB;rw[dp,sX]at s;have az:=O.bb a;rw[cf,zd];by_cases J:o=4
 .subst J;rw[aM A];obtain⟨c,l,rfl⟩:∃c l,a=c::l:=by
   match a,s.2.1 A with
   |c::l,_=>exact⟨c,l,A⟩
  have K:=am c de (s.2.2 c Zs);have h:(O.ae (c::l))[0]?=E c.ds:=A;have aE:=O.cl c;have L:=O.cl (cf c);obtain⟨B,D,C⟩:=c;simp only[bp,qZ];obtain⟨an,aq,ap,f⟩:=O.ex (cf (.mk B D C));rw[f]at K L⊢;simp only[O.ds]at K h aE L;refine Sp.e [] [.cell 2 87] func69 ntmps69 ?_;simp only[h,go_sem];refine bO K ?_;exact .cl _ (Cl.bu L)
 rw[av J];have f4:(o==4)=al:=by simp[J]
 refine Sp.e [] [.cell 2 87] func69 ntmps69 ?_;simp only[f4,go_sem];refine hC 4 a.length (λb=>Fw.cK 37 [(1,.cp [I o,S M,.sl 3 (O.ae a)]),(2,.rf 2 0 0),(3,.rf 3 0 0)] λaw p aF ar=>(∃g,p 2=E ⟨0,87,3,g,aa⟩/\g.length=3)/\∃d,p 3=E ⟨0,87,3,[I o,S M,d],aa⟩/\aH [34] p 87 3 (O.ae ((a.take b).map cf)) d) A
  ⟨A,by simp[af,ba],⟨_,by simp[aj];rfl,A⟩,.sc (.slice aa 0 0),by simp[aj],.inl ⟨A,A⟩⟩ ?_
 rintro b⟨aw,p,aF,aQ,ar,aJ⟩aL r⟨rfl,X,⟨g,G,V⟩,d,m,f⟩;simp only[a7]at r X G m f;obtain⟨F,P,q,-⟩:=X;simp only[r,F,az,go_sem];refine aT (λi=>?_) λi=>?_
 .have t:=bh i;have h:=O.bo a b t;have ab:=ax t;have w:=am a[b] (by have:=cH ab;simp;omega) (s.2.2 _ ab);have W:=O.cl a[b];have u:O.ae ((a.take (b+1)).map cf)=O.ae ((a.take b).map cf)++[(cf a[b]).ds]:=by
   rw[O.bZ,O.bZ,ch t,bC,bC];rfl
  have Z:(O.ae ((a.take b).map cf)).length=b:=by rw[O.bb];simp;omega
  rcases ay:a[b]with⟨B,D,C⟩
  rw[ay]at h w W u;obtain⟨an,aq,ap,aD⟩:=O.ex (cf (.mk B D C));rw[aD]at w u;simp only[O.ds]at h w W u;simp only[go_sem];refine cX [3] [] ?_;simp only[r,F,q,h,m,ic,go_sem];refine bw w ?_;simp only[m,ic,go_sem];refine iO (S:=[34]) (rows:=O.ae ((a.take b).map cf)) (bx:=[[I an,S aq,.sl 3 (O.ae ap)]]) Zs Zk (by simp only[af,bT,bU,aI,aV,aP,reduceCtorEq];exact f.congr bJ) (O.ea _) ga Zs A (by rw[Z];show(b+1)*48<=_;omega) (by rw[Z];show b+1<=ao;unfold ao;omega) (by show 34<37;decide) ?_;intro aG aN aR ak U;obtain⟨aK,rfl,-⟩:=fG ak Zs;have R:=U 3 Zd Zd;have Q:=U 2 Zd Zd;simp only[bV,dP,aP,dz,G,m]at R Q;simp only[r,q,R,go_sem];refine bg t ⟨A,by simp[af,F,P,q],⟨g,by simp[aj,Q],V⟩,_,by simp only[bH];rfl,?_⟩;rw[u];exact aH.congr ak bJ
 .have aC:=bS i;subst aC;rw[b9]at f;obtain⟨aS,aU,aW,rfl⟩:∃y z c,g=[y,z,c]:=by
   match g,V with
   |[y,z,c],_=>exact⟨y,z,c,A⟩
  simp only[i,P,q,G,m,go_sem];refine⟨n3 f,sk o M (aH.fz (f.congr bJ) Zd (O.ea _) (O.bA _))⟩
termination_by SizeOf.sizeOf j
decreasing_by exact f
def tA(k v:Int)(cs:bM)(ts:cz):DL:=[I k,I v,a',.sl 4 (Core.ae cs),.sl 3 (O.ae ts)]
def KD(F v:Int)(f:O)(kids:List bQ)(aD:dp f)(aE:∀G∈kids,G.ty≠[])(aX:kids.length<=1000)(hs:(kids.map λG=>G.ty.length).sum<=2000000000000):
 au 117 [I F,I v,.ag f.ds,.sl 5 (kids.map aW)] (.ag (tA F v (kids.map bQ.c) (cf f::(kids.map bQ.ty).flatten))):=by
 have B:=zV f aD;have az:=O.cl f;obtain⟨s,u,t,aC⟩:=O.ex (cf f);rw[aC]at B⊢;have aw:cy aB 72=E (87,3,48):=Zk;obtain⟨a2,a4,a3⟩:=f;have aF:(kids.map aW).length=kids.length:=Zs;simp only[O.ds]at B az;refine Sp.e [] [.cell 8 148] func117 ntmps117 ?_;simp only[tA,go_sem];refine bO B ?_;refine bq 10 kids.length (λq=>Fw.cK 46 [(3,.sl 5 (kids.map aW)),(8,.rf 8 0 0),(9,.rf 9 0 0)] λay g aL am=>(∃c,g 8=E ⟨0,148,5,c,aa⟩/\c.length=5)/\∃p r,g 9=E ⟨0,148,5,[I F,I v,a',p,r],aa⟩/\aH [33] g 81 4 (Core.ae ((kids.take q).map bQ.c)) p/\aH [16,43] g 87 3 (O.ae (.mk s u t::((kids.take q).map bQ.ty).flatten)) r) A
  ⟨A,by simp[af,ba],⟨_,by simp only[aj];rfl,A⟩,_,_,by simp[aj];exact⟨A,A⟩,.inl ⟨A,A⟩,.inr ⟨16,_,Zs,A,by simp[aj,O.ae,O.ds]⟩⟩ ?_
 rintro q ay g aL am aR aY⟨⟨c8,M,u4⟩,p,r,w,m,o⟩;simp only[aF,go_sem];refine aT (λj=>?_) λj=>?_
 .have h:=bh j;have i:(kids.map aW)[q]?=E (aW kids[q]):=by simp[h]
  have C:=aE _ (ax h);have D:Core.ae ((kids.take (q+1)).map bQ.c)=Core.ae ((kids.take q).map bQ.c)++[(kids[q].c).ds]:=by rw[Core.bZ,Core.bZ,ch h,bC,bC];rfl
  have rU:((kids.take (q+1)).map bQ.ty).flatten=((kids.take q).map bQ.ty).flatten++kids[q].ty:=by rw[ch h,bC,fN];simp only[bp,cB,dN,fX,c_]
  have X:((kids.take q).map bQ.ty).flatten.length+kids[q].ty.length<=2000000000000:=by
   exact GM
  rcases aJ:kids[q]with⟨⟨ap,av,an,aq⟩,ar⟩
  rw[aJ]at i C D rU X;simp only[aW,Core.ds,bf,a8]at i C D rU X;have V:(Core.ae ((kids.take q).map bQ.c)).length=q:=by rw[Core.bb];simp;omega
  simp only[go_sem];refine cX [9] [] ?_;simp only[i,w,ic,go_sem];refine iO (S:=[33]) (rows:=Core.ae ((kids.take q).map bQ.c)) (bx:=[[I ap,I av,ints an,.sl 4 (Core.ae aq)]]) Zs Zk (by simp only[af,aI,aV,aP,bT,bU,reduceCtorEq];exact m.congr bJ) (Core.ea _) (by simp[af,cF,aj,ints]) Zs A (by rw[V];show(q+1)*64<=_;omega) (by rw[V];show q+1<=ao;unfold ao;omega) (by show 33<46;decide) ?_;intro aN aZ a5 Z l;obtain⟨aS,rfl,-⟩:=fG Z Zs;have P:=l 8 Zd Zd;have R:=l 9 Zd Zd;have J:=l 16 Zd Zd;have L:=l 43 Zd Zd;simp only[bV,dP,aP,dz,M,w]at P R J L;simp only[R,go_sem];have ak:(O.ae (.mk s u t::((kids.take q).map bQ.ty).flatten)).length=((kids.take q).map bQ.ty).flatten.length+1:=by rw[O.bb];rfl
  refine cX [9] [] ?_;simp only[i,ic,go_sem];refine iO (S:=[16,43]) (rows:=O.ae (.mk s u t::((kids.take q).map bQ.ty).flatten)) (bx:=O.ae ar) Zs aw (by simp only[af,aI,aV,aP,bT,bU,reduceCtorEq];exact o.congr (by simp[aj,J,L])) (O.ea _) (by simp[af,cF]) (by rw[O.bb];exact q0.2 C) (by rw[b6];intro d z;obtain⟨a1,W,z⟩:=ft.1 z;rw[O.bZ]at W;obtain⟨aM,-,rfl⟩:=aG.1 W;exact O.one aM d z)
   (by rw[ak,O.bb];omega) (by rw[ak,O.bb];unfold ao;omega) (by show 43<46;decide) ?_
  intro aQ a0 a6 ab y;have Q:=y 8 Zd Zd;have U:=y 9 Zd Zd;have K:=y 33 Zd Zd;obtain⟨aU,rfl,-⟩:=fG ab (by simp[O.ae]);simp only[bV,bH,dP,aP,dz,P]at Q U K;simp only[U,go_sem];refine bg h ⟨A,by simp[af],⟨c8,by simp[aj,Q],u4⟩,_,_,by simp only[bH];rfl,?_,?_⟩
  .rw[D];exact aH.congr Z (by simp[aj,K])
  .rw[rU,<-bf,show∀a b,O.ae (a++b)=O.ae a++O.ae b from λa b=>by rw[O.bZ,O.bZ,O.bZ,bC]];exact(aH.congr ab bJ).sub Zs
 .have aK:=bS j;subst aK;rw[b9]at m o;obtain⟨a7,a9,a_,bc,bd,rfl⟩:∃a b c d e,c8=[a,b,c,d,e]:=by
   exact Bz
  simp only[j,M,w,go_sem];refine⟨?_,Fz.lI (.c (.cl _ (aO _)) (.c (.cl _ (aO _)) (.c (.cl _ (aO _)) (.c (aH.fz (m.congr bJ) Zd (Core.ea _) (Core.bA _)) (.c (aH.fz (o.congr bJ) Zd (O.ea _) (O.bA _)) .n)))))⟩;show(b4 p&&b4 r)=ad;rw[n3 m,n3 o];rfl
def mk_le(b v:Int)(a:bM)(d:cz):fj (.ag (tA b v a d)) (.ag (aW ⟨.mk b v [] a,d⟩)):=
 fj.ag A (by simp only[tA,aW,Core.ds,bf,a8,ot,ou,a7];exact⟨.rfl,.rfl,.nil,.rfl,.rfl,Zs⟩)
def pT(d v:Int)(b:O)(a:List bQ)(f:dp b)(g:∀e∈a,e.ty≠[])(h:a.length<=1000)(i:(a.map λe=>e.ty.length).sum<=2000000000000):
 au 117 [I d,I v,.ag b.ds,.sl 5 (a.map aW)] (.ag (aW ⟨.mk d v [] (a.map bQ.c),cf b::(a.map bQ.ty).flatten⟩)):=Sp.NR (KD d v b a f g h i) (mk_le _ _ _ _)
def z'(e v:Int)(d:O)(f:dp d):au 117 [I e,I v,.ag d.ds,a'] (.ag (aW ⟨.mk e v [] [],[cf d]⟩)):=
 (pT e v d [] f Zs Zs Zs).le A λg h i a b=>by
  match g,a,b with
  |0,a,b|1,a,b|2,a,b=>simp at a b;subst a;subst b;exact .rfl
  |3,a,b=>simp at a b;subst a;subst b;exact .nil
def z8(b:cz)(w:O)(an:b.length<=1000000):au 174 [.sl 3 (O.ae b),.ag w.ds] (.ag (gK b w).ds):=by
 have Z:IntKind.i64.wrap ((b.length:Int)-1)=(b.length:Int)-1:=cW _ Zo;obtain⟨g,i,h⟩:=w;refine Sp.e [3] [.cell 4 87] func174 ntmps174 ?_;simp only[Z,go_sem];refine mW (λy=>∃a:Nat,a<=b.length/\Fw.cK 20 [(0,.sl 3 (O.ae b)),(3,.rf 3 0 0),(4,.rf 4 0 0),(5,I ((a:Int)-1))] (λS o Q R=>(∃d,o 4=E ⟨0,87,3,d,aa⟩/\d.length=3)/\o 3=E ⟨0,87,3,(gK (b.drop a) (.mk g i h)).ds,aa⟩) y) (λy=>match y.env 5 with|.sc (.int _ Q)=>(Q+1).toNat|_=>0)
  ⟨b.length,b_ _,A,by simp[af,ba],⟨_,by simp[aj];rfl,A⟩,by simp[aj,gK,O.ds]⟩ ?_
 rintro⟨S,o,ap,aq,R,ak⟩⟨a,am,rfl,J,⟨r,u,G⟩,j⟩;simp only[a7]at J u j;obtain⟨D,k,F,l,-⟩:=J;obtain⟨z,C,B,m⟩:=O.ex (gK (b.drop a) (.mk g i h));simp only[m,O.ds]at j;cases a with
 |zero=>
  obtain⟨ax,ay,az,rfl⟩:∃p q d,r=[p,q,d]:=by
   match r,G with
   |[p,q,d],_=>exact⟨p,q,d,A⟩
  have K:decide ((((0:Nat):Int)-1)>=0)=al:=Zs;have X:gK b (.mk g i h)=.mk z C B:=m;rw[X];simp only[l,K,k,F,j,u,go_sem];exact .cl _ (Cl.bu (O.cl (.mk z C B)))
 |succ a=>
  have s:((a+1:Nat):Int)-1=(a:Int):=Zo;have K:decide ((a:Int)>=0)=ad:=Zs;have L:a<b.length:=Zo;have t:=O.bo b a L;have U:b.drop a=b[a]::b.drop (a+1):=ph L;have f:=Ko b[a] (.mk z C B);rw[<-m]at f;have V:kH b[a] (gK (b.drop (a+1)) (.mk g i h))=gK (b.drop a) (.mk g i h):=by rw[U];rfl
  rw[V,m]at f;have P:=O.cl b[a];obtain⟨ar,aw,av,W⟩:=O.ex b[a];obtain⟨aB,aD,aC,M⟩:=O.ex (gK (b.drop a) (.mk g i h));rw[W]at t f P;rw[M]at f;simp only[O.ds]at t f P;have ab:IntKind.i64.wrap ((a:Int)-1)=(a:Int)-1:=cW _ Zo;simp only[s,l,go_sem];refine cX [3] [] ?_;simp only[s,D,k,l,t,j,go_sem];refine bw f ?_;simp only[s,k,l,j,ab,go_sem];exact⟨⟨a,Zo,A,by simp[af,D,k,F],⟨r,by simp[aj,u],G⟩,by simp[aj,M,O.ds]⟩,by simp[af]⟩
def SP(a:aK)(b:BA)(e:a.length<=ao):au 278 [strs a,S b] (B (decide (b∈a))):=by
 have d:=yC b a;rw[show(a.any λf=>decide (f=b))=decide (b∈a)by rw[nk];simp]at d;refine Sp.s [] [.tmp 4] func278 ntmps278 ?_;refine bw (nZ a b e) ?_;simp only[d,go_sem];exact Fz.bool A
def KE(a:aK)(b:BA)(e:a.length<=ao):au 240 [strs a,S b] (S (if b∈a then nE else b)):=by
 refine Sp.s [] [.tmp 4] func240 ntmps240 ?_;refine bw (SP a b e) ?_;by_cases d:b∈a
 .simp only[bD d,aM d,go_sem];exact .cl _ (aO _)
 .simp only[bj d,av d,go_sem];exact .cl _ (aO _)
def qc(d:aK):∀a∈R d,a.length=1:=λa b=>by obtain⟨e,-,rfl⟩:=aG.1 b;rfl
def uy(a:aK):∀d∈R a,∀b∈d,Cl b:=cI.1 (oL a)
def Jj(d:a_):∀a:aK,(d.foldl (λa b=>eA b [] a) a).length<=a.length+Y.aR d:=by
 induction d with
 |nil=>intro a;simp[Y.aR]
 |cons b d e=>intro a;rw[iZ,Y.aR];have:=e (eA b [] a);have:=w9 b [] a;omega
def iU:∀(d:a_)(a:Nat),Y.aR (d.take a)<=Y.aR d
 |[],a=>by simp
 |c::b,0=>by simp[Y.aR]
 |c::b,a+1=>by have:=iU b a;simp only[ix,Y.aR];omega
def SO(X v:Int)(u:BA)(ak:Int)(an:BA)(am:cz)(ab:aK)(f:a_)(b:Env)(aC:∀o∈f,dE o=ad)(aL:∀o∈f,o.sz<=1048576)(bd:Y.aR f<=100000)(bb:f.length<=100000)(J:1<=f.length)(a3:b.length<=4000000):
 au 173 [.cp (Y.ds (.mk X v u (.mk ak an am) ab f)),.ag (cc b)] (strs (bz f b)):=by
 have P:=λd=>nZ (b.map Ev.n) d kO;have aD:Cl (strs (b.map Ev.n)):=jW _;have W:strs (b.map Ev.n)=.sl 1 (b.map λd=>[S d.n]):=by rw[strs,dZ];rfl
 have a5:ints (b.map Ev.l)=.sl 1 (b.map λd=>[I d.l]):=by rw[ints,dZ];rfl
 rw[W]at aD;simp only[W]at P;obtain⟨k,y⟩:∃k:Nat->aK,k=λa=>((f.drop 1).take a).foldl (λaU o=>eA o [] aU) []:=⟨_,A⟩;have M:∀a,(k a).length<=100000:=λa=>by
  simp only[y];have J:=Jj ((f.drop 1).take a) [];have aZ:=iU (f.drop 1) a;have a0:Y.aR (f.drop 1)<=Y.aR f:=by cases f<;>simp[Y.aR]
  simp only[gG,ek]at J;omega
 have ar:cy aB 60=E (9,1,16):=Zk;refine Sp.e [1000027,1000048] [.tmp 4] func173 ntmps173 ?_;simp only[cc,go_sem];refine mW (λz=>∃a:Nat,a+1<=f.length/\Fw.cK 50 [(0,.cp [I X,I v,S u,I ak,S an,.sl 3 (O.ae am),.sl 1 (ab.map λz=>[S z]),.sl 8 (Y.ae f)]),(3,.cp [.sl 1 (b.map λd=>[S d.n]),.sl 3 (O.ae (b.map Ev.t)),.sl 1 (b.map λd=>[I d.l])]),(6,I (a+1:Nat))] (λr w u F=>aH [9,26] w 9 1 (R (k a)) (r 5)) z) (λz=>match z.env 6 with|.sc (.int _ u)=>f.length-u.toNat|_=>0)
  ⟨0,J,A,by simp[af,ba],.inr ⟨9,0,Zs,by simp[af,y],by simp[aj,y]⟩⟩ ?_
 rintro⟨r,w,aQ,bm,F,aq⟩⟨a,a6,rfl,V,j⟩;simp only[a7]at V j;obtain⟨G,L,B,-⟩:=V;simp only[G,B,go_sem];refine aT (λi=>?_) λi=>?_
 .have m:a+1<f.length:=by simp at i;omega
  have s:=Y.bo f (a+1) m;have aN:Int.toNat ((a+1:Nat):Int)=a+1:=A;have K:=ax m;have aw:k (a+1)=eA f[a+1] [] (k a):=by
   rw[y];simp only;rw[ch de,kn];simp
  have be:(f[a+1]).num<=100000:=by have:=Y.gV K;omega
  have C:=Dz f[a+1] (aC _ K) [] (k a) (by have:=aL _ K;simp;omega) (by have:=M a;omega);rw[<-aw]at C;have Z:=Y.cl f[a+1];generalize f[a+1]=o at s C Z;obtain⟨bn,bB,br,⟨bt,bw,bv⟩,bs,bp⟩:=o;simp only[Y.ds,O.ds,strs,bf,a8]at s C Z;have aW:=iX (a+1) Zo;simp only[G,B,aN,s,go_sem];refine qj [9,26] [.cp _,a'] [] (r 5) 9 1 _ _ (C.Ac .rfl .nil) A j cu ?_;intro aX aS bD aG a1;simp only[B,aW,go_sem];exact⟨⟨a+1,m,A,by simp[af,G,L],by simp only[af,bT,bU,aI,aV,aP,reduceCtorEq];exact aG.sub Zs⟩,by simp[af];omega⟩
 .have a9:a+1=f.length:=by simp at i;omega
  have U:bz f b=(k a).filter λd=>(look b d).isSome:=by
   rw[bz,y];simp only;rw[cU de]
  have az:=M a;rw[U];generalize k a=g at j az U;simp only[i,go_sem];refine GK.ln [9,26] 5 (.sl 1 (R g)) ?_ (oL g) ?_
  .simp only[af,bT,bU,aV,aP,aI,reduceCtorEq];exact aH.fz (j.congr (by simp[bi])) Zd (qc _) (uy _)
  simp only[go_sem];clear j i B;have ay:(R g).length=g.length:=by simp[R]
  refine bq 8 g.length (λh=>Fw.cK 50 [(5,.sl 1 (R g)),(3,.cp [.sl 1 (b.map λd=>[S d.n]),.sl 3 (O.ae (b.map Ev.t)),.sl 1 (b.map λd=>[I d.l])])] λr w u F=>aH [27,48] w 9 1 (R ((g.take h).filter λd=>(look b d).isSome)) (r 7)) A ⟨A,by simp[af,L],.inr ⟨27,aQ 27,Zs,by simp[af],by simp[aj]⟩⟩ ?_;rintro h r w aS F aq bj j;simp only[ay,go_sem];refine aT (λi=>?_) λi=>?_
  .have m:=bh i;have s:(R g)[h]?=E [S g[h]]:=by simp[R,m]
   have aF:decide (jb (b.map Ev.n) g[h]>=0)=(look b g[h]).isSome:=by
    rcases o7 g[h] b with⟨p,q⟩|⟨bk,a4,p,q⟩<;>rw[p,q]<;>simp
   have D:(g.take (h+1)).filter (λd=>(look b d).isSome)=(g.take h).filter (λd=>(look b d).isSome)++if(look b g[h]).isSome then[g[h]]else[]:=by
    rw[ch m,List.filter_append];congr 1;simp only[List.filter_cons,List.filter_nil]
   have bc:((g.take h).filter λd=>(look b d).isSome).length<=h:=by
    have:=nl (λd=>(look b d).isSome) (g.take h);rw[fP]at this;omega
   simp only[s,go_sem];refine b7 ?_;refine d' (P g[h]) ?_;simp only[aF,go_sem];cases Q:(look b g[h]).isSome
   .rw[Q,av Zs,c_]at D;simp only[go_sem];refine bg m ⟨A,by simp[af],?_⟩;rw[D];simpa[af]using j
   .rw[Q,aM A]at D;generalize (g.take h).filter (λd=>(look b d).isSome)=ap at*;simp only[s,go_sem];refine GK.intro (dS.eF (S:=[27,48]) (rows:=R ap) (bx:=R [g[h]]) ar (by simp only[af,aI,aV,aP,bT,bU,reduceCtorEq];exact j.congr bJ) (qc _) (by simp[af,cF,aj,R]) (by simp[R]) (by simp[R];rfl) (by simp[R];omega) (by simp[R];unfold ao;omega) λaY bl bF aJ a2=>?_);simp only[go_sem];refine bg m ⟨A,by simp[af],?_⟩;rw[D,show∀p q,R (p++q)=R p++R q from λp q=>bC];simpa[af]using aJ.sub (S':=[27,48]) Zs
  .have aE:=bS i;subst aE;rw[b9]at j;simp only[i,go_sem];exact aH.fz j Zd (qc _) (uy _)
def dY:aD:=[12,185,195,205,218]
abbrev fW(l:List (cz)):ct:=aq O.sl l
structure L7 (ab:List ai) (ds:List ah) (H:Nat->Option Ob) (g:Nat) (a:List Core):Prop where
 ob:∃df f e h b,H 12=E ⟨g,75,6,[.cp [ai.sl ab,ah.sl ds],I df,f,e,h,b],aa⟩/\aH [185] H 81 4 (Core.ae a) f/\
  (∃NN,NN.length=a.length/\aH [195] H 72 1 (fW NN) e)/\(∃TT,TT.length=a.length/\aH [218] H 87 3 (O.ae TT) h)/\
  ∃BB,BB.length<=a.length/\(∀r∈BB,r.length=4/\∀d∈r,Cl d)/\aH [205] H 285 4 BB b
 cD:∀t∈dY,∀ob,H t=E ob->∀d∈ob.cells,In dY d
def L7.congr{H':bt}(t:L7 a4 a5 fd h s1)(a:∀b∈dY,H' b=fd b):L7 a4 a5 H' h s1:=by
 obtain⟨⟨s,A,z,B,y,i,j,⟨f,k,l⟩,⟨g,m,o⟩,e,p,q,r⟩,u⟩:=t;exact⟨⟨s,A,z,B,y,(a 12 dI).trans i,j.congr (by simp only[bG,dT];exact a _ dI),⟨f,k,l.congr (by simp only[bG,dT];exact a _ dI)⟩,⟨g,m,o.congr (by simp only[bG,dT];exact a _ dI)⟩,e,p,q,r.congr (by simp only[bG,dT];exact a _ dI)⟩,λb d x w=>u b d x ((a b d).symm.trans w)⟩
def mf(a:O.w go):dp go:=oS go a.1
def Q'{a:Env}{f:BA}(g:h<a.length)(d:jb (a.map Ev.n) f=h):jz a f=a.length-1-h:=by
 obtain⟨b,rfl⟩:∃b:Env,a=b.reverse:=⟨a.reverse,Zs⟩;unfold jz;rw[List.reverse_reverse]
 induction b generalizing h with
 |nil=>simp at g
 |cons v b k=>
  rw[List.reverse_cons,bC,bp,cB,yD,bW,yj]at d;rw[sx];by_cases e:v.n=f
  .rw[aM e]at d;simp[e];omega
  .rw[av e]at d;simp only[e,ri,cond_false];have i:h<b.reverse.length:=by
    rcases o7 f b.reverse with⟨_,j⟩|⟨l,m,_,j⟩
    .omega
    .rw[j]at d;have:l=h:=by exact_mod_cast d
     omega
   rw[k i d];simp at i g⊢;omega
def Lb{f:aF}{i:bt}(I:L7 a4 f i h s1)(aC:f.length<=1000)(b:BA)(a:Env)(aD:a.length<=1000000)(ak:∀v∈a,O.w v.t)(V:∀D∈f,O.w (ah.ty D))(ap:look a b=aa->0<=dh f b):
 i' aB dY i 114 [.rf 12 h 0,S b,.ag (cc a)] (po (lx f a b) 1):=by
 obtain⟨ay,aL,aK,aM,aJ,U,-⟩:=I.ob;have K:=nZ (a.map Ev.n) b kO;have Z:Cl (strs (a.map Ev.n)):=jW _;simp only[strs]at K Z;have ab:((a.map Ev.n).map λb=>[S b]).length=a.length:=Zs;have aE:(O.ae (a.map Ev.t)).length=a.length:=by rw[O.bb,bW]
 refine i'.eo [] [.cell 6 148] func114 A Zk ntmps114 A Zs ?_ λaH au ar=>?_
 .exact I.cD
 have J:∀d∈dY,bi dY i d=i d:=λd e=>by simp only[bi,e,aI]
 have G:=(J 12 dI).trans U;have L:∀(C:bt),(∀d,d≠6->C d=bi dY i d)->∀d∈dY,C d=i d:=λC R d e=>by rw[R d (by rintro rfl;simp[dY]at e),J d e]
 generalize bi dY i=aq at*;simp only[cc,go_sem];refine bO K ?_;rcases o7 b a with⟨y,z⟩|⟨q,F,y,z⟩
 .obtain⟨r,P,B,-⟩:=rV (ap y);have B:dh f b=r:=B;have Q:=xy f b iM;rw[B]at Q;have g:=ah.bo f r P;have l:=mf (V _ (ax P));generalize f[r]=D at g l;obtain⟨az,⟨m,p,o⟩,av⟩:=D;have j:=z' 11 r (.mk m p o) l;have u:dp (cf (.mk m p o)):=ig _ l;rw[z];simp only[lx,y,B];generalize cf (.mk m p o)=s at j u;simp only[ah.ds,O.ds,bf,a8,aW,Core.ds]at g j;simp only[Int.reduceLT,G,go_sem];refine bw Q ?_;simp only[G,g,go_sem];refine bO j ?_;exact⟨Cl.bu (dF ⟨.mk 11 r [] [],[s]⟩),⟨⟨.mk 11 r [] [],[s]⟩,A,A,Zs,Zs,by simpa using u⟩,L _ λd e=>by simp[e]⟩
 .have g:=O.bo (a.map Ev.t) q (by simpa using F);rw[eI]at g;have l:=mf (ak _ (ax F));have M:=Q' F z;have W:decide ((q:Int)<0)=al:=Zs;have am:IntKind.i64.wrap ((a.length:Int)-1)=(a.length:Int)-1:=cW _ Zo;have aG:IntKind.i64.wrap ((a.length:Int)-1-q)=(a.length:Int)-1-q:=cW _ Zo;have X:((a.length:Int)-1-q)=((jz a b:Nat):Int):=by rw[M];omega
  have an:IntKind.i64.wrap ((jz a b:Nat):Int)=(jz a b:Nat):=cW _ (by rw[M];omega);rw[z];simp only[lx,y,lY,aI];obtain⟨m,p,o,e⟩:=O.ex a[q].t;rw[e]at g l;have j:=z' 1 (jz a b:Nat) (.mk m p o) l;have u:=ig _ l;generalize cf (.mk m p o)=s at j u;simp only[O.ds,aW,Core.ds,bf,a8]at g j;simp only[W,go_sem];refine cX [] [48] ?_;simp only[ab,g,am,an,X,go_sem];refine jx j ?_;exact⟨Cl.bu (dF ⟨dw (jz a b:Nat),[s]⟩),⟨⟨dw (jz a b:Nat),[s]⟩,A,A,Zs,Zs,by simpa using u⟩,L _ λd e=>by simp[e]⟩
variable {v1:dH}{i0:ON}{gc:aU}
def call7{a:St}{f:iw}{nt:Nat}{args:DL}{i:D->List Core->Prop}(q:∀H n d b,i d b->L7 a4 a5 H h b->(∀e,e∉dY->H e=a.H e)->gc ({a with H:=H,n:=n}.put i0 d))(l:aD)(j:eP)(s:g3.funcs[g5]?=E f)(r:f.body=E v1)(u:(f.name== "runtime.NumGoroutine")=al)
 (w:f.ntmps=nt) (y:f.results.toList=j) (t:args.length<=nt)
 (o:vc g3 l v1 (oc g3 j λd H n T=>Cl d/\T=a.T/\∃b,i d b/\L7 a4 a5 H h b) {env:=ba args,H:=bi dY a.H,n:=a.n,nt:=nt,T:=a.T,N:=a.N}):gx g3 a g5 args i0 gc:=by
 have key:∀d H(n:b5)T,(Cl d/\T=a.T/\∃b,i d b/\L7 a4 a5 H h b)->(Cl d/\T=a.T/\(∀e∈dY,∀m,H e=E m->∀d∈m.cells,In dY d)/\gc ({a with H:=kA dY dY a.H H,n:=n}.put i0 d)):=λd H n T⟨h1,h2,b,p,k⟩=>
  ⟨h1,h2,k.cD,q _ n d b p (k.congr λe g=>K9 g) λe g=>K_ g g⟩
 refine OM dY l j s r u w y t (oj v1 (λx z hx=>?_) o);exact wF
def bX{u:Nat}(b:h∈dY)(a:dY.contains u=al):h≠u:=by
 rintro rfl;rw[List.contains_iff_mem.2 b]at a;cases a
def fl.Ab{b:bQ}(a:fl z5 h b)(d:h<=V):fl z5 V b:=⟨a.c,a.ne,fY a.len d,a.fn⟩
abbrev W7(t:Y):Nat:=10000000*t.num
def T7(f:bK)(ab:aw)(ds:aF)(t:Y)(e:Env)(l:Int):Prop:=∀(g m:Nat)(a:bM)(s:St)(dst:ON)(K:aU),L7 ab ds s.H g a->a.length=ds.length+m->m+Y.aZ t<=1000000->
 (∀H n b,fl (cw ab ds t e l m).1 (W7 t) b->L7 ab ds H g (a++(cw ab ds t e l m).2)->(∀t,t∉dY->H t=s.H t)->K ({s with H:=H,n:=n}.put dst (.ag (aW b))))->
 gx aB s f [.rf 12 g 0,.cp t.ds,.ag (cc e),I l] dst K
def T7.fin{d:aw}{e:aF}{a:Y}{f:St}(m:∀H n b,fl (cw d e a g6 a0 V).1 (W7 a) b->L7 d e H h (s1++(cw d e a g6 a0 V).2)->(∀a,a∉dY->H a=f.H a)->gc ({f with H:=H,n:=n}.put i0 (.ag (aW b)))):
 ∀H n i g,(∃b,i=D.ag (aW b)/\fl (cw d e a g6 a0 V).1 (W7 a) b/\g=s1++(cw d e a g6 a0 V).2)->L7 d e H h g->(∀a,a∉dY->H a=f.H a)->gc ({f with H:=H,n:=n}.put i0 i):=by
 rintro H n i g⟨b,rfl,j,rfl⟩k l;exact m H n b j k l
def VO{f:aw}{d:aF}(p:fR f d){v:Int}{b:BA}{e:O}{a:Env}{j:Int}(h:RC f d (.mk 1 v b e he hw) a j):T7 70 f d (.mk 1 v b e he hw) a j:=by
 intro I R k U ab Z J m ae i;obtain⟨r,t,s⟩:=e;obtain rfl:hw=[]:=h.sh.zero A;have ah:0<Y.num (.mk 1 v b (.mk r t s) he []):=by rw[Y.num];omega
 have Q:(cw f d (.mk 1 v b (.mk r t s) he []) a j R)=(lx d a b,[]):=by simp[cw,qQ,qR]
 have i:=T7.fin i;rw[Q]at i;have l:L7 f d (bi dY U.H) I k:=J.congr λe g=>by simp only[bi,g,aI]
 have o:=Lb l (by have:=p.len;omega) b a (by have:=h.el;omega) h.w p.wV (λS=>h.tc.free b (by
  rw[fv];refine .inl ⟨A,A,λm=>?_⟩;obtain⟨am,q⟩:=pU m;rw[S]at q;cases q))
 have K:=fo a;obtain⟨V,W,X,L⟩:∃x y z,cc a=[x,y,z]:=⟨_,_,_,A⟩;rw[L]at K o⊢;refine call7 i [] [.cell 8 148] func70 A Zk ntmps70 A Zs ?_;simp only[go_sem];refine cX [] [] ?_;simp only[go_sem];refine .inr (.inr (o _ _ _ (λe g=>by simp[aj,bX g (u:=8) A]) ?_));rintro ai ak⟨⟨⟨C,G,B,D⟩,F⟩,rfl,P⟩M;simp only[aW,go_sem];exact⟨M,k,⟨⟨.mk C G B D,F⟩,A,P.Ab (by unfold W7;omega),Zs⟩,l.congr λe g=>by simp[aj,bX g (u:=8) A]⟩
def EC{v:Int}{a:Int}:cw a4 a5 (.mk a0 v dg go he hw) g6 a h=qQ a4 a5 a0 v dg go he hw (hw.map Y.aZ) (hw.map (cw a4 a5)) g6 a h:=by
 rw[cw,vP,Y.px]
def x_{ab:aw}{ds:aF}{k:Int}{n:BA}{t:O}{ns:aK}{ks:a_}{e:Env}{l:Int}{m i:Nat}(b:i<ks.length)(a:¬gg k i):
 jf ab ds k n t ns ks (ks.map Y.aZ) (ks.map (cw ab ds)) e l m i=cw ab ds ks[i] (b8 ab ds k n t ns ks e l i) (bL k l) (cj k (ks.map Y.aZ) m i):=by
 rw[jf,av a,getD_map b]
variable {g4:aD}
def XL(a:h<g4.length):(gu a0 g4).take (h+1)=(gu a0 g4).take h++[e8 a0 h+g4[h]]:=by
 rw[ch (by simpa[gu]using a)];simp[gu]
def Il{k:Int}{l:aD}{m i:Nat}(a:i<l.length):cj k l m (i+1)=cj k l m i+(e8 k i+l[i]):=by
 unfold cj;rw[XL a];simp;omega
def A1{ab:aw}{ds:aF}{a v:Int}{n:BA}{t:O}{ns:aK}{ks:a_}{e:Env}{l:Int}{m:Nat}(g:a≠10)(f:a≠1)(d:¬(a=9\/a=11)):
 cw ab ds (.mk a v n t ns ks) e l m=(.mk a (k5 ab a v n) [] ((List.range ks.length).map λb=>(jf ab ds a n t ns ks (ks.map Y.aZ) (ks.map (cw ab ds)) e l m b).1),
  ((List.range ks.length).map λb=>(jf ab ds a n t ns ks (ks.map Y.aZ) (ks.map (cw ab ds)) e l m b).2).flatten):=by
 rw[EC,qQ,av g,av f,av d,bW];congr 2;refine gX λb _=>?_;rw[av λh=>d h.1,a8]
def Ww{ab:aw}{ds:aF}{a v:Int}{n:BA}{t:O}{ns:aK}{c:Y}{e:Env}{l:Int}{m:Nat}(j:a=4\/a=6):
 cw ab ds (.mk a v n t ns [c]) e l m=(.mk a v [] [(cw ab ds c (b8 ab ds a n t ns [c] e l 0) (bL a l) m).1],(cw ab ds c (b8 ab ds a n t ns [c] e l 0) (bL a l) m).2):=by
 rw[A1 Zo Zo Zo];have b:¬gg a 0:=λh=>by have:=h.2;omega
 have:=x_ (ab:=ab) (ds:=ds) (n:=n) (t:=t) (ns:=ns) (ks:=[c]) (e:=e) (l:=l) (m:=m) (i:=0) Zs b;have d:cj a ([c].map Y.aZ) m 0=m:=by simp[cj]
 rw[d]at this;have f:List.range [c].length=[0]:=A;rw[f];simp only[bp,cB,dN,fX,c_]at this⊢;rw[this];have g:k5 ab a v n=v:=by unfold k5;rw[av Zo]
 rw[g];rfl
def Wv{ab:aw}{ds:aF}{v:Int}{n:BA}{t:O}{ns:aK}{a b:Y}{e:Env}{l:Int}{m:Nat}:
 cw ab ds (.mk 7 v n t ns [a,b]) e l m=(.mk 7 v [] [(cw ab ds a e l m).1,(cw ab ds b (b8 ab ds 7 n t ns [a,b] e l 1) l (m+Y.aZ a)).1],(cw ab ds a e l m).2++(cw ab ds b (b8 ab ds 7 n t ns [a,b] e l 1) l (m+Y.aZ a)).2):=by
 rw[A1 Zo Zo Zo];have d:=x_ (ab:=ab) (ds:=ds) (k:=7) (n:=n) (t:=t) (ns:=ns) (ks:=[a,b]) (e:=e) (l:=l) (m:=m) (i:=0) Zs (λg=>by have:=g.2;omega);have f:=x_ (ab:=ab) (ds:=ds) (k:=7) (n:=n) (t:=t) (ns:=ns) (ks:=[a,b]) (e:=e) (l:=l) (m:=m) (i:=1) Zs (λg=>by have:=g.1;omega);have j:cj 7 ([a,b].map Y.aZ) m 0=m:=by simp[cj]
 have o:cj 7 ([a,b].map Y.aZ) m 1=m+Y.aZ a:=by simp[cj,gu,e8]
 have p:b8 ab ds 7 n t ns [a,b] e l 0=e:=by simp[b8,cV]
 have h:bL 7 l=l:=by simp[bL]
 rw[j,p,h]at d;rw[o,h]at f;have q:List.range [a,b].length=[0,1]:=A;rw[q];simp only[bp,cB,dN,fX,c_,fO,i1]at d f⊢;rw[d,f];rfl
def ya{i:aw}:∀(g:Y)(d:Env)(e:Int)(f:Nat),Sh i g->(cw i a5 g d e f).2.length=Y.aZ g
 |.mk m v q g r b,d,e,f,j=>by
  have l:∀(a:Nat)(h:a<b.length)(d:Env)(e:Int)(f:Nat),(cw i a5 b[a] d e f).2.length=Y.aZ b[a]:=λa h d e f=>ya b[a] d e f (j.cM _ (ax h));rw[Y.l_];by_cases k:m=10
  .subst k;obtain⟨s,rfl⟩:=j.one Zs;have:=l 0 Zs d e f;simp only[fO]at this;rw[EB,this];simp[gu,e8]
  rw[EC,qQ,av k];simp only;rw[yi,dZ,bW];congr 1;refine p7 (by simp[gu]) λa o t=>?_;have h:a<b.length:=by simpa using o
  have p:(jf i a5 m q g r b (b.map Y.aZ) (b.map (cw i a5)) d e f a).2.length=Y.aZ b[a]:=by
   rw[jf];split<;>rw[getD_map h,l a h]
  simp only[eI,List.getElem_range,vY,bF,p];simp only[gu,ug,eI,od];split<;>simp
termination_by g=>g
decreasing_by
 have:=cH (ax h);simp;omega
variable {ce:St}
def L7.off(a:L7 a4 a5 ce.H h s1):L7 a4 a5 (bi dY ce.H) h s1:=a.congr λd b=>by simp only[bi,b,aI]
def ER{v:Int}{e:Int}(a:RC a4 a5 (.mk a0 v dg go he hw) g6 e)(b:a0≠2)(d:a0≠3):v=0:=by
 have:=a.tc.form.2.2.2.2.1;simpa[lR,b,d]using this
def VR{a:aw}{b:aF}(R:fR a b){v:Int}{e:BA}{f:aK}{d:Env}{l:Int}(r:RC a b (.mk 2 v e go f hw) d l):T7 70 a b (.mk 2 v e go f hw) d l:=by
 intro an V F ax am ab K au aq g;obtain⟨m,p,o⟩:=go;obtain rfl:hw=[]:=by have:=r.sh.len;simpa[a1,cN]using this
 have av:0<Y.num (.mk 2 v e (.mk m p o) f []):=by rw[Y.num];omega
 have U:cw a b (.mk 2 v e (.mk m p o) f []) d l V=(.mk 2 v [] [],[]):=by rw[A1 Zo Zo Zo];simp[k5]
 have g:=T7.fin g;rw[U]at g;obtain⟨h,ap,P,j⟩:=r.tp R (by simp[Y.kd]);have w:dp h:=mf P;have y:dp (cf h):=ig _ w;have t:=K.off;have L:=fo d;obtain⟨W,X,Z,M⟩:∃G I J,cc d=[G,I,J]:=⟨_,_,_,A⟩;have ar:Cl (.cp [.sl 2 (ai.ae a),.sl 12 (ah.ae b)]):=Cl.eX cu;have S:=Y.cl (.mk 2 v e (.mk m p o) f []);obtain⟨B,D,C⟩:=h;rw[M]at L j⊢;simp only[Y.ds,O.ds,strs,bf,a8,ai.sl,ah.sl]at j S;obtain⟨ak,aB,az,aC,ay,s,-⟩:=t.ob;simp only[ai.sl,ah.sl]at s;have i:=z' 2 v (.mk B D C) w;generalize Q:cf (.mk B D C)=q at i y;simp only[aW,O.ds,Core.ds,bf,a8]at i;refine call7 g [] [.cell 8 148] func70 A Zk ntmps70 A Zs ?_;simp only[go_sem];refine cX [12] [50] ?_;simp only[s,go_sem];refine jx j ?_;refine cX [] [63,64] ?_;simp only[go_sem];refine jx i ?_;exact⟨Cl.bu (dF ⟨.mk 2 v [] [],[q]⟩),F,⟨⟨.mk 2 v [] [],[q]⟩,A,⟨A,Zs,by simp[W7];omega,by simpa[Q]using y⟩,Zs⟩,t.congr λgo z=>by simp[aj,bX z (u:=8) A,bX z (u:=9) A]⟩
def VS{ab:aw}{ds:aF}(aG:fR ab ds){q v:Int}(au:q=4\/q=6){n:BA}{t:O}{ns:aK}{c:Y}{e:Env}{l:Int}(J:RC ab ds (.mk q v n t ns [c]) e l)(p:T7 70 ab ds c (b8 ab ds q n t ns [c] e l 0) (bL q l)):T7 70 ab ds (.mk q v n t ns [c]) e l:=by
 intro aB m az bs bl bk aC aD bm w;obtain⟨i,o,j⟩:=t;have aE:Y.num (.mk q v n (.mk i o j) ns [c])=c.num+1:=by rw[Y.num,Y.aR,Y.aR];omega
 have bn:Y.aZ (.mk q v n (.mk i o j) ns [c])=Y.aZ c:=by rw[Y.l_];rcases au with rfl|rfl<;>simp[gu,e8]
 obtain rfl:v=0:=ER J Zo Zo;have a1:=Ww (ab:=ab) (ds:=ds) (v:=0) (n:=n) (t:=.mk i o j) (ns:=ns) (c:=c) (e:=e) (l:=l) (m:=m) au;have w:=T7.fin w;rw[a1]at w;have aH:=Y.cl c;have bo:=J.el;have br:=J.l1;have bq:=J.l0;rcases au with rfl|rfl
 .have aq:bL 4 l=l:=by simp[bL]
  have ap:b8 ab ds 4 n (.mk i o j) ns [c] e l 0=e++[⟨n,.mk i o j,l⟩]:=by simp[b8,cV,er]
  have Z:=mq e n (.mk i o j) l Zo;have aT:=fo (e++[⟨n,.mk i o j,l⟩]);obtain⟨bg,bh,bj,aU⟩:∃K L c,cc (e++[⟨n,.mk i o j,l⟩])=[K,L,c]:=⟨_,_,_,A⟩;rw[ap,aq]at p w;unfold T7 at p;rw[aU]at Z p aT;obtain⟨r,aV,an,B⟩:=J.tp aG (by simp[Y.kd]);have R:dp r:=mf an;have S:dp (cf r):=ig _ R;have P:=aC.off;have am:=fo e;obtain⟨aJ,aL,aM,Q⟩:∃K L c,cc e=[K,L,c]:=⟨_,_,_,A⟩;have aX:Cl (.cp [.sl 2 (ai.ae ab),.sl 12 (ah.ae ds)]):=Cl.eX cu;have ay:=Y.cl (.mk 4 0 n (.mk i o j) ns [c]);obtain⟨C,F,D⟩:=r;rw[Q]at am B⊢;simp only[Y.ds,O.ds,strs,bf,a8,ai.sl,ah.sl]at B ay;obtain⟨aS,bd,bc,be,bb,M,-⟩:=P.ob;simp only[ai.sl,ah.sl]at M;rw[Q]at Z;simp only[O.ds]at Z;obtain⟨a4,ba,a6,⟨a9,a_,a'⟩,a7,a5⟩:=c;simp only[Y.ds,O.ds,strs,bf,a8]at p aH;refine call7 w [] [.cell 8 148] func70 A Zk ntmps70 A Zs ?_;simp only[Y.ae,go_sem];refine cX [12] [50] ?_;simp only[M,go_sem];refine jx B ?_;refine mc [0,1,2,3,4,5,6,7,8,9,10,11,12,13,14,15,16,18,17,19,20,21,22] [9] [] ?_;simp only[go_sem];refine bO Z ?_;refine .inr (.inr (p aB m az _ _ _ (P.congr λt h=>by simp[aj,bX h (u:=8) A,bX h (u:=9) A]) aD Zo ?_));intro aQ a3 X z ak U;have W:=U 8 dI;have G:=U 9 dI;simp only[bV,bH,dP,aP,dz]at W G;have y:=pT 4 0 (.mk C F D) [X] R (by simpa using z.ne) Zs (by have:=z.len;simp[W7]at this⊢;omega);obtain⟨av,a0,ax,aY⟩:=z;generalize ar:cf (.mk C F D)=s at y S;obtain⟨⟨b,g,a,d⟩,f⟩:=X;simp only[aW,O.ds,Core.ds,bf,a8,bp,cB,dN,fX,c_]at y⊢;simp only[G,go_sem];have V:=dF ⟨.mk b g a d,f⟩;simp only[aW,Core.ds,bf,a8]at V;refine fm [87] y (.c (.cl _ (aO _)) (.c (.cl _ (aO _)) (.c (.cl _ (Cl.bu (O.cl (.mk C F D)))) (.c (Fz.rows (ob:=⟨_,148,5,[I b,I g,ints a,.sl 4 (Core.ae d),.sl 3 (O.ae f)],aa⟩) (by simp only[bi,bG,aI,bH];rfl) A A Zd A Zs A (by simp only[bG,dT];exact V)) .n)))) (Cl.bu (dF ⟨.mk 4 0 [] [.mk b g a d],s::f⟩)) ?_;simp only[aN,W,G,go_sem];refine⟨Cl.bu (dF ⟨.mk 4 0 [] [.mk b g a d],s::f⟩),_,⟨⟨.mk 4 0 [] [.mk b g a d],s::f⟩,A,⟨by rw[<-av],Zs,?_,by simpa[ar]using S⟩,A⟩,ak.congr λt h=>by simp[aj,aN,bX h (u:=8) A,bX h (u:=87) A]⟩;simp only[W7,aE,di]at ax⊢;omega
 .have aq:bL 6 l=l+1:=by simp[bL]
  have ap:b8 ab ds 6 n (.mk i o j) ns [c] e l 0=e:=by simp[b8,cV]
  rw[ap,aq]at p w;unfold T7 at p;have a2:IntKind.i64.wrap (l+1)=l+1:=cW _ Zo;obtain⟨r,aV,an,B⟩:=J.tp aG (by simp[Y.kd]);have R:dp r:=mf an;have S:dp (cf r):=ig _ R;have P:=aC.off;have am:=fo e;obtain⟨aJ,aL,aM,Q⟩:∃K L c,cc e=[K,L,c]:=⟨_,_,_,A⟩;have aX:Cl (.cp [.sl 2 (ai.ae ab),.sl 12 (ah.ae ds)]):=Cl.eX cu;have ay:=Y.cl (.mk 6 0 n (.mk i o j) ns [c]);obtain⟨C,F,D⟩:=r;rw[Q]at am B⊢;simp only[Y.ds,O.ds,strs,bf,a8,ai.sl,ah.sl]at B ay;obtain⟨aS,bd,bc,be,bb,M,-⟩:=P.ob;simp only[ai.sl,ah.sl]at M;rw[Q]at p;obtain⟨a4,ba,a6,⟨a9,a_,a'⟩,a7,a5⟩:=c;simp only[Y.ds,O.ds,strs,bf,a8]at p aH;refine call7 w [] [.cell 8 148] func70 A Zk ntmps70 A Zs ?_;simp only[Y.ae,go_sem];refine cX [12] [50] ?_;simp only[M,go_sem];refine jx B ?_;refine cX [9] [] ?_;simp only[a2,go_sem];refine .inr (.inr (p aB m az _ _ _ (P.congr λt h=>by simp[aj,bX h (u:=8) A,bX h (u:=9) A]) aD Zo ?_));intro aQ a3 X z ak U;have W:=U 8 dI;have G:=U 9 dI;simp only[bV,bH,dP,aP,dz]at W G;have y:=pT 6 0 (.mk C F D) [X] R (by simpa using z.ne) Zs (by have:=z.len;simp[W7]at this⊢;omega);obtain⟨av,a0,ax,aY⟩:=z;generalize ar:cf (.mk C F D)=s at y S;obtain⟨⟨b,g,a,d⟩,f⟩:=X;simp only[aW,O.ds,Core.ds,bf,a8,bp,cB,dN,fX,c_]at y⊢;simp only[G,go_sem];have V:=dF ⟨.mk b g a d,f⟩;simp only[aW,Core.ds,bf,a8]at V;refine fm [102] y (.c (.cl _ (aO _)) (.c (.cl _ (aO _)) (.c (.cl _ (Cl.bu (O.cl (.mk C F D)))) (.c (Fz.rows (ob:=⟨_,148,5,[I b,I g,ints a,.sl 4 (Core.ae d),.sl 3 (O.ae f)],aa⟩) (by simp only[bi,bG,aI,bH];rfl) A A Zd A Zs A (by simp only[bG,dT];exact V)) .n)))) (Cl.bu (dF ⟨.mk 6 0 [] [.mk b g a d],s::f⟩)) ?_;simp only[aN,W,G,go_sem];refine⟨Cl.bu (dF ⟨.mk 6 0 [] [.mk b g a d],s::f⟩),_,⟨⟨.mk 6 0 [] [.mk b g a d],s::f⟩,A,⟨by rw[<-av],Zs,?_,by simpa[ar]using S⟩,A⟩,ak.congr λt h=>by simp[aj,aN,bX h (u:=8) A,bX h (u:=102) A]⟩;simp only[W7,aE,di]at ax⊢;omega
end
end
end Go.Fw
